/- Append to a slice that may be written is sound. -/
import Derived.Test.YtifbfcljgagacaaDoorAbSoundM
set_option linter.unusedVariables false
set_option linter.unusedSimpArgs false
namespace Go.Ab
section
variable {P : Program} {M : Mem} {loc : Locs} {H : List AObj} {w : World} {K : AV → List AObj → Prop}

/-- an object gets another number -/
theorem Rel.move (hr : Rel M loc H w) (id : Nat) (o : AObj) (l : Loc) (hid : H[id]? = some o) (hg : o = .gone → False) (hl : loc id = some l) :
    Rel M (locSet loc H.length l) (H.set id .gone ++ [o]) w ∧ Step M loc H w M (locSet loc H.length l) (H.set id .gone ++ [o]) w := by
  have hlow : ∀ i, i < H.length → locSet loc H.length l i = loc i := fun i hi => by simp only [locSet]; rw [if_neg (Nat.ne_of_lt hi)]
  have hnew : locSet loc H.length l H.length = some l := by simp [locSet]
  have hk : Keeps M w loc M w (locSet loc H.length l) := ⟨fun _ _ _ h => h, fun _ cs _ fr h => ⟨cs, fr, h, rfl⟩, fun j x hx => by rw [hlow j (hr.lt hx)]; exact hx⟩
  have hget : ∀ (i : Nat) (q : AObj), (H.set id .gone ++ [o])[i]? = some q → (q = .gone) ∨ (i < H.length ∧ i ≠ id ∧ H[i]? = some q) ∨ (i = H.length ∧ q = o) := by
    intro i q hi
    by_cases h : i < H.length
    · rw [List.getElem?_append_left (by simpa using h), List.getElem?_set] at hi
      split at hi
      · split at hi
        · cases hi; exact .inl rfl
        · cases hi
      · rename_i e; exact .inr (.inl ⟨h, fun x => e x.symm, hi⟩)
    · rw [List.getElem?_append_right (by simpa using h)] at hi
      have hz : i - (H.set id AObj.gone).length = 0 := by
        rcases Nat.eq_zero_or_pos (i - (H.set id AObj.gone).length) with z | z
        · exact z
        · rw [List.getElem?_eq_none (by simp only [List.length_singleton]; omega)] at hi; cases hi
      rw [hz] at hi
      cases hi
      simp only [List.length_set] at hz
      exact .inr (.inr ⟨by omega, rfl⟩)
  refine ⟨⟨hr.base, hr.ext, fun i hi => ?_, ?_, ?_⟩, ⟨rfl, Nat.le_refl _, rfl, rfl, rfl, fun _ _ _ => ⟨rfl, rfl⟩, fun _ _ _ h => h, fun _ cs _ fr h => ⟨cs, fr, h, rfl⟩, ?_, hlow, by simp⟩⟩
  · have hi' : H.length + 1 ≤ i := by simpa using hi
    simp only [locSet]; rw [if_neg (by omega)]; exact hr.dom i (by omega)
  · intro i q hi
    rcases hget i q hi with rfl | ⟨h1, h2, h3⟩ | ⟨rfl, rfl⟩
    · trivial
    · rw [hlow i h1]; exact (hr.objs i q h3).keeps_far hk rfl (fun b hb => ⟨rfl, rfl⟩)
    · have := hr.objs id q hid
      rw [hl] at this
      rw [hnew]; exact this.keeps_far hk rfl (fun b hb => ⟨rfl, rfl⟩)
  · intro i j oi oj li lj c hi hj gi gj hli hlj bi bj
    rcases hget i oi hi with e | ⟨h1, h2, h3⟩ | ⟨e1, e2⟩
    · exact (gi e).elim
    · rw [hlow i h1] at hli
      rcases hget j oj hj with e | ⟨k1, k2, k3⟩ | ⟨f1, f2⟩
      · exact (gj e).elim
      · rw [hlow j k1] at hlj
        exact hr.inj i j oi oj li lj c h3 k3 gi gj hli hlj bi bj
      · subst f1 f2
        rw [hnew] at hlj; cases hlj
        exact (h2 (hr.inj i id oi _ li _ c h3 hid gi hg hli hl bi bj)).elim
    · subst e1 e2
      rw [hnew] at hli; cases hli
      rcases hget j oj hj with e | ⟨k1, k2, k3⟩ | ⟨f1, f2⟩
      · exact (gj e).elim
      · rw [hlow j k1] at hlj
        exact (k2 (hr.inj id j _ oj _ lj c hid k3 hg gj hl hlj bi bj).symm).elim
      · rw [f1]
  · intro c hc ⟨i, q, x, hi, hgq, hx, hb⟩
    rcases hget i q hi with e | ⟨h1, h2, h3⟩ | ⟨e1, e2⟩
    · exact (hgq e).elim
    · rw [hlow i h1] at hx; exact ⟨i, q, x, h3, hgq, hx, hb⟩
    · subst e1 e2; rw [hnew] at hx; cases hx; exact ⟨id, _, _, hid, hgq, hl, hb⟩

/-- where there is no room: the rows lie in a new row that may be written -/
theorem append_grow_arr {t tx ty e : TypeId} {i : TypeInfo} {z : Value} (ht : P.underlying t = some (.slice e)) (hi : P.info? e = some i) (hz : i.zero = some z) (hzs : z.cells.size = i.size) (hsz : 1 ≤ i.size)
    (hr : Rel M loc H w) {base : Option Addr} {sCap : Nat} {s s' : Seq} {vals vals' : Nat → Nat → Value} (hc : Cells M w loc s.toList.length i.size s.toList vals)
    (hold : (Builtin.firstCells i.size s.toList.length (.slice base s.toList.length sCap)).run P w.drew = .ok (flatVals s.toList.length i.size vals).toArray w.drew)
    {x : Value} (hs : Src P i.size tx x s'.toList.length (flatVals s'.toList.length i.size vals') w) (hc' : Cells M w loc s'.toList.length i.size s'.toList vals')
    (hg : sCap < s.toList.length + s'.toList.length) (hfit : (s.toList.length + s'.toList.length) * i.bytes ≤ 140737488351232) (h63 : s.toList.length + s'.toList.length ≤ 9223372036854775807)
    (hK : K (.msl i.size H.length 0 (s.toList.length + s'.toList.length)) (H ++ [.arr i.size (s.app s')])) :
    GoodV P M loc H w K ((Builtin.append_ #[t, tx] ty #[.slice base s.toList.length sCap, x]).run P w) := by
  rw [run_append_grow_src w t tx ty e i z ht hi hz base _ sCap _ hold x _ _ hs hg (by omega) (growslice_fits hg (by omega))]
  have hsame := drew_same w
  have hr' := (hr.same hsame).1
  have hkd := hsame.keeps M loc
  have hca := (hc.app hc').keeps hkd
  have hcap := Question.cut_ge (w := w) (n := s.toList.length + s'.toList.length) (o := sCap) (e := e)
  have hzc : (Builtin.zeroCells z.cells (grownCap w (s.toList.length + s'.toList.length) sCap e - (s.toList.length + s'.toList.length))).size = (grownCap w (s.toList.length + s'.toList.length) sCap e - (s.toList.length + s'.toList.length)) * i.size := by
    simp [Builtin.zeroCells, hzs]
  refine GoodV.same_first hsame hr ?_
  refine new_arr (w := w.drew) (T := e) hr' hsz (s := s.app s') (n := s.toList.length + s'.toList.length) hca _ hcap ?_ (grow_cells vals _ vals' hsz _) hK
  simp only [Array.size_append, List.size_toArray, List.length_append, flatVals_length, hzc]
  rw [← Nat.add_mul, ← Nat.add_mul]
  congr 1; omega

theorem aappendM_sound {ts : Array TypeId} {T : TypeId} {xs : List AV} {vs : Array Value} (h : aappendM P ts.toList xs H K) (hr : Rel M loc H w) (hv : VRels M w loc xs vs) :
    GoodV P M loc H w K ((Builtin.append_ ts T vs).run P w) := by
  unfold aappendM at h
  split at h
  case h_2 => exact h.elim
  case h_1 t t' sz id off n x hts =>
  have hts' : ts = #[t, t'] := extract2 _ _ _ hts
  subst hts'
  obtain ⟨hs, hv⟩ := hv
  have hv0 := hv 0 (by simp)
  have hv1 := hv 1 (by simp)
  simp only [List.getElem_cons_zero, List.getElem_cons_succ] at hv0 hv1
  have hvs : vs = #[vs[0]'(by simp at hs; omega), vs[1]'(by simp at hs; omega)] := by
    apply Array.ext
    · simpa using hs
    · intro i h1 h2
      have : i < 2 := by simpa using h2
      match i, this with
      | 0, _ => rfl
      | 1, _ => rfl
  generalize vs[0]'(by simp at hs; omega) = v0 at hv0 hvs
  generalize vs[1]'(by simp at hs; omega) = v1 at hv1 hvs
  subst hvs
  clear hv hs
  split at h
  case h_2 => exact h.elim
  case h_1 e hu hsk =>
  split at h
  case h_2 => exact h.elim
  case h_1 k by_ z hn hby hz =>
  obtain ⟨hb, hq1⟩ := chk_elim h
  clear h
  simp only [Bool.and_eq_true] at hb
  have hn1 := Nat.le_of_ble_eq_true hb.1.1.1.1
  have hksz := Nat.eq_of_beq_eq_true hb.1.1.1.2
  have hzl := Nat.eq_of_beq_eq_true hb.1.1.2
  have hby1 := Nat.le_of_ble_eq_true hb.1.2
  have hoff := Nat.eq_of_beq_eq_true hb.2
  subst hoff
  subst hksz
  obtain ⟨zv, hzrun, rfl, i, hi, hiz⟩ := zeroT_run hz w
  have hisz : i.size = k := by
    obtain ⟨i', hi', e'⟩ := sizeT_info hn
    rw [hi] at hi'; cases hi'; exact e'
  have hiby : i.bytes = by_ := by
    obtain ⟨i', hi', e'⟩ := bytesT_info hby
    rw [hi] at hi'; cases hi'; exact e'
  subst hisz
  subst hiby
  have hzs : zv.cells.size = i.size := by simpa using hzl
  obtain ⟨d, hu', hkind⟩ : ∃ d, P.underlying t' = some d ∧ ((∃ e', d = .slice e') ∨ d = .string) := by
    unfold srcKind at hsk
    split at hsk
    · rename_i e' hu'; exact ⟨_, hu', .inl ⟨_, rfl⟩⟩
    · rename_i hu'; exact ⟨_, hu', .inr rfl⟩
    · cases hsk
  split at hq1
  case h_2 => exact hq1.elim
  case h_1 sz' s ho =>
  obtain ⟨hb2, hq0⟩ := chk_elim hq1
  clear hq1
  have hsz' := Nat.eq_of_beq_eq_true hb2
  subst hsz'
  obtain ⟨s', hq2, hsrcs⟩ := appendedP_elim hr hn1 hq0 hv1 hu' hkind
  clear hq0
  obtain ⟨hone, hq3⟩ := onesP_elim hq2
  clear hq2
  obtain ⟨⟨hn2, hfit⟩, hK⟩ := needP_elim hq3
  clear hq3
  rw [Seq.len_eq] at hn2 hfit
  subst hn2
  obtain ⟨vals', hsrc, hc'⟩ := hsrcs hone
  have hsum : s.toList.length + s'.toList.length ≤ 140737488351232 := Nat.le_trans (Nat.le_mul_of_pos_right _ hby1) hfit
  rw [Seq.len_eq] at hK
  cases hv0 with
  | msl _ _ _ _ b cap hl hle hcb =>
  obtain ⟨cs, Tb, fr, hbase, hext, hbk, hsoft, hds, hdz, hdc⟩ := obj_arr hr hl ho
  have hfitb : cap * i.size ≤ cs.size := by
    obtain ⟨cs2, T2, fr2, e2, h2⟩ := hcb
    rw [hbk] at e2; cases e2
    rw [Nat.zero_add] at h2; exact h2
  rw [Nat.zero_mul]
  have hc : Cells M w loc s.toList.length i.size s.toList (fun i' j => (cs[i' * i.size + j]?).getD undef) := by
    refine ⟨rfl, hdz, fun a j ha hj => ?_⟩
    obtain ⟨v, hv1, hv2⟩ := hdc a j ha hj
    simp only [hv1, Option.getD_some]; exact hv2
  have hnl : (flatVals s'.toList.length i.size vals').length = s'.toList.length * i.size := flatVals_length _ _ _
  by_cases hroom : s.toList.length + s'.toList.length ≤ cap
  · -- in place
    have hle2 : (s.toList.length + s'.toList.length) * i.size ≤ cap * i.size := Nat.mul_le_mul_right _ hroom
    rw [Nat.add_mul] at hle2
    have hfit2 : 0 + s.toList.length * i.size + (flatVals s'.toList.length i.size vals').length ≤ cs.size := by rw [hnl]; omega
    rw [run_append_room_all t t' T e i hu hi b 0 s.toList.length cap v1 s'.toList.length _ hsrc hroom hbk hsoft hfit2]
    have hget := storeAll_get (flatVals s'.toList.length i.size vals') cs (0 + s.toList.length * i.size)
    generalize hcs1 : storeAll cs (0 + s.toList.length * i.size) (flatVals s'.toList.length i.size vals') = cs1 at hget ⊢
    have hsz1 : cs1.size = cs.size := by rw [← hcs1]; exact storeAll_size _ _ _
    have hlt := cells_lt hbk
    have hkk : Keeps M w loc M (setBlk w b (.cells cs1 Tb fr)) loc := by
      refine ⟨fun c q v hi' => ?_, fun c cs0 T0 fr0 hc0 => ?_, fun j x hx => hx⟩
      · obtain ⟨h1, h2⟩ := hi'
        have hcb' : c ≠ b := by
          rintro rfl
          rcases h2 with h2 | h2
          · omega
          · omega
        exact ⟨by rw [cell_of_heap (setBlk_other hcb')]; exact h1, h2⟩
      · by_cases hcb' : c = b
        · subst hcb'
          rw [hbk] at hc0; cases hc0
          exact ⟨cs1, fr, setBlk_same hlt, hsz1⟩
        · exact ⟨cs0, fr0, by rw [setBlk_other hcb']; exact hc0, rfl⟩
    have hca := (hc.app hc').keeps hkk
    have hlen2 : (s.app s').toList.length = s.toList.length + s'.toList.length := by rw [app_toList, List.length_append]
    obtain ⟨r1, r2⟩ := hr.write id b (.arr i.size s) (.arr i.size (s.app s')) (.cells cs1 Tb fr) ho (by intro h; cases h) hl
      (fun cs0 T0 fr0 hc0 => by rw [hbk] at hc0; cases hc0; exact ⟨cs1, fr, rfl, hsz1⟩)
      ⟨b, cs1, Tb, fr, rfl, hbase, hext, setBlk_same hlt, fun q hq => hsoft q (by omega), by rw [hlen2, hsz1, Nat.add_mul]; omega, fun a ha => hca.each a ha, fun a j ha hj => by
        have hin : a < s.toList.length + s'.toList.length := by rw [← hlen2]; exact ha
        have hjn : j < i.size := by rw [← hca.each a ha]; exact hj
        have h9 := Nat.mul_le_mul_right i.size (show a + 1 ≤ s.toList.length + s'.toList.length from hin)
        rw [Nat.succ_mul] at h9
        refine ⟨_, ?_, hca.rel a j ha hj⟩
        rw [hget _ hfit2]
        by_cases hal : a < s.toList.length
        · have h8 := Nat.mul_le_mul_right i.size (show a + 1 ≤ s.toList.length from hal)
          rw [Nat.succ_mul] at h8
          rw [if_neg (by omega), if_pos hal]
          obtain ⟨v, hv1, _⟩ := hdc a j hal (by rw [hdz]; exact hjn)
          rw [hv1]; rfl
        · have h8 := Nat.mul_le_mul_right i.size (show s.toList.length ≤ a by omega)
          rw [if_pos (by rw [hnl]; rw [Nat.add_mul] at h9; omega), if_neg hal]
          have := flatVals_get (vals := vals') (n := s'.toList.length) (i := a - s.toList.length) (j := j) (sz := i.size) (by omega) hjn
          rw [← this]
          congr 1
          rw [Nat.sub_mul]; omega⟩
    obtain ⟨r3, r4⟩ := r1.move id (.arr i.size (s.app s')) (.blk b) (by rw [List.getElem?_set_self]; exact (List.getElem?_eq_some_iff.1 ho).1) (by intro h; cases h) hl
    simp only [List.length_set, List.set_set] at r3 r4
    have hg := VRel.msl (M := M) (w := setBlk w b (.cells cs1 Tb fr)) (loc := locSet loc H.length (.blk b)) i.size H.length 0 (s.toList.length + s'.toList.length) b cap (by simp [locSet]) hroom
      ⟨cs1, Tb, fr, setBlk_same hlt, by rw [Nat.zero_add, hsz1]; exact hfitb⟩
    rw [Nat.zero_mul] at hg
    exact ⟨_, _, _, _, _, _, rfl, hK, r3, hg, r2.trans r4⟩
  · have hlen : (H.set id .gone).length = H.length := by simp
    refine GoodV.drop_first id hr ?_
    refine append_grow_arr (ty := T) hu hi hiz hzs hn1 (hr.drop id).1 hc ?_ hsrc hc' (by omega) hfit (by omega) (by rw [hlen]; exact hK)
    refine run_firstCells_some w.drew i.size _ _ _ _ _ (flatVals_length _ _ _) ?_
    intro j v hj
    have hjl : j < s.toList.length * i.size := by
      have := (List.getElem?_eq_some_iff.1 hj).1
      rwa [flatVals_length] at this
    have hi2 : j / i.size < s.toList.length := Nat.div_lt_of_lt_mul (by rwa [Nat.mul_comm] at hjl)
    have hm : j % i.size < i.size := Nat.mod_lt _ (by omega)
    have e2 : j / i.size * i.size + j % i.size = j := by rw [Nat.mul_comm]; exact Nat.div_add_mod j _
    have hg := flatVals_get (vals := (fun i' j => (cs[i' * i.size + j]?).getD undef)) hi2 hm
    rw [e2] at hg
    rw [hg] at hj
    cases hj
    obtain ⟨v, hv1, _⟩ := hdc (j / i.size) (j % i.size) hi2 (by rw [hdz]; exact hm)
    rw [e2] at hv1
    have hbk' : w.drew.heap[b]? = some (.cells cs Tb fr) := hbk
    rw [add_mk, Nat.zero_add, cell_eq hbk', hv1]; rfl

end
end Go.Ab
