/- Soundness of conversions, slicing, len, min, max. -/
import Derived.Test.YtifbfcljgagacaaDoorAbSound5
import Derived.Laws.BytesArg
import Derived.Lib.ConvBytes
set_option linter.unusedVariables false
set_option linter.unusedSimpArgs false
namespace Go.Ab
section
variable {P : Program} {M : Mem} {loc : Locs} {H : List AObj} {w : World} {K : AV → List AObj → Prop}

theorem bytesSeq_toList (s : ByteArray) : (bytesSeq s).toList = s.data.toList.map encB := rfl
theorem bytesSeq_len (s : ByteArray) : (bytesSeq s).len = s.size := by simp [bytesSeq, Seq.len]

def cellInt : List AV → Int
  | [.int _ n] => n
  | _ => 0

theorem bytesOf_nums {s : Seq} (h : allBytes s) : bytesOf s = strOfNums (s.toList.map cellInt) := by
  unfold bytesOf strOfNums
  rw [List.map_map]
  congr 2
  apply List.map_congr_left
  intro x hx
  obtain ⟨n, rfl⟩ := h x hx
  rfl

theorem bytesWorld_same (w : World) (e : TypeId) (s : ByteArray) :
    SameMem (w.alloc (.cells (Lib.bytesCells w e s) e ((Lib.bytesCells w e s).size, (Lib.bytesCells w e s).size + 1))) (Lib.bytesWorld w e s) := by
  refine ⟨?_, rfl, rfl, rfl⟩
  apply Array.ext_getElem?
  intro i
  rcases Nat.lt_trichotomy i w.heap.size with h | h | h
  · rw [Lib.bytesWorld_at_old w e s i h, heap_alloc_lt h]
  · subst h; rw [Lib.bytesWorld_at_new, heap_alloc_new]
  · rw [Array.getElem?_eq_none (by rw [Lib.bytesWorld_size]; omega), Array.getElem?_eq_none (by simp; omega)]

theorem Question.cut_ge {w : World} {n o : Nat} {e : TypeId} : n ≤ grownCap w n o e := by
  simp only [grownCap, Question.cut]; omega

theorem run_convert_bytes_zero (w : World) (src e : TypeId) (hs : P.underlying src = some (.slice e)) (he : P.underlying e = some (.int .u8)) (a : Addr) :
    ∀ dst, P.underlying dst = some .string → (convert src dst (.slice (some a) 0 0)).run P w = .ok (.string (strOfNums [])) w := by
  intro dst hd
  rw [run_convert_bytes_string w src dst e _ 0 0 hs he hd]
  rfl

theorem aconv_sound {src dst : TypeId} {x : AV} {v : Value} (h : aconv P src dst x (fun v => K v H)) (hr : Rel M loc H w) (hv : VRel M w loc x v) :
    GoodV P M loc H w K ((convert src dst v).run P w) := by
  unfold aconv at h
  split at h
  · rename_i d k k' n hs hd
    cases hv
    have : (convert src dst (.int k' n)).run P w = .ok (.int k (k.wrap n)) w := by
      simp [convert, run_underlying' hs, run_underlying' hd, Conv.intToInt]
    rw [this]; exact GoodV.pure hr (.int _ _) h
  · rename_i d s hs hd
    cases hv
    have : (convert src dst (.string s)).run P w = .ok (.string s) w := by
      simp only [convert, Sem.run_bind, run_underlying' hs, run_underlying' hd, Result.andThen_ok]
      cases d <;> rfl
    rw [this]; exact GoodV.pure hr (.str _) h
  · rename_i d e s hs hd
    cases hv
    split at h
    case h_2 => exact h.elim
    case h_1 he =>
    rw [Lib.run_convert_string_bytes w src dst e s hs hd he]
    have hsm := bytesWorld_same w e s
    have hcs : s.size ≤ (Lib.bytesCells w e s).size := by simp [Lib.bytesCells]
    obtain ⟨r1, r2⟩ := hr.data (.cells (Lib.bytesCells w e s) e ((Lib.bytesCells w e s).size, (Lib.bytesCells w e s).size + 1)) s.size (fun _ => ⟨_, _, _, rfl, hcs⟩)
    obtain ⟨r3, r4⟩ := r1.same hsm
    refine ⟨_, _, _, _, _, _, rfl, h, r3, ?_, r2.trans r4⟩
    have hlen : (bytesSeq s).toList.length = s.size := by rw [bytesSeq_toList]; simp
    have hg := VRel.sl (M := M.grow w.heap.size s.size) (w := Lib.bytesWorld w e s) (loc := loc) 1 (bytesSeq s) .none w.heap.size 0 (grownCap w s.size 0 e) (fun i j => .int .u8 (s.data.toList.getD i 0).toNat)
      (fun i hi => by simp [bytesSeq_toList, encB])
      (fun i j hi hj => by
        rw [hlen] at hi
        have hj0 : j = 0 := by omega
        subst hj0
        refine ⟨?_, .inr ?_⟩
        · have := Lib.bytesWorld_cell w e s i hi
          simpa using this
        · simp only [Mem.grow, if_true]; omega)
      (fun i j hi hj => by
        have hj0 : j = 0 := by simp [bytesSeq_toList, encB] at hj; exact hj
        subst hj0
        have hi' : i < s.data.toList.length := by simpa [bytesSeq_toList] using hi
        simp only [bytesSeq_toList, List.getElem_map, encB, List.getElem_cons_zero]
        rw [getD_lt _ _ _ hi']
        exact .int _ _)
      (by rw [hlen]; exact Question.cut_ge) (by intro h; cases h) (fun h => by cases h) (fun id h => by cases h)
    rw [hlen] at hg
    exact hg
  · rename_i e sz s tip hs hd
    split at h
    case h_2 => exact h.elim
    case h_1 he =>
    obtain ⟨hb, h⟩ := chk_elim h
    obtain ⟨hall, hK⟩ := needP_elim h
    rw [bytesOf_nums hall] at hK
    cases hv with
    | slnil _ _ _ hnil _ =>
      rw [run_convert_bytes_nil w src e hs he 0 0 dst hd]
      rw [hnil] at hK
      exact GoodV.pure hr (.str _) hK
    | slz _ _ _ a hs0 _ _ =>
      rw [run_convert_bytes_zero w src e hs he a dst hd]
      rw [hs0] at hK
      exact GoodV.pure hr (.str _) hK
    | sl _ _ _ b o cap vals hz h1 h2 hcap hnil hfull htok =>
      rw [run_convert_bytes_arg w src e hs he b o s.toList.length cap (s.toList.map cellInt) (by simp) ?_ dst hd]
      · exact GoodV.pure hr (.str _) hK
      · intro i hi
        obtain ⟨n, hn⟩ := hall _ (List.getElem_mem hi)
        have hsz1 : sz = 1 := by rw [← hz i hi, hn]; rfl
        subst hsz1
        have h3 := h1 i 0 hi (by omega)
        have h4 := h2 i 0 hi (by rw [hn]; simp)
        rw [Nat.mul_one, Nat.add_zero] at h3
        rw [h3.1, getD_lt _ _ _ (by simpa using hi)]
        simp only [List.getElem_map, hn, cellInt]
        simp only [hn, List.getElem_cons_zero] at h4
        generalize vals i 0 = q at h4
        cases h4
        rfl
  · exact h.elim

theorem vrel_sub {sz : Nat} {s : Seq} {tip' : Tip} {b o l h cap' : Nat} {vals : Nat → Nat → Value}
    (hz : ∀ (i : Nat) (h : i < s.toList.length), s.toList[i].length = sz)
    (h1 : ∀ i j, i < s.toList.length → j < sz → ImmC M w b (o + i * sz + j) (vals i j))
    (h2 : ∀ i j (h : i < s.toList.length) (hj : j < s.toList[i].length), VRel M w loc s.toList[i][j] (vals i j))
    (hl : l ≤ h) (hh : h ≤ s.toList.length) (hc : h - l ≤ cap') (hf : tip' = .full → cap' = h - l) (ht : ∀ id, tip' ≠ .tok id) (hn : tip' ≠ .nil) (o' : Nat) (ho : sz = 0 ∨ o' = o + l * sz ∨ h = l) :
    VRel M w loc (.sl sz (s.sub l h) tip') (.slice (some ⟨b, o', none⟩) (h - l) cap') := by
  have hlen : (s.sub l h).toList.length = h - l := by rw [Seq.sub_toList]; simp; omega
  have hget : ∀ i (hi : i < (s.sub l h).toList.length), ∃ hi' : l + i < s.toList.length, (s.sub l h).toList[i] = s.toList[l + i] := by
    intro i hi
    have hi2 : l + i < s.toList.length := by rw [hlen] at hi; omega
    refine ⟨hi2, ?_⟩
    have e := Seq.sub_toList s l h
    have e2 : (s.sub l h).toList[i]? = some s.toList[l + i] := by
      rw [e, List.getElem?_drop, List.getElem?_take, if_pos (by rw [hlen] at hi; omega), List.getElem?_eq_getElem hi2]
    rw [List.getElem?_eq_getElem hi] at e2
    exact Option.some.inj e2
  have hg := VRel.sl (M := M) (w := w) (loc := loc) sz (s.sub l h) tip' b o' cap' (fun i j => vals (l + i) j)
    (fun i hi => by obtain ⟨hi', e⟩ := hget i hi; rw [e]; exact hz _ hi')
    (fun i j hi hj => by
      obtain ⟨hi', e⟩ := hget i hi
      rcases ho with ho | ho | ho
      · omega
      · have := h1 (l + i) j hi' hj
        rwa [Nat.add_mul, ← Nat.add_assoc, ← ho] at this
      · rw [hlen] at hi; omega)
    (fun i j hi hj => by
      obtain ⟨hi', e⟩ := hget i hi
      have hj' : j < s.toList[l + i].length := by rw [← e]; exact hj
      have := h2 (l + i) j hi' hj'
      simp only [e]; exact this)
    (by rw [hlen]; exact hc) hn (fun h => by rw [hlen]; exact hf h) (fun id h => (ht id h).elim)
  rw [hlen] at hg
  exact hg

/-- the bounds of a slice expression -/
def Bnd (v : Option Value) (d n : Nat) : Prop := (v = none ∧ n = d) ∨ ∃ k, v = some (.int k (n : Int))

theorem run_bound {k : IntKind} {i y : Nat} {code : BoundsCode} (hy : i ≤ y) : (Instr.sliceBound (.int k (i : Int)) y code).run P w = .ok i w := by
  simp only [Instr.sliceBound, asIntOf, pure_bind]
  rw [if_pos ⟨by omega, by omega⟩]; rfl

theorem run_bounds {sl : Bool} {len cap l h : Nat} {vlo vhi : Option Value} (hlo : Bnd vlo 0 l) (hhi : Bnd vhi len h) (hl : l ≤ h) (hh : h ≤ cap) :
    (Instr.sliceBounds sl len cap vlo vhi none).run P w = .ok (l, h, cap) w := by
  rcases hlo with ⟨rfl, rfl⟩ | ⟨k, rfl⟩ <;> rcases hhi with ⟨rfl, rfl⟩ | ⟨k', rfl⟩ <;>
    simp [Instr.sliceBounds, run_bound hl, run_bound hh]

theorem run_bounds3 {sl : Bool} {len cap l h m : Nat} {vlo : Option Value} {k k' : IntKind} (hlo : Bnd vlo 0 l) (hl : l ≤ h) (hh : h ≤ m) (hm : m ≤ cap) :
    (Instr.sliceBounds sl len cap vlo (some (.int k (h : Int))) (some (.int k' (m : Int)))).run P w = .ok (l, h, m) w := by
  rcases hlo with ⟨rfl, rfl⟩ | ⟨k, rfl⟩ <;>
    simp [Instr.sliceBounds, run_bound hl, run_bound hh, run_bound hm]

theorem slice_str {t : TypeId} (hu : P.underlying t = some .string) {s : ByteArray} {l h : Nat} {vlo vhi : Option Value} (hlo : Bnd vlo 0 l) (hhi : Bnd vhi s.size h) (hl : l ≤ h) (hh : h ≤ s.size) :
    (Instr.sliceAt t (.string s) vlo vhi none).run P w = .ok (.string (s.extract l h)) w := by
  simp [Instr.sliceAt, run_underlying' hu, Instr.slice, run_bounds hlo hhi hl hh]

theorem slice_sl {t e : TypeId} (hu : P.underlying t = some (.slice e)) {n : Nat} (hn : sizeT P e = some n) {a : Option Addr} {len cap l h : Nat} {vlo vhi : Option Value} (hlo : Bnd vlo 0 l) (hhi : Bnd vhi len h) (hl : l ≤ h) (hh : h ≤ cap) :
    (Instr.sliceAt t (.slice a len cap) vlo vhi none).run P w = .ok (.slice (if cap - l = cap ∧ False then a else if cap = l then a else a.map (·.add (l * n))) (h - l) (cap - l)) w := by
  simp [Instr.sliceAt, run_underlying' hu, Instr.slice, run_bounds hlo hhi hl hh, run_sizeOf' hn]

theorem slice_sl3 {t e : TypeId} (hu : P.underlying t = some (.slice e)) {n : Nat} (hn : sizeT P e = some n) {a : Option Addr} {len cap l h m : Nat} {vlo : Option Value} {k k' : IntKind} (hlo : Bnd vlo 0 l) (hl : l ≤ h) (hh : h ≤ m) (hm : m ≤ cap) :
    (Instr.sliceAt t (.slice a len cap) vlo (some (.int k (h : Int))) (some (.int k' (m : Int)))).run P w = .ok (.slice (if m = l then a else a.map (·.add (l * n))) (h - l) (m - l)) w := by
  simp [Instr.sliceAt, run_underlying' hu, Instr.slice, run_bounds3 hlo hl hh hm, run_sizeOf' hn]

/-- a part of a slice -/
theorem sub_good {t e : TypeId} (hu : P.underlying t = some (.slice e)) {n sz : Nat} (hn : sizeT P e = some n) (hb : n = sz ∨ sz = 0) {s : Seq} {tip : Tip} {v : Value} (hr : Rel M loc H w) (hv : VRel M w loc (.sl sz s tip) v)
    {l h : Nat} (hl : l ≤ h) (hh : h ≤ s.toList.length) {vlo vhi : Option Value} (hlo : Bnd vlo 0 l) (hhi : Bnd vhi s.toList.length h) {tip' : Tip} (ht : ∀ id, tip' ≠ .tok id) (htn : tip' ≠ .nil)
    (hf : tip' = .full → tip = .full ∧ h = s.toList.length) (hK : K (.sl sz (s.sub l h) tip') H) : GoodV P M loc H w K ((Instr.sliceAt t v vlo vhi none).run P w) := by
  cases hv with
  | slnil _ _ _ hs _ =>
    rw [hs] at hh hhi
    simp only [List.length_nil, Nat.le_zero_eq] at hh hhi
    subst hh
    have hl0 : l = 0 := by omega
    subst hl0
    rw [slice_sl hu hn hlo hhi (Nat.le_refl _) (Nat.le_refl _)]
    simp only [Nat.sub_self, if_true, and_false, if_false]
    exact GoodV.pure hr (.slnil _ _ _ (by rw [Seq.sub_toList, hs]; simp) (fun id h => (ht id h).elim)) hK
  | slz _ _ _ a hs _ _ =>
    rw [hs] at hh hhi
    simp only [List.length_nil, Nat.le_zero_eq] at hh hhi
    subst hh
    have hl0 : l = 0 := by omega
    subst hl0
    rw [slice_sl hu hn hlo hhi (Nat.le_refl _) (Nat.le_refl _)]
    simp only [Nat.sub_self, if_true, and_false, if_false]
    exact GoodV.pure hr (.slz _ _ _ a (by rw [Seq.sub_toList, hs]; simp) htn (fun id h => (ht id h).elim)) hK
  | sl _ _ _ b o cap vals hz h1 h2 hcap hnil hfull htok =>
    rw [slice_sl hu hn hlo hhi hl (by omega)]
    rw [if_neg (by simp)]
    have e : (if cap = l then some (⟨b, o, none⟩ : Addr) else Option.map (fun x => x.add (l * n)) (some (⟨b, o, none⟩ : Addr))) = some ⟨b, if cap = l then o else o + l * n, none⟩ := by
      split
      · rfl
      · simp [add_mk]
    rw [e]
    refine GoodV.pure hr (vrel_sub hz h1 h2 hl hh (by omega) (fun h => by have := hf h; have := hfull this.1; omega) ht htn _ ?_) hK
    rcases hb with hb | hb
    · by_cases hc : cap = l
      · right; right; omega
      · right; left; rw [if_neg hc, hb]
    · exact .inl hb

theorem sub3_good {t e : TypeId} (hu : P.underlying t = some (.slice e)) {n sz : Nat} (hn : sizeT P e = some n) (hb : n = sz ∨ sz = 0) {s : Seq} {tip : Tip} {v : Value} (hr : Rel M loc H w) (hv : VRel M w loc (.sl sz s tip) v)
    {l h : Nat} (hl : l ≤ h) (hh : h ≤ s.toList.length) {vlo : Option Value} {k k' : IntKind} (hlo : Bnd vlo 0 l)
    (hK : K (.sl sz (s.sub l h) .full) H) : GoodV P M loc H w K ((Instr.sliceAt t v vlo (some (.int k (h : Int))) (some (.int k' (h : Int)))).run P w) := by
  cases hv with
  | slnil _ _ _ hs _ =>
    rw [hs] at hh
    simp only [List.length_nil, Nat.le_zero_eq] at hh
    subst hh
    have hl0 : l = 0 := by omega
    subst hl0
    rw [slice_sl3 hu hn hlo (Nat.le_refl _) (Nat.le_refl _) (Nat.le_refl _)]
    simp only [Nat.sub_self, if_true]
    exact GoodV.pure hr (.slnil _ _ _ (by rw [Seq.sub_toList, hs]; simp) (fun id h => by cases h)) hK
  | slz _ _ _ a hs _ _ =>
    rw [hs] at hh
    simp only [List.length_nil, Nat.le_zero_eq] at hh
    subst hh
    have hl0 : l = 0 := by omega
    subst hl0
    rw [slice_sl3 hu hn hlo (Nat.le_refl _) (Nat.le_refl _) (Nat.le_refl _)]
    simp only [Nat.sub_self, if_true]
    exact GoodV.pure hr (.slz _ _ _ a (by rw [Seq.sub_toList, hs]; simp) (by intro h; cases h) (fun id h => by cases h)) hK
  | sl _ _ _ b o cap vals hz h1 h2 hcap hnil hfull htok =>
    rw [slice_sl3 hu hn hlo hl (Nat.le_refl _) (by omega)]
    have e : (if h = l then some (⟨b, o, none⟩ : Addr) else Option.map (fun x => x.add (l * n)) (some (⟨b, o, none⟩ : Addr))) = some ⟨b, if h = l then o else o + l * n, none⟩ := by
      split
      · rfl
      · simp [add_mk]
    rw [e]
    refine GoodV.pure hr (vrel_sub hz h1 h2 hl hh (Nat.le_refl _) (fun _ => rfl) (fun id h => by cases h) (by intro h; cases h) _ ?_) hK
    rcases hb with hb | hb
    · by_cases hc : h = l
      · right; right; exact hc
      · right; left; rw [if_neg hc, hb]
    · exact .inl hb

theorem or_beq {n sz : Nat} (h : (Nat.beq n sz || Nat.beq sz 0) = true) : n = sz ∨ sz = 0 := by
  rw [Bool.or_eq_true] at h
  exact h.imp Nat.eq_of_beq_eq_true Nat.eq_of_beq_eq_true

/-- an operand that may be missing, and its value -/
def ORelV (M : Mem) (w : World) (loc : Locs) : Option AV → Option Value → Prop
  | none, none => True
  | some a, some v => VRel M w loc a v
  | _, _ => False

theorem asli_sound {t : TypeId} {x : AV} {lo hi mx : Option AV} {v : Value} {vlo vhi vmx : Option Value} (h : asli P t x lo hi mx (fun v => K v H)) (hr : Rel M loc H w) (hv : VRel M w loc x v)
    (hlo : ORelV M w loc lo vlo) (hhi : ORelV M w loc hi vhi) (hmx : ORelV M w loc mx vmx) :
    GoodV P M loc H w K ((Instr.sliceAt t v vlo vhi vmx).run P w) := by
  have hnone : ∀ {vx}, ORelV M w loc none vx → vx = none := by intro vx h; cases vx with | none => rfl | some _ => exact h.elim
  have hint : ∀ {vx k} {n : Int}, ORelV M w loc (some (.int k n)) vx → vx = some (.int k n) := by
    intro vx k n h; cases vx with
    | none => exact h.elim
    | some v => have h' : VRel M w loc (.int k n) v := h; cases h'; rfl
  unfold asli at h
  split at h
  · -- strings
    rename_i s hu
    cases hnone hmx
    cases hv
    split at h
    · cases hnone hlo; cases hnone hhi
      rw [slice_str hu (l := 0) (h := s.size) (.inl ⟨rfl, rfl⟩) (.inl ⟨rfl, rfl⟩) (by omega) (by omega)]
      exact GoodV.pure hr (.str _) h
    · obtain ⟨⟨h0, hl⟩, hK⟩ := needP_elim h
      cases hint hlo; cases hnone hhi
      obtain ⟨j, rfl⟩ := Int.eq_ofNat_of_zero_le h0
      rw [slice_str hu (l := j) (h := s.size) (.inr ⟨_, rfl⟩) (.inl ⟨rfl, rfl⟩) (by omega) (by omega)]
      exact GoodV.pure hr (.str _) hK
    · obtain ⟨⟨h0, hl⟩, hK⟩ := needP_elim h
      cases hint hhi; cases hnone hlo
      obtain ⟨j, rfl⟩ := Int.eq_ofNat_of_zero_le h0
      rw [slice_str hu (l := 0) (h := j) (.inl ⟨rfl, rfl⟩) (.inr ⟨_, rfl⟩) (by omega) (by omega)]
      exact GoodV.pure hr (.str _) hK
    · obtain ⟨⟨h0, hl, hu'⟩, hK⟩ := needP_elim h
      cases hint hhi; cases hint hlo
      obtain ⟨j, rfl⟩ := Int.eq_ofNat_of_zero_le h0
      obtain ⟨q, rfl⟩ := Int.eq_ofNat_of_zero_le (Int.le_trans h0 hl)
      rw [slice_str hu (l := j) (h := q) (.inr ⟨_, rfl⟩) (.inr ⟨_, rfl⟩) (by omega) (by omega)]
      exact GoodV.pure hr (.str _) hK
    · exact h.elim
  · -- slices
    rename_i e sz s tip hu
    cases hnone hmx
    split at h
    case h_2 => exact h.elim
    case h_1 n hn =>
    obtain ⟨hb, h⟩ := chk_elim h
    have hb := or_beq hb
    split at h
    · cases hnone hlo; cases hnone hhi
      cases hv with
      | slnil _ _ _ hs ht =>
        have hx := slice_sl (P := P) (w := w) hu hn (a := none) (len := 0) (cap := 0) (l := 0) (h := 0) (.inl ⟨rfl, rfl⟩) (.inl ⟨rfl, rfl⟩) (Nat.le_refl _) (Nat.le_refl _)
        rw [hx]
        simp only [Nat.sub_self, if_true, and_false, if_false]
        exact GoodV.pure hr (.slnil _ _ _ hs ht) h
      | slz _ _ _ a hs hnl ht =>
        have hx := slice_sl (P := P) (w := w) hu hn (a := some a) (len := 0) (cap := 0) (l := 0) (h := 0) (.inl ⟨rfl, rfl⟩) (.inl ⟨rfl, rfl⟩) (Nat.le_refl _) (Nat.le_refl _)
        rw [hx]
        simp only [Nat.sub_self, if_true, and_false, if_false]
        exact GoodV.pure hr (.slz _ _ _ a hs hnl ht) h
      | sl _ _ _ b o cap vals hz h1 h2 hcap hnil hfull htok =>
        rw [slice_sl hu hn (l := 0) (h := s.toList.length) (.inl ⟨rfl, rfl⟩) (.inl ⟨rfl, rfl⟩) (by omega) hcap]
        rw [if_neg (by simp)]
        have e : (if cap = 0 then some (⟨b, o, none⟩ : Addr) else Option.map (fun x => x.add (0 * n)) (some (⟨b, o, none⟩ : Addr))) = some ⟨b, o, none⟩ := by
          split
          · rfl
          · simp [Addr.add]
        rw [e]
        exact GoodV.pure hr (.sl _ _ _ _ _ _ vals hz h1 h2 hcap hnil hfull htok) h
    · obtain ⟨⟨h0, hl⟩, hK⟩ := needP_elim h
      cases hint hlo; cases hnone hhi
      rw [Seq.len_eq] at hl hK
      obtain ⟨j, rfl⟩ := Int.eq_ofNat_of_zero_le h0
      exact sub_good hu hn hb hr hv (l := j) (h := s.toList.length) (by omega) (by omega) (.inr ⟨_, rfl⟩) (.inl ⟨rfl, rfl⟩) (by intro id; cases tip <;> simp [tailTip]) (by cases tip <;> simp [tailTip])
        (by cases tip <;> simp [tailTip]) hK
    · obtain ⟨⟨h0, hl⟩, hK⟩ := needP_elim h
      cases hint hhi; cases hnone hlo
      rw [Seq.len_eq] at hl
      obtain ⟨j, rfl⟩ := Int.eq_ofNat_of_zero_le h0
      exact sub_good hu hn hb hr hv (l := 0) (h := j) (by omega) (by omega) (.inl ⟨rfl, rfl⟩) (.inr ⟨_, rfl⟩) (by intro id h; cases h) (by intro h; cases h) (by intro h; cases h) hK
    · obtain ⟨⟨h0, hl, hu'⟩, hK⟩ := needP_elim h
      cases hint hhi; cases hint hlo
      rw [Seq.len_eq] at hu'
      obtain ⟨j, rfl⟩ := Int.eq_ofNat_of_zero_le h0
      obtain ⟨q, rfl⟩ := Int.eq_ofNat_of_zero_le (Int.le_trans h0 hl)
      exact sub_good hu hn hb hr hv (l := j) (h := q) (by omega) (by omega) (.inr ⟨_, rfl⟩) (.inr ⟨_, rfl⟩) (by intro id h; cases h) (by intro h; cases h) (by intro h; cases h) hK
    · exact h.elim
  · rename_i e sz s tip k q k' m hu
    cases hint hmx; cases hint hhi
    split at h
    case h_2 => exact h.elim
    case h_1 n hn =>
    obtain ⟨hb, h⟩ := chk_elim h
    have hb := or_beq hb
    split at h
    · obtain ⟨⟨h0, hl, rfl⟩, hK⟩ := needP_elim h
      cases hnone hlo
      rw [Seq.len_eq] at hl
      obtain ⟨j, rfl⟩ := Int.eq_ofNat_of_zero_le h0
      exact sub3_good hu hn hb hr hv (l := 0) (h := j) (by omega) (by omega) (.inl ⟨rfl, rfl⟩) hK
    · obtain ⟨⟨h0, hl, hu', rfl⟩, hK⟩ := needP_elim h
      cases hint hlo
      rw [Seq.len_eq] at hu'
      obtain ⟨j, rfl⟩ := Int.eq_ofNat_of_zero_le h0
      obtain ⟨q, rfl⟩ := Int.eq_ofNat_of_zero_le (Int.le_trans h0 hl)
      exact sub3_good hu hn hb hr hv (l := j) (h := q) (by omega) (by omega) (.inr ⟨_, rfl⟩) hK
    · exact h.elim
  · -- rows that are written
    rename_i e sz id off len hu
    cases hnone hmx
    split at h
    case h_2 => exact h.elim
    case h_1 n hn =>
    obtain ⟨hb, h⟩ := chk_elim h
    have hb := Nat.eq_of_beq_eq_true hb
    subst hb
    cases hv with
    | msl _ _ _ _ b cap hl hle hc =>
    have hgood : ∀ {l q : Nat}, Bnd vlo 0 l → Bnd vhi len q → (l < len ∨ l = 0) → l ≤ q → q ≤ len → K (.msl n id (off + l) (q - l)) H →
        GoodV P M loc H w K ((Instr.sliceAt t (.slice (some ⟨b, off * n, none⟩) len cap) vlo vhi none).run P w) := by
      intro l q hblo hbhi h1 h2 h3 hK
      rw [slice_sl hu hn hblo hbhi h2 (by omega)]
      rw [if_neg (by simp)]
      have e : (if cap = l then some (⟨b, off * n, none⟩ : Addr) else Option.map (fun x => x.add (l * n)) (some (⟨b, off * n, none⟩ : Addr))) = some ⟨b, (off + l) * n, none⟩ := by
        split
        · have : l = 0 := by omega
          subst this; simp
        · simp [add_mk, Nat.add_mul]
      rw [e]
      obtain ⟨cs, T, fr, c1, c2⟩ := hc
      refine GoodV.pure hr (.msl _ _ _ _ _ _ hl (by omega) ⟨cs, T, fr, c1, ?_⟩) hK
      rw [show off + l + (cap - l) = off + cap by omega]
      exact c2
    split at h
    · cases hnone hlo; cases hnone hhi
      have := hgood (l := 0) (q := len) (.inl ⟨rfl, rfl⟩) (.inl ⟨rfl, rfl⟩) (.inr rfl) (by omega) (by omega) (by simpa using h)
      exact this
    · obtain ⟨⟨h0, hl2⟩, hK⟩ := needP_elim h
      cases hint hlo; cases hnone hhi
      obtain ⟨j, rfl⟩ := Int.eq_ofNat_of_zero_le h0
      exact hgood (l := j) (q := len) (.inr ⟨_, rfl⟩) (.inl ⟨rfl, rfl⟩) (.inl (by omega)) (by omega) (by omega) hK
    · obtain ⟨⟨h0, hl2⟩, hK⟩ := needP_elim h
      cases hint hhi; cases hnone hlo
      obtain ⟨j, rfl⟩ := Int.eq_ofNat_of_zero_le h0
      exact hgood (l := 0) (q := j) (.inl ⟨rfl, rfl⟩) (.inr ⟨_, rfl⟩) (.inr rfl) (by omega) (by omega) (by simpa using hK)
    · obtain ⟨⟨h0, hl2, hu1, hu'⟩, hK⟩ := needP_elim h
      cases hint hhi; cases hint hlo
      obtain ⟨j, rfl⟩ := Int.eq_ofNat_of_zero_le h0
      obtain ⟨q, rfl⟩ := Int.eq_ofNat_of_zero_le (Int.le_trans h0 hu1)
      exact hgood (l := j) (q := q) (.inr ⟨_, rfl⟩) (.inr ⟨_, rfl⟩) (.inl (by omega)) (by omega) (by omega) hK
    · exact h.elim
  · exact h.elim

/-! ### builtins -/

theorem alen_sound {ts : Array TypeId} {T : TypeId} {xs : List AV} {vs : Array Value} (h : alen P ts.toList xs H (fun v => K v H)) (hr : Rel M loc H w) (hv : VRels M w loc xs vs) :
    GoodV P M loc H w K ((Builtin.len_ ts T vs).run P w) := by
  unfold alen at h
  split at h
  case h_2 => exact h.elim
  case h_1 t rest x hts =>
  obtain ⟨hs, hv⟩ := hv
  have hv0 := hv 0 (by simp)
  simp only [List.getElem_cons_zero] at hv0
  have ht0 : ts[0]? = some t := by rw [← Array.getElem?_toList, hts]; rfl
  have hvs0 : vs[0]? = some (vs[0]'(by simp at hs; omega)) := Array.getElem?_eq_getElem _
  generalize hq : vs[0]'(by simp at hs; omega) = q at hv0 hvs0
  split at h
  · rename_i s hu
    cases hv0
    have : (Builtin.len_ ts T vs).run P w = .ok (.int .i64 s.size) w := by simp [Builtin.len_, ht0, hvs0, run_underlying' hu, goInt]
    rw [this]; exact GoodV.pure hr (.int _ _) h
  · rename_i e sz s tip hu
    rw [Seq.len_eq] at h
    have : (Builtin.len_ ts T vs).run P w = .ok (.int .i64 s.toList.length) w := by
      cases hv0 with
      | slnil _ _ _ hs _ => simp [Builtin.len_, ht0, hvs0, run_underlying' hu, goInt, hs]
      | slz _ _ _ _ hs _ _ => simp [Builtin.len_, ht0, hvs0, run_underlying' hu, goInt, hs]
      | sl => simp [Builtin.len_, ht0, hvs0, run_underlying' hu, goInt]
    rw [this]; exact GoodV.pure hr (.int _ _) h
  · rename_i e sz id off n hu
    cases hv0
    have : (Builtin.len_ ts T vs).run P w = .ok (.int .i64 n) w := by simp [Builtin.len_, ht0, hvs0, run_underlying' hu, goInt]
    rw [this]; exact GoodV.pure hr (.int _ _) h
  · rename_i n e hu
    have : (Builtin.len_ ts T vs).run P w = .ok (.int .i64 n) w := by simp [Builtin.len_, ht0, hvs0, run_underlying' hu, goInt]
    rw [this]; exact GoodV.pure hr (.int _ _) h
  · rename_i k e id hu
    split at h
    case h_2 => exact h.elim
    case h_1 es ho =>
    cases hv0 with
    | map _ b hl =>
    have := hr.objs id _ ho
    rw [hl] at this
    obtain ⟨b', ents, clock, e1, h1, h2, h3, h4, h5⟩ := this
    cases e1
    have : (Builtin.len_ ts T vs).run P w = .ok (.int .i64 es.len) w := by
      simp [Builtin.len_, ht0, hvs0, run_underlying' hu, goInt, getObj, Sem.run, h3, h4, MM.len_eq]
    rw [this]; exact GoodV.pure hr (.int _ _) h
  · rename_i k e hu
    cases hv0
    have : (Builtin.len_ ts T vs).run P w = .ok (.int .i64 0) w := by simp [Builtin.len_, ht0, hvs0, run_underlying' hu, goInt]
    rw [this]; exact GoodV.pure hr (.int _ _) h
  · exact h.elim

theorem amm_sound (mx : Bool) : ∀ (k : IntKind) (a : Int) (xs : List AV) (vs : List Value) (h : amm mx k a xs (fun v => K v H)) (hr : Rel M loc H w)
    (hl : vs.length = xs.length) (hv : ∀ i (h : i < xs.length) (h' : i < vs.length), VRel M w loc xs[i] vs[i]),
    GoodV P M loc H w K ((vs.foldlM (match mx with | true => Builtin.max2 | false => Builtin.min2) (.int k a)).run P w)
  | k, a, [], [], h, hr, _, _ => GoodV.pure hr (.int _ _) h
  | k, a, [], _ :: _, _, _, hl, _ => by cases hl
  | k, a, _ :: _, [], _, _, hl, _ => by cases hl
  | k, a, x :: xs, v :: vs, h, hr, hl, hv => by
    have h0 := hv 0 (by simp) (by simp)
    simp only [List.getElem_cons_zero] at h0
    cases x with
    | int k' b =>
      cases h0
      simp only [amm] at h
      have ih := amm_sound mx k _ xs vs h hr (by simpa using hl) (fun i h h' => by have := hv (i + 1) (by simpa using h) (by simpa using h'); simpa using this)
      cases mx with
      | true => simpa [List.foldlM_cons, Builtin.max2] using ih
      | false => simpa [List.foldlM_cons, Builtin.min2] using ih
    | _ => exact h.elim

end
end Go.Ab
