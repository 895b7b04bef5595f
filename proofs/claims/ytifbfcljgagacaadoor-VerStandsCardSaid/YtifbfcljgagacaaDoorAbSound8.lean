/- Soundness of append. -/
import Derived.Test.YtifbfcljgagacaaDoorAbSound7
set_option linter.unusedVariables false
set_option linter.unusedSimpArgs false
namespace Go.Ab
section
variable {P : Program} {M : Mem} {loc : Locs} {H : List AObj} {w : World} {K : AV → List AObj → Prop}

theorem Cells.keeps {M' w' loc'} (hk : Keeps M w loc M' w' loc') {n sz es vals} (h : Cells M w loc n sz es vals) : Cells M' w' loc' n sz es vals :=
  ⟨h.len, h.each, fun i j hi hj => (h.rel i j hi hj).keeps hk⟩

theorem Src.mono' {tx : TypeId} {n sz : Nat} {v : Value} {news : List Value} (h : Src P sz tx v n news w) : Src P sz tx v n news w := h

/-- room in the row: as storeAll -/
theorem run_append_room_all (t tx ty e : TypeId) (i : TypeInfo) (ht : P.underlying t = some (.slice e)) (hi : P.info? e = some i) (b off sLen sCap : Nat) (x : Value) (n : Nat) (news : List Value) (hs : Src P i.size tx x n news w)
    (hroom : sLen + n ≤ sCap) {cs : Array Value} {T : TypeId} {fr : Nat × Nat} (hb : w.heap[b]? = some (.cells cs T fr)) (hsoft : soft cs fr) (hfit : off + sLen * i.size + news.length ≤ cs.size) :
    (Builtin.append_ #[t, tx] ty #[.slice (some ⟨b, off, none⟩) sLen sCap, x]).run P w = .ok (.slice (some ⟨b, off, none⟩) (sLen + n) sCap) (setBlk w b (.cells (storeAll cs (off + sLen * i.size) news) T fr)) := by
  have hst := run_storeAll P b (off + sLen * i.size) T fr news 0 cs w hb hsoft (by omega) hs.one
  simp only [Nat.add_zero] at hst
  rcases hs.kind with ⟨e', hk⟩ | hk <;> simp [Builtin.append_, run_underlying ht, run_underlying hk, sizeOf, typeInfo, hi, hs.len, hroom, hs.cells, add_mk, hst]

theorem run_append_nothing (t tx ty e : TypeId) (i : TypeInfo) (ht : P.underlying t = some (.slice e)) (hi : P.info? e = some i) (sCap : Nat) (x : Value) (news : List Value) (hs : Src P i.size tx x 0 news w) :
    (Builtin.append_ #[t, tx] ty #[.slice none 0 sCap, x]).run P w = .ok (.slice none 0 sCap) w := by
  rcases hs.kind with ⟨e', hk⟩ | hk <;> simp [Builtin.append_, run_underlying ht, run_underlying hk, sizeOf, typeInfo, hi, hs.len, hs.cells]

theorem run_append_nothing' (t tx ty e : TypeId) (i : TypeInfo) (ht : P.underlying t = some (.slice e)) (hi : P.info? e = some i) (a : Addr) (sLen sCap : Nat) (hl : sLen ≤ sCap) (x : Value) (news : List Value) (hs : Src P i.size tx x 0 news w) :
    (Builtin.append_ #[t, tx] ty #[.slice (some a) sLen sCap, x]).run P w = .ok (.slice (some a) sLen sCap) w := by
  have h0 : news = [] := by have := hs.newsLen; simp at this; exact this
  subst h0
  rcases hs.kind with ⟨e', hk⟩ | hk <;> simp [Builtin.append_, run_underlying ht, run_underlying hk, sizeOf, typeInfo, hi, hs.len, hs.cells, hl, storeCells]

theorem app_toList (a b : Seq) : (a.app b).toList = a.toList ++ b.toList := rfl

/-- the rows of two, one behind the other -/
theorem Cells.app {n m sz : Nat} {es es' : List (List AV)} {vals vals' : Nat → Nat → Value} (h : Cells M w loc n sz es vals) (h' : Cells M w loc m sz es' vals') :
    Cells M w loc (n + m) sz (es ++ es') (fun i j => if i < n then vals i j else vals' (i - n) j) := by
  refine ⟨by simp [h.len, h'.len], fun i hi => ?_, fun i j hi hj => ?_⟩
  · by_cases e : i < es.length
    · rw [List.getElem_append_left e]; exact h.each i e
    · rw [List.getElem_append_right (by omega)]; exact h'.each _ _
  · have hn := h.len
    by_cases e : i < es.length
    · have := h.rel i j e (by rw [List.getElem_append_left e] at hj; exact hj)
      simp only [List.getElem_append_left e, if_pos (show i < n by omega)]; exact this
    · have hj' := hj
      rw [List.getElem_append_right (by omega)] at hj'
      have := h'.rel (i - es.length) j (by simp at hi; omega) hj'
      simp only [List.getElem_append_right (show es.length ≤ i by omega), if_neg (show ¬ i < n by omega)]
      subst hn; exact this

/-- A NEW ROW: what append makes where there is no room. -/
theorem new_row (hr : Rel M loc H w) {n sz : Nat} (hsz : 1 ≤ sz) {s : Seq} {vals : Nat → Nat → Value} (hc : Cells M w loc n sz s.toList vals) {cs : Array Value} {T : TypeId} (cap : Nat) (hcap : n ≤ cap)
    (hcs : cs.size = cap * sz) (hcells : ∀ k, k < n * sz → cs[k]? = some (vals (k / sz) (k % sz))) (hK : K (.sl sz s (.tok H.length)) (H ++ [.tok])) :
    GoodV P M loc H w K (.ok (.slice (some ⟨w.heap.size, 0, none⟩) n cap) (w.alloc (.cells cs T))) := by
  have hle : n * sz ≤ cap * sz := Nat.mul_le_mul_right sz hcap
  have hk := keeps_alloc hr (.cells cs T) (n * sz) (some (.tok w.heap.size (n * sz)))
  obtain ⟨r1, r2⟩ := hr.new (.cells cs T) (n * sz) (fun _ => ⟨_, T, (0, 0), rfl, by omega⟩) (.tok w.heap.size (n * sz)) .tok (.inr rfl)
    (.inr ⟨w.heap.size, n * sz, _, T, (0, 0), rfl, hr.base, by simp [Mem.grow], heap_alloc_new _ _, fun k _ h => by omega⟩)
  refine ⟨_, _, _, _, _, _, rfl, hK, r1, ?_, r2⟩
  have hg := VRel.sl (M := M.grow w.heap.size (n * sz)) (w := w.alloc (.cells cs T)) (loc := locSet loc H.length (.tok w.heap.size (n * sz))) sz s (.tok H.length) w.heap.size 0 cap vals
    hc.each
    (fun i j hi hj => by
      rw [hc.len] at hi
      have h3 := Nat.mul_le_mul_right sz (show i + 1 ≤ n from hi)
      rw [Nat.succ_mul] at h3
      refine ⟨?_, .inr ?_⟩
      · rw [cell_eq (heap_alloc_new _ _), Nat.zero_add, hcells _ (by omega)]
        have e1 : (i * sz + j) / sz = i := by rw [Nat.mul_comm, Nat.mul_add_div (by omega), Nat.div_eq_of_lt hj]; rfl
        have e2 : (i * sz + j) % sz = j := by rw [Nat.mul_comm, Nat.mul_add_mod, Nat.mod_eq_of_lt hj]
        rw [e1, e2]
      · simp only [Mem.grow, if_true]; omega)
    (fun i j hi hj => (hc.rel i j hi hj).keeps hk)
    (by rw [hc.len]; exact hcap) (by intro h; cases h) (fun h => by cases h)
    (fun id hid => by
      cases hid
      refine .inr ⟨?_, _, T, (0, 0), heap_alloc_new _ _, ?_⟩
      · simp [locSet, hc.len]
      · omega)
  rw [hc.len] at hg
  exact hg

theorem GoodV.drop_first (id : Nat) (hr : Rel M loc H w) {r : Result Value} (h : GoodV P M loc (H.set id .gone) w K r) : GoodV P M loc H w K r := by
  obtain ⟨v, w', av, H', M', loc', e, hK, r1, r2, r3⟩ := h
  exact ⟨v, w', av, H', M', loc', e, hK, r1, r2, (hr.drop id).2.trans r3⟩

theorem GoodV.same_first {w1 : World} (hs : SameMem w w1) (hr : Rel M loc H w) {r : Result Value} (h : GoodV P M loc H w1 K r) : GoodV P M loc H w K r := by
  obtain ⟨v, w', av, H', M', loc', e, hK, r1, r2, r3⟩ := h
  exact ⟨v, w', av, H', M', loc', e, hK, r1, r2, (hr.same hs).2.trans r3⟩

theorem drew_same (w : World) : SameMem w w.drew := ⟨rfl, rfl, rfl, rfl⟩

theorem grow_cells {n sz : Nat} (vals : Nat → Nat → Value) (m : Nat) (vals' : Nat → Nat → Value) (hsz : 1 ≤ sz) (zs : Array Value) :
    ∀ k, k < (n + m) * sz → ((flatVals n sz vals ++ flatVals m sz vals').toArray ++ zs)[k]? = some ((fun i j => if i < n then vals i j else vals' (i - n) j) (k / sz) (k % sz)) := by
  intro k hk
  rw [Nat.add_mul] at hk
  have hm : k % sz < sz := Nat.mod_lt _ (by omega)
  have e : k / sz * sz + k % sz = k := by rw [Nat.mul_comm]; exact Nat.div_add_mod k sz
  rw [Array.getElem?_append_left (by simp [flatVals_length]; omega)]
  rw [List.getElem?_toArray]
  by_cases h : k < n * sz
  · have hi : k / sz < n := Nat.div_lt_of_lt_mul (by rwa [Nat.mul_comm] at h)
    rw [List.getElem?_append_left (by rw [flatVals_length]; exact h)]
    have := flatVals_get (vals := vals) hi hm
    rw [e] at this
    simp only [this, if_pos hi]
  · rw [List.getElem?_append_right (by rw [flatVals_length]; omega), flatVals_length]
    have hge : n ≤ k / sz := (Nat.le_div_iff_mul_le (by omega)).2 (by omega)
    have hi : k / sz - n < m := by
      have : k / sz < n + m := Nat.div_lt_of_lt_mul (by rw [Nat.mul_comm, Nat.add_mul]; exact hk)
      omega
    have := flatVals_get (vals := vals') hi hm
    have h9 := Nat.mul_le_mul_right sz hge
    have e3 : (k / sz - n) * sz + k % sz = k - n * sz := by rw [Nat.sub_mul]; omega
    rw [e3] at this
    simp only [this, if_neg (show ¬ k / sz < n by omega)]

/-- WHERE THERE IS NO ROOM. -/
theorem append_grow {t tx ty e : TypeId} {i : TypeInfo} {z : Value} (ht : P.underlying t = some (.slice e)) (hi : P.info? e = some i) (hz : i.zero = some z) (hzs : z.cells.size = i.size) (hsz : 1 ≤ i.size)
    (hr : Rel M loc H w) {base : Option Addr} {sCap : Nat} {s s' : Seq} {vals vals' : Nat → Nat → Value} (hc : Cells M w loc s.toList.length i.size s.toList vals)
    (hold : (Builtin.firstCells i.size s.toList.length (.slice base s.toList.length sCap)).run P w.drew = .ok (flatVals s.toList.length i.size vals).toArray w.drew)
    {x : Value} (hs : Src P i.size tx x s'.toList.length (flatVals s'.toList.length i.size vals') w) (hc' : Cells M w loc s'.toList.length i.size s'.toList vals')
    (hg : sCap < s.toList.length + s'.toList.length) (hfit : (s.toList.length + s'.toList.length) * i.bytes ≤ 140737488351232) (h63 : s.toList.length + s'.toList.length ≤ 9223372036854775807)
    (hK : K (.sl i.size (s.app s') (.tok H.length)) (H ++ [.tok])) :
    GoodV P M loc H w K ((Builtin.append_ #[t, tx] ty #[.slice base s.toList.length sCap, x]).run P w) := by
  rw [run_append_grow_src w t tx ty e i z ht hi hz base _ sCap _ hold x _ _ hs hg (by omega) (growslice_fits hg (by omega))]
  have hsame := drew_same w
  have hr' := (hr.same hsame).1
  have hkd := hsame.keeps M loc
  have hca := (hc.app hc').keeps hkd
  have hlen : (s.app s').toList.length = s.toList.length + s'.toList.length := by rw [app_toList, List.length_append]
  have hcap := Question.cut_ge (w := w) (n := s.toList.length + s'.toList.length) (o := sCap) (e := e)
  have hzc : (Builtin.zeroCells z.cells (grownCap w (s.toList.length + s'.toList.length) sCap e - (s.toList.length + s'.toList.length))).size = (grownCap w (s.toList.length + s'.toList.length) sCap e - (s.toList.length + s'.toList.length)) * i.size := by
    simp [Builtin.zeroCells, hzs]
  refine GoodV.same_first hsame hr ?_
  refine new_row (w := w.drew) (T := e) hr' hsz (s := s.app s') (n := s.toList.length + s'.toList.length) hca _ hcap ?_ (grow_cells vals _ vals' hsz _) hK
  simp only [Array.size_append, List.size_toArray, List.length_append, flatVals_length, hzc]
  rw [← Nat.add_mul, ← Nat.add_mul]
  congr 1; omega

/-- A NEW ROW that may be written. -/
theorem new_arr (hr : Rel M loc H w) {n sz : Nat} (hsz : 1 ≤ sz) {s : Seq} {vals : Nat → Nat → Value} (hc : Cells M w loc n sz s.toList vals) {cs : Array Value} {T : TypeId} (cap : Nat) (hcap : n ≤ cap)
    (hcs : cs.size = cap * sz) (hcells : ∀ k, k < n * sz → cs[k]? = some (vals (k / sz) (k % sz))) (hK : K (.msl sz H.length 0 n) (H ++ [.arr sz s])) :
    GoodV P M loc H w K (.ok (.slice (some ⟨w.heap.size, 0, none⟩) n cap) (w.alloc (.cells cs T))) := by
  have hle : n * sz ≤ cap * sz := Nat.mul_le_mul_right sz hcap
  have hk := keeps_alloc hr (.cells cs T) 0 (some (.blk w.heap.size))
  obtain ⟨r1, r2⟩ := hr.new (.cells cs T) 0 (fun h => absurd h (Nat.lt_irrefl 0)) (.blk w.heap.size) (.arr sz s) (.inr rfl)
    ⟨w.heap.size, cs, T, (0, 0), rfl, hr.base, by simp [Mem.grow], heap_alloc_new _ _, fun k _ h => by omega, by rw [hc.len]; omega, hc.each, fun i j hi hj => by
      have hin : i < n := by rw [← hc.len]; exact hi
      have hjn : j < sz := by rw [← hc.each i hi]; exact hj
      have h3 := Nat.mul_le_mul_right sz (show i + 1 ≤ n from hin)
      rw [Nat.succ_mul] at h3
      have e1 : (i * sz + j) / sz = i := by rw [Nat.mul_comm, Nat.mul_add_div (by omega), Nat.div_eq_of_lt hjn]; rfl
      have e2 : (i * sz + j) % sz = j := by rw [Nat.mul_comm, Nat.mul_add_mod, Nat.mod_eq_of_lt hjn]
      refine ⟨vals i j, ?_, (hc.rel i j hi hj).keeps hk⟩
      rw [hcells _ (by omega), e1, e2]⟩
  have hg := VRel.msl (M := M.grow w.heap.size 0) (w := w.alloc (.cells cs T)) (loc := locSet loc H.length (.blk w.heap.size)) sz H.length 0 n w.heap.size cap (by simp [locSet]) hcap
    ⟨cs, T, (0, 0), heap_alloc_new _ _, by rw [Nat.zero_add]; omega⟩
  rw [Nat.zero_mul] at hg
  exact ⟨_, _, _, _, _, _, rfl, hK, r1, hg, r2⟩

theorem append_grow_mu {t tx ty e : TypeId} {i : TypeInfo} {z : Value} (ht : P.underlying t = some (.slice e)) (hi : P.info? e = some i) (hz : i.zero = some z) (hzs : z.cells.size = i.size) (hsz : 1 ≤ i.size)
    (hr : Rel M loc H w) {base : Option Addr} {s' : Seq} {vals' : Nat → Nat → Value}
    (hold : (Builtin.firstCells i.size 0 (.slice base 0 0)).run P w.drew = .ok #[] w.drew)
    {x : Value} (hs : Src P i.size tx x s'.toList.length (flatVals s'.toList.length i.size vals') w) (hc' : Cells M w loc s'.toList.length i.size s'.toList vals')
    (hg : 0 < s'.toList.length) (hfit : s'.toList.length * i.bytes ≤ 140737488351232) (h63 : s'.toList.length ≤ 9223372036854775807)
    (hK : K (.msl i.size H.length 0 s'.toList.length) (H ++ [.arr i.size s'])) :
    GoodV P M loc H w K ((Builtin.append_ #[t, tx] ty #[.slice base 0 0, x]).run P w) := by
  rw [run_append_grow_src w t tx ty e i z ht hi hz base _ 0 _ hold x _ _ hs (by omega) (by omega) (growslice_fits (by omega) (by rw [Nat.zero_add]; omega))]
  have hsame := drew_same w
  have hr' := (hr.same hsame).1
  have hkd := hsame.keeps M loc
  have hcap := Question.cut_ge (w := w) (n := 0 + s'.toList.length) (o := 0) (e := e)
  have hzc : (Builtin.zeroCells z.cells (grownCap w (0 + s'.toList.length) 0 e - (0 + s'.toList.length))).size = (grownCap w (0 + s'.toList.length) 0 e - (0 + s'.toList.length)) * i.size := by
    simp [Builtin.zeroCells, hzs]
  rw [Nat.zero_add] at *
  refine GoodV.same_first hsame hr ?_
  refine new_arr (w := w.drew) (T := e) hr' hsz (s := s') (n := s'.toList.length) (hc'.keeps hkd) _ hcap ?_ ?_ hK
  · simp only [Array.size_append, List.size_toArray, flatVals_length, hzc]
    rw [List.nil_append, flatVals_length, ← Nat.add_mul]
    congr 1; omega
  · intro k hk
    have := grow_cells (n := 0) (sz := i.size) (fun _ _ => undef) s'.toList.length vals' hsz (Builtin.zeroCells z.cells (grownCap w s'.toList.length 0 e - s'.toList.length)) k (by rw [Nat.zero_add]; exact hk)
    simpa [flatVals] using this

theorem extract2 {α : Type _} (vs : Array α) (a b : α) (h : vs.toList = [a, b]) : vs = #[a, b] := by
  cases vs; simp at h; simp [h]

theorem aappend_sound {ts : Array TypeId} {T : TypeId} {xs : List AV} {vs : Array Value} {mu : Bool} (h : aappend P mu ts.toList xs H K) (hr : Rel M loc H w) (hv : VRels M w loc xs vs) :
    GoodV P M loc H w K ((Builtin.append_ ts T vs).run P w) := by
  unfold aappend at h
  split at h
  case h_2 => exact h.elim
  case h_1 t t' sz s tip x hts =>
  have hts' : ts = #[t, t'] := extract2 _ _ _ hts
  subst hts'
  obtain ⟨hs, hv⟩ := hv
  have hv0 := hv 0 (by simp)
  have hv1 := hv 1 (by simp)
  simp only [List.getElem_cons_zero, List.getElem_cons_succ] at hv0 hv1
  have hvs : vs = #[vs[0]'(by simp at hs; omega), vs[1]'(by simp at hs; omega)] := by
    apply Array.ext
    · simpa using hs
    · intro i h1 h2
      have : i < 2 := by simpa using h2
      match i, this with
      | 0, _ => rfl
      | 1, _ => rfl
  generalize vs[0]'(by simp at hs; omega) = v0 at hv0 hvs
  generalize vs[1]'(by simp at hs; omega) = v1 at hv1 hvs
  subst hvs
  clear hv hs
  split at h
  case h_2 => exact h.elim
  case h_1 e hu hsk =>
  split at h
  case h_2 => exact h.elim
  case h_1 n by_ z hn hby hz =>
  obtain ⟨hb, hq1⟩ := chk_elim h
  clear h
  simp only [Bool.and_eq_true] at hb
  have hn1 := Nat.le_of_ble_eq_true hb.1.1.1
  have hzl := Nat.eq_of_beq_eq_true hb.1.2
  have hby1 := Nat.le_of_ble_eq_true hb.2
  obtain ⟨zv, hzrun, rfl, i, hi, hiz⟩ := zeroT_run hz w
  have hisz : i.size = n := by
    obtain ⟨i', hi', e'⟩ := sizeT_info hn
    rw [hi] at hi'; cases hi'; exact e'
  have hiby : i.bytes = by_ := by
    obtain ⟨i', hi', e'⟩ := bytesT_info hby
    rw [hi] at hi'; cases hi'; exact e'
  subst hisz
  subst hiby
  have hzs : zv.cells.size = i.size := by simpa using hzl
  obtain ⟨d, hu', hkind⟩ : ∃ d, P.underlying t' = some d ∧ ((∃ e', d = .slice e') ∨ d = .string) := by
    unfold srcKind at hsk
    split at hsk
    · rename_i e' hu'; exact ⟨_, hu', .inl ⟨_, rfl⟩⟩
    · rename_i hu'; exact ⟨_, hu', .inr rfl⟩
    · cases hsk
  obtain ⟨s', hq2, hsrcs⟩ := appendedP_elim hr hn1 hq1 hv1 hu' hkind
  clear hq1
  obtain ⟨hone, hq3⟩ := onesP_elim hq2
  clear hq2
  obtain ⟨hfit, hL⟩ := needP_elim hq3
  clear hq3
  rw [Seq.len_eq, Seq.len_eq] at hfit
  obtain ⟨vals', hsrc, hc'⟩ := hsrcs hone
  have hsum : s.toList.length + s'.toList.length ≤ 140737488351232 := Nat.le_trans (Nat.le_mul_of_pos_right _ hby1) hfit
  have hsz0 : s.toList = [] ∨ i.size = sz := by
    have hb := hb.1.1.2
    rw [Bool.or_eq_true] at hb
    rcases hb with hb | hb
    · exact .inr (Nat.eq_of_beq_eq_true hb)
    · left
      cases s with
      | raw l => cases l with
        | nil => rfl
        | cons => cases hb
      | _ => cases hb
  have happ0 : s'.toList.length = 0 → (s.app s').toList = s.toList := by
    intro h0
    rw [app_toList, List.length_eq_zero_iff.1 h0, List.append_nil]
  -- a token without a place: nothing is appended to what is full
  have hX : ∀ (H1 : List AObj), Rel M loc H1 w → s'.toList.length = 0 → (∀ x : Tip, x = .nil ∨ x = .none ∨ x = .full ∨ ∃ id, x = .tok id) → (v0 = .slice none 0 0 ∧ s.toList = [] ∨ ∃ a, v0 = .slice (some a) s.toList.length s.toList.length ∧
      VRel M (w) (locSet loc H1.length .xtok) (.sl i.size (s.app s') (.tok H1.length)) v0) → K (.sl i.size (s.app s') (.tok H1.length)) (H1 ++ [.tok]) →
      GoodV P M loc H1 w K ((Builtin.append_ #[t, t'] T #[v0, v1]).run P w) := by
    intro H1 hr1 h0 _ hcase hK
    rw [h0] at hsrc
    obtain ⟨r1, r2⟩ := hr1.xtok
    rcases hcase with ⟨rfl, hs0⟩ | ⟨a, rfl, hvr⟩
    · rw [run_append_nothing t t' T e i hu hi 0 v1 _ hsrc]
      exact ⟨_, _, _, _, _, _, rfl, hK, r1, .slnil _ _ _ (by rw [happ0 h0, hs0]) (fun id hid => by cases hid; simp [locSet]), r2⟩
    · rw [run_append_nothing' t t' T e i hu hi a _ _ (Nat.le_refl _) v1 _ hsrc]
      exact ⟨_, _, _, _, _, _, rfl, hK, r1, hvr, r2⟩
  have hG : ∀ (H1 : List AObj), Rel M loc H1 w → (∀ a l c, v0 = .slice a l c → c < l + s'.toList.length) → K (.sl i.size (s.app s') (.tok H1.length)) (H1 ++ [.tok]) →
      GoodV P M loc H1 w K ((Builtin.append_ #[t, t'] T #[v0, v1]).run P w) := by
    intro H1 hr1 hg hK
    cases hv0 with
    | slnil _ _ _ hs0 _ =>
      have hc0 : Cells M w loc s.toList.length i.size s.toList (fun _ _ => undef) := ⟨rfl, fun i h => by rw [hs0] at h; simp at h, fun i j h => by rw [hs0] at h; simp at h⟩
      have hg0 := hg _ _ _ rfl
      have hl0 : s.toList.length = 0 := by rw [hs0]; rfl
      have := append_grow (base := none) (sCap := 0) (ty := T) hu hi hiz hzs hn1 hr1 hc0 (by rw [hl0]; simp [Builtin.firstCells, flatVals]) hsrc hc' (by omega) hfit (by omega) hK
      rw [hl0] at this
      exact this
    | slz _ _ _ ad hs0 _ _ =>
      have hc0 : Cells M w loc s.toList.length i.size s.toList (fun _ _ => undef) := ⟨rfl, fun i h => by rw [hs0] at h; simp at h, fun i j h => by rw [hs0] at h; simp at h⟩
      have hg0 := hg _ _ _ rfl
      have hl0 : s.toList.length = 0 := by rw [hs0]; rfl
      have := append_grow (base := some ad) (sCap := 0) (ty := T) hu hi hiz hzs hn1 hr1 hc0 (by rw [hl0]; (simp [Builtin.firstCells, flatVals, loadCells]; rfl)) hsrc hc' (by omega) hfit (by omega) hK
      rw [hl0] at this
      exact this
    | sl _ _ _ b o cap vals hz h1 h2 hcap hnil hfull htok =>
      have hg0 := hg _ _ _ rfl
      have hz' : ∀ (j : Nat) (h : j < s.toList.length), s.toList[j].length = i.size := by
        intro j h
        rcases hsz0 with e | e
        · rw [e] at h; simp at h
        · rw [e]; exact hz j h
      have hc0 : Cells M w loc s.toList.length i.size s.toList vals := ⟨rfl, hz', h2⟩
      refine append_grow (ty := T) hu hi hiz hzs hn1 hr1 hc0 ?_ hsrc hc' hg0 hfit (by omega) hK
      refine run_firstCells_some w.drew i.size _ _ _ _ _ (flatVals_length _ _ _) ?_
      intro j v hj
      have hjl : j < s.toList.length * i.size := by
        have := (List.getElem?_eq_some_iff.1 hj).1
        rwa [flatVals_length] at this
      have hi2 : j / i.size < s.toList.length := Nat.div_lt_of_lt_mul (by rwa [Nat.mul_comm] at hjl)
      have hm : j % i.size < i.size := Nat.mod_lt _ (by omega)
      have e2 : j / i.size * i.size + j % i.size = j := by rw [Nat.mul_comm]; exact Nat.div_add_mod j _
      have hg := flatVals_get (vals := vals) hi2 hm
      rw [e2] at hg
      rw [hg] at hj
      cases hj
      have hsz : i.size = sz := by
        rcases hsz0 with e | e
        · rw [e] at hi2; simp at hi2
        · exact e
      have := (h1 (j / i.size) (j % i.size) hi2 (by omega)).1
      rw [Nat.add_assoc, ← hsz, e2] at this
      rw [add_mk]
      exact this
  have hfin : ∀ (H1 : List AObj), Rel M loc H1 w → (∀ cap b o, v0 = .slice (some ⟨b, o, none⟩) s.toList.length cap → s.toList.length + s'.toList.length ≤ cap → cap = s.toList.length) →
      K (.sl i.size (s.app s') (.tok H1.length)) (H1 ++ [.tok]) → GoodV P M loc H1 w K ((Builtin.append_ #[t, t'] T #[v0, v1]).run P w) := by
    intro H1 hr1 hcapfull hK
    have hall : ∀ x : Tip, x = .nil ∨ x = .none ∨ x = .full ∨ ∃ id, x = .tok id := by intro x; cases x <;> simp
    cases hv0 with
    | slnil _ _ _ hs0 ht =>
      by_cases h0 : s'.toList.length = 0
      · exact hX H1 hr1 h0 hall (.inl ⟨rfl, hs0⟩) hK
      · exact hG H1 hr1 (fun a l c e => by cases e; omega) hK
    | slz _ _ _ ad hs0 hnl ht =>
      by_cases h0 : s'.toList.length = 0
      · exact hX H1 hr1 h0 hall (.inr ⟨ad, by rw [hs0]; rfl, .slz _ _ _ ad (by rw [happ0 h0, hs0]) (by intro h; cases h) (fun id hid => by cases hid; simp [locSet])⟩) hK
      · exact hG H1 hr1 (fun a l c e => by cases e; omega) hK
    | sl _ _ _ b o cap vals hz h1 h2 hcap hnil hfull htok =>
      by_cases hroom : s.toList.length + s'.toList.length ≤ cap
      · have hce := hcapfull cap b o rfl hroom
        have h0 : s'.toList.length = 0 := by omega
        subst hce
        refine hX H1 hr1 h0 hall (.inr ⟨_, rfl, ?_⟩) hK
        have hk : Keeps M w loc M w (locSet loc H1.length .xtok) := ⟨fun _ _ _ h => h, fun _ cs _ fr h => ⟨cs, fr, h, rfl⟩, fun j l hl => by
          have := hr1.lt hl
          simp only [locSet]; rw [if_neg (Nat.ne_of_lt this)]; exact hl⟩
        have e0 := happ0 h0
        have hz' : ∀ (j : Nat) (h : j < s.toList.length), s.toList[j].length = i.size := by
          intro j h
          rcases hsz0 with e | e
          · rw [e] at h; simp at h
          · rw [e]; exact hz j h
        have hg := VRel.sl (M := M) (w := w) (loc := locSet loc H1.length .xtok) i.size (s.app s') (.tok H1.length) b o s.toList.length vals
          (fun j hj => by simp only [e0] at hj ⊢; exact hz' j hj)
          (fun j q hj hq => by
            rw [e0] at hj
            have hsz : i.size = sz := by
              rcases hsz0 with e | e
              · rw [e] at hj; simp at hj
              · exact e
            rw [hsz] at hq ⊢
            exact h1 j q hj hq)
          (fun j q hj hq => by simp only [e0] at hj hq ⊢; exact (h2 j q hj hq).keeps hk)
          (by rw [e0]; exact Nat.le_refl _) (by intro h; cases h) (fun h => by cases h) (fun id hid => by cases hid; exact .inl ⟨by simp [locSet], by rw [e0]⟩)
        rw [e0] at hg
        exact hg
      · exact hG H1 hr1 (fun a l c e => by cases e; omega) hK
  cases mu with
  | true =>
    obtain ⟨hb2, hL⟩ := chk_elim hL
    rw [Bool.and_eq_true] at hb2
    obtain ⟨h1, hK⟩ := needP_elim hL
    rw [Seq.len_eq] at h1 hK
    have hs0 : s.toList = [] := by
      have hb := hb2.1
      cases s with
      | raw l => cases l with
        | nil => rfl
        | cons => cases hb
      | _ => cases hb
    have hfit2 : s'.toList.length * i.bytes ≤ 140737488351232 := by rw [hs0] at hfit; simpa using hfit
    cases hv0 with
    | slnil _ _ _ _ _ => exact append_grow_mu (base := none) (ty := T) hu hi hiz hzs hn1 hr (by simp [Builtin.firstCells]) hsrc hc' h1 hfit2 (by omega) hK
    | slz _ _ _ ad _ _ _ => exact append_grow_mu (base := some ad) (ty := T) hu hi hiz hzs hn1 hr (by (simp [Builtin.firstCells, loadCells]; rfl)) hsrc hc' h1 hfit2 (by omega) hK
    | sl _ _ _ b o cap vals hz h1 h2 hcap hnil hfull htok =>
      have hf : tip = .full := by
        have := hb2.2
        cases tip with
        | nil => exact (hnil rfl).elim
        | full => rfl
        | _ => cases this
      have hc0 := hfull hf
      rw [hs0] at hc0
      simp only [List.length_nil] at hc0
      subst hc0
      have hl0 : s.toList.length = 0 := by rw [hs0]; rfl
      rw [hl0]
      exact append_grow_mu (base := some ⟨b, o, none⟩) (ty := T) hu hi hiz hzs hn1 hr (by (simp [Builtin.firstCells, loadCells]; rfl)) hsrc hc' (by assumption) hfit2 (by omega) hK
  | false =>
  cases tip with
  | none => exact hL.elim
  | nil =>
    refine hfin H hr (fun cap b o hv hroom => ?_) hL
    subst hv
    generalize hq : Value.slice (some ⟨b, o, none⟩) s.toList.length cap = q at hv0
    cases hv0 with
    | slnil => cases hq
    | sl _ _ _ b o cap vals hz h1 h2 hcap hnil hfull htok => exact (hnil rfl).elim
    | slz _ _ _ _ _ hnil _ => exact (hnil rfl).elim
  | full =>
    refine hfin H hr (fun cap b o hv hroom => ?_) hL
    subst hv
    generalize hq : Value.slice (some ⟨b, o, none⟩) s.toList.length cap = q at hv0
    cases hv0 with
    | slnil => cases hq
    | slz _ _ _ ad hs0 _ _ => injection hq with q1 q2 q3; omega
    | sl _ _ _ b' o' cap' vals hz h1 h2 hcap hnil hfull htok => cases hq; exact hfull rfl
  | tok id =>
    simp only at hL
    split at hL
    case h_2 => exact hL.elim
    case h_1 hid =>
    obtain ⟨hsz, h⟩ := chk_elim hL
    have hsz := Nat.eq_of_beq_eq_true hsz
    have hlen : (H.set id .gone).length = H.length := by simp
    have hK1 : K (.sl i.size (s.app s') (.tok (H.set id AObj.gone).length)) (H.set id .gone ++ [.tok]) := by rw [hlen]; exact h
    have hrd := (hr.drop id).1
    by_cases hplace : ∃ b e0, loc id = some (.tok b e0) ∧ ∃ o cap, v0 = .slice (some ⟨b, o, none⟩) s.toList.length cap ∧ s.toList.length + s'.toList.length ≤ cap ∧ cap ≠ s.toList.length
    · -- in place
      obtain ⟨b, e0, hloc, o, cap, hveq, hroom, hne⟩ := hplace
      subst hveq
      generalize hq : Value.slice (some ⟨b, o, none⟩) s.toList.length cap = q at hv0
      cases hv0 with
      | slnil => cases hq
      | slz _ _ _ ad hs0 _ _ => injection hq with q1 q2 q3; omega
      | sl _ _ _ b' o' cap' vals hz h1 h2 hcap hnil hfull htok =>
      injection hq with q1 q2 q3
      injection q1 with q1
      injection q1 with q4 q5 q6
      subst q3; subst q4; subst q5
      rcases htok id rfl with ⟨hx, _⟩ | ⟨hx, cs, T', fr, hbk, hfitb⟩
      · rw [hloc] at hx; cases hx
      rw [hloc] at hx
      injection hx with hx
      injection hx with _ he0
      have hsoft : soft cs fr := by
        have := hr.objs id _ hid
        rw [hloc] at this
        rcases this with e1 | ⟨b2, e1, vs2, T2, fr2, e2, g1, g2, g3, g4⟩
        · cases e1
        · cases e2; rw [hbk] at g3; cases g3; exact g4
      subst hsz
      have hnl : (flatVals s'.toList.length i.size vals').length = s'.toList.length * i.size := flatVals_length _ _ _
      have hle : (s.toList.length + s'.toList.length) * i.size ≤ cap * i.size := Nat.mul_le_mul_right _ hroom
      rw [Nat.add_mul] at hle
      have hfit2 : o + s.toList.length * i.size + (flatVals s'.toList.length i.size vals').length ≤ cs.size := by rw [hnl]; omega
      rw [run_append_room_all t t' T e i hu hi b o s.toList.length cap v1 s'.toList.length _ hsrc hroom hbk hsoft hfit2]
      have hget := storeAll_get (flatVals s'.toList.length i.size vals') cs (o + s.toList.length * i.size)
      obtain ⟨r1, r2⟩ := hr.extend id b (o + s.toList.length * i.size) (o + (s.toList.length + s'.toList.length) * i.size) cs (storeAll cs (o + s.toList.length * i.size) (flatVals s'.toList.length i.size vals')) T' fr hid (by rw [hloc, he0]) hbk
        (by rw [Nat.add_mul]; omega) (storeAll_size _ _ _) (by rw [storeAll_size, Nat.add_mul]; omega)
        (fun k hk => by rw [hget k hfit2, if_neg (by omega)])
      have hk := r2.keeps hr
      have hlt := cells_lt hbk
      have hbase := ((hr.objs id _ hid).block_lt (by intro h; cases h) (b := b) (by rw [hloc]; rfl)).2
      refine ⟨_, _, _, _, _, _, rfl, h, r1, ?_, r2⟩
      have hc1 : Cells M w loc s.toList.length i.size s.toList vals := ⟨rfl, hz, h2⟩
      have hca := (hc1.app hc').keeps hk
      have hlen2 : (s.app s').toList.length = s.toList.length + s'.toList.length := by rw [app_toList, List.length_append]
      have hg := VRel.sl i.size (s.app s') (.tok H.length) b o cap (fun i j => if i < s.toList.length then vals i j else vals' (i - s.toList.length) j) hca.each
        (fun j q hj hq => by
          rw [hlen2] at hj
          have h9 := Nat.mul_le_mul_right i.size (show j + 1 ≤ s.toList.length + s'.toList.length from hj)
          rw [Nat.succ_mul] at h9
          refine ⟨?_, .inr ?_⟩
          · rw [cell_eq (setBlk_same hlt), hget _ hfit2]
            by_cases hjl : j < s.toList.length
            · have h8 := Nat.mul_le_mul_right i.size (show j + 1 ≤ s.toList.length from hjl)
              rw [Nat.succ_mul] at h8
              rw [if_neg (by omega), if_pos hjl]
              have := (h1 j q hjl hq).1
              rwa [cell_eq hbk] at this
            · have h8 := Nat.mul_le_mul_right i.size (show s.toList.length ≤ j by omega)
              rw [if_pos (by rw [hnl]; rw [Nat.add_mul] at h9; omega), if_neg hjl]
              have := flatVals_get (vals := vals') (n := s'.toList.length) (i := j - s.toList.length) (j := q) (sz := i.size) (by omega) hq
              rw [← this]
              congr 1
              rw [Nat.sub_mul]; omega
          · simp only [Mem.grow, if_true]; omega)
        hca.rel (by rw [hlen2]; exact hroom) (by intro h; cases h) (fun h => by cases h)
        (fun id' hid' => by
          cases hid'
          refine .inr ⟨?_, _, T', fr, setBlk_same hlt, ?_⟩
          · simp [locSet, hlen2]
          · rw [storeAll_size]; exact hfitb)
      rw [hlen2] at hg
      exact hg
    · refine GoodV.drop_first id hr (hfin _ hrd (fun cap b o hv hroom => ?_) hK1)
      subst hv
      generalize hq : Value.slice (some ⟨b, o, none⟩) s.toList.length cap = q at hv0
      cases hv0 with
      | slnil => cases hq
      | slz _ _ _ ad hs0 _ _ => injection hq with q1 q2 q3; omega
      | sl _ _ _ b' o' cap' vals hz h1 h2 hcap hnil hfull htok =>
        injection hq with q1 q2 q3
        injection q1 with q1
        injection q1 with q4 q5 q6
        subst q3; subst q4; subst q5
        rcases htok id rfl with ⟨hx, hc⟩ | ⟨hx, cs, T', fr, hbk, hfitb⟩
        · exact hc
        · apply Decidable.byContradiction
          intro hne
          exact hplace ⟨_, _, hx, _, _, rfl, hroom, hne⟩
end
end Go.Ab
