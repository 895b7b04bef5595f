/- Soundness of copy; of the builtins; of a whole operation. -/
import Derived.Test.YtifbfcljgagacaaDoorAbSound8
set_option linter.unusedVariables false
set_option linter.unusedSimpArgs false
namespace Go.Ab
section
variable {P : Program} {M : Mem} {loc : Locs} {H : List AObj} {w : World} {K : AV → List AObj → Prop}

theorem take_le {α : Type _} (l : List α) (n : Nat) (h : l.length ≤ n) : l.take n = l := List.take_of_length_le h

theorem run_copy_all (t tx ty e : TypeId) {sz : Nat} (ht : P.underlying t = some (.slice e)) (hsz : sizeT P e = some sz) (b off dLen dCap : Nat) (x : Value) (n : Nat) (news : List Value) (hs : Src P sz tx x n news w)
    (hn : n ≤ dLen) {cs : Array Value} {T : TypeId} {fr : Nat × Nat} (hb : w.heap[b]? = some (.cells cs T fr)) (hsoft : soft cs fr) (hfit : off + news.length ≤ cs.size) :
    (Builtin.copy_ #[t, tx] ty #[.slice (some ⟨b, off, none⟩) dLen dCap, x]).run P w = .ok (.int .i64 n) (setBlk w b (.cells (storeAll cs off news) T fr)) := by
  have hst := run_storeAll P b off T fr news 0 cs w hb hsoft (by omega) hs.one
  simp only [Nat.add_zero] at hst
  have hmin : Nat.min n dLen = n := Nat.min_eq_left hn
  simp [Builtin.copy_, run_underlying' ht, run_sizeOf' hsz, hs.len, hmin, hs.cells, hst, goInt]

theorem acopy_sound {ts : Array TypeId} {T : TypeId} {xs : List AV} {vs : Array Value} (h : acopy P ts.toList xs H K) (hr : Rel M loc H w) (hv : VRels M w loc xs vs) :
    GoodV P M loc H w K ((Builtin.copy_ ts T vs).run P w) := by
  unfold acopy at h
  split at h
  case h_2 => exact h.elim
  case h_1 t t' sz id off len x hts =>
  have hts' : ts = #[t, t'] := extract2 _ _ _ hts
  subst hts'
  obtain ⟨hs, hv⟩ := hv
  have hv0 := hv 0 (by simp)
  have hv1 := hv 1 (by simp)
  simp only [List.getElem_cons_zero, List.getElem_cons_succ] at hv0 hv1
  have hvs : vs = #[vs[0]'(by simp at hs; omega), vs[1]'(by simp at hs; omega)] := by
    apply Array.ext
    · simpa using hs
    · intro i h1 h2
      have : i < 2 := by simpa using h2
      match i, this with
      | 0, _ => rfl
      | 1, _ => rfl
  generalize vs[0]'(by simp at hs; omega) = v0 at hv0 hvs
  generalize vs[1]'(by simp at hs; omega) = v1 at hv1 hvs
  subst hvs
  clear hv hs
  split at h
  case h_2 => exact h.elim
  case h_1 e sz' d hu hsk ho =>
  split at h
  case h_2 => exact h.elim
  case h_1 n hn =>
  obtain ⟨hb, hq1⟩ := chk_elim h
  clear h
  simp only [Bool.and_eq_true] at hb
  have e1 := Nat.eq_of_beq_eq_true hb.1.1
  have e2 := Nat.eq_of_beq_eq_true hb.1.2
  have hn1 := Nat.le_of_ble_eq_true hb.2
  subst e1
  subst e2
  obtain ⟨dd, hu', hkind⟩ : ∃ d, P.underlying t' = some d ∧ ((∃ e', d = .slice e') ∨ d = .string) := by
    unfold srcKind at hsk
    split at hsk
    · rename_i e' hu'; exact ⟨_, hu', .inl ⟨_, rfl⟩⟩
    · rename_i hu'; exact ⟨_, hu', .inr rfl⟩
    · cases hsk
  obtain ⟨s, hq2, hsrcs⟩ := appendedP_elim hr hn1 hq1 hv1 hu' hkind
  clear hq1
  obtain ⟨hone, hq3⟩ := onesP_elim hq2
  clear hq2
  obtain ⟨⟨hfit, hlen⟩, hK⟩ := needP_elim hq3
  clear hq3
  rw [Seq.len_eq] at hfit hlen hK
  obtain ⟨vals', hsrc, hc'⟩ := hsrcs hone
  cases hv0 with
  | msl _ _ _ _ b cap hl hle hcb =>
  obtain ⟨cs, T', fr, h1, h2, hbk, hsoft, hds, hdz, hdc⟩ := obj_arr hr hl ho
  have hm1 : (off + len) * n ≤ d.toList.length * n := Nat.mul_le_mul_right n hfit
  have hm2 : s.toList.length * n ≤ len * n := Nat.mul_le_mul_right n hlen
  rw [Nat.add_mul] at hm1
  have hnl : (flatVals s.toList.length n vals').length = s.toList.length * n := flatVals_length _ _ _
  have hfit2 : off * n + (flatVals s.toList.length n vals').length ≤ cs.size := by rw [hnl]; omega
  rw [run_copy_all t t' T e hu hn b (off * n) len cap v1 s.toList.length _ hsrc hlen hbk hsoft hfit2]
  have hlt := cells_lt hbk
  have hsl : s.toList.length ≤ len := hlen
  have hget := storeAll_get (flatVals s.toList.length n vals') cs (off * n)
  have hkeep : Keeps M w loc M (setBlk w b (.cells (storeAll cs (off * n) (flatVals s.toList.length n vals')) T' fr)) loc := by
    refine ⟨?_, ?_, fun _ _ h => h⟩
    · intro c k v hi
      by_cases e : c = b
      · subst e; rcases hi.2 with q | q <;> omega
      · exact ⟨by rw [cell_of_heap (setBlk_other e)]; exact hi.1, hi.2⟩
    · intro c ds T2 fr' hc2
      by_cases e : c = b
      · subst e; rw [hbk] at hc2; cases hc2
        exact ⟨_, fr, setBlk_same hlt, by rw [storeAll_size]⟩
      · exact ⟨ds, fr', by rw [setBlk_other e]; exact hc2, rfl⟩
  have hcl : (copied d off s).toList.length = d.toList.length := by
    simp only [copied, Seq.toList, List.length_append, List.length_take, List.length_drop]; omega
  have hcget : ∀ k (hk : k < (copied d off s).toList.length), (∃ h1 : off ≤ k, ∃ h2 : k - off < s.toList.length, (copied d off s).toList[k] = s.toList[k - off]) ∨
      ((k < off ∨ off + s.toList.length ≤ k) ∧ ∃ h : k < d.toList.length, (copied d off s).toList[k] = d.toList[k]) := by
    intro k hk
    have hkd : k < d.toList.length := by rw [← hcl]; exact hk
    have hg : (copied d off s).toList[k]? = some (copied d off s).toList[k] := List.getElem?_eq_getElem hk
    simp only [copied, Seq.toList] at hg ⊢
    by_cases c1 : k < off
    · right; refine ⟨.inl c1, hkd, ?_⟩
      rw [List.getElem?_append_left (by simp; omega), List.getElem?_take, if_pos c1, List.getElem?_eq_getElem hkd] at hg
      exact (Option.some.inj hg).symm
    · have hmn : min off d.toList.length = off := by omega
      rw [List.getElem?_append_right (by simp; omega)] at hg
      simp only [List.length_take, hmn] at hg
      by_cases c2 : k - off < s.toList.length
      · left; refine ⟨by omega, c2, ?_⟩
        rw [List.getElem?_append_left c2, List.getElem?_eq_getElem c2] at hg
        exact (Option.some.inj hg).symm
      · right; refine ⟨.inr (by omega), hkd, ?_⟩
        rw [List.getElem?_append_right (by omega), List.getElem?_drop] at hg
        rw [show off + s.toList.length + (k - off - s.toList.length) = k by omega, List.getElem?_eq_getElem hkd] at hg
        exact (Option.some.inj hg).symm
  have heach : ∀ k (hk : k < (copied d off s).toList.length), (copied d off s).toList[k].length = n := by
    intro k hk
    rcases hcget k hk with ⟨_, h2, e⟩ | ⟨_, h, e⟩
    · rw [e]; exact hc'.each _ h2
    · rw [e]; exact hdz k h
  have hfin : ∀ k j (hk : k < (copied d off s).toList.length) (hj : j < (copied d off s).toList[k].length),
      ∃ v, (storeAll cs (off * n) (flatVals s.toList.length n vals'))[k * n + j]? = some v ∧ VRel M (setBlk w b (.cells (storeAll cs (off * n) (flatVals s.toList.length n vals')) T' fr)) loc (copied d off s).toList[k][j] v := by
    intro k j hk hj
    have hjn : j < n := by rw [← heach k hk]; exact hj
    rcases hcget k hk with ⟨g1, g2, e⟩ | ⟨g1, g2, e⟩
    · have h8 := Nat.mul_le_mul_right n (show k - off + 1 ≤ s.toList.length from g2)
      rw [Nat.succ_mul, Nat.sub_mul] at h8
      have h9 := Nat.mul_le_mul_right n g1
      rw [hget _ hfit2, if_pos (by rw [hnl]; omega)]
      refine ⟨vals' (k - off) j, ?_, ?_⟩
      · have := flatVals_get (vals := vals') (n := s.toList.length) (i := k - off) (j := j) (sz := n) g2 hjn
        rw [← this]; congr 1; rw [Nat.sub_mul]; omega
      · have := hc'.rel (k - off) j g2 (by rw [← e]; exact hj)
        simp only [e]; exact this.keeps hkeep
    · obtain ⟨v, hv1, hv2⟩ := hdc k j g2 (by rw [← e]; exact hj)
      refine ⟨v, ?_, ?_⟩
      · rw [hget _ hfit2, if_neg ?_]
        · exact hv1
        · rw [hnl]
          rcases g1 with g1 | g1
          · have h8 := Nat.mul_le_mul_right n (show k + 1 ≤ off from g1)
            rw [Nat.succ_mul] at h8; omega
          · have h8 := Nat.mul_le_mul_right n g1
            rw [Nat.add_mul] at h8; omega
      · simp only [e]; exact hv2.keeps hkeep
  obtain ⟨r1, r2⟩ := hr.write id b (.arr n d) (.arr n (copied d off s)) (.cells (storeAll cs (off * n) (flatVals s.toList.length n vals')) T' fr) ho (by intro h; cases h) hl
    (fun ds T2 fr' hd => by rw [hbk] at hd; cases hd; exact ⟨_, fr, rfl, by rw [storeAll_size]⟩)
    ⟨b, _, T', fr, rfl, h1, h2, setBlk_same hlt, fun k hk => hsoft k (by rwa [storeAll_size] at hk), by rw [storeAll_size, hcl]; exact hds, heach, hfin⟩
  exact ⟨_, _, _, _, M, loc, rfl, hK, r1, .int _ _, r2⟩

theorem zeroAV_run {t : TypeId} {z : AV} (h : zeroAV P t = some z) : ∃ v, (zeroValue t).run P w = .ok v w ∧ VRel M w loc z v := by
  unfold zeroAV at h
  cases hi : P.info? t with
  | none => simp [hi] at h
  | some i =>
    cases hz : i.zero with
    | none => simp [hi, hz] at h
    | some v =>
      simp only [hi, hz, Option.bind_some, Option.map_some, Option.some.injEq] at h
      subst h
      have hzt : zeroT P t = some (v.cells.toList.map ofCell) := by simp [zeroT, hi, hz]
      obtain ⟨v', hrun, _, i', hi', hz'⟩ := zeroT_run hzt w
      rw [hi] at hi'; cases hi'
      rw [hz] at hz'; cases hz'
      exact ⟨v, hrun, vrel_const v⟩

theorem atypeAssert_sound {x : AV} {xt asserted : TypeId} {ok : Bool} {v : Value} (h : atypeAssert P x asserted ok (fun v => K v H)) (hr : Rel M loc H w) (hv : VRel M w loc x v) :
    GoodV P M loc H w K ((Instr.typeAssert v xt asserted ok).run P w) := by
  unfold atypeAssert at h
  obtain ⟨hb, h'⟩ := chk_elim h
  clear h
  obtain ⟨d, hu, hd⟩ : ∃ d, P.underlying asserted = some d ∧ ∀ ms, d ≠ .interface ms := by
    unfold ifaceT at hb
    cases hu : P.underlying asserted with
    | none => rw [hu] at hb; cases hb
    | some d => exact ⟨d, rfl, by rintro ms rfl; rw [hu] at hb; cases hb⟩
  have pair : ∀ (a : AV) (u : Value) (b : Bool), VRel M w loc a u → VRel M w loc (.tup [a, .bool b]) (.tuple #[u, .bool b]) := by
    intro a u b hu
    refine .tup _ _ rfl (fun i hi => ?_)
    match i, hi with
    | 0, _ => exact hu
    | 1, _ => exact .bool _
  split at h'
  · rename_i t a
    cases hv with
    | iface _ _ u hu' =>
    cases hq : Nat.beq t asserted with
    | true =>
      rw [hq] at h'
      have e := Nat.eq_of_beq_eq_true hq
      subst e
      have : (Instr.typeAssert (.iface t u) xt t true).run P w = .ok (.tuple #[u, .bool true]) w := by
        cases d <;> first | exact absurd rfl (hd _) | simp [Instr.typeAssert, run_underlying' hu]
      rw [this]
      exact GoodV.pure hr (pair _ _ _ hu') h'
    | false =>
      rw [hq] at h'
      have hne : t ≠ asserted := by rintro rfl; simp at hq
      obtain ⟨z, hz, hK⟩ := optP_elim h'
      obtain ⟨zv, hzr, hzv⟩ := zeroAV_run (w := w) (M := M) (loc := loc) hz
      have : (Instr.typeAssert (.iface t u) xt asserted true).run P w = .ok (.tuple #[zv, .bool false]) w := by
        cases d <;> first | exact absurd rfl (hd _) | simp [Instr.typeAssert, run_underlying' hu, hne, hzr]
      rw [this]
      exact GoodV.pure hr (pair _ _ _ hzv) hK
  · cases hv
    obtain ⟨z, hz, hK⟩ := optP_elim h'
    obtain ⟨zv, hzr, hzv⟩ := zeroAV_run (w := w) (M := M) (loc := loc) hz
    have : (Instr.typeAssert .nilIface xt asserted true).run P w = .ok (.tuple #[zv, .bool false]) w := by
      cases d <;> first | exact absurd rfl (hd _) | simp [Instr.typeAssert, run_underlying' hu, hzr]
    rw [this]
    exact GoodV.pure hr (pair _ _ _ hzv) hK
  · rename_i t a
    obtain ⟨hq, hK⟩ := chk_elim h'
    have e := Nat.eq_of_beq_eq_true hq
    subst e
    cases hv with
    | iface _ _ u hu' =>
    have : (Instr.typeAssert (.iface t u) xt t false).run P w = .ok u w := by
      cases d <;> first | exact absurd rfl (hd _) | simp [Instr.typeAssert, run_underlying' hu]
    rw [this]
    exact GoodV.pure hr hu' hK
  · exact h'.elim

theorem arange_sound {t : TypeId} {x : AV} {v : Value} (h : arange P t x H K) (hr : Rel M loc H w) (hv : VRel M w loc x v) : GoodV P M loc H w K ((Instr.range t v).run P w) := by
  unfold arange at h
  split at h
  case h_2 => exact h.elim
  case h_1 s hu =>
  cases hv
  have e : (Instr.range t (.string s)).run P w = .ok (.pointer (some ⟨w.heap.size, 0, none⟩)) (w.alloc (.stringIter s 0)) := by
    simp [Instr.range, run_underlying' hu, run_newObj]
  rw [e]
  have hn := hr.new (.stringIter s 0) 0 (fun h => absurd h (Nat.lt_irrefl 0)) (.blk w.heap.size) (.siter s 0) (.inr rfl)
    ⟨w.heap.size, rfl, hr.base, by simp [Mem.grow], heap_alloc_new _ _⟩
  exact ⟨_, _, _, _, _, _, rfl, h, hn.1, .ptr _ _ _ (by simp [locSet]), hn.2⟩

theorem anext_sound {str : Bool} {x : AV} {T : TypeId} {v : Value} (h : anext str x H K) (hr : Rel M loc H w) (hv : VRel M w loc x v) : GoodV P M loc H w K ((Instr.next v str T).run P w) := by
  unfold anext at h
  split at h
  case h_2 => exact h.elim
  case h_1 id off =>
  split at h
  case h_2 => exact h.elim
  case h_1 s pos ho =>
  obtain ⟨hb, h⟩ := chk_elim h
  have e0 := Nat.eq_of_beq_eq_true hb
  subst e0
  cases hv with
  | ptr _ _ b hl =>
  have hobj := hr.objs id _ ho
  rw [hl] at hobj
  obtain ⟨b', e, h1, h2, h3⟩ := hobj
  cases e
  by_cases hp : pos < s.size
  · rw [decide_eq_true hp] at h
    have e : (Instr.next (.pointer (some ⟨b, 0, none⟩)) true T).run P w = .ok (.tuple #[.bool true, .int .i64 pos, .int .i32 (Utf8.decode s pos).1]) (setBlk w b (.stringIter s (pos + (Utf8.decode s pos).2))) := by
      simp only [Instr.next, getObj, setObj, Sem.run_bind, Sem.run, h3, Result.andThen, hp, if_true]
      simp [goInt, setBlk, Sem.run]
    rw [e]
    have hw := hr.write id b (.siter s pos) (.siter s (pos + (Utf8.decode s pos).2)) (.stringIter s (pos + (Utf8.decode s pos).2)) ho (by intro h; cases h) hl
      (fun cs T fr hc => by rw [h3] at hc; cases hc) ⟨b, rfl, h1, h2, setBlk_same (cells_lt h3)⟩
    refine ⟨_, _, _, _, M, loc, rfl, h, hw.1, .tup _ _ rfl (fun i hi => ?_), hw.2⟩
    match i, hi with
    | 0, _ => exact .bool _
    | 1, _ => exact .int _ _
    | 2, _ => exact .int _ _
  · rw [decide_eq_false hp] at h
    have e : (Instr.next (.pointer (some ⟨b, 0, none⟩)) true T).run P w = .ok (.tuple #[.bool false]) w := by
      simp [Instr.next, getObj, Sem.run, h3, hp]
    rw [e]
    refine GoodV.pure hr (.tup _ _ rfl (fun i hi => ?_)) h
    match i, hi with
    | 0, _ => exact .bool _

theorem aminmax_sound {mx : Bool} {ts : Array TypeId} {T : TypeId} {xs : List AV} {vs : Array Value} (h : aminmax mx xs (fun v => K v H)) (hr : Rel M loc H w) (hv : VRels M w loc xs vs) :
    GoodV P M loc H w K ((match mx with | true => Builtin.max_ ts T vs | false => Builtin.min_ ts T vs).run P w) := by
  unfold aminmax at h
  split at h
  case h_2 => exact h.elim
  case h_1 k a rest =>
  obtain ⟨hs, hv⟩ := hv
  obtain ⟨l, rfl⟩ : ∃ l : List Value, vs = l.toArray := ⟨vs.toList, by simp⟩
  cases l with
  | nil => simp at hs
  | cons v l =>
    have hv0 := hv 0 (by simp)
    simp only [List.getElem_cons_zero, List.getElem_toArray] at hv0
    cases hv0
    have := amm_sound (P := P) mx k a rest l h hr (by simpa using hs) (fun i h h' => by
      have := hv (i + 1) (by simpa using h)
      simpa using this)
    cases mx with
    | true => exact this
    | false => exact this

end
end Go.Ab
