/- Soundness of loads, stores, boxes, builds, fields, indexes. -/
import Derived.Test.YtifbfcljgagacaaDoorAbSound1
set_option linter.unusedVariables false
set_option linter.unusedSimpArgs false
namespace Go.Ab
section
variable {P : Program} {M : Mem} {loc : Locs} {H : List AObj} {w : World} {K : AV → List AObj → Prop}

theorem chk_elim {b : Bool} {A : Prop} (h : chk b A) : b = true ∧ A := by
  cases b with
  | true => exact ⟨rfl, h⟩
  | false => exact h.elim

theorem optP_elim {α : Type 1} {o : Option α} {K : α → Prop} (h : optP o K) : ∃ a, o = some a ∧ K a := by
  cases o with
  | some a => exact ⟨a, rfl, h⟩
  | none => exact h.elim

theorem seqP_elim {o : Option Seq} {K : Seq → Prop} (h : seqP o K) : ∃ a, o = some a ∧ K a := by
  cases o with
  | some a => exact ⟨a, rfl, h⟩
  | none => exact h.elim

theorem needP_elim {p A : Prop} (h : needP p A) : p ∧ A := ⟨h.1, h.2 h.1⟩

theorem run_sure (a : Addr) (f : Addr → Sem Value) : ((Instr.sureAddr (.pointer (some a))) >>= f).run P w = (f a).run P w := by
  simp [Instr.sureAddr]

theorem cell_eq {b k : Nat} {vs : Array Value} {T : TypeId} {fr : Nat × Nat} (hb : w.heap[b]? = some (.cells vs T fr)) : w.cell? ⟨b, k, none⟩ = vs[k]? := by
  simp [World.cell?, hb]

theorem obj_cells (hr : Rel M loc H w) {id b cs} (hl : loc id = some (.blk b)) (ho : H[id]? = some (.cells cs)) :
    ∃ vs T fr, M.base ≤ b ∧ M.ext b = 0 ∧ w.heap[b]? = some (.cells vs T fr) ∧ soft vs fr ∧ ∃ hs : vs.size = cs.length, ∀ i (h : i < cs.length), VRel M w loc cs[i] (vs[i]'(by omega)) := by
  have := hr.objs id _ ho
  rw [hl] at this
  obtain ⟨b', vs, T, fr, e, rest⟩ := this
  cases e
  exact ⟨vs, T, fr, rest⟩

theorem obj_arr (hr : Rel M loc H w) {id b sz s} (hl : loc id = some (.blk b)) (ho : H[id]? = some (.arr sz s)) :
    ∃ vs T fr, M.base ≤ b ∧ M.ext b = 0 ∧ w.heap[b]? = some (.cells vs T fr) ∧ soft vs fr ∧
      s.toList.length * sz ≤ vs.size ∧ (∀ i (h : i < s.toList.length), s.toList[i].length = sz) ∧
      ∀ i j (h : i < s.toList.length) (hj : j < s.toList[i].length), ∃ v, vs[i * sz + j]? = some v ∧ VRel M w loc s.toList[i][j] v := by
  have := hr.objs id _ ho
  rw [hl] at this
  obtain ⟨b', vs, T, fr, e, rest⟩ := this
  cases e
  exact ⟨vs, T, fr, rest⟩

theorem aload_core {t : TypeId} {a : AV} {v : Value} {K : AV → Prop} (h : aload P t a H K) (hr : Rel M loc H w) (hv : VRel M w loc a v) :
    ∃ addr x av, v = .pointer (some addr) ∧ (loadVar t addr).run P w = .ok x w ∧ VRel M w loc av x ∧ K av := by
  unfold aload at h
  cases hv with
  | ptr id off b hl =>
    simp only at h
    split at h
    · rename_i cs ho
      obtain ⟨av, hp, hK⟩ := optP_elim h
      obtain ⟨vs, T, fr, _, _, hb, _, hs, hc⟩ := obj_cells hr hl ho
      obtain ⟨v, hrun, hv⟩ := load_part (P := P) (M := M) (loc := loc) (w := w) hp b 0 (fun j => vs.getD j undef) (fun j hj => by rw [Nat.zero_add, cell_eq hb]; simp [Array.getD, hs, hj]) (fun j hj => by
        have := hc j hj
        simpa [Array.getD, hs, hj] using this)
      rw [Nat.zero_add] at hrun
      exact ⟨_, _, _, rfl, hrun, hv, hK⟩
    · exact h.elim
  | iptr cs off b o vals h1 h2 =>
    simp only at h
    obtain ⟨av, hp, hK⟩ := optP_elim h
    obtain ⟨v, hrun, hv⟩ := load_part (P := P) hp b o vals (fun j hj => (h1 j hj).1) h2
    exact ⟨_, _, _, rfl, hrun, hv, hK⟩
  | mptr sz id i off b hl =>
    simp only at h
    split at h
    · rename_i sz' s ho
      obtain ⟨e1, ha⟩ := chk_elim h
      have e1 := Nat.eq_of_beq_eq_true e1
      subst e1
      obtain ⟨hi, hb'⟩ := needP_elim ha
      obtain ⟨e2, hd⟩ := chk_elim hb'
      obtain ⟨av, hp, hK⟩ := optP_elim hd
      obtain ⟨vs, T, fr, _, _, hb, _, hs, hz, hc⟩ := obj_arr hr hl ho
      rw [Seq.len_eq] at hi
      rw [Seq.getD_eq s i hi] at hp
      have hcell : ∀ j, j < s.toList[i].length → ∃ v, vs[i * sz + j]? = some v ∧ (∀ hj : j < s.toList[i].length, VRel M w loc s.toList[i][j] v) := fun j hj =>
        let ⟨v, h1, h2⟩ := hc i j hi hj; ⟨v, h1, fun _ => h2⟩
      obtain ⟨v, hrun, hv⟩ := load_part (P := P) (M := M) (loc := loc) (w := w) hp b (i * sz) (fun j => vs.getD (i * sz + j) undef) (fun j hj => by
          obtain ⟨v, h1, _⟩ := hcell j hj
          rw [cell_eq hb, Array.getD_eq_getD_getElem?, h1]; rfl)
        (fun j hj => by
          obtain ⟨v, h1, h2⟩ := hcell j hj
          rw [Array.getD_eq_getD_getElem?, h1]; exact h2 hj)
      exact ⟨_, _, _, rfl, hrun, hv, hK⟩
    · exact h.elim
  | _ => exact h.elim

theorem aload_sound {t : TypeId} {a : AV} {v : Value} (h : aload P t a H (fun x => K x H)) (hr : Rel M loc H w) (hv : VRel M w loc a v) :
    GoodV P M loc H w K ((Instr.loadAt t v).run P w) := by
  obtain ⟨addr, x, av, rfl, hrun, hx, hK⟩ := aload_core h hr hv
  rw [show (Instr.loadAt t (.pointer (some addr))).run P w = (loadVar t addr).run P w from by simp [Instr.loadAt, Instr.sureAddr], hrun]
  exact GoodV.pure hr hx hK

/-- a result of an operation that yields no value -/
def GoodU (P : Program) (M : Mem) (loc : Locs) (H : List AObj) (w : World) (K : List AObj → Prop) (r : Result Unit) : Prop :=
  ∃ w' H' M' loc', r = .ok () w' ∧ K H' ∧ Rel M' loc' H' w' ∧ Step M loc H w M' loc' H' w'

theorem astore_sound {t : TypeId} {a x : AV} {va vx : Value} {K : List AObj → Prop} (h : astore P t a x H K) (hr : Rel M loc H w) (hv : VRel M w loc a va) (hx : VRel M w loc x vx) :
    GoodU P M loc H w K ((Instr.storeAt t va vx).run P w) := by
  unfold astore at h
  split at h
  case h_2 => exact h.elim
  case h_1 xs n hxs hn =>
  obtain ⟨e0, h⟩ := chk_elim h
  rw [Bool.and_eq_true] at e0
  have e1 := Nat.eq_of_beq_eq_true e0.1
  obtain ⟨hus, hu⟩ := cellsOf_rel hxs hx
  have hone : ∀ v ∈ vx.cells.toList, v.oneCell' = true := by
    intro v hvm
    obtain ⟨i, hi, rfl⟩ := List.getElem_of_mem hvm
    have hi' : i < xs.length := by simpa [hus] using hi
    have := List.all_eq_true.1 e0.2 xs[i] (List.getElem_mem _)
    have h3 := hu i hi'
    simp only [Array.getElem_toList]
    exact oneCell_of this h3
  cases hv with
  | ptr id off b hl =>
    simp only at h
    split at h
    · rename_i cs ho
      obtain ⟨e2, hK⟩ := chk_elim h
      have e2 := Nat.le_of_ble_eq_true e2
      obtain ⟨vs, T, fr, h1, h2, hb, hsoft, hs, hc⟩ := obj_cells hr hl ho
      have hrun := run_storeAll P b off T fr vx.cells.toList 0 vs w hb hsoft (by simp; omega) hone
      have hrun' : (Instr.storeAt t (.pointer (some ⟨b, off, none⟩)) vx).run P w = .ok () (setBlk w b (.cells (storeAll vs off vx.cells.toList) T fr)) := by
        simp only [Instr.storeAt, Instr.sureAddr, pure_bind, storeVar, Sem.run_bind, run_sizeOf' hn, Result.andThen_ok]
        rw [if_neg (by omega)]
        simpa using hrun
      have hlt := cells_lt hb
      have hkeep : Keeps M w loc M (setBlk w b (.cells (storeAll vs off vx.cells.toList) T fr)) loc := by
        refine ⟨?_, ?_, fun _ _ h => h⟩
        · intro c k v hi
          by_cases e : c = b
          · subst e; rcases hi.2 with q | q <;> omega
          · exact ⟨by rw [cell_of_heap (setBlk_other e)]; exact hi.1, hi.2⟩
        · intro c ds T' fr' hc'
          by_cases e : c = b
          · subst e; rw [hb] at hc'; cases hc'
            exact ⟨_, fr, setBlk_same hlt, by rw [storeAll_size]⟩
          · exact ⟨ds, fr', by rw [setBlk_other e]; exact hc', rfl⟩
      have hsp := splice_rel (M := M) (w := w) (loc := loc) hs hc hus hu (off := off) (by omega)
      obtain ⟨r1, r2⟩ := hr.write id b (.cells cs) (.cells (splice cs off xs)) (.cells (storeAll vs off vx.cells.toList) T fr) ho (by intro h; cases h) hl
        (fun ds T' fr' hd => by rw [hb] at hd; cases hd; exact ⟨_, fr, rfl, by rw [storeAll_size]⟩)
        ⟨b, _, T, fr, rfl, h1, h2, setBlk_same hlt, fun k hk => hsoft k (by rwa [storeAll_size] at hk), by rw [storeAll_size, splice_length (by omega)]; exact hs, fun i hi => (hsp i hi).keeps hkeep⟩
      exact ⟨_, _, M, loc, hrun', hK, r1, r2⟩
    · exact h.elim
  | mptr sz id i off b hl =>
    simp only at h
    split at h
    · rename_i sz' s ho
      obtain ⟨e2, ha⟩ := chk_elim h
      rw [Bool.and_eq_true] at e2
      have e3 := Nat.eq_of_beq_eq_true e2.1
      have e4 := Nat.le_of_ble_eq_true e2.2
      subst e3
      obtain ⟨hi, hK⟩ := needP_elim ha
      rw [Seq.len_eq] at hi
      rw [Seq.getD_eq s i hi] at hK
      obtain ⟨vs, T, fr, h1, h2, hb, hsoft, hs, hz, hc⟩ := obj_arr hr hl ho
      have hsz := hz i hi
      have hmul : i * sz + sz ≤ s.toList.length * sz := by
        have := Nat.mul_le_mul_right sz (show i + 1 ≤ s.toList.length from hi)
        rwa [Nat.succ_mul] at this
      have hrun := run_storeAll P b (i * sz + off) T fr vx.cells.toList 0 vs w hb hsoft (by simp; omega) hone
      have hrun' : (Instr.storeAt t (.pointer (some ⟨b, i * sz + off, none⟩)) vx).run P w = .ok () (setBlk w b (.cells (storeAll vs (i * sz + off) vx.cells.toList) T fr)) := by
        simp only [Instr.storeAt, Instr.sureAddr, pure_bind, storeVar, Sem.run_bind, run_sizeOf' hn, Result.andThen_ok]
        rw [if_neg (by omega)]
        simpa using hrun
      have hlt := cells_lt hb
      have hkeep : Keeps M w loc M (setBlk w b (.cells (storeAll vs (i * sz + off) vx.cells.toList) T fr)) loc := by
        refine ⟨?_, ?_, fun _ _ h => h⟩
        · intro c k v hi
          by_cases e : c = b
          · subst e; rcases hi.2 with q | q <;> omega
          · exact ⟨by rw [cell_of_heap (setBlk_other e)]; exact hi.1, hi.2⟩
        · intro c ds T' fr' hc'
          by_cases e : c = b
          · subst e; rw [hb] at hc'; cases hc'
            exact ⟨_, fr, setBlk_same hlt, by rw [storeAll_size]⟩
          · exact ⟨ds, fr', by rw [setBlk_other e]; exact hc', rfl⟩
      have hset : ∀ k (h : k < (s.toList.set i (splice s.toList[i] off xs)).length), (s.toList.set i (splice s.toList[i] off xs))[k].length = sz := by
        intro k hk
        rw [List.getElem_set]
        split
        · rw [splice_length (by omega)]; exact hsz
        · exact hz k (by simpa using hk)
      have hfin : ∀ k j (hk : k < (Seq.raw (s.toList.set i (splice s.toList[i] off xs))).toList.length) (hj : j < (Seq.raw (s.toList.set i (splice s.toList[i] off xs))).toList[k].length),
          ∃ v, (storeAll vs (i * sz + off) vx.cells.toList)[k * sz + j]? = some v ∧ VRel M (setBlk w b (.cells (storeAll vs (i * sz + off) vx.cells.toList) T fr)) loc (Seq.raw (s.toList.set i (splice s.toList[i] off xs))).toList[k][j] v := by
        intro k j hk hj
        have hk' : k < s.toList.length := by simpa [Seq.toList] using hk
        have hjz : j < sz := by have := hset k hk; simp only [Seq.toList] at hj; omega
        have hget := storeAll_get vx.cells.toList vs (i * sz + off) (k * sz + j) (by simp; omega)
        simp only [Array.length_toList] at hget
        simp only [Seq.toList] at hj ⊢
        by_cases e : k = i
        · subst e
          have hsp := splice_get (cs := s.toList[k]) (off := off) (xs := xs) (by omega) j
          simp only [List.getElem_set_self] at hj ⊢
          rw [List.getElem?_eq_getElem hj] at hsp
          by_cases hin : off ≤ j ∧ j < off + xs.length
          · rw [if_pos (by omega), show k * sz + j - (k * sz + off) = j - off by omega, List.getElem?_eq_getElem (by simp; omega)] at hget
            rw [if_pos hin, List.getElem?_eq_getElem (by omega)] at hsp
            refine ⟨_, hget, ?_⟩
            rw [Option.some.inj hsp]
            simp only [Array.getElem_toList]
            exact (hu (j - off) (by omega)).keeps hkeep
          · rw [if_neg (by omega)] at hget
            rw [if_neg hin, List.getElem?_eq_getElem (by omega)] at hsp
            obtain ⟨v, h3, h4⟩ := hc k j hk' (by omega)
            refine ⟨v, by rw [hget]; exact h3, ?_⟩
            rw [Option.some.inj hsp]
            exact h4.keeps hkeep
        · have hne : i ≠ k := fun x => e x.symm
          simp only [List.getElem_set_ne hne] at hj ⊢
          obtain ⟨v, h3, h4⟩ := hc k j hk' hj
          refine ⟨v, ?_, h4.keeps hkeep⟩
          rw [hget, if_neg ?_]
          · exact h3
          · have := hz k hk'
            rcases Nat.lt_or_gt_of_ne e with q | q
            · have := Nat.mul_le_mul_right sz (show k + 1 ≤ i from q)
              rw [Nat.succ_mul] at this
              omega
            · have := Nat.mul_le_mul_right sz (show i + 1 ≤ k from q)
              rw [Nat.succ_mul] at this
              omega
      obtain ⟨r1, r2⟩ := hr.write id b (.arr sz s) (.arr sz (.raw (s.toList.set i (splice s.toList[i] off xs)))) (.cells (storeAll vs (i * sz + off) vx.cells.toList) T fr) ho (by intro h; cases h) hl
        (fun ds T' fr' hd => by rw [hb] at hd; cases hd; exact ⟨_, fr, rfl, by rw [storeAll_size]⟩)
        ⟨b, _, T, fr, rfl, h1, h2, setBlk_same hlt, fun k hk => hsoft k (by rwa [storeAll_size] at hk), by rw [storeAll_size]; simpa [Seq.toList] using hs, hset, hfin⟩
      exact ⟨_, _, M, loc, hrun', hK, r1, r2⟩
    · exact h.elim
  | _ => exact h.elim

end
end Go.Ab
