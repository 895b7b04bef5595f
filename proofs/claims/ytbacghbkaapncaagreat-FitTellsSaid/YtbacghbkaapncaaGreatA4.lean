/- A4: several of this proof's own texts, one behind the other: what each proves stands at its head. -/
import Derived.Test.YtbacghbkaapncaaGreatA3
import Derived.Sort.Grow
section
/- A choice among objects, where some move: their old places are left empty. -/

set_option linter.unusedVariables false
set_option linter.unusedSimpArgs false
namespace Go.Ab
section
variable {P : Program} {M : Mem} {w : World} {loc : Locs} {H H2 : List AObj} {n : Nat}

def okL (l : List Nat) (gb : List Bool) : Bool :=
  (List.range l.length).all fun i => (List.range l.length).all fun j => Nat.beq i j || !Nat.beq (l.getD i 0) (l.getD j 0) || gb.getD i false || gb.getD j false

theorem okL_get {l : List Nat} {gb : List Bool} (h : okL l gb = true) {i j : Nat} (hi : i < l.length) (hj : j < l.length) (e : l.getD i 0 = l.getD j 0) : i = j ∨ gb.getD i false = true ∨ gb.getD j false = true := by
  unfold okL at h
  rw [List.all_eq_true] at h
  have h1 := h i (List.mem_range.2 hi)
  rw [List.all_eq_true] at h1
  have h2 := h1 j (List.mem_range.2 hj)
  simp only [Bool.or_eq_true, Bool.not_eq_true'] at h2
  rcases h2 with ((h2 | h2) | h2) | h2
  · exact .inl (Nat.eq_of_beq_eq_true h2)
  · rw [e, Nat.beq_refl] at h2; cases h2
  · exact .inr (.inl h2)
  · exact .inr (.inr h2)

/-- H2 is a choice of H's objects, by the list l of their old names; what is gone (gb) takes no place -/
def SelM (n : Nat) (l : List Nat) (gb : List Bool) (H H2 : List AObj) : Prop :=
  okL l gb = true ∧ H2.map isGone = gb ∧ l.length = H2.length ∧ n ≤ l.length ∧ (∀ i, i < n → l[i]? = some i) ∧ ∀ i (h : i < H2.length), (H[l.getD i H.length]? = some (AObj.ren (selR l H.length) H2[i])) ∨ isGone H2[i] = true

theorem Rel.selectM {l : List Nat} {gb : List Bool} (hr : Rel M loc H w) (hs : SelM n l gb H H2) :
    Rel M (fun i => loc (selR l H.length i)) H2 w ∧ StepN n M loc H w M (fun i => loc (selR l H.length i)) H2 w := by
  obtain ⟨hnd, hgb, hlen, hn, hid, hobj⟩ := hs
  have hget : ∀ (i : Nat) (o : AObj), H2[i]? = some o → (o = .gone → False) → i < H2.length ∧ gb.getD i false = false ∧ H[selR l H.length i]? = some (AObj.ren (selR l H.length) o) := by
    intro i o hi hg
    obtain ⟨hlt, rfl⟩ := List.getElem?_eq_some_iff.1 hi
    have hng : isGone H2[i] = false := by
      cases hq : isGone H2[i] with
      | false => rfl
      | true => exfalso; apply hg; revert hq; cases H2[i] <;> simp [isGone]
    refine ⟨hlt, ?_, ?_⟩
    · subst hgb
      rw [List.getD_eq_getElem?_getD, List.getElem?_map, hi]
      exact hng
    · rcases hobj i hlt with h | h
      · exact h
      · rw [hng] at h; cases h
  have hinj : ∀ i j, i < H2.length → j < H2.length → gb.getD i false = false → gb.getD j false = false → selR l H.length i = selR l H.length j → i = j := by
    intro i j hi hj g1 g2 e
    have hi' : i < l.length := by omega
    have hj' : j < l.length := by omega
    simp only [selR] at e
    have e2 : l.getD i 0 = l.getD j 0 := by
      rw [List.getD_eq_getElem?_getD, List.getD_eq_getElem?_getD, List.getElem?_eq_getElem hi', List.getElem?_eq_getElem hj'] at e ⊢
      exact e
    rcases okL_get hnd hi' hj' e2 with q | q | q
    · exact q
    · rw [g1] at q; cases q
    · rw [g2] at q; cases q
  have hlg : ∀ i l', loc (selR l H.length i) = some l' → (fun i => loc (selR l H.length i)) i = some l' := fun i l' h => h
  have hgone : ∀ o : AObj, (o = .gone → False) → (AObj.ren (selR l H.length) o = .gone → False) := fun o h e => h (gone_ren e)
  refine ⟨⟨hr.base, hr.ext, ?_, ?_, ?_⟩, ⟨rfl, Nat.le_refl _, rfl, rfl, rfl, fun _ _ _ => ⟨rfl, rfl⟩, fun _ _ _ h => h, fun _ cs _ fr h => ⟨cs, fr, h, rfl⟩, ?_, ?_, by omega⟩⟩
  · intro i hi
    refine hr.dom _ ?_
    simp [selR, List.getD, List.getElem?_eq_none (show l.length ≤ i by omega)]
  · intro i o hi
    by_cases hg : o = .gone
    · subst hg; trivial
    · obtain ⟨_, _, h⟩ := hget i o hi hg
      exact (hr.objs _ _ h).ren_from hlg
  · intro i j oi oj li lj b hi hj gi gj hli hlj bi bj
    obtain ⟨h1, q1, h2⟩ := hget i oi hi gi
    obtain ⟨h3, q3, h4⟩ := hget j oj hj gj
    exact hinj i j h1 h3 q1 q3 (hr.inj _ _ _ _ li lj b h2 h4 (hgone _ gi) (hgone _ gj) hli hlj bi bj)
  · intro b _ ⟨i, o, l', hi, hg, hl, hb⟩
    obtain ⟨_, _, h⟩ := hget i o hi hg
    exact ⟨_, _, l', h, hgone _ hg, hl, hb⟩
  · intro i hi
    have := hid i hi
    simp only [selR, List.getD, this, Option.getD_some]

theorem ReSt.selM {l : List Nat} {gb : List Bool} {s s2 : Slots} (hs : SelM n l gb H H2) (h : ∀ d, get s d = AV.ren (selR l H.length) (get s2 d) ∨ get s2 d = .bad) : ReSt n s H s2 H2 := by
  intro M loc w tmps h0 h1 h2
  obtain ⟨r1, r2⟩ := h1.selectM hs
  refine ⟨_, _, r1, fun d => ?_, r2⟩
  rcases h d with e | e
  · have := h2 d
    rw [e] at this
    exact this.ren_from (fun i l' h => h) _ rfl
  · rw [e]; exact .bad _

theorem AWP.shapeM {ro : Option Nat} {N : Nat} {c : Code} {s : Slots} {Q : AQ} (l : List Nat) (gb : List Bool) (s2 : Slots) (H2 : List AObj) (hsel : SelM n l gb H H2)
    (hs : Slots2 (fun a b => Le a (AV.ren (selR l H.length) b)) s s2) (k : AWPr ro P N n c s2 H2 Q) : AWPr ro P N n c s H Q := by
  intro M loc w a h0
  refine AWP.re (ReSt.trans (ReSt.le (s2 := renS (selR l H.length) s2) (fun d => ?_) h0) (ReSt.selM hsel fun d => .inl (get_renS _ _ _))) k M loc w a h0
  rw [get_renS]
  exact Slots2.get (R := fun a b => Le a (AV.ren (selR l H.length) b)) (Le.refl _) hs d

theorem ASpec.selM {f : FuncId} {args : List AV} {Post : AV → List AObj → Prop}
    (h : ASpec P f args H (fun r H' => ∃ l gb H2 r2, SelM H.length l gb H' H2 ∧ Le r (AV.ren (selR l H'.length) r2) ∧ Post r2 H2)) : ASpec P f args H Post := by
  intro M loc w vs ht hr hv
  refine (h M loc w vs ht hr hv).mono fun e w' hh => ?_
  obtain ⟨v, r, H', M', loc', he, ⟨l, gb, H2, r2, hs, hle, hP⟩, r1, r2', r3⟩ := hh
  obtain ⟨k1, k2⟩ := r1.selectM hs
  exact ⟨v, _, _, _, _, he, hP, k1, (hle _ _ _ _ r2').ren_from (fun i l' h => h) _ rfl, StepN.trans r3 k2 (Nat.le_refl _)⟩

end
end Go.Ab
end

section
/- Rounds: what stands at their ends, spelled otherwise. -/

set_option linter.unusedVariables false
set_option linter.unusedSimpArgs false
namespace Go.Ab
section
variable {P : Program} {H : List AObj}

theorem AYield.sel {id : Nat} {args : List AV} {Post : AV → List AObj → Prop}
    (h : AYield P id args H (fun r H' => ∃ l H2 r2, Sel H.length l H' H2 ∧ Le r (AV.ren (selR l H'.length) r2) ∧ Post r2 H2)) : AYield P id args H Post := by
  intro M loc w vs b ht hr hv hl
  obtain ⟨f, tmps, asg, body, h1, h2⟩ := h M loc w vs b ht hr hv hl
  refine ⟨f, tmps, asg, body, h1, h2.mono fun e w' hh => ?_⟩
  obtain ⟨v, r, H', M', loc', he, ⟨l, H2, r2, hs, hle, hP⟩, r1, r2', r3⟩ := hh
  obtain ⟨k1, k2⟩ := r1.select hs
  exact ⟨v, _, _, _, _, he, hP, k1, (hle _ _ _ _ r2').ren_from (fun i l' h => h) _ rfl, StepN.trans r3 k2 (Nat.le_refl _)⟩

theorem AYield.arrEnd {id : Nat} {args : List AV} {Post : AV → List AObj → Prop}
    (h : AYield P id args H (fun r H' => ∃ id sz q q', H'[id]? = some (.arr sz q) ∧ q'.toList = q.toList ∧ Post r (H'.set id (.arr sz q')))) : AYield P id args H Post := by
  intro M loc w vs b ht hr hv hl
  obtain ⟨f, tmps, asg, body, h1, h2⟩ := h M loc w vs b ht hr hv hl
  refine ⟨f, tmps, asg, body, h1, h2.mono fun e w' hh => ?_⟩
  obtain ⟨v, r, H', M', loc', he, ⟨id, sz, q, q', ho, hq, hP⟩, r1, r2, r3⟩ := hh
  obtain ⟨k1, k2⟩ := r1.respell id (.arr sz q) (.arr sz q') ho (by intro h; cases h) (by intro h; cases h) (oarr_eq hq)
  exact ⟨v, r, _, M', loc', he, hP, k1, r2.keeps (k2.keeps r1), StepN.trans r3 k2 r3.len⟩

theorem ARound.mono {N n id : Nat} {o o' : AObj} {asg body : Code} {s : Slots} {Q Q' : AQ} (h : ARound P N n id o o' asg body s H Q) (hq : ∀ e s H, Q e s H → Q' e s H) : ARound P N n id o o' asg body s H Q' := by
  intro ro
  refine AWP.mono (h ro) fun e s' H' hh => ?_
  cases e with
  | normal => exact ⟨hh.1, fun ro => AWP.mono (hh.2 ro) hq⟩
  | _ => exact hh.elim

end

/-- a choice of objects, each one shown by itself -/
def SelL (H : List AObj) (ρ : Nat → Nat) : List Nat → List AObj → Prop
  | [], [] => True
  | i :: l, o :: H2 => H[i]? = some (AObj.ren ρ o) ∧ SelL H ρ l H2
  | _, _ => False
theorem SelL.at {H : List AObj} {ρ : Nat → Nat} : ∀ {l : List Nat} {H2 : List AObj}, SelL H ρ l H2 → l.length = H2.length ∧ ∀ (d i : Nat) (h : i < H2.length), H[l.getD i d]? = some (AObj.ren ρ H2[i])
  | [], [], _ => ⟨rfl, fun _ i h => absurd h (Nat.not_lt_zero _)⟩
  | i :: l, o :: H2, h => by
    obtain ⟨a, b⟩ := SelL.at h.2
    refine ⟨by simp [a], fun d j hj => ?_⟩
    cases j with
    | zero => exact h.1
    | succ j => exact b d j (by simpa using hj)
theorem Sel.mk0 {l : List Nat} {H H2 : List AObj} (hn : l.Nodup) (h : SelL H (selR l H.length) l H2) : Sel 0 l H H2 :=
  ⟨hn, h.at.1, Nat.zero_le _, fun _ h => absurd h (Nat.not_lt_zero _), fun i hi => .inl (h.at.2 _ i hi)⟩
end Go.Ab
end

section
/- The library's sort, as a specification: a row's elements, in order. -/

set_option linter.unusedVariables false
set_option linter.unusedSimpArgs false
namespace Go.Ab
open Go.Sort
section
variable {P : Program} {M : Mem} {w w' : World} {loc : Locs} {H : List AObj}

theorem modify_at {hp : Array Obj} {b : Nat} {c : Array Value} {T : TypeId} {fr : Nat × Nat} (f : Array Value → Array Value) (h : hp[b]? = some (.cells c T fr)) : hp.modify b (onCells f) = hp.setIfInBounds b (.cells (f c) T fr) := by
  apply Array.ext_getElem?
  intro k
  simp only [Array.getElem?_modify, Array.getElem?_setIfInBounds]
  by_cases e : b = k
  · subst e
    rw [if_pos rfl, if_pos rfl, h, if_pos (Array.getElem?_eq_some_iff.1 h).1]
    rfl
  · rw [if_neg e, if_neg e]

theorem ASpec.sorts {α : Type} [Inhabited α] {f : FuncId} {enc : α → Value} {en : α → List AV} {e1 : α → AV} {d0 : α} {srt : List α → List α} (hen : ∀ x, en x = [e1 x])
    (hrel : ∀ M w loc x v, VRel M w loc (e1 x) v ↔ v = enc x) (hs : ∀ l, (srt l).length = l.length)
    (hc : ∀ blk off cap (ss : List α) w, Holds enc w blk off ss.toArray → blk < w.heap.size → ss.length < 4611686018427387904 →
      Calls P f #[.slice (some ⟨blk, off, none⟩) ss.length cap] w fun e w' => e = .returned (.tuple #[]) ∧ ∃ n os, w' = grow (putRow enc (Sort.ahead w n) blk off (srt ss).toArray) os)
    {id : Nat} {q : Seq} {l : List α} (hid : H[id]? = some (.arr 1 q)) (hq : q.toList = l.map en) (hl : l.length < 4611686018427387904) :
    ASpec P f [.msl 1 id 0 l.length] H (fun r H' => r = .tup [] ∧ H' = H.set id (.arr 1 (.map en d0 (srt l)))) := by
  intro M loc w vs ht hr hv
  obtain ⟨hsz, hv⟩ := hv
  have hv0 := hv 0 (by simp)
  simp only [List.getElem_cons_zero] at hv0
  have hvs : vs = #[vs[0]'(by simp at hsz; omega)] := by
    apply Array.ext
    · simpa using hsz
    · intro i h1 h2
      have : i = 0 := by simp at h2; omega
      subst this; rfl
  generalize vs[0]'(by simp at hsz; omega) = v0 at hv0 hvs
  subst hvs
  clear hv hsz
  cases hv0 with
  | msl _ _ _ _ b cap hloc hle hcb =>
  obtain ⟨b', cs, Tb, fr, hloc', hbase, hext, hbk, hsoft, hds, hdz, hdc⟩ := hr.objs id _ hid
  rw [hloc] at hloc'; cases hloc'
  have hblt := cells_lt hbk
  have hql : q.toList.length = l.length := by rw [hq]; simp
  have hcell : ∀ j (hj : j < l.length), cs[j]? = some (enc l[j]) := by
    intro j hj
    have e1' : q.toList[j]'(by omega) = [e1 l[j]] := by
      have : q.toList[j]? = some [e1 l[j]] := by rw [hq, List.getElem?_map, List.getElem?_eq_getElem hj]; simp [hen]
      rw [List.getElem?_eq_getElem (by omega)] at this
      exact Option.some.inj this
    obtain ⟨v, h1, h2⟩ := hdc j 0 (by omega) (by rw [e1']; simp)
    have h2' : VRel M w loc (e1 l[j]) v := by
      have : (q.toList[j]'(by omega))[0]'(by rw [e1']; simp) = e1 l[j] := by simp [e1']
      rw [this] at h2; exact h2
    rw [hrel] at h2'
    subst h2'
    simpa using h1
  have hH : Holds enc w b (0 * 1) l.toArray := by
    intro j hj
    have hj' : j < l.length := by simpa using hj
    have hcj := hcell j hj'
    refine ⟨?_, ?_⟩
    · simp only [World.cell?, hbk, Nat.zero_mul, Nat.zero_add]
      rw [getElem!_pos _ j hj]
      simpa using hcj
    · have hjs : j < cs.size := (Array.getElem?_eq_some_iff.1 hcj).1
      simp only [World.frozen?, hbk, Nat.zero_mul, Nat.zero_add]
      have := hsoft.1 j hjs
      simp only [Bool.and_eq_false_iff, decide_eq_false_iff_not]
      by_cases h : fr.1 ≤ j
      · right; exact fun h2 => this ⟨h, h2⟩
      · left; exact h
  refine (hc b (0 * 1) cap l w hH hblt hl).mono fun e w' hh => ?_
  obtain ⟨he, n, os, hw⟩ := hh
  have hcsl : l.length ≤ cs.size := by rw [hql] at hds; omega
  -- the row, written
  have hput : putRow enc (Sort.ahead w n) b (0 * 1) (srt l).toArray = setBlk (Sort.ahead w n) b (.cells (putCells enc 0 (srt l).toArray cs) Tb fr) := by
    simp only [putRow, mapBlock, setBlk, Sort.ahead, Nat.zero_mul]
    rw [modify_at _ hbk]
  have hsame : SameMem w (Sort.ahead w n) := ⟨rfl, rfl, rfl, rfl⟩
  obtain ⟨r0, st0⟩ := hr.same hsame
  have hpc : (putCells enc 0 (srt l).toArray cs).size = cs.size := by simp [putCells]
  have hpg : ∀ j (hj : j < l.length), (putCells enc 0 (srt l).toArray cs)[j]? = some (enc ((srt l)[j]'(by rw [hs]; exact hj))) := by
    intro j hj
    have hj2 : j < (srt l).length := by rw [hs]; exact hj
    simp only [putCells, Array.getElem?_mapIdx]
    rw [hcell j hj, Option.map_some]
    simp only [Nat.zero_le, true_and, Nat.zero_add, List.size_toArray, Nat.sub_zero]
    rw [if_pos hj2, getElem!_pos _ j (by simpa using hj2)]
    simp
  obtain ⟨r1, st1⟩ := r0.write id b _ (.arr 1 (.map en d0 (srt l))) (.cells (putCells enc 0 (srt l).toArray cs) Tb fr) hid (by intro h; cases h) hloc
    (fun cs' T' fr' h => by
      rw [show (Sort.ahead w n).heap = w.heap from rfl, hbk] at h
      cases h
      exact ⟨_, _, rfl, hpc⟩)
    (by
      refine ⟨b, _, Tb, fr, rfl, hbase, hext, setBlk_same hblt, ⟨?_, fun h => (h rfl).elim⟩, ?_, ?_, ?_⟩
      · intro k hk; exact hsoft.1 k (by rw [hpc] at hk; exact hk)
      · simp only [Seq.toList, List.length_map, hs, hpc]; omega
      · intro i h; simp only [Seq.toList, List.getElem_map, hen]; rfl
      · intro i j h hj
        simp only [Seq.toList, List.length_map, List.getElem_map, hen] at h hj ⊢
        have hj0 : j = 0 := by simp at hj; omega
        subst hj0
        have hi : i < l.length := by rw [hs] at h; exact h
        refine ⟨_, by rw [Nat.mul_one, Nat.add_zero]; exact hpg i hi, ?_⟩
        simp only [List.getElem_cons_zero]
        exact (hrel _ _ _ _ _).2 rfl)
  have hg : Grown (setBlk (Sort.ahead w n) b (.cells (putCells enc 0 (srt l).toArray cs) Tb fr)) w' := by
    rw [hw, hput]
    exact ⟨by simp [grow], fun c hc => heap_grow_old _ _ hc, rfl, rfl, rfl⟩
  obtain ⟨r2, st2⟩ := r1.grown hg
  refine ⟨.tuple #[], .tup [], _, M, loc, he, ⟨rfl, rfl⟩, r2, .tup _ _ rfl (fun i h => by simp at h), ?_⟩
  exact StepN.trans (StepN.trans st0 st1 (Nat.le_refl _)) st2 (by simp)

/-- what is handed back, respelled -/
theorem ASpec.reEnd {f : FuncId} {args : List AV} {Post : AV → List AObj → Prop}
    (h : ASpec P f args H (fun r H' => ∃ r2 H2, ReSt H.length [(0, r)] H' [(0, r2)] H2 ∧ Post r2 H2)) : ASpec P f args H Post := by
  intro M loc w vs ht hr hv
  refine (h M loc w vs ht hr hv).mono fun e w' hh => ?_
  obtain ⟨v, r, H', M', loc', he, ⟨r2, H2, hre, hP⟩, a1, a2, a3⟩ := hh
  obtain ⟨M2, l2, b1, b2, b3⟩ := hre M' loc' w' #[v] a3.len a1 (fun d => by
    cases d with
    | zero => exact a2
    | succ d => exact .bad _)
  have hv2 := b2 0
  exact ⟨v, r2, H2, M2, l2, he, hP, b1, hv2, StepN.trans a3 b3 (Nat.le_refl _)⟩

theorem ReSt.refl (n : Nat) (s : Slots) : ReSt n s H s H := fun M loc w tmps h0 h1 h2 =>
  ⟨M, loc, h1, h2, rfl, Nat.le_refl _, rfl, rfl, rfl, fun _ _ _ => ⟨rfl, rfl⟩, fun _ _ _ h => h, fun _ cs _ fr h => ⟨cs, fr, h, rfl⟩, fun _ _ h => h, fun _ _ => rfl, h0⟩

/-- a row, handed back as what it holds -/
theorem ReSt.freeze1 {n id sz len : Nat} {q q' : Seq} (ho : H[id]? = some (.arr sz q)) (hn : n ≤ H.length) (hlen : len ≤ q.toList.length) (hq : q'.toList = q.toList.take len) :
    ReSt n [(0, .msl sz id 0 len)] H [(0, .sl sz q' .none)] (H.set id .gone) := by
  refine ReSt.freeze ho hn fun d => ?_
  cases d with
  | zero => exact .inr (.inr ⟨0, len, q', rfl, by omega, rfl, by simpa using hq⟩)
  | succ d => exact .inl rfl

end
end Go.Ab
end
