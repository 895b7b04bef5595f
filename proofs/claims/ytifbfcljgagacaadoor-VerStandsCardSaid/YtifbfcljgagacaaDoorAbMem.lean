/- Steps of memory: a new block, a new object, an object written, a slice grown in place. -/
import Derived.Test.YtifbfcljgagacaaDoorAbBase
import Derived.Laws.World
set_option linter.unusedVariables false
set_option linter.unusedSimpArgs false
namespace Go.Ab

def Mem.grow (M : Mem) (b n : Nat) : Mem := ⟨M.base, fun c => if c = b then n else M.ext c⟩
def locSet (loc : Locs) (i : Nat) (l : Loc) : Locs := fun j => if j = i then some l else loc j

theorem Rel.ext_none {M loc H w} (h : Rel M loc H w) {b} (hb : w.heap.size ≤ b) : M.ext b = 0 := by
  rcases Nat.eq_zero_or_pos (M.ext b) with e | e
  · exact e
  · obtain ⟨_, cs, T, fr, hc, _⟩ := h.ext b e
    rw [Array.getElem?_eq_none hb] at hc; cases hc

theorem cell_lt {w : World} {b k v} (h : w.cell? ⟨b, k, none⟩ = some v) : b < w.heap.size := by
  unfold World.cell? at h
  rcases Nat.lt_or_ge b w.heap.size with hb | hb
  · exact hb
  · simp [Array.getElem?_eq_none hb] at h

theorem heap_alloc_lt {w : World} {ob : Obj} {b : Nat} (h : b < w.heap.size) : (w.alloc ob).heap[b]? = w.heap[b]? := by
  show (w.heap.push ob)[b]? = _
  rw [Array.getElem?_push, if_neg (Nat.ne_of_lt h)]

theorem heap_alloc_new (w : World) (ob : Obj) : (w.alloc ob).heap[w.heap.size]? = some ob := by
  show (w.heap.push ob)[w.heap.size]? = _
  simp

theorem cell_of_heap {w w' : World} {b : Nat} (h : w'.heap[b]? = w.heap[b]?) (k : Nat) : w'.cell? ⟨b, k, none⟩ = w.cell? ⟨b, k, none⟩ := by
  simp only [World.cell?, h]

theorem cells_lt {w : World} {b : Nat} {o : Obj} (h : w.heap[b]? = some o) : b < w.heap.size := (Array.getElem?_eq_some_iff.1 h).1

/-- what stands below in a new block -/
theorem keeps_alloc {M loc H w} (h : Rel M loc H w) (ob : Obj) (n : Nat) (l : Option Loc) :
    Keeps M w loc (M.grow w.heap.size n) (w.alloc ob) (match l with | some l => locSet loc H.length l | none => loc) where
  imm b k v hi := by
    have hb := cell_lt hi.1
    refine ⟨by rw [cell_of_heap (heap_alloc_lt hb)]; exact hi.1, ?_⟩
    rcases hi.2 with e | e
    · exact .inl e
    · exact .inr (by simp only [Mem.grow]; rw [if_neg (Nat.ne_of_lt hb)]; exact e)
  shape b cs T fr hc := ⟨cs, fr, by rw [heap_alloc_lt (cells_lt hc)]; exact hc, rfl⟩
  loc i l' hl := by
    cases l with
    | none => exact hl
    | some l => simp only [locSet]; rw [if_neg (Nat.ne_of_lt (h.lt hl))]; exact hl

theorem ORel.keeps_far {M w loc M' w' loc' l o} (hk : Keeps M w loc M' w' loc') (hb : M'.base = M.base)
    (hfar : ∀ b, (l.bind Loc.block?) = some b → w'.heap[b]? = w.heap[b]? ∧ M'.ext b = M.ext b) (h : ORel M w loc l o) : ORel M' w' loc' l o := by
  cases o with
  | gone => trivial
  | cells cs =>
    obtain ⟨b, vs, T, fr, rfl, h1, h2, h3, h4, h5, h6⟩ := h
    obtain ⟨e1, e2⟩ := hfar b rfl
    exact ⟨b, vs, T, fr, rfl, by rw [hb]; exact h1, by rw [e2]; exact h2, by rw [e1]; exact h3, h4, h5, fun i hi => (h6 i hi).keeps hk⟩
  | tok =>
    rcases h with h | ⟨b, e, vs, T, fr, rfl, h1, h2, h3, h4⟩
    · exact .inl h
    · obtain ⟨e1, e2⟩ := hfar b rfl
      exact .inr ⟨b, e, vs, T, fr, rfl, by rw [hb]; exact h1, by rw [e2]; exact h2, by rw [e1]; exact h3, h4⟩
  | arr sz s =>
    obtain ⟨b, vs, T, fr, rfl, h1, h2, h3, h4, h5, h6, h7⟩ := h
    obtain ⟨e1, e2⟩ := hfar b rfl
    exact ⟨b, vs, T, fr, rfl, by rw [hb]; exact h1, by rw [e2]; exact h2, by rw [e1]; exact h3, h4, h5, h6, fun i j hi hj => let ⟨v, hv, hr⟩ := h7 i j hi hj; ⟨v, hv, hr.keeps hk⟩⟩
  | siter s pos =>
    obtain ⟨b, rfl, h1, h2, h3⟩ := h
    obtain ⟨e1, e2⟩ := hfar b rfl
    exact ⟨b, rfl, by rw [hb]; exact h1, by rw [e2]; exact h2, by rw [e1]; exact h3⟩
  | mp es =>
    obtain ⟨b, ents, clock, rfl, h1, h2, h3, h4, h5⟩ := h
    obtain ⟨e1, e2⟩ := hfar b rfl
    exact ⟨b, ents, clock, rfl, by rw [hb]; exact h1, by rw [e2]; exact h2, by rw [e1]; exact h3, h4, fun i hi => ⟨(h5 i hi).1, (h5 i hi).2.keeps hk⟩⟩

/-- an object's block is there -/
theorem ORel.block_lt {M w loc l o b} (h : ORel M w loc l o) (ho : o = .gone → False) (hb : l.bind Loc.block? = some b) : b < w.heap.size ∧ M.base ≤ b := by
  cases o with
  | gone => exact (ho rfl).elim
  | cells cs => obtain ⟨b', vs, T, fr, rfl, h1, h2, h3, _⟩ := h; cases hb; exact ⟨cells_lt h3, h1⟩
  | tok =>
    rcases h with rfl | ⟨b', e, vs, T, fr, rfl, h1, h2, h3, _⟩
    · cases hb
    · cases hb; exact ⟨cells_lt h3, h1⟩
  | arr sz s => obtain ⟨b', vs, T, fr, rfl, h1, h2, h3, _⟩ := h; cases hb; exact ⟨cells_lt h3, h1⟩
  | siter s pos => obtain ⟨b', rfl, h1, h2, h3⟩ := h; cases hb; exact ⟨cells_lt h3, h1⟩
  | mp es => obtain ⟨b', ents, clock, rfl, h1, h2, h3, _⟩ := h; cases hb; exact ⟨cells_lt h3, h1⟩

/-- A NEW BLOCK OF DATA. -/
theorem Tabs.step {P : Program} {M loc H w n M' loc' H' w'} (h : Tabs P M w) (hr : Rel M loc H w) (hs : StepN n M loc H w M' loc' H' w') : Tabs P M' w' := by
  intro g hg
  obtain ⟨h1, T, fr, h2⟩ := h g hg
  refine ⟨by rw [hs.base]; exact h1, T, fr, ?_⟩
  rw [(hs.keep g (Nat.lt_of_lt_of_le h1 hr.base) ?_).1]
  · exact h2
  · rintro ⟨i, o, l, hi, hgone, hl, hb⟩
    have := ((hr.objs i o hi).block_lt hgone (b := g) (by rw [hl]; exact hb)).2
    omega

theorem Rel.data {M loc H w} (h : Rel M loc H w) (ob : Obj) (n : Nat) (hn : 0 < n → ∃ cs T fr, ob = .cells cs T fr ∧ n ≤ cs.size) :
    Rel (M.grow w.heap.size n) loc H (w.alloc ob) ∧ Step M loc H w (M.grow w.heap.size n) loc H (w.alloc ob) := by
  have hk := keeps_alloc h ob n none
  refine ⟨⟨?_, ?_, h.dom, ?_, h.inj⟩, ⟨rfl, by simp, rfl, rfl, rfl, ?_, hk.imm, hk.shape, fun _ _ h => h, fun _ _ => rfl, Nat.le_refl _⟩⟩
  · have := h.base; simp [Mem.grow]; omega
  · intro b hb
    simp only [Mem.grow] at hb ⊢
    by_cases e : b = w.heap.size
    · subst e
      rw [if_pos rfl] at hb ⊢
      obtain ⟨cs, T, fr, rfl, hc⟩ := hn hb
      exact ⟨h.base, cs, T, fr, heap_alloc_new _ _, hc⟩
    · rw [if_neg e] at hb ⊢
      obtain ⟨h1, cs, T, fr, h2, h3⟩ := h.ext b hb
      exact ⟨h1, cs, T, fr, by rw [heap_alloc_lt (cells_lt h2)]; exact h2, h3⟩
  · intro i o ho
    by_cases hg : o = .gone
    · subst hg; trivial
    · refine (h.objs i o ho).keeps_far hk rfl (fun b hb => ?_)
      have hlt := (h.objs i o ho).block_lt hg hb
      exact ⟨heap_alloc_lt hlt.1, by simp only [Mem.grow]; rw [if_neg (Nat.ne_of_lt hlt.1)]⟩
  · intro b hb _
    exact ⟨heap_alloc_lt hb, by simp only [Mem.grow]; rw [if_neg (Nat.ne_of_lt hb)]⟩

/-- A NEW OBJECT in a new block. -/
theorem Rel.new {M loc H w} (h : Rel M loc H w) (ob : Obj) (n : Nat) (hn : 0 < n → ∃ cs T fr, ob = .cells cs T fr ∧ n ≤ cs.size) (l : Loc) (o : AObj)
    (hl : l.block? = none ∨ l.block? = some w.heap.size) (ho : ORel (M.grow w.heap.size n) (w.alloc ob) (locSet loc H.length l) (some l) o) :
    Rel (M.grow w.heap.size n) (locSet loc H.length l) (H ++ [o]) (w.alloc ob) ∧ Step M loc H w (M.grow w.heap.size n) (locSet loc H.length l) (H ++ [o]) (w.alloc ob) := by
  have hk := keeps_alloc h ob n (some l)
  have hold : ∀ i, i < H.length → locSet loc H.length l i = loc i := fun i hi => by simp only [locSet]; rw [if_neg (Nat.ne_of_lt hi)]
  have hnew : locSet loc H.length l H.length = some l := by simp [locSet]
  have hget : ∀ i o', (H ++ [o])[i]? = some o' → (i < H.length ∧ H[i]? = some o') ∨ (i = H.length ∧ o' = o) := by
    intro i o' hi
    rcases Nat.lt_trichotomy i H.length with hlt | heq | hgt
    · rw [List.getElem?_append_left hlt] at hi; exact .inl ⟨hlt, hi⟩
    · subst heq; simp at hi; exact .inr ⟨rfl, hi.symm⟩
    · rw [List.getElem?_eq_none (by simp; omega)] at hi; cases hi
  have hblk : ∀ i o' l' b, H[i]? = some o' → (o' = .gone → False) → loc i = some l' → l'.block? = some b → b < w.heap.size := by
    intro i o' l' b hi hg hl' hb
    exact ((h.objs i o' hi).block_lt hg (by rw [hl']; exact hb)).1
  refine ⟨⟨?_, ?_, ?_, ?_, ?_⟩, ⟨rfl, by simp, rfl, rfl, rfl, ?_, hk.imm, hk.shape, ?_, hold, by simp⟩⟩
  · have := h.base; simp [Mem.grow]; omega
  · intro b hb
    simp only [Mem.grow] at hb ⊢
    by_cases e : b = w.heap.size
    · subst e
      rw [if_pos rfl] at hb ⊢
      obtain ⟨cs, T, fr, rfl, hc⟩ := hn hb
      exact ⟨h.base, cs, T, fr, heap_alloc_new _ _, hc⟩
    · rw [if_neg e] at hb ⊢
      obtain ⟨h1, cs, T, fr, h2, h3⟩ := h.ext b hb
      exact ⟨h1, cs, T, fr, by rw [heap_alloc_lt (cells_lt h2)]; exact h2, h3⟩
  · intro i hi
    simp only [List.length_append, List.length_singleton] at hi
    simp only [locSet]; rw [if_neg (by omega)]; exact h.dom i (by omega)
  · intro i o' hi
    rcases hget i o' hi with ⟨hlt, hi'⟩ | ⟨rfl, rfl⟩
    · rw [hold i hlt]
      by_cases hg : o' = .gone
      · subst hg; trivial
      · refine (h.objs i o' hi').keeps_far hk rfl (fun b hb => ?_)
        have hlt' := (h.objs i o' hi').block_lt hg hb
        exact ⟨heap_alloc_lt hlt'.1, by simp only [Mem.grow]; rw [if_neg (Nat.ne_of_lt hlt'.1)]⟩
    · rw [hnew]; exact ho
  · intro i j oi oj li lj b hi hj gi gj hli hlj bi bj
    rcases hget i oi hi with ⟨hlt, hi'⟩ | ⟨rfl, rfl⟩
    · rw [hold i hlt] at hli
      rcases hget j oj hj with ⟨hlt2, hj'⟩ | ⟨rfl, rfl⟩
      · rw [hold j hlt2] at hlj
        exact h.inj i j oi oj li lj b hi' hj' gi gj hli hlj bi bj
      · rw [hnew] at hlj; cases hlj
        have := hblk i oi li b hi' gi hli bi
        rcases hl with e | e
        · rw [e] at bj; cases bj
        · rw [e] at bj; cases bj; omega
    · rw [hnew] at hli; cases hli
      rcases hget j oj hj with ⟨hlt2, hj'⟩ | ⟨rfl, rfl⟩
      · rw [hold j hlt2] at hlj
        have := hblk j oj lj b hj' gj hlj bj
        rcases hl with e | e
        · rw [e] at bi; cases bi
        · rw [e] at bi; cases bi; omega
      · rfl
  · intro b hb _
    exact ⟨heap_alloc_lt hb, by simp only [Mem.grow]; rw [if_neg (Nat.ne_of_lt hb)]⟩
  · intro b hb ⟨i, o', l', hi, hg, hl', hbl⟩
    rcases hget i o' hi with ⟨hlt, hi'⟩ | ⟨rfl, rfl⟩
    · rw [hold i hlt] at hl'
      exact ⟨i, o', l', hi', hg, hl', hbl⟩
    · rw [hnew] at hl'; cases hl'
      rcases hl with e | e
      · rw [e] at hbl; cases hbl
      · rw [e] at hbl; cases hbl; omega

/-- an object is let go -/
theorem Rel.drop {M loc H w} (h : Rel M loc H w) (id : Nat) : Rel M loc (H.set id .gone) w ∧ Step M loc H w M loc (H.set id .gone) w := by
  have hget : ∀ (i : Nat) (o : AObj), (H.set id AObj.gone)[i]? = some o → (o = AObj.gone → False) → H[i]? = some o := by
    intro i o hi hg
    rw [List.getElem?_set] at hi
    split at hi
    · split at hi
      · cases hi; exact (hg rfl).elim
      · cases hi
    · exact hi
  refine ⟨⟨h.base, h.ext, fun i hi => h.dom i (by simpa using hi), ?_, ?_⟩, ⟨rfl, Nat.le_refl _, rfl, rfl, rfl, fun _ _ _ => ⟨rfl, rfl⟩, fun _ _ _ h => h, fun _ cs _ fr h => ⟨cs, fr, h, rfl⟩, ?_, fun _ _ => rfl, by simp⟩⟩
  · intro i o hi
    by_cases hg : o = .gone
    · subst hg; trivial
    · exact h.objs i o (hget i o hi hg)
  · intro i j oi oj li lj b hi hj gi gj
    exact h.inj i j oi oj li lj b (hget i oi hi gi) (hget j oj hj gj) gi gj
  · intro b _ ⟨i, o, l, hi, hg, rest⟩
    exact ⟨i, o, l, hget i o hi hg, hg, rest⟩

/-- a token without a place -/
theorem Rel.xtok {M loc H w} (h : Rel M loc H w) : Rel M (locSet loc H.length .xtok) (H ++ [.tok]) w ∧ Step M loc H w M (locSet loc H.length .xtok) (H ++ [.tok]) w := by
  have hold : ∀ i, i < H.length → locSet loc H.length .xtok i = loc i := fun i hi => by simp only [locSet]; rw [if_neg (Nat.ne_of_lt hi)]
  have hnew : locSet loc H.length .xtok H.length = some .xtok := by simp [locSet]
  have hk : Keeps M w loc M w (locSet loc H.length .xtok) := ⟨fun _ _ _ h => h, fun _ cs _ fr h => ⟨cs, fr, h, rfl⟩, fun i l hl => by rw [hold i (h.lt hl)]; exact hl⟩
  have hget : ∀ i o', (H ++ [AObj.tok])[i]? = some o' → (i < H.length ∧ H[i]? = some o') ∨ (i = H.length ∧ o' = .tok) := by
    intro i o' hi
    rcases Nat.lt_trichotomy i H.length with hlt | heq | hgt
    · rw [List.getElem?_append_left hlt] at hi; exact .inl ⟨hlt, hi⟩
    · subst heq; simp at hi; exact .inr ⟨rfl, hi.symm⟩
    · rw [List.getElem?_eq_none (by simp; omega)] at hi; cases hi
  refine ⟨⟨h.base, h.ext, ?_, ?_, ?_⟩, ⟨rfl, Nat.le_refl _, rfl, rfl, rfl, fun _ _ _ => ⟨rfl, rfl⟩, hk.imm, hk.shape, ?_, hold, by simp⟩⟩
  · intro i hi
    simp only [List.length_append, List.length_singleton] at hi
    simp only [locSet]; rw [if_neg (by omega)]; exact h.dom i (by omega)
  · intro i o hi
    rcases hget i o hi with ⟨hlt, hi'⟩ | ⟨rfl, rfl⟩
    · rw [hold i hlt]
      exact (h.objs i o hi').keeps_far hk rfl (fun b _ => ⟨rfl, rfl⟩)
    · rw [hnew]; exact .inl rfl
  · intro i j oi oj li lj b hi hj gi gj hli hlj bi bj
    rcases hget i oi hi with ⟨hlt, hi'⟩ | ⟨rfl, rfl⟩
    · rcases hget j oj hj with ⟨hlt2, hj'⟩ | ⟨rfl, rfl⟩
      · rw [hold i hlt] at hli; rw [hold j hlt2] at hlj
        exact h.inj i j oi oj li lj b hi' hj' gi gj hli hlj bi bj
      · rw [hnew] at hlj; cases hlj; cases bj
    · rw [hnew] at hli; cases hli; cases bi
  · intro b _ ⟨i, o, l, hi, hg, hl, hb⟩
    rcases hget i o hi with ⟨hlt, hi'⟩ | ⟨rfl, rfl⟩
    · rw [hold i hlt] at hl; exact ⟨i, o, l, hi', hg, hl, hb⟩
    · rw [hnew] at hl; cases hl; cases hb


/-- a world in which one block's cells are others -/
def setBlk (w : World) (b : Nat) (o : Obj) : World := { w with heap := w.heap.setIfInBounds b o }

theorem setBlk_same {w : World} {b : Nat} {o : Obj} (h : b < w.heap.size) : (setBlk w b o).heap[b]? = some o := by
  simp [setBlk, h]

theorem setBlk_other {w : World} {b c : Nat} {o : Obj} (h : c ≠ b) : (setBlk w b o).heap[c]? = w.heap[c]? := by
  simp [setBlk, Array.getElem?_setIfInBounds, Ne.symm h]

/-- AN OBJECT IS WRITTEN: its block is one that it owns. -/
theorem Rel.write {M loc H w} (h : Rel M loc H w) (id b : Nat) (o o' : AObj) (ob : Obj) (hid : H[id]? = some o) (hg : o = .gone → False) (hl : loc id = some (.blk b))
    (hob : ∀ cs T fr, w.heap[b]? = some (.cells cs T fr) → ∃ cs' fr', ob = .cells cs' T fr' ∧ cs'.size = cs.size)
    (ho : ORel M (setBlk w b ob) loc (some (.blk b)) o') :
    Rel M loc (H.set id o') (setBlk w b ob) ∧ Step M loc H w M loc (H.set id o') (setBlk w b ob) := by
  have hb0 := (h.objs id o hid).block_lt hg (b := b) (by rw [hl]; rfl)
  have hext : M.ext b = 0 := by
    have := h.objs id o hid
    rw [hl] at this
    cases o with
    | gone => exact (hg rfl).elim
    | cells cs => obtain ⟨b', vs, T, fr, e, h1, h2, _⟩ := this; cases e; exact h2
    | tok => rcases this with e | ⟨b', e, vs, T, fr, e', _⟩; cases e; cases e'
    | arr sz s => obtain ⟨b', vs, T, fr, e, h1, h2, _⟩ := this; cases e; exact h2
    | siter s pos => obtain ⟨b', e, h1, h2, _⟩ := this; cases e; exact h2
    | mp es => obtain ⟨b', ents, clock, e, h1, h2, _⟩ := this; cases e; exact h2
  have hk : Keeps M w loc M (setBlk w b ob) loc := by
    refine ⟨?_, ?_, fun _ _ h => h⟩
    · intro c k v hi
      by_cases e : c = b
      · subst e
        rcases hi.2 with e1 | e1
        · omega
        · omega
      · exact ⟨by rw [cell_of_heap (setBlk_other e)]; exact hi.1, hi.2⟩
    · intro c cs T fr hc
      by_cases e : c = b
      · subst e
        obtain ⟨cs', fr', rfl, hs⟩ := hob cs T fr hc
        exact ⟨cs', fr', setBlk_same hb0.1, hs⟩
      · exact ⟨cs, fr, by rw [setBlk_other e]; exact hc, rfl⟩
  have hget : ∀ (i : Nat) (q : AObj), (H.set id o')[i]? = some q → (i ≠ id ∧ H[i]? = some q) ∨ (i = id ∧ q = o') := by
    intro i q hi
    rw [List.getElem?_set] at hi
    split at hi
    · rename_i e
      split at hi
      · cases hi; exact .inr ⟨e.symm, rfl⟩
      · cases hi
    · rename_i e
      exact .inl ⟨fun x => e x.symm, hi⟩
  refine ⟨⟨by simpa [setBlk] using h.base, ?_, fun i hi => h.dom i (by simpa using hi), ?_, ?_⟩, ⟨rfl, by simp [setBlk], rfl, rfl, rfl, ?_, hk.imm, hk.shape, ?_, fun _ _ => rfl, by simp⟩⟩
  · intro c hc
    obtain ⟨h1, cs, T, fr, h2, h3⟩ := h.ext c hc
    exact ⟨h1, cs, T, fr, by rw [setBlk_other (by rintro rfl; omega)]; exact h2, h3⟩
  · intro i q hi
    rcases hget i q hi with ⟨hne, hi'⟩ | ⟨rfl, rfl⟩
    · by_cases hq : q = .gone
      · subst hq; trivial
      · refine (h.objs i q hi').keeps_far hk rfl (fun c hc => ⟨setBlk_other ?_, rfl⟩)
        rintro rfl
        cases hli : loc i with
        | none => rw [hli] at hc; cases hc
        | some li =>
          rw [hli] at hc
          exact hne (h.inj i id q o li (.blk c) c hi' hid hq hg hli hl hc rfl)
    · rw [hl]; exact ho
  · intro i j oi oj li lj c hi hj gi gj hli hlj bi bj
    rcases hget i oi hi with ⟨hne, hi'⟩ | ⟨rfl, rfl⟩
    · rcases hget j oj hj with ⟨hne2, hj'⟩ | ⟨rfl, rfl⟩
      · exact h.inj i j oi oj li lj c hi' hj' gi gj hli hlj bi bj
      · exact h.inj i j oi o li lj c hi' hid gi hg hli hlj bi bj
    · rcases hget j oj hj with ⟨hne2, hj'⟩ | ⟨rfl, rfl⟩
      · exact h.inj i j o oj li lj c hid hj' hg gj hli hlj bi bj
      · rfl
  · intro c hc hno
    refine ⟨setBlk_other ?_, rfl⟩
    rintro rfl
    exact hno ⟨id, o, .blk c, hid, hg, hl, rfl⟩
  · intro c hc ⟨i, q, l, hi, hgq, hli, hbl⟩
    rcases hget i q hi with ⟨hne, hi'⟩ | ⟨rfl, rfl⟩
    · exact ⟨i, q, l, hi', hgq, hli, hbl⟩
    · exact ⟨i, o, l, hid, hg, hli, hbl⟩

/-- A ROW OF DATA GROWS IN PLACE: its token's block gets more cells that don't change; the token gives way to a new one. -/
theorem Rel.extend {M loc H w} (h : Rel M loc H w) (id b e e' : Nat) (cs cs' : Array Value) (T : TypeId) (fr : Nat × Nat) (hid : H[id]? = some .tok) (hl : loc id = some (.tok b e))
    (hb : w.heap[b]? = some (.cells cs T fr)) (hee : e ≤ e') (hs : cs'.size = cs.size) (he' : e' ≤ cs'.size) (hsame : ∀ k, k < e → cs'[k]? = cs[k]?) :
    Rel (M.grow b e') (locSet loc H.length (.tok b e')) (H.set id .gone ++ [.tok]) (setBlk w b (.cells cs' T fr)) ∧
    Step M loc H w (M.grow b e') (locSet loc H.length (.tok b e')) (H.set id .gone ++ [.tok]) (setBlk w b (.cells cs' T fr)) := by
  have hng : (AObj.tok = AObj.gone → False) := by intro h; cases h
  have hb0 := (h.objs id .tok hid).block_lt hng (b := b) (by rw [hl]; rfl)
  obtain ⟨hext, hsoft⟩ : M.ext b = e ∧ soft cs fr := by
    have := h.objs id .tok hid
    rw [hl] at this
    rcases this with e1 | ⟨b', e1, vs, T', fr', e2, h1, h2, h3, h4⟩
    · cases e1
    · cases e2; rw [hb] at h3; cases h3; exact ⟨h2, h4⟩
  have hold : ∀ i, i < H.length → locSet loc H.length (.tok b e') i = loc i := fun i hi => by simp only [locSet]; rw [if_neg (Nat.ne_of_lt hi)]
  have hnew : locSet loc H.length (.tok b e') H.length = some (.tok b e') := by simp [locSet]
  have hidlt : id < H.length := by
    rcases Nat.lt_or_ge id H.length with q | q
    · exact q
    · rw [List.getElem?_eq_none q] at hid; cases hid
  have hk : Keeps M w loc (M.grow b e') (setBlk w b (.cells cs' T fr)) (locSet loc H.length (.tok b e')) := by
    refine ⟨?_, ?_, fun i l hl => by rw [hold i (h.lt hl)]; exact hl⟩
    · intro c k v hi
      by_cases ec : c = b
      · subst ec
        rcases hi.2 with e1 | e1
        · omega
        · rw [hext] at e1
          refine ⟨?_, .inr (by simp only [Mem.grow]; rw [if_pos trivial]; omega)⟩
          have h1 := hi.1
          simp only [World.cell?, hb] at h1
          simp only [World.cell?, setBlk_same hb0.1]
          simp only [Option.isSome_none, Bool.false_eq_true, if_false] at h1 ⊢
          rw [hsame k e1]; exact h1
      · refine ⟨by rw [cell_of_heap (setBlk_other ec)]; exact hi.1, ?_⟩
        simp only [Mem.grow]; rw [if_neg ec]; exact hi.2
    · intro c ds T' fr' hc
      by_cases ec : c = b
      · subst ec
        rw [hb] at hc; cases hc
        exact ⟨cs', fr, setBlk_same hb0.1, hs⟩
      · exact ⟨ds, fr', by rw [setBlk_other ec]; exact hc, rfl⟩
  have hget : ∀ (i : Nat) (q : AObj), (H.set id AObj.gone ++ [AObj.tok])[i]? = some q → (q = .gone → False) → (i < H.length ∧ i ≠ id ∧ H[i]? = some q) ∨ (i = H.length ∧ q = .tok) := by
    intro i q hi hq
    rcases Nat.lt_trichotomy i H.length with hlt | heq | hgt
    · rw [List.getElem?_append_left (by simpa using hlt), List.getElem?_set] at hi
      split at hi
      · first
        | (cases hi; exact (hq rfl).elim)
        | (split at hi
           · cases hi; exact (hq rfl).elim
           · cases hi)
      · rename_i e1; exact .inl ⟨hlt, fun x => e1 x.symm, hi⟩
    · subst heq
      rw [List.getElem?_append_right (by simp)] at hi
      simp at hi; exact .inr ⟨rfl, hi.symm⟩
    · rw [List.getElem?_eq_none (by simp; omega)] at hi; cases hi
  have hfarb : ∀ i q li, H[i]? = some q → (q = .gone → False) → i ≠ id → loc i = some li → li.block? = some b → False := by
    intro i q li hi hq hne hli hbl
    exact hne (h.inj i id q .tok li (.tok b e) b hi hid hq hng hli hl hbl rfl)
  refine ⟨⟨by simpa [setBlk, Mem.grow] using h.base, ?_, ?_, ?_, ?_⟩, ⟨rfl, by simp [setBlk], rfl, rfl, rfl, ?_, hk.imm, hk.shape, ?_, hold, by simp⟩⟩
  · intro c hc
    simp only [Mem.grow] at hc ⊢
    by_cases ec : c = b
    · subst ec
      rw [if_pos rfl] at hc ⊢
      exact ⟨hb0.2, cs', T, fr, setBlk_same hb0.1, he'⟩
    · rw [if_neg ec] at hc ⊢
      obtain ⟨h1, ds, T', fr', h2, h3⟩ := h.ext c hc
      exact ⟨h1, ds, T', fr', by rw [setBlk_other ec]; exact h2, h3⟩
  · intro i hi
    simp only [List.length_append, List.length_set, List.length_singleton] at hi
    simp only [locSet]; rw [if_neg (by omega)]; exact h.dom i (by omega)
  · intro i q hi
    by_cases hq : q = .gone
    · subst hq; trivial
    · rcases hget i q hi hq with ⟨hlt, hne, hi'⟩ | ⟨rfl, rfl⟩
      · rw [hold i hlt]
        refine (h.objs i q hi').keeps_far hk rfl (fun c hc => ?_)
        have hcb : c ≠ b := by
          rintro rfl
          cases hli : loc i with
          | none => rw [hli] at hc; cases hc
          | some li => rw [hli] at hc; exact hfarb i q li hi' hq hne hli hc
        exact ⟨setBlk_other hcb, by simp only [Mem.grow]; rw [if_neg hcb]⟩
      · rw [hnew]
        refine .inr ⟨b, e', cs', T, fr, rfl, hb0.2, by simp [Mem.grow], setBlk_same hb0.1, ?_⟩
        intro k hk'; exact hsoft k (by omega)
  · intro i j oi oj li lj c hi hj gi gj hli hlj bi bj
    rcases hget i oi hi gi with ⟨hlt, hne, hi'⟩ | ⟨rfl, rfl⟩
    · rcases hget j oj hj gj with ⟨hlt2, hne2, hj'⟩ | ⟨rfl, rfl⟩
      · rw [hold i hlt] at hli; rw [hold j hlt2] at hlj
        exact h.inj i j oi oj li lj c hi' hj' gi gj hli hlj bi bj
      · rw [hold i hlt] at hli
        rw [hnew] at hlj; cases hlj; cases bj
        exact (hfarb i oi li hi' gi hne hli bi).elim
    · rcases hget j oj hj gj with ⟨hlt2, hne2, hj'⟩ | ⟨rfl, rfl⟩
      · rw [hnew] at hli; cases hli; cases bi
        rw [hold j hlt2] at hlj
        exact (hfarb j oj lj hj' gj hne2 hlj bj).elim
      · rfl
  · intro c hc hno
    have hcb : c ≠ b := by
      rintro rfl
      exact hno ⟨id, .tok, .tok c e, hid, hng, hl, rfl⟩
    exact ⟨setBlk_other hcb, by simp only [Mem.grow]; rw [if_neg hcb]⟩
  · intro c hc ⟨i, q, l, hi, hq, hli, hbl⟩
    rcases hget i q hi hq with ⟨hlt, hne, hi'⟩ | ⟨rfl, rfl⟩
    · rw [hold i hlt] at hli; exact ⟨i, q, l, hi', hq, hli, hbl⟩
    · rw [hnew] at hli; cases hli; cases hbl
      exact ⟨id, .tok, .tok b e, hid, hng, hl, rfl⟩

/-- a world whose memory is the same -/
structure SameMem (w w' : World) : Prop where
  heap : w'.heap = w.heap
  os : w'.os = w.os
  tape : w'.tape = w.tape
  output : w'.output = w.output

theorem SameMem.keeps {w w'} (h : SameMem w w') (M loc) : Keeps M w loc M w' loc :=
  ⟨fun b k v hi => ⟨by have := hi.1; simp only [World.cell?, h.heap] at this ⊢; exact this, hi.2⟩, fun b cs T fr hb => ⟨cs, fr, by rw [h.heap]; exact hb, rfl⟩, fun _ _ h => h⟩

theorem Rel.same {M loc H w w'} (h : Rel M loc H w) (hs : SameMem w w') : Rel M loc H w' ∧ Step M loc H w M loc H w' := by
  have hk := hs.keeps M loc
  refine ⟨⟨by rw [hs.heap]; exact h.base, fun b hb => by rw [hs.heap]; exact h.ext b hb, h.dom, fun i o ho => (h.objs i o ho).keeps_far hk rfl (fun b _ => ⟨by rw [hs.heap], rfl⟩), h.inj⟩,
    ⟨rfl, by rw [hs.heap]; exact Nat.le_refl _, hs.os, hs.tape, hs.output, fun b _ _ => ⟨by rw [hs.heap], rfl⟩, hk.imm, hk.shape, fun _ _ h => h, fun _ _ => rfl, Nat.le_refl _⟩⟩

end Go.Ab
