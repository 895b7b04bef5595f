/- Other names for the heap's objects; states that stand for others; calls in a larger heap. -/
import Derived.Test.YtifbfcljgagacaaDoorAbVc
set_option linter.unusedVariables false
set_option linter.unusedSimpArgs false
namespace Go.Ab

def Tip.ren (ρ : Nat → Nat) : Tip → Tip
  | .tok id => .tok (ρ id)
  | t => t

mutual
def AV.ren (ρ : Nat → Nat) : AV → AV
  | .ptr id off => .ptr (ρ id) off
  | .iptr cs off => .iptr (renL ρ cs) off
  | .sl sz s tip => .sl sz (Seq.ren ρ s) (tip.ren ρ)
  | .msl sz id off len => .msl sz (ρ id) off len
  | .mptr sz id i off => .mptr sz (ρ id) i off
  | .agg cs => .agg (renL ρ cs)
  | .tup vs => .tup (renL ρ vs)
  | .fn f cap => .fn f (renL ρ cap)
  | .iface t v => .iface t (AV.ren ρ v)
  | .map id => .map (ρ id)
  | .bad => .bad
  | .int k n => .int k n
  | .bool b => .bool b
  | .str s => .str s
  | .nilp => .nilp
  | .nilf => .nilf
  | .nili => .nili
  | .nmap => .nmap
  | .meth t n v => .meth t n (AV.ren ρ v)
def Seq.ren (ρ : Nat → Nat) : Seq → Seq
  | .raw l => .raw (renLL ρ l)
  | .map enc d xs => .map (fun x => renL ρ (enc x)) d xs
  | .app a b => .app (Seq.ren ρ a) (Seq.ren ρ b)
def renL (ρ : Nat → Nat) : List AV → List AV
  | [] => []
  | a :: r => AV.ren ρ a :: renL ρ r
def renLL (ρ : Nat → Nat) : List (List AV) → List (List AV)
  | [] => []
  | a :: r => renL ρ a :: renLL ρ r
end

theorem renL_map (ρ : Nat → Nat) : ∀ l : List AV, renL ρ l = l.map (AV.ren ρ)
  | [] => rfl
  | a :: r => by simp [renL, renL_map ρ r]
theorem renLL_map (ρ : Nat → Nat) : ∀ l : List (List AV), renLL ρ l = l.map fun x => x.map (AV.ren ρ)
  | [] => rfl
  | a :: r => by simp [renLL, renLL_map ρ r, renL_map]

theorem Seq.ren_toList (ρ : Nat → Nat) : ∀ s : Seq, (Seq.ren ρ s).toList = s.toList.map fun x => x.map (AV.ren ρ)
  | .raw l => by simp [Seq.ren, Seq.toList, renLL_map]
  | .map enc d xs => by simp [Seq.ren, Seq.toList, renL_map]
  | .app a b => by simp [Seq.ren, Seq.toList, Seq.ren_toList ρ a, Seq.ren_toList ρ b]

def Enc.ren {α : Type} (ρ : Nat → Nat) (E : Enc α) : Enc α := ⟨fun a => AV.ren ρ (E.enc a), fun a K => E.spl a (fun v => K (AV.ren ρ v)), fun a K h => E.ok a _ h⟩
def MM.ren (ρ : Nat → Nat) : MM → MM
  | .nil => .nil
  | .typed E l => .typed (E.ren ρ) l
  | .put m k v => .put (MM.ren ρ m) k (AV.ren ρ v)
theorem MM.ren_toList (ρ : Nat → Nat) : ∀ m : MM, (MM.ren ρ m).toList = m.toList.map fun p => (p.1, AV.ren ρ p.2)
  | .nil => rfl
  | .typed E l => by simp [MM.ren, MM.toList, Enc.ren]
  | .put m k v => by simp only [MM.ren, MM.toList]; rw [MM.ren_toList ρ m, setM_map]

def AObj.ren (ρ : Nat → Nat) : AObj → AObj
  | .gone => .gone
  | .cells cs => .cells (renL ρ cs)
  | .tok => .tok
  | .arr sz s => .arr sz (Seq.ren ρ s)
  | .siter s pos => .siter s pos
  | .mp m => .mp (MM.ren ρ m)

section
variable {M : Mem} {w : World} {loc loc2 : Locs} {ρ : Nat → Nat}

/-- from the new names' values to the old ones' -/
theorem VRel.ren_to (hl : ∀ i l, loc2 i = some l → loc (ρ i) = some l) {a v} (h : VRel M w loc2 a v) : VRel M w loc (AV.ren ρ a) v := by
  induction h with
  | bad v => exact .bad v
  | int k n => exact .int k n
  | bool b => exact .bool b
  | str s => exact .str s
  | nilp => exact .nilp
  | ptr id off b h => exact .ptr _ off b (hl _ _ h)
  | iptr cs off b o vals h1 h2 ih =>
    refine .iptr _ off b o vals (fun j hj => h1 j (by simpa [renL_map] using hj)) (fun j hj => ?_)
    simp only [renL_map, List.getElem_map]
    exact ih j (by simpa [renL_map] using hj)
  | slnil sz s tip hs ht =>
    refine .slnil _ _ _ (by rw [Seq.ren_toList, hs]; rfl) (fun id h => ?_)
    cases tip <;> simp only [Tip.ren, Tip.tok.injEq, reduceCtorEq] at h
    subst h; exact hl _ _ (ht _ rfl)
  | slz sz s tip a hs hn ht =>
    refine .slz _ _ _ a (by rw [Seq.ren_toList, hs]; rfl) (fun h => hn (by cases tip <;> simp [Tip.ren] at h ⊢)) (fun id h => ?_)
    cases tip <;> simp only [Tip.ren, Tip.tok.injEq, reduceCtorEq] at h
    subst h; exact hl _ _ (ht _ rfl)
  | sl sz s tip b o cap vals hz h1 h2 hcap hnil hfull htok ih =>
    have hlen : (Seq.ren ρ s).toList.length = s.toList.length := by rw [Seq.ren_toList]; simp
    have hg := VRel.sl (M := M) (w := w) (loc := loc) sz (Seq.ren ρ s) (tip.ren ρ) b o cap vals
      (fun i hi => by simp only [Seq.ren_toList, List.getElem_map, List.length_map]; exact hz i (by rwa [hlen] at hi))
      (fun i j hi hj => h1 i j (by rwa [hlen] at hi) hj)
      (fun i j hi hj => by
        simp only [Seq.ren_toList, List.getElem_map]
        exact ih i j (by rwa [hlen] at hi) (by simpa [Seq.ren_toList] using hj))
      (by rwa [hlen]) (by cases tip <;> simp [Tip.ren] at hnil ⊢) (by rw [hlen]; intro h; exact hfull (by cases tip <;> simp [Tip.ren] at h ⊢))
      (fun id h => by
        cases tip <;> simp only [Tip.ren, Tip.tok.injEq, reduceCtorEq] at h
        subst h
        rw [hlen]
        rcases htok _ rfl with ⟨c1, c2⟩ | ⟨c1, c2⟩
        · exact .inl ⟨hl _ _ c1, c2⟩
        · exact .inr ⟨hl _ _ c1, c2⟩)
    rw [hlen] at hg
    exact hg
  | msl sz id off len b cap h hle hc => exact .msl _ _ _ _ b cap (hl _ _ h) hle hc
  | mptr sz id i off b h => exact .mptr _ _ _ _ b (hl _ _ h)
  | agg cs vs hs h ih => exact .agg _ _ (by simp [renL_map, hs]) (fun i hi => by simp only [renL_map, List.getElem_map]; exact ih i (by simpa [renL_map] using hi))
  | tup cs vs hs h ih => exact .tup _ _ (by simp [renL_map, hs]) (fun i hi => by simp only [renL_map, List.getElem_map]; exact ih i (by simpa [renL_map] using hi))
  | fn f cs vs hs h ih => exact .fn f _ _ (by simp [renL_map, hs]) (fun i hi => by simp only [renL_map, List.getElem_map]; exact ih i (by simpa [renL_map] using hi))
  | nilf => exact .nilf
  | iface t a v h ih => exact .iface t _ v ih
  | nili => exact .nili
  | nmap => exact .nmap
  | map id b h => exact .map _ b (hl _ _ h)
  | meth t n a v h ih => exact .meth t n _ v ih

/-- and back -/
theorem VRel.ren_from (hl : ∀ i l, loc (ρ i) = some l → loc2 i = some l) {a' v} (h : VRel M w loc a' v) : ∀ a, a' = AV.ren ρ a → VRel M w loc2 a v := by
  induction h with
  | bad v => intro a e; cases a <;> simp only [AV.ren, reduceCtorEq] at e; exact .bad v
  | int k n => intro a e; cases a <;> simp only [AV.ren, AV.int.injEq, reduceCtorEq] at e; obtain ⟨rfl, rfl⟩ := e; exact .int _ _
  | bool b => intro a e; cases a <;> simp only [AV.ren, AV.bool.injEq, reduceCtorEq] at e; subst e; exact .bool _
  | str s => intro a e; cases a <;> simp only [AV.ren, AV.str.injEq, reduceCtorEq] at e; subst e; exact .str _
  | nilp => intro a e; cases a <;> simp only [AV.ren, reduceCtorEq] at e; exact .nilp
  | ptr id off b h =>
    intro a e; cases a <;> simp only [AV.ren, AV.ptr.injEq, reduceCtorEq] at e; obtain ⟨rfl, rfl⟩ := e
    exact .ptr _ _ b (hl _ _ h)
  | iptr cs off b o vals h1 h2 ih =>
    intro a e; cases a <;> simp only [AV.ren, AV.iptr.injEq, reduceCtorEq] at e; obtain ⟨rfl, rfl⟩ := e
    refine .iptr _ _ b o vals (fun j hj => h1 j (by simpa [renL_map] using hj)) (fun j hj => ih j (by simpa [renL_map] using hj) _ (by simp [renL_map]))
  | slnil sz s tip hs ht =>
    intro a e; cases a <;> simp only [AV.ren, AV.sl.injEq, reduceCtorEq] at e; obtain ⟨rfl, rfl, rfl⟩ := e
    refine .slnil _ _ _ (by rw [Seq.ren_toList] at hs; simpa using hs) (fun id h => ?_)
    subst h; exact hl _ _ (ht _ rfl)
  | slz sz s tip ad hs hn ht =>
    intro a e; cases a <;> simp only [AV.ren, AV.sl.injEq, reduceCtorEq] at e; obtain ⟨rfl, rfl, rfl⟩ := e
    refine .slz _ _ _ ad (by rw [Seq.ren_toList] at hs; simpa using hs) (fun h => hn (by rw [h]; rfl)) (fun id h => ?_)
    subst h; exact hl _ _ (ht _ rfl)
  | sl sz s tip b o cap vals hz h1 h2 hcap hnil hfull htok ih =>
    intro a e; cases a <;> simp only [AV.ren, AV.sl.injEq, reduceCtorEq] at e; obtain ⟨rfl, rfl, rfl⟩ := e
    rename_i s tip
    have hlen : (Seq.ren ρ s).toList.length = s.toList.length := by rw [Seq.ren_toList]; simp
    have hg := VRel.sl (M := M) (w := w) (loc := loc2) sz s tip b o cap vals
      (fun i hi => by have := hz i (by rwa [hlen]); simpa [Seq.ren_toList] using this)
      (fun i j hi hj => h1 i j (by rwa [hlen]) hj)
      (fun i j hi hj => ih i j (by rwa [hlen]) (by simpa [Seq.ren_toList] using hj) _ (by simp [Seq.ren_toList]))
      (by rwa [hlen] at hcap) (by cases tip <;> simp [Tip.ren] at hnil ⊢) (by intro h; subst h; have := hfull rfl; rwa [hlen] at this)
      (fun id h => by
        subst h
        have := htok _ rfl
        rw [hlen] at this
        rcases this with ⟨c1, c2⟩ | ⟨c1, c2⟩
        · exact .inl ⟨hl _ _ c1, c2⟩
        · exact .inr ⟨hl _ _ c1, c2⟩)
    rw [hlen]
    exact hg
  | msl sz id off len b cap h hle hc =>
    intro a e; cases a <;> simp only [AV.ren, AV.msl.injEq, reduceCtorEq] at e; obtain ⟨rfl, rfl, rfl, rfl⟩ := e
    exact .msl _ _ _ _ b cap (hl _ _ h) hle hc
  | mptr sz id i off b h =>
    intro a e; cases a <;> simp only [AV.ren, AV.mptr.injEq, reduceCtorEq] at e; obtain ⟨rfl, rfl, rfl, rfl⟩ := e
    exact .mptr _ _ _ _ b (hl _ _ h)
  | agg cs vs hs h ih =>
    intro a e; cases a <;> simp only [AV.ren, AV.agg.injEq, reduceCtorEq] at e; subst e
    exact .agg _ _ (by simpa [renL_map] using hs) (fun i hi => ih i (by simpa [renL_map] using hi) _ (by simp [renL_map]))
  | tup cs vs hs h ih =>
    intro a e; cases a <;> simp only [AV.ren, AV.tup.injEq, reduceCtorEq] at e; subst e
    exact .tup _ _ (by simpa [renL_map] using hs) (fun i hi => ih i (by simpa [renL_map] using hi) _ (by simp [renL_map]))
  | fn f cs vs hs h ih =>
    intro a e; cases a <;> simp only [AV.ren, AV.fn.injEq, reduceCtorEq] at e; obtain ⟨rfl, rfl⟩ := e
    exact .fn _ _ _ (by simpa [renL_map] using hs) (fun i hi => ih i (by simpa [renL_map] using hi) _ (by simp [renL_map]))
  | nilf => intro a e; cases a <;> simp only [AV.ren, reduceCtorEq] at e; exact .nilf
  | iface t a v h ih =>
    intro a e; cases a <;> simp only [AV.ren, AV.iface.injEq, reduceCtorEq] at e; obtain ⟨rfl, rfl⟩ := e
    exact .iface _ _ v (ih _ rfl)
  | nili => intro a e; cases a <;> simp only [AV.ren, reduceCtorEq] at e; exact .nili
  | nmap => intro a e; cases a <;> simp only [AV.ren, reduceCtorEq] at e; exact .nmap
  | map id b h =>
    intro a e; cases a <;> simp only [AV.ren, AV.map.injEq, reduceCtorEq] at e; subst e
    exact .map _ b (hl _ _ h)
  | meth t n a v h ih =>
    intro a e; cases a <;> simp only [AV.ren, AV.meth.injEq, reduceCtorEq] at e; obtain ⟨rfl, rfl, rfl⟩ := e
    exact .meth _ _ _ v (ih _ rfl)

theorem ORel.ren_to (hl : ∀ i l, loc2 i = some l → loc (ρ i) = some l) {l o} (h : ORel M w loc2 l o) : ORel M w loc l (AObj.ren ρ o) := by
  cases o with
  | gone => trivial
  | cells cs =>
    obtain ⟨b, vs, T, fr, e, h1, h2, h3, h4, h5, h6⟩ := h
    refine ⟨b, vs, T, fr, e, h1, h2, h3, h4, by simp [renL_map, h5], fun i hi => ?_⟩
    simp only [renL_map, List.getElem_map]
    exact (h6 i (by simpa [renL_map] using hi)).ren_to hl
  | tok => exact h
  | arr sz s =>
    obtain ⟨b, vs, T, fr, e, h1, h2, h3, h4, h5, h6, h7⟩ := h
    have hlen : (Seq.ren ρ s).toList.length = s.toList.length := by rw [Seq.ren_toList]; simp
    refine ⟨b, vs, T, fr, e, h1, h2, h3, h4, by rw [hlen]; exact h5, fun i hi => ?_, fun i j hi hj => ?_⟩
    · simp only [Seq.ren_toList, List.getElem_map, List.length_map]; exact h6 i (by rwa [hlen] at hi)
    · obtain ⟨v, hv, hr⟩ := h7 i j (by rwa [hlen] at hi) (by simpa [Seq.ren_toList] using hj)
      refine ⟨v, hv, ?_⟩
      simp only [Seq.ren_toList, List.getElem_map]
      exact hr.ren_to hl
  | siter s pos => exact h
  | mp es =>
    obtain ⟨b, ents, clock, e, h1, h2, h3, h4, h5⟩ := h
    refine ⟨b, ents, clock, e, h1, h2, h3, by simp [h4, MM.ren_toList], fun i hi => ?_⟩
    obtain ⟨k1, k2⟩ := h5 i (by simpa [MM.ren_toList] using hi)
    simp only [MM.ren_toList, List.getElem_map]
    exact ⟨k1, k2.ren_to hl⟩

theorem ORel.ren_from (hl : ∀ i l, loc (ρ i) = some l → loc2 i = some l) {l o} (h : ORel M w loc l (AObj.ren ρ o)) : ORel M w loc2 l o := by
  cases o with
  | gone => trivial
  | cells cs =>
    obtain ⟨b, vs, T, fr, e, h1, h2, h3, h4, h5, h6⟩ := h
    exact ⟨b, vs, T, fr, e, h1, h2, h3, h4, by simpa [renL_map] using h5, fun i hi => (h6 i (by simpa [renL_map] using hi)).ren_from hl _ (by simp [renL_map])⟩
  | tok => exact h
  | arr sz s =>
    obtain ⟨b, vs, T, fr, e, h1, h2, h3, h4, h5, h6, h7⟩ := h
    have hlen : (Seq.ren ρ s).toList.length = s.toList.length := by rw [Seq.ren_toList]; simp
    refine ⟨b, vs, T, fr, e, h1, h2, h3, h4, by rw [hlen] at h5; exact h5, fun i hi => ?_, fun i j hi hj => ?_⟩
    · have := h6 i (by rwa [hlen]); simpa [Seq.ren_toList] using this
    · obtain ⟨v, hv, hr⟩ := h7 i j (by rwa [hlen]) (by simpa [Seq.ren_toList] using hj)
      exact ⟨v, hv, hr.ren_from hl _ (by simp [Seq.ren_toList])⟩
  | siter s pos => exact h
  | mp es =>
    obtain ⟨b, ents, clock, e, h1, h2, h3, h4, h5⟩ := h
    refine ⟨b, ents, clock, e, h1, h2, h3, by simpa [MM.ren_toList] using h4, fun i hi => ?_⟩
    obtain ⟨k1, k2⟩ := h5 i (by simpa [MM.ren_toList] using hi)
    simp only [MM.ren_toList, List.getElem_map] at k1 k2
    exact ⟨k1, k2.ren_from hl _ rfl⟩

end
end Go.Ab
