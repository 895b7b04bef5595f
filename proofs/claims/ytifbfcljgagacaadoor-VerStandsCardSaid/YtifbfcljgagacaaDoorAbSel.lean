/- A choice among the heap's objects; states that stand for others; calls in a larger heap; a function's end. -/
import Derived.Test.YtifbfcljgagacaaDoorAbRen
set_option linter.unusedVariables false
set_option linter.unusedSimpArgs false
namespace Go.Ab

def selR (l : List Nat) (m : Nat) : Nat → Nat := fun i => l.getD i m

def isGone : AObj → Bool
  | .gone => true
  | _ => false

/-- H2 is a choice of H's objects, by the list l of their old names -/
def Sel (n : Nat) (l : List Nat) (H H2 : List AObj) : Prop :=
  l.Nodup ∧ l.length = H2.length ∧ n ≤ l.length ∧ (∀ i, i < n → l[i]? = some i) ∧ ∀ i (h : i < H2.length), (H[l.getD i H.length]? = some (AObj.ren (selR l H.length) H2[i])) ∨ (isGone H2[i] = true ∧ l.getD i H.length < H.length)

section
variable {P : Program} {M : Mem} {w : World} {loc : Locs} {H H2 : List AObj} {n : Nat}

theorem gone_ren {ρ : Nat → Nat} {o : AObj} (h : AObj.ren ρ o = .gone) : o = .gone := by
  cases o <;> simp [AObj.ren] at h ⊢

theorem Rel.select {l : List Nat} (hr : Rel M loc H w) (hs : Sel n l H H2) :
    Rel M (fun i => loc (selR l H.length i)) H2 w ∧ StepN n M loc H w M (fun i => loc (selR l H.length i)) H2 w := by
  obtain ⟨hnd, hlen, hn, hid, hobj⟩ := hs
  have hget : ∀ (i : Nat) (o : AObj), H2[i]? = some o → (o = .gone → False) → i < H2.length ∧ H[selR l H.length i]? = some (AObj.ren (selR l H.length) o) := by
    intro i o hi hg
    obtain ⟨hlt, rfl⟩ := List.getElem?_eq_some_iff.1 hi
    rcases hobj i hlt with h | ⟨h, _⟩
    · exact ⟨hlt, h⟩
    · exfalso; apply hg; revert h; cases H2[i] <;> simp [isGone]
  have hinj : ∀ i j, i < H2.length → j < H2.length → selR l H.length i = selR l H.length j → i = j := by
    intro i j hi hj e
    have hi' : i < l.length := by omega
    have hj' : j < l.length := by omega
    simp only [selR, getD_lt _ _ _ hi', getD_lt _ _ _ hj'] at e
    rcases Nat.lt_trichotomy i j with q | q | q
    · exact (List.pairwise_iff_getElem.1 hnd i j hi' hj' q e).elim
    · exact q
    · exact (List.pairwise_iff_getElem.1 hnd j i hj' hi' q e.symm).elim
  have hlg : ∀ i l', loc (selR l H.length i) = some l' → (fun i => loc (selR l H.length i)) i = some l' := fun i l' h => h
  have hgone : ∀ o : AObj, (o = .gone → False) → (AObj.ren (selR l H.length) o = .gone → False) := fun o h e => h (gone_ren e)
  refine ⟨⟨hr.base, hr.ext, ?_, ?_, ?_⟩, ⟨rfl, Nat.le_refl _, rfl, rfl, rfl, fun _ _ _ => ⟨rfl, rfl⟩, fun _ _ _ h => h, fun _ cs _ fr h => ⟨cs, fr, h, rfl⟩, ?_, ?_, by omega⟩⟩
  · intro i hi
    refine hr.dom _ ?_
    simp [selR, List.getD, List.getElem?_eq_none (show l.length ≤ i by omega)]
  · intro i o hi
    by_cases hg : o = .gone
    · subst hg; trivial
    · obtain ⟨_, h⟩ := hget i o hi hg
      exact (hr.objs _ _ h).ren_from hlg
  · intro i j oi oj li lj b hi hj gi gj hli hlj bi bj
    obtain ⟨h1, h2⟩ := hget i oi hi gi
    obtain ⟨h3, h4⟩ := hget j oj hj gj
    exact hinj i j h1 h3 (hr.inj _ _ _ _ li lj b h2 h4 (hgone _ gi) (hgone _ gj) hli hlj bi bj)
  · intro b _ ⟨i, o, l', hi, hg, hl, hb⟩
    obtain ⟨_, h⟩ := hget i o hi hg
    exact ⟨_, _, l', h, hgone _ hg, hl, hb⟩
  · intro i hi
    have := hid i hi
    simp only [selR, List.getD, this, Option.getD_some]

/-- a state stands for another -/
def ReSt (n : Nat) (s : Slots) (H : List AObj) (s2 : Slots) (H2 : List AObj) : Prop :=
  ∀ M loc w (tmps : Array Value), n ≤ H.length → Rel M loc H w → SRel M w loc s tmps → ∃ M2 loc2, Rel M2 loc2 H2 w ∧ SRel M2 w loc2 s2 tmps ∧ StepN n M loc H w M2 loc2 H2 w

theorem ReSt.trans {s H s1 H1 s2 H2} (h : ReSt n s H s1 H1) (k : ReSt n s1 H1 s2 H2) : ReSt n s H s2 H2 := by
  intro M loc w tmps h0 h1 h2
  obtain ⟨M1, l1, a1, a2, a3⟩ := h M loc w tmps h0 h1 h2
  obtain ⟨M2, l2, b1, b2, b3⟩ := k M1 l1 w tmps a3.len a1 a2
  exact ⟨M2, l2, b1, b2, a3.trans b3 (Nat.le_refl _)⟩

theorem AWP.re {N : Nat} {c : Code} {s s2 : Slots} {Q : AQ} (h : ReSt n s H s2 H2) (k : AWP P N n c s2 H2 Q) : AWP P N n c s H Q := by
  intro M loc w a h0 h1 h2 h3 h4 ht
  obtain ⟨M2, l2, b1, b2, b3⟩ := h M loc w a.tmps h0 h1 h2
  exact wp_mono (k M2 l2 w a b3.len b1 b2 h3 h4 (ht.step h1 b3)) fun e a w => QC.step b3 (Nat.le_refl _)

/-- a value stands for another -/
def Le (a b : AV) : Prop := ∀ M w loc v, VRel M w loc a v → VRel M w loc b v

theorem Le.refl (a : AV) : Le a a := fun _ _ _ _ h => h
theorem Le.bad (a : AV) : Le a .bad := fun _ _ _ v _ => .bad v
theorem Le.trans {a b c : AV} (h : Le a b) (k : Le b c) : Le a c := fun M w loc v x => k M w loc v (h M w loc v x)

/-- the same rows, spelled otherwise; a tip that is forgotten -/
theorem Le.sl {sz sz' : Nat} {s s' : Seq} {tip tip' : Tip} (hs : s'.toList = s.toList) (hz : sz' = sz ∨ (s.toList = [] ∧ ∀ id, tip' ≠ .tok id)) (ht : tip' = tip ∨ tip' = .none) : Le (.sl sz s tip) (.sl sz' s' tip') := by
  intro M w loc v h
  cases h with
  | slnil _ _ _ h1 h2 =>
    refine .slnil _ _ _ (by rw [hs]; exact h1) (fun id e => ?_)
    rcases ht with rfl | rfl
    · exact h2 id e
    · cases e
  | slz _ _ _ ad h1 hn h2 =>
    refine .slz _ _ _ ad (by rw [hs]; exact h1) ?_ (fun id e => ?_)
    · rcases ht with rfl | rfl
      · exact hn
      · intro e; cases e
    · rcases ht with rfl | rfl
      · exact h2 id e
      · cases e
  | sl _ _ _ b o cap vals hz' h1 h2 hcap hnil hfull htok =>
    have hsz : ∀ (i : Nat) (h : i < s.toList.length), sz' = sz := by
      intro i h
      rcases hz with e | e
      · exact e
      · rw [e.1] at h; simp at h
    rw [← hs]
    refine .sl sz' s' tip' b o cap vals (fun i hi => ?_) (fun i j hi hj => ?_) (fun i j hi hj => ?_) (by rw [hs]; exact hcap) ?_ ?_ ?_
    · have hi' : i < s.toList.length := by rwa [hs] at hi
      rw [hsz i hi']
      have := hz' i hi'
      simpa [hs] using this
    · have hi' : i < s.toList.length := by rwa [hs] at hi
      rw [hsz i hi'] at hj ⊢
      exact h1 i j hi' hj
    · have hi' : i < s.toList.length := by rwa [hs] at hi
      have := h2 i j hi' (by simpa [hs] using hj)
      simpa [hs] using this
    · rcases ht with rfl | rfl
      · exact hnil
      · intro h; cases h
    · rcases ht with rfl | rfl
      · rw [hs]; exact hfull
      · intro h; cases h
    · intro id e
      rcases ht with rfl | rfl
      · rw [hs]
        rcases htok id e with c | ⟨c1, cs, T, fr, c2, c3⟩
        · exact .inl c
        · rcases hz with ez | ez
          · subst ez; exact .inr ⟨c1, cs, T, fr, c2, c3⟩
          · exact (ez.2 id e).elim
      · cases e

theorem ReSt.le {s s2 : Slots} (h : ∀ d, Le (get s d) (get s2 d)) (hn : n ≤ H.length) : ReSt n s H s2 H :=
  fun M loc w tmps h0 h1 h2 => ⟨M, loc, h1, fun d => h d M w loc _ (h2 d), (Step.refl M loc H w).mono hn⟩

theorem ReSt.sel {l : List Nat} {s s2 : Slots} (hs : Sel n l H H2) (h : ∀ d, get s d = AV.ren (selR l H.length) (get s2 d) ∨ get s2 d = .bad) : ReSt n s H s2 H2 := by
  intro M loc w tmps h0 h1 h2
  obtain ⟨r1, r2⟩ := h1.select hs
  refine ⟨_, _, r1, fun d => ?_, r2⟩
  rcases h d with e | e
  · have := h2 d
    rw [e] at this
    exact this.ren_from (fun i l' h => h) _ rfl
  · rw [e]; exact .bad _

/-- what is nil or full gets a token -/
theorem ReSt.tok {s s2 : Slots} {k sz sz' : Nat} {q q' : Seq} {tip : Tip} (hk : get s k = .sl sz q tip) (ht : tip = .nil ∨ tip = .full) (hq : q'.toList = q.toList) (hz : sz' = sz ∨ q.toList = [])
    (h2 : ∀ d, d ≠ k → get s2 d = get s d) (h2k : get s2 k = .sl sz' q' (.tok H.length)) : ReSt n s H s2 (H ++ [.tok]) := by
  intro M loc w tmps h0 h1 h3
  obtain ⟨r1, r2⟩ := h1.xtok
  have hkeep := r2.keeps h1
  refine ⟨_, _, r1, fun d => ?_, r2.mono h0⟩
  by_cases e : d = k
  · subst e
    have hv := h3 d
    rw [hk] at hv
    rw [h2k]
    generalize tmps.getD d undef = v at hv
    cases hv with
    | slnil _ _ _ c1 c2 => exact .slnil _ _ _ (by rw [hq]; exact c1) (fun id e => by cases e; simp [locSet])
    | slz _ _ _ ad c1 _ c2 => exact .slz _ _ _ ad (by rw [hq]; exact c1) (fun e => by cases e) (fun id e => by cases e; simp [locSet])
    | sl _ _ _ b o cap vals hz' d1 d2 hcap hnil hfull htok =>
      have hf : tip = .full := by
        rcases ht with rfl | rfl
        · exact (hnil rfl).elim
        · rfl
      have hsz : ∀ (i : Nat) (h : i < q.toList.length), sz' = sz := by
        intro i h
        rcases hz with e | e
        · exact e
        · rw [e] at h; simp at h
      rw [← hq]
      refine .sl sz' q' _ b o cap vals (fun i hi => ?_) (fun i j hi hj => ?_) (fun i j hi hj => ?_) (by rw [hq]; exact hcap) (by intro h; cases h) (by intro h; cases h) ?_
      · have hi' : i < q.toList.length := by rwa [hq] at hi
        rw [hsz i hi']
        have := hz' i hi'
        simpa [hq] using this
      · have hi' : i < q.toList.length := by rwa [hq] at hi
        rw [hsz i hi'] at hj ⊢
        exact hkeep.imm _ _ _ (d1 i j hi' hj)
      · have hi' : i < q.toList.length := by rwa [hq] at hi
        have := (d2 i j hi' (by simpa [hq] using hj)).keeps hkeep
        simpa [hq] using this
      · intro id e
        cases e
        rw [hq]
        exact .inl ⟨by simp [locSet], hfull hf⟩
  · rw [h2 d e]
    exact (h3 d).keeps hkeep

/-- a row that is written no more becomes data -/
theorem ReSt.freeze {s s2 : Slots} {id sz : Nat} {q : Seq} (ho : H[id]? = some (.arr sz q)) (hn : n ≤ H.length)
    (h2 : ∀ d, get s2 d = get s d ∨ get s2 d = .bad ∨ ∃ off len q', get s d = .msl sz id off len ∧ off + len ≤ q.toList.length ∧ get s2 d = .sl sz q' .none ∧ q'.toList = (q.toList.take (off + len)).drop off) :
    ReSt n s H s2 (H.set id .gone) := by
  intro M loc w tmps h0 h1 h3
  obtain ⟨b, vs, T, fr, hl, c1, c2, c3, c4, c5, c6, c7⟩ := h1.objs id _ ho
  have hng : (AObj.arr sz q = AObj.gone → False) := by intro h; cases h
  obtain ⟨r1, r2⟩ := h1.drop id
  have hnb : ∀ i o x, (H.set id AObj.gone)[i]? = some o → (o = .gone → False) → loc i = some x → x.block? ≠ some b := by
    intro i o x hi hg hx hb
    have hi' : i ≠ id ∧ H[i]? = some o := by
      rw [List.getElem?_set] at hi
      split at hi
      · split at hi
        · cases hi; exact (hg rfl).elim
        · cases hi
      · rename_i e; exact ⟨fun x => e x.symm, hi⟩
    exact hi'.1 (h1.inj i id o _ x _ b hi'.2 ho hg hng hx hl hb rfl)
  have hk : Keeps M w loc (M.grow b (q.toList.length * sz)) w loc := by
    refine ⟨fun c k v hi => ⟨hi.1, ?_⟩, fun _ cs _ fr h => ⟨cs, fr, h, rfl⟩, fun _ _ h => h⟩
    by_cases e : c = b
    · subst e; rcases hi.2 with z | z <;> omega
    · simp only [Mem.grow]; rw [if_neg e]; exact hi.2
  refine ⟨M.grow b (q.toList.length * sz), loc, ⟨r1.base, ?_, r1.dom, ?_, r1.inj⟩, fun d => ?_, ⟨rfl, Nat.le_refl _, rfl, rfl, rfl, ?_, hk.imm, hk.shape, r2.own, fun _ _ => rfl, by simpa using h0⟩⟩
  · intro c hc
    simp only [Mem.grow] at hc ⊢
    by_cases e : c = b
    · subst e; rw [if_pos rfl]; exact ⟨c1, vs, T, fr, c3, c5⟩
    · rw [if_neg e] at hc ⊢; exact r1.ext c hc
  · intro i o hi
    by_cases hg : o = .gone
    · subst hg; trivial
    · refine (r1.objs i o hi).keeps_far hk rfl (fun c hc => ⟨rfl, ?_⟩)
      simp only [Mem.grow]
      rw [if_neg]
      rintro rfl
      cases hx : loc i with
      | none => rw [hx] at hc; cases hc
      | some x => rw [hx] at hc; exact hnb i o x hi hg hx hc
  · rcases h2 d with e | e | ⟨off, len, q', e1, e2, e3, e4⟩
    · rw [e]; exact (h3 d).keeps hk
    · rw [e]; exact .bad _
    · have hv := h3 d
      rw [e1] at hv
      rw [e3]
      generalize tmps.getD d undef = v at hv
      cases hv with
      | msl _ _ _ _ b' cap hb' hle hc =>
      rw [hl] at hb'
      cases hb'
      have hlen : q'.toList.length = len := by rw [e4]; simp; omega
      have hget : ∀ i (hi : i < q'.toList.length), ∃ hi' : off + i < q.toList.length, q'.toList[i] = q.toList[off + i] := by
        intro i hi
        have hi2 : off + i < q.toList.length := by omega
        refine ⟨hi2, ?_⟩
        have e5 : q'.toList[i]? = some q.toList[off + i] := by
          rw [e4, List.getElem?_drop, List.getElem?_take, if_pos (by omega), List.getElem?_eq_getElem hi2]
        rw [List.getElem?_eq_getElem hi] at e5
        exact Option.some.inj e5
      have hmul : ∀ i, i < q.toList.length → i * sz + sz ≤ q.toList.length * sz := by
        intro i hi
        have := Nat.mul_le_mul_right sz (show i + 1 ≤ q.toList.length from hi)
        rwa [Nat.succ_mul] at this
      have hg := VRel.sl (M := M.grow b (q.toList.length * sz)) (w := w) (loc := loc) sz q' .none b (off * sz) cap (fun i j => vs.getD ((off + i) * sz + j) undef)
        (fun i hi => by obtain ⟨hi', e⟩ := hget i hi; rw [e]; exact c6 _ hi')
        (fun i j hi hj => by
          obtain ⟨hi', e⟩ := hget i hi
          have := hmul _ hi'
          refine ⟨?_, .inr ?_⟩
          · rw [← Nat.add_mul, cell_eq c3, Array.getElem?_eq_getElem (by omega)]
            simp [Array.getD, show (off + i) * sz + j < vs.size by omega]
          · simp only [Mem.grow, if_true]; rw [← Nat.add_mul]; omega)
        (fun i j hi hj => by
          obtain ⟨hi', e⟩ := hget i hi
          obtain ⟨v, hv1, hv2⟩ := c7 (off + i) j hi' (by rw [← e]; exact hj)
          simp only [e]
          rw [Array.getD_eq_getD_getElem?, hv1]
          exact hv2.keeps hk)
        (by rw [hlen]; exact hle) (by intro h; cases h) (fun h => by cases h) (fun id h => by cases h)
      rw [hlen] at hg
      exact hg
  · intro c hc hno
    refine ⟨rfl, ?_⟩
    simp only [Mem.grow]
    rw [if_neg]
    rintro rfl
    exact hno ⟨id, _, _, ho, hng, hl, rfl⟩

/-! ### calls and ends -/

/-- the heap behind a call that saw a part of it -/
def graft (ρ : Nat → Nat) (l : List Nat) (H Hl : List AObj) : List AObj :=
  (l.zip Hl).foldl (fun h p => h.set p.1 (AObj.ren ρ p.2)) H ++ (Hl.drop l.length).map (AObj.ren ρ)

def callR (l : List Nat) (m : Nat) : Nat → Nat := fun i => if i < l.length then l.getD i 0 else m + (i - l.length)

theorem ASpec.sel {f : FuncId} {args : List AV} {Post : AV → List AObj → Prop}
    (h : ASpec P f args H (fun r H' => ∃ l H2 r2, Sel H.length l H' H2 ∧ Le r (AV.ren (selR l H'.length) r2) ∧ Post r2 H2)) : ASpec P f args H Post := by
  intro M loc w vs ht hr hv
  refine (h M loc w vs ht hr hv).mono fun e w' hh => ?_
  obtain ⟨v, r, H', M', loc', he, ⟨l, H2, r2, hs, hle, hP⟩, r1, r2', r3⟩ := hh
  obtain ⟨k1, k2⟩ := r1.select hs
  exact ⟨v, _, _, _, _, he, hP, k1, (hle _ _ _ _ r2').ren_from (fun i l' h => h) _ rfl, StepN.trans r3 k2 (Nat.le_refl _)⟩

end
end Go.Ab
