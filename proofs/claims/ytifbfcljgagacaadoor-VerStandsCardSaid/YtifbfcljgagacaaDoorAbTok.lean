/- Tokens for slices that lie in objects; slices whose elements are forgotten in part; calls that see some objects of the heap. -/
import Derived.Test.YtifbfcljgagacaaDoorAbUse
set_option linter.unusedVariables false
set_option linter.unusedSimpArgs false
namespace Go.Ab

/-- rows that stand for others, element by element -/
theorem Le.slE {sz : Nat} {s s' : Seq} {tip tip' : Tip} (hl : s'.toList.length = s.toList.length)
    (he : ∀ i (h : i < s.toList.length) (h' : i < s'.toList.length), Les s.toList[i] s'.toList[i]) (ht : tip' = tip ∨ tip' = .none) : Le (.sl sz s tip) (.sl sz s' tip') := by
  intro M w loc v h
  cases h with
  | slnil _ _ _ h1 h2 =>
    have h1' : s'.toList = [] := List.length_eq_zero_iff.1 (by rw [hl, h1]; rfl)
    refine .slnil _ _ _ h1' (fun id e => ?_)
    rcases ht with rfl | rfl
    · exact h2 id e
    · cases e
  | slz _ _ _ ad h1 hn h2 =>
    have h1' : s'.toList = [] := List.length_eq_zero_iff.1 (by rw [hl, h1]; rfl)
    refine .slz _ _ _ ad h1' ?_ (fun id e => ?_)
    · rcases ht with rfl | rfl
      · exact hn
      · intro e; cases e
    · rcases ht with rfl | rfl
      · exact h2 id e
      · cases e
  | sl _ _ _ b o cap vals hz h1 h2 hcap hnil hfull htok =>
    rw [← hl]
    refine .sl sz s' tip' b o cap vals (fun i hi => ?_) (fun i j hi hj => ?_) (fun i j hi hj => ?_) (by rw [hl]; exact hcap) ?_ ?_ ?_
    · have hi' : i < s.toList.length := by omega
      rw [← (he i hi' hi).len]; exact hz i hi'
    · exact h1 i j (by omega) hj
    · have hi' : i < s.toList.length := by omega
      have hx := he i hi' hi
      have hj' : j < s.toList[i].length := by rw [hx.len]; exact hj
      exact hx.get j hj' hj M w loc _ (h2 i j hi' hj')
    · rcases ht with rfl | rfl
      · exact hnil
      · intro h; cases h
    · rcases ht with rfl | rfl
      · rw [hl]; exact hfull
      · intro h; cases h
    · intro id e
      rcases ht with rfl | rfl
      · rw [hl]; exact htok id e
      · cases e

section
variable {P : Program} {M : Mem} {w : World} {loc : Locs} {H H2 : List AObj} {n : Nat}

/-- an object told otherwise -/
theorem Rel.respell (hr : Rel M loc H w) (id : Nat) (o o' : AObj) (ho : H[id]? = some o) (hg : o = .gone → False) (hg' : o' = .gone → False) (h : ORel M w loc (loc id) o → ORel M w loc (loc id) o') :
    Rel M loc (H.set id o') w ∧ Step M loc H w M loc (H.set id o') w := by
  have hget : ∀ (i : Nat) (q : AObj), (H.set id o')[i]? = some q → (i ≠ id ∧ H[i]? = some q) ∨ (i = id ∧ q = o') := by
    intro i q hi
    rw [List.getElem?_set] at hi
    split at hi
    · rename_i e
      split at hi
      · cases hi; exact .inr ⟨e.symm, rfl⟩
      · cases hi
    · rename_i e
      exact .inl ⟨fun x => e x.symm, hi⟩
  refine ⟨⟨hr.base, hr.ext, fun i hi => hr.dom i (by simpa using hi), ?_, ?_⟩, ⟨rfl, Nat.le_refl _, rfl, rfl, rfl, fun _ _ _ => ⟨rfl, rfl⟩, fun _ _ _ h => h, fun _ cs _ fr h => ⟨cs, fr, h, rfl⟩, ?_, fun _ _ => rfl, by simp⟩⟩
  · intro i q hi
    rcases hget i q hi with ⟨hne, hi'⟩ | ⟨rfl, rfl⟩
    · exact hr.objs i q hi'
    · exact h (hr.objs i o ho)
  · intro i j oi oj li lj c hi hj gi gj hli hlj bi bj
    rcases hget i oi hi with ⟨hne, hi'⟩ | ⟨rfl, rfl⟩
    · rcases hget j oj hj with ⟨hne2, hj'⟩ | ⟨rfl, rfl⟩
      · exact hr.inj i j oi oj li lj c hi' hj' gi gj hli hlj bi bj
      · exact hr.inj i j oi o li lj c hi' ho gi hg hli hlj bi bj
    · rcases hget j oj hj with ⟨hne2, hj'⟩ | ⟨rfl, rfl⟩
      · exact hr.inj i j o oj li lj c ho hj' hg gj hli hlj bi bj
      · rfl
  · intro c hc ⟨i, q, l, hi, hgq, hli, hbl⟩
    rcases hget i q hi with ⟨hne, hi'⟩ | ⟨rfl, rfl⟩
    · exact ⟨i, q, l, hi', hgq, hli, hbl⟩
    · exact ⟨i, o, l, ho, hg, hli, hbl⟩

theorem VRel.tokOf {sz sz' : Nat} {q q' : Seq} {tip : Tip} {v : Value} {k : Nat} (h : VRel M w loc (.sl sz q tip) v) (hl : loc k = some .xtok) (ht : tip = .nil ∨ tip = .full) (hq : q'.toList = q.toList) (hz : sz' = sz ∨ q.toList = []) :
    VRel M w loc (.sl sz' q' (.tok k)) v := by
  cases h with
  | slnil _ _ _ c1 c2 => exact .slnil _ _ _ (by rw [hq]; exact c1) (fun id e => by cases e; exact hl)
  | slz _ _ _ ad c1 _ c2 => exact .slz _ _ _ ad (by rw [hq]; exact c1) (fun e => by cases e) (fun id e => by cases e; exact hl)
  | sl _ _ _ b o cap vals hz' d1 d2 hcap hnil hfull htok =>
    have hf : tip = .full := by
      rcases ht with rfl | rfl
      · exact (hnil rfl).elim
      · rfl
    have hsz : ∀ (i : Nat) (h : i < q.toList.length), sz' = sz := by
      intro i h
      rcases hz with e | e
      · exact e
      · rw [e] at h; simp at h
    rw [← hq]
    refine .sl sz' q' _ b o cap vals (fun i hi => ?_) (fun i j hi hj => ?_) (fun i j hi hj => ?_) (by rw [hq]; exact hcap) (by intro h; cases h) (by intro h; cases h) ?_
    · have hi' : i < q.toList.length := by rwa [hq] at hi
      rw [hsz i hi']
      have := hz' i hi'
      simpa [hq] using this
    · have hi' : i < q.toList.length := by rwa [hq] at hi
      rw [hsz i hi'] at hj ⊢
      exact d1 i j hi' hj
    · have hi' : i < q.toList.length := by rwa [hq] at hi
      have := d2 i j hi' (by simpa [hq] using hj)
      simpa [hq] using this
    · intro id e
      cases e
      rw [hq]
      exact .inl ⟨hl, hfull hf⟩

/-- a slice that lies in an object gets a token -/
theorem ReSt.tokCell {s : Slots} {id j sz sz' : Nat} {q q' : Seq} {tip : Tip} {cs : List AV} (ho : H[id]? = some (.cells cs)) (hj : cs[j]? = some (.sl sz q tip)) (ht : tip = .nil ∨ tip = .full) (hq : q'.toList = q.toList) (hz : sz' = sz ∨ q.toList = []) :
    ReSt n s H s (H.set id (.cells (cs.set j (.sl sz' q' (.tok H.length)))) ++ [.tok]) := by
  intro M loc w tmps h0 h1 h3
  obtain ⟨r1, r2⟩ := h1.xtok
  have hkeep := r2.keeps h1
  have hlt : id < H.length := (List.getElem?_eq_some_iff.1 ho).1
  have ho' : (H ++ [AObj.tok])[id]? = some (.cells cs) := by rw [List.getElem?_append_left hlt]; exact ho
  have hx : locSet loc H.length .xtok H.length = some .xtok := by simp [locSet]
  obtain ⟨r3, r4⟩ := r1.respell id (.cells cs) (.cells (cs.set j (.sl sz' q' (.tok H.length)))) ho' (by intro h; cases h) (by intro h; cases h) (fun hO => by
    obtain ⟨b, vs, T, fr, e1, e2, e3, e4, e5, hs, e6⟩ := hO
    refine ⟨b, vs, T, fr, e1, e2, e3, e4, e5, by simpa using hs, fun i hi => ?_⟩
    have hi' : i < cs.length := by simpa using hi
    by_cases e : i = j
    · subst e
      have hv := e6 i hi'
      have hc : cs[i] = .sl sz q tip := by
        rw [List.getElem?_eq_getElem hi'] at hj; exact Option.some.inj hj
      rw [hc] at hv
      simp only [List.getElem_set_self]
      exact hv.tokOf hx ht hq hz
    · simp only [List.getElem_set_ne (fun h => e h.symm)]
      exact e6 i hi')
  refine ⟨_, _, ?_, h3.keeps hkeep, ?_⟩
  · rw [List.set_append_left _ _ hlt] at r3; exact r3
  · have := (r2.trans r4).mono h0
    rw [List.set_append_left _ _ hlt] at this
    exact this

/-- an object's cells spelled otherwise -/
theorem ReSt.leCell {s : Slots} {id : Nat} {cs cs' : List AV} (ho : H[id]? = some (.cells cs)) (h : Les cs cs') : ReSt n s H s (H.set id (.cells cs')) := by
  intro M loc w tmps h0 h1 h3
  have hl := h.len
  obtain ⟨r1, r2⟩ := h1.respell id (.cells cs) (.cells cs') ho (by intro h; cases h) (by intro h; cases h) (fun hO => by
    obtain ⟨b, vs, T, fr, e1, e2, e3, e4, e5, hs, e6⟩ := hO
    exact ⟨b, vs, T, fr, e1, e2, e3, e4, e5, by omega, fun i hi => h.get i (by omega) hi M w loc _ (e6 i (by omega))⟩)
  exact ⟨M, loc, r1, h3, r2.mono h0⟩

/-- one more element, whose cells are forgotten in part -/
theorem leAppE {α : Type} {en : α → List AV} {d : α} {acc : List α} {x : α} {sz : Nat} {tip : Tip} {ex : List AV} (hx : Les ex (en x)) :
    Le (.sl sz (.app (.map en d acc) (.raw [ex])) tip) (.sl sz (.map en d (acc ++ [x])) tip) := by
  refine Le.slE (by simp [Seq.toList]) (fun i h h' => ?_) (.inl rfl)
  simp only [Seq.toList, List.map_append, List.map_cons, List.map_nil] at h h' ⊢
  by_cases e : i < (acc.map en).length
  · rw [List.getElem_append_left e, List.getElem_append_left e]
    exact Les.refl _
  · have hi : i = (acc.map en).length := by simp at h h' e ⊢; omega
    subst hi
    rw [List.getElem_append_right (Nat.le_refl _), List.getElem_append_right (Nat.le_refl _)]
    simpa using hx

/-- what sees some objects of the heap -/
theorem ASpec.subH {f : FuncId} {args : List AV} {r0 : AV} {Hl Hl2 : List AObj} (l : List Nat) (H Hx : List AObj) (k : ASpec P f args Hl (fun r H' => r = r0 ∧ H' = Hl2)) (args' : List AV) (r' : AV)
    (hnd : l.Nodup) (hlen : l.length = Hl.length) (ha : args.map (AV.ren (callR l H.length)) = args') (hr : AV.ren (callR l H.length) r0 = r')
    (hobj : ∀ i (h : i < Hl.length), H[l.getD i 0]? = some (AObj.ren (callR l H.length) Hl[i])) (hx : graftH (callR l H.length) l H Hl2 = Hx) :
    ASpec P f args' H (fun r H' => r = r' ∧ H' = Hx) := by
  subst ha hr hx
  refine (ASpec.graft l k hnd hlen rfl hobj).mono fun r H' hh => ?_
  obtain ⟨rl, Hl', ⟨e1, e2⟩, _, e3, e4⟩ := hh
  subst e1 e2 e3 e4
  exact ⟨rfl, rfl⟩

end
end Go.Ab
