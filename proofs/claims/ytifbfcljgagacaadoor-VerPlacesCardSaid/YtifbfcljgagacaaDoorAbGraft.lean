/- A call's specification, told of the objects that the function sees, holds in a larger heap. -/
import Derived.Test.YtifbfcljgagacaaDoorAbSel
set_option linter.unusedVariables false
set_option linter.unusedSimpArgs false
namespace Go.Ab
section
variable {P : Program} {M : Mem} {w : World} {loc : Locs} {H : List AObj} {n : Nat}

def grafted (ρ : Nat → Nat) : List Nat → List AObj → List AObj → List AObj
  | [], _, H => H
  | _ :: _, [], H => H
  | k :: l, o :: Hl, H => grafted ρ l Hl (H.set k (AObj.ren ρ o))

theorem grafted_length (ρ : Nat → Nat) : ∀ (l : List Nat) (Hl H : List AObj), (grafted ρ l Hl H).length = H.length
  | [], _, H => rfl
  | _ :: _, [], H => rfl
  | k :: l, o :: Hl, H => by simp [grafted, grafted_length ρ l Hl]

theorem grafted_other (ρ : Nat → Nat) : ∀ (l : List Nat) (Hl H : List AObj) (j : Nat), j ∉ l → (grafted ρ l Hl H)[j]? = H[j]?
  | [], _, H, j, _ => rfl
  | _ :: _, [], H, j, _ => rfl
  | k :: l, o :: Hl, H, j, h => by
    simp only [List.mem_cons, not_or] at h
    rw [grafted, grafted_other ρ l Hl _ j h.2, List.getElem?_set_ne (fun e => h.1 e.symm)]

theorem grafted_get (ρ : Nat → Nat) : ∀ (l : List Nat) (Hl H : List AObj), l.Nodup → (∀ k ∈ l, k < H.length) → ∀ i (h : i < l.length) (h' : i < Hl.length), (grafted ρ l Hl H)[l[i]]? = some (AObj.ren ρ Hl[i])
  | [], _, H, _, _, i, h, _ => by simp at h
  | _ :: _, [], H, _, _, i, _, h' => by simp at h'
  | k :: l, o :: Hl, H, hnd, hlt, 0, h, h' => by
    rw [List.nodup_cons] at hnd
    simp only [List.getElem_cons_zero, grafted]
    rw [grafted_other ρ l Hl _ k hnd.1, List.getElem?_set_self (hlt k (by simp))]
  | k :: l, o :: Hl, H, hnd, hlt, i + 1, h, h' => by
    rw [List.nodup_cons] at hnd
    simp only [List.getElem_cons_succ, grafted]
    exact grafted_get ρ l Hl _ hnd.2 (fun q hq => by simpa using hlt q (by simp [hq])) i (by simpa using h) (by simpa using h')

/-- the heap behind the call -/
def graftH (ρ : Nat → Nat) (l : List Nat) (H Hl : List AObj) : List AObj := grafted ρ l Hl H ++ (Hl.drop l.length).map (AObj.ren ρ)

theorem Rel.part {l : List Nat} {Hl : List AObj} (hr : Rel M loc H w) (hnd : l.Nodup) (hlen : l.length = Hl.length)
    (hobj : ∀ i (h : i < Hl.length), H[l.getD i 0]? = some (AObj.ren (callR l H.length) Hl[i])) : Rel M (fun i => loc (callR l H.length i)) Hl w := by
  have hρ : ∀ i, i < l.length → callR l H.length i = l.getD i 0 := fun i hi => by simp only [callR]; rw [if_pos hi]
  have hget : ∀ (i : Nat) (o : AObj), Hl[i]? = some o → i < l.length ∧ H[callR l H.length i]? = some (AObj.ren (callR l H.length) o) := by
    intro i o hi
    obtain ⟨hlt, rfl⟩ := List.getElem?_eq_some_iff.1 hi
    exact ⟨by omega, by rw [hρ i (by omega)]; exact hobj i hlt⟩
  have hinj : ∀ i j, i < l.length → j < l.length → callR l H.length i = callR l H.length j → i = j := by
    intro i j hi hj e
    rw [hρ i hi, hρ j hj, getD_lt _ _ _ hi, getD_lt _ _ _ hj] at e
    rcases Nat.lt_trichotomy i j with q | q | q
    · exact (List.pairwise_iff_getElem.1 hnd i j hi hj q e).elim
    · exact q
    · exact (List.pairwise_iff_getElem.1 hnd j i hj hi q e.symm).elim
  have hgone : ∀ o : AObj, (o = .gone → False) → (AObj.ren (callR l H.length) o = .gone → False) := fun o h e => h (gone_ren e)
  refine ⟨hr.base, hr.ext, ?_, ?_, ?_⟩
  · intro i hi
    refine hr.dom _ ?_
    simp only [callR]; rw [if_neg (by omega)]; omega
  · intro i o hi
    by_cases hg : o = .gone
    · subst hg; trivial
    · obtain ⟨_, h⟩ := hget i o hi
      exact (hr.objs _ _ h).ren_from (fun i l' h => h)
  · intro i j oi oj li lj b hi hj gi gj hli hlj bi bj
    obtain ⟨h1, h2⟩ := hget i oi hi
    obtain ⟨h3, h4⟩ := hget j oj hj
    exact hinj i j h1 h3 (hr.inj _ _ _ _ li lj b h2 h4 (hgone _ gi) (hgone _ gj) hli hlj bi bj)

theorem ASpec.graft {f : FuncId} {args argsl : List AV} {Hl : List AObj} {Postl : AV → List AObj → Prop} (l : List Nat) (h : ASpec P f argsl Hl Postl) (hnd : l.Nodup) (hlen : l.length = Hl.length)
    (hargs : args = argsl.map (AV.ren (callR l H.length))) (hobj : ∀ i (h : i < Hl.length), H[l.getD i 0]? = some (AObj.ren (callR l H.length) Hl[i])) :
    ASpec P f args H (fun r H' => ∃ rl Hl', Postl rl Hl' ∧ l.length ≤ Hl'.length ∧ r = AV.ren (callR l H.length) rl ∧ H' = graftH (callR l H.length) l H Hl') := by
  intro M loc w vs ht hr hv
  have hrl := hr.part hnd hlen hobj
  have hlt : ∀ k ∈ l, k < H.length := by
    intro k hk
    obtain ⟨i, hi, rfl⟩ := List.getElem_of_mem hk
    have := hobj i (by omega)
    rw [getD_lt _ _ _ hi] at this
    exact (List.getElem?_eq_some_iff.1 this).1
  have hρ : ∀ i, i < l.length → callR l H.length i = l.getD i 0 := fun i hi => by simp only [callR]; rw [if_pos hi]
  have hargs' : VRels M w (fun i => loc (callR l H.length i)) argsl vs := by
    subst hargs
    obtain ⟨h1, h2⟩ := hv
    refine ⟨by simpa using h1, fun i hi => ?_⟩
    have := h2 i (by simpa using hi)
    exact this.ren_from (fun i l' h => h) _ (by simp)
  refine (h M _ w vs ht hrl hargs').mono fun e w' hh => ?_
  obtain ⟨v, rl, Hl', M', locl', he, hP, r1, r2, r3⟩ := hh
  have hle : l.length ≤ Hl'.length := by rw [hlen]; exact r3.len
  let loc' : Locs := fun j => if j < H.length then loc j else locl' (l.length + (j - H.length))
  have hl' : ∀ i x, locl' i = some x → loc' (callR l H.length i) = some x := by
    intro i x hx
    by_cases hi : i < l.length
    · rw [hρ i hi]
      have h1 : l.getD i 0 < H.length := by rw [getD_lt _ _ _ hi]; exact hlt _ (List.getElem_mem hi)
      show (if l.getD i 0 < H.length then _ else _) = _
      rw [if_pos h1]
      have h2 := r3.locs i (by omega)
      rw [hx] at h2
      simp only [hρ i hi] at h2
      exact h2.symm
    · simp only [callR]; rw [if_neg hi]
      show (if H.length + (i - l.length) < H.length then _ else _) = _
      rw [if_neg (by omega), show l.length + (H.length + (i - l.length) - H.length) = i by omega]
      exact hx
  have hlow : ∀ j, j < H.length → loc' j = loc j := fun j hj => by show (if j < H.length then _ else _) = _; rw [if_pos hj]
  have hHlen : (graftH (callR l H.length) l H Hl').length = H.length + (Hl'.length - l.length) := by simp [graftH, grafted_length]
  -- where an object of the new heap comes from
  have hcase : ∀ (j : Nat) (o : AObj), (graftH (callR l H.length) l H Hl')[j]? = some o →
      (j < H.length ∧ j ∉ l ∧ H[j]? = some o) ∨ (∃ i o', Hl'[i]? = some o' ∧ o = AObj.ren (callR l H.length) o' ∧ j = callR l H.length i) := by
    intro j o hj
    by_cases hjl : j < H.length
    · rw [graftH, List.getElem?_append_left (by rw [grafted_length]; exact hjl)] at hj
      by_cases hm : j ∈ l
      · right
        obtain ⟨i, hi, rfl⟩ := List.getElem_of_mem hm
        rw [grafted_get _ _ _ _ hnd hlt i hi (by omega)] at hj
        cases hj
        refine ⟨i, _, List.getElem?_eq_getElem (by omega), rfl, ?_⟩
        rw [hρ i hi, getD_lt _ _ _ hi]
      · left
        rw [grafted_other _ _ _ _ _ hm] at hj
        exact ⟨hjl, hm, hj⟩
    · right
      rw [graftH, List.getElem?_append_right (by rw [grafted_length]; omega), grafted_length, List.getElem?_map, List.getElem?_drop] at hj
      cases ho : Hl'[l.length + (j - H.length)]? with
      | none => rw [ho] at hj; cases hj
      | some o' =>
        rw [ho] at hj; cases hj
        refine ⟨_, o', ho, rfl, ?_⟩
        simp only [callR]; rw [if_neg (by omega)]; omega
  have hkeep : Keeps M w loc M' w' loc' := ⟨r3.imm, r3.shape, fun i x hx => by rw [hlow i (hr.lt hx)]; exact hx⟩
  -- the blocks that the function saw
  have hownl : ∀ b, Owned (fun i => loc (callR l H.length i)) Hl b → ∃ i, i < l.length ∧ ∃ o x, H[l.getD i 0]? = some o ∧ (o = .gone → False) ∧ loc (l.getD i 0) = some x ∧ x.block? = some b := by
    rintro b ⟨i, o, x, hi, hg, hx, hb⟩
    obtain ⟨hil, rfl⟩ := List.getElem?_eq_some_iff.1 hi
    have hi' : i < l.length := by omega
    refine ⟨i, hi', _, x, hobj i hil, fun e => hg (gone_ren e), ?_, hb⟩
    simp only [hρ i hi'] at hx
    exact hx
  have hunseen : ∀ j o x b, H[j]? = some o → (o = .gone → False) → loc j = some x → x.block? = some b → j ∉ l → ¬ Owned (fun i => loc (callR l H.length i)) Hl b := by
    intro j o x b ho hg hx hb hm hown
    obtain ⟨i, hi, o2, x2, ho2, hg2, hx2, hb2⟩ := hownl b hown
    have := hr.inj _ _ _ _ _ _ b ho ho2 hg hg2 hx hx2 hb hb2
    rw [getD_lt _ _ _ hi] at this
    exact hm (this ▸ List.getElem_mem hi)
  have hρinj : ∀ i j, i < Hl'.length → j < Hl'.length → callR l H.length i = callR l H.length j → i = j := by
    intro i j hi hj e
    by_cases h1 : i < l.length <;> by_cases h2 : j < l.length
    · rw [hρ i h1, hρ j h2, getD_lt _ _ _ h1, getD_lt _ _ _ h2] at e
      rcases Nat.lt_trichotomy i j with q | q | q
      · exact (List.pairwise_iff_getElem.1 hnd i j h1 h2 q e).elim
      · exact q
      · exact (List.pairwise_iff_getElem.1 hnd j i h2 h1 q e.symm).elim
    · rw [hρ i h1, getD_lt _ _ _ h1] at e
      have := hlt _ (List.getElem_mem h1)
      simp only [callR] at e; rw [if_neg h2] at e; omega
    · rw [hρ j h2, getD_lt _ _ _ h2] at e
      have := hlt _ (List.getElem_mem h2)
      simp only [callR] at e; rw [if_neg h1] at e; omega
    · simp only [callR] at e; rw [if_neg h1, if_neg h2] at e; omega
  have hback : ∀ i x, i < Hl'.length → loc' (callR l H.length i) = some x → locl' i = some x := by
    intro i x hi hx
    by_cases h1 : i < l.length
    · rw [hρ i h1] at hx
      have h2 : l.getD i 0 < H.length := by rw [getD_lt _ _ _ h1]; exact hlt _ (List.getElem_mem h1)
      rw [hlow _ h2] at hx
      have h3 := r3.locs i (by omega)
      simp only [hρ i h1] at h3
      rw [h3]; exact hx
    · simp only [callR] at hx; rw [if_neg h1] at hx
      have : loc' (H.length + (i - l.length)) = locl' i := by
        show (if H.length + (i - l.length) < H.length then _ else _) = _
        rw [if_neg (by omega), show l.length + (H.length + (i - l.length) - H.length) = i by omega]
      rw [this] at hx; exact hx
  refine ⟨v, _, _, M', loc', he, ⟨rl, Hl', hP, hle, rfl, rfl⟩, ⟨?_, r1.ext, ?_, ?_, ?_⟩, r2.ren_to hl', ⟨r3.base, r3.size, r3.os, r3.tape, r3.output, ?_, r3.imm, r3.shape, ?_, hlow, by rw [hHlen]; omega⟩⟩
  · exact r1.base
  · intro j hj
    rw [hHlen] at hj
    show (if j < H.length then _ else _) = _
    rw [if_neg (by omega)]
    exact r1.dom _ (by omega)
  · intro j o hj
    by_cases hg : o = .gone
    · subst hg; trivial
    rcases hcase j o hj with ⟨h1, h2, h3⟩ | ⟨i, o', h1, rfl, rfl⟩
    · rw [hlow j h1]
      refine (hr.objs j o h3).keeps_far hkeep r3.base (fun b hb => ?_)
      cases hx : loc j with
      | none => rw [hx] at hb; cases hb
      | some x =>
        rw [hx] at hb
        have hb0 := (hr.objs j o h3).block_lt hg (b := b) (by rw [hx]; exact hb)
        exact r3.keep b hb0.1 (hunseen j o x b h3 hg hx hb h2)
    · have hi : i < Hl'.length := (List.getElem?_eq_some_iff.1 h1).1
      have ho := (r1.objs i o' h1).ren_to hl'
      have hlo : locl' i = loc' (callR l H.length i) := by
        cases hq : locl' i with
        | some x => exact (hl' i x hq).symm
        | none =>
          cases hq2 : loc' (callR l H.length i) with
          | none => rfl
          | some x => have := hback i x hi hq2; rw [hq] at this; cases this
      rw [hlo] at ho
      exact ho
  · intro j k oj ok lj lk b hj hk gj gk hlj hlk bj bk
    have hmix : ∀ j oj lj i o', j < H.length → j ∉ l → H[j]? = some oj → (oj = .gone → False) → loc' j = some lj → lj.block? = some b → Hl'[i]? = some o' → (o' = .gone → False) →
        ∀ x, loc' (callR l H.length i) = some x → x.block? = some b → False := by
      intro j oj lj i o' h1 h2 h3 h4 h5 h6 h7 h8 x h9 h10
      rw [hlow j h1] at h5
      have hi : i < Hl'.length := (List.getElem?_eq_some_iff.1 h7).1
      have hb0 := (hr.objs j oj h3).block_lt h4 (b := b) (by rw [h5]; exact h6)
      have hown : Owned locl' Hl' b := ⟨i, o', x, h7, h8, hback i x hi h9, h10⟩
      exact hunseen j oj lj b h3 h4 h5 h6 h2 (r3.own b hb0.1 hown)
    rcases hcase j oj hj with ⟨h1, h2, h3⟩ | ⟨i, o', h1, rfl, rfl⟩
    · rcases hcase k ok hk with ⟨k1, k2, k3⟩ | ⟨i, o', k1, rfl, rfl⟩
      · rw [hlow j h1] at hlj; rw [hlow k k1] at hlk
        exact hr.inj j k oj ok lj lk b h3 k3 gj gk hlj hlk bj bk
      · exact (hmix j oj lj i o' h1 h2 h3 gj hlj bj k1 (fun e => gk (by rw [e]; rfl)) lk hlk bk).elim
    · rcases hcase k ok hk with ⟨k1, k2, k3⟩ | ⟨i2, o2, k1, rfl, rfl⟩
      · exact (hmix k ok lk i o' k1 k2 k3 gk hlk bk h1 (fun e => gj (by rw [e]; rfl)) lj hlj bj).elim
      · have hi : i < Hl'.length := (List.getElem?_eq_some_iff.1 h1).1
        have hi2 : i2 < Hl'.length := (List.getElem?_eq_some_iff.1 k1).1
        have := r1.inj i i2 o' o2 lj lk b h1 k1 (fun e => gj (by rw [e]; rfl)) (fun e => gk (by rw [e]; rfl)) (hback i lj hi hlj) (hback i2 lk hi2 hlk) bj bk
        rw [this]
  · intro b hb hno
    refine r3.keep b hb (fun hown => hno ?_)
    obtain ⟨i, hi, o2, x2, ho2, hg2, hx2, hb2⟩ := hownl b hown
    exact ⟨_, o2, x2, ho2, hg2, hx2, hb2⟩
  · intro b hb ⟨j, o, x, hj, hg, hx, hbx⟩
    rcases hcase j o hj with ⟨h1, h2, h3⟩ | ⟨i, o', h1, rfl, rfl⟩
    · rw [hlow j h1] at hx
      exact ⟨j, o, x, h3, hg, hx, hbx⟩
    · have hi : i < Hl'.length := (List.getElem?_eq_some_iff.1 h1).1
      have hown : Owned locl' Hl' b := ⟨i, o', x, h1, fun e => hg (by rw [e]; rfl), hback i x hi hx, hbx⟩
      obtain ⟨i2, hi2, o2, x2, ho2, hg2, hx2, hb2⟩ := hownl b (r3.own b hb hown)
      exact ⟨_, o2, x2, ho2, hg2, hx2, hb2⟩

end
end Go.Ab
