/- WirePuts: the bytes of any manifest, and the manifest of any bytes, or what is wrong first, are the document's: the law's function returns true. -/
import Derived.Test.YtifbfcljgagacaaVWRead
set_option linter.unusedVariables false
set_option linter.unusedSimpArgs false
set_option maxRecDepth 100000
open Go Go.Ab Go.Proofs V S T C
namespace W

/-! ### the document's model -/

def dSpan (l : List UInt8) (e : Int) : Span × List UInt8 × Int :=
  (((dnumM l e 1000000000).1, IntKind.wrap .i64 ((dnumM l e 1000000000).1 + (dnumM (dnumM l e 1000000000).2.1 (dnumM l e 1000000000).2.2 1000000000).1)),
    (dnumM (dnumM l e 1000000000).2.1 (dnumM l e 1000000000).2.2 1000000000).2)

def dF {α : Type} (one : List UInt8 → Int → α × List UInt8 × Int) : Nat → List UInt8 → Int → List α × List UInt8 × Int
  | 0, l, e => ([], l, e)
  | k + 1, l, e => ((one l e).1 :: (dF one k (one l e).2.1 (one l e).2.2).1, (dF one k (one l e).2.1 (one l e).2.2).2)

def dL {α : Type} (one : List UInt8 → Int → α × List UInt8 × Int) (l : List UInt8) (e most : Int) : List α × List UInt8 × Int :=
  dF one (dnumM l e most).1.toNat (dnumM l e most).2.1 (dnumM l e most).2.2

def dNeed (l : List UInt8) (e : Int) : Need × List UInt8 × Int :=
  (((dstrM l e 24).1, (dL dSpan (dstrM l e 24).2.1 (dstrM l e 24).2.2 6).1), (dL dSpan (dstrM l e 24).2.1 (dstrM l e 24).2.2 6).2)
def dRel (l : List UInt8) (e : Int) : Rel × List UInt8 × Int :=
  (((dnumM l e 1000000000).1, (dL dNeed (dnumM l e 1000000000).2.1 (dnumM l e 1000000000).2.2 6).1), (dL dNeed (dnumM l e 1000000000).2.1 (dnumM l e 1000000000).2.2 6).2)
def dMani (l : List UInt8) : Mani × List UInt8 × Int :=
  (((dstrM l 0 24).1, (dL dRel (dstrM l 0 24).2.1 (dstrM l 0 24).2.2 8).1), (dL dRel (dstrM l 0 24).2.1 (dstrM l 0 24).2.2 8).2)
def dRead (l : List UInt8) : Mani × Int := if 8192 < l.length then (([], []), 4) else endM (dMani l).1 (closeM (dMani l).2.2 (dMani l).2.1.length)

/-! ### it is the code's -/

def Alike {α : Type} (bs : List UInt8) (R : α × Nat × Int) (D : α × List UInt8 × Int) : Prop := D.2.1 = bs.drop R.2.1 ∧ D.2.2 = R.2.2 ∧ (R.2.2 = 0 → D.1 = R.1)

/-- behind an error nothing is taken -/
def Sticks {α : Type} (one : List UInt8 → Int → α × List UInt8 × Int) : Prop := ∀ l e, e ≠ 0 → (one l e).2 = (l, e)

theorem dnumM_err {l : List UInt8} {e most : Int} (h : e ≠ 0) : dnumM l e most = (0, l, e) := by simp only [dnumM, if_pos h]
theorem dstrM_err {l : List UInt8} {e most : Int} (h : e ≠ 0) : dstrM l e most = ([], l, e) := by simp only [dstrM, if_pos h]

theorem dF_err {α : Type} {one : List UInt8 → Int → α × List UInt8 × Int} (hs : Sticks one) {e : Int} (h : e ≠ 0) : ∀ (k : Nat) (l : List UInt8), (dF one k l e).2 = (l, e)
  | 0, l => rfl
  | k + 1, l => by
    have := hs l e h
    simp only [dF, this]
    exact dF_err hs h k l

theorem dL_err {α : Type} {one : List UInt8 → Int → α × List UInt8 × Int} (hs : Sticks one) {l : List UInt8} {e most : Int} (h : e ≠ 0) : (dL one l e most).2 = (l, e) := by
  unfold dL
  rw [dnumM_err h]
  exact dF_err hs h _ _

theorem dSpan_sticks : Sticks dSpan := fun l e h => by simp only [dSpan, dnumM_err h]
theorem dNeed_sticks : Sticks dNeed := fun l e h => by simp only [dNeed, dstrM_err h, dL_err dSpan_sticks h]
theorem dRel_sticks : Sticks dRel := fun l e h => by simp only [dRel, dnumM_err h, dL_err dNeed_sticks h]

theorem listR_err {α : Type} {one : Nat → Int → α × Nat × Int} {e : Int} (h : e ≠ 0) (k p : Nat) : listR one k p e = ([], p, e) := by
  cases k with
  | zero => rfl
  | succ k => simp only [listR, if_neg h]

theorem alikeF {α : Type} {bs : List UInt8} {one : Nat → Int → α × Nat × Int} {done : List UInt8 → Int → α × List UInt8 × Int} (h1 : ∀ p e, p ≤ bs.length → Alike bs (one p e) (done (bs.drop p) e)) (hin : Inside bs one) (hs : Sticks done) :
    ∀ (k p : Nat) (e : Int), p ≤ bs.length → Alike bs (listR one k p e) (dF done k (bs.drop p) e)
  | 0, p, e, hp => ⟨rfl, rfl, fun _ => rfl⟩
  | k + 1, p, e, hp => by
    by_cases he : e = 0
    · obtain ⟨a1, a2, a3⟩ := h1 p e hp
      obtain ⟨b1, b2, b3⟩ := alikeF h1 hin hs k (one p e).2.1 (one p e).2.2 (hin p e hp)
      simp only [listR, if_pos he, dF, a1, a2]
      refine ⟨b1, b2, fun h0 => ?_⟩
      have hz : (one p e).2.2 = 0 := by
        by_cases hz : (one p e).2.2 = 0
        · exact hz
        · simp only [listR_err hz] at h0
          exact h0
      show _ :: _ = _ :: _
      rw [a3 hz, b3 h0]
    · rw [listR_err he]
      have := dF_err hs he (k + 1) (bs.drop p)
      exact ⟨by rw [this], by rw [this], fun h => (he h).elim⟩

theorem alikeL {α : Type} {bs : List UInt8} {one : Nat → Int → α × Nat × Int} {done : List UInt8 → Int → α × List UInt8 × Int} (h1 : ∀ p e, p ≤ bs.length → Alike bs (one p e) (done (bs.drop p) e)) (hin : Inside bs one) (hs : Sticks done)
    {p : Nat} {e most : Int} (hp : p ≤ bs.length) : Alike bs (listM one bs p e most) (dL done (bs.drop p) e most) := by
  obtain ⟨hd, hq⟩ := num_doc bs p e most hp
  unfold listM dL
  rw [hd]
  exact alikeF h1 hin hs _ _ _ hq

theorem alikeSpan (bs : List UInt8) (p : Nat) (e : Int) (hp : p ≤ bs.length) : Alike bs (spanR bs p e) (dSpan (bs.drop p) e) := by
  obtain ⟨hd, hq⟩ := num_doc bs p e 1000000000 hp
  obtain ⟨hd2, hq2⟩ := num_doc bs (numM bs p e 1000000000).2.1 (numM bs p e 1000000000).2.2 1000000000 hq
  unfold dSpan spanR Alike
  rw [hd]
  simp only [hd2]
  exact ⟨trivial, trivial, fun _ => trivial⟩

theorem alikeNeed (bs : List UInt8) (p : Nat) (e : Int) (hp : p ≤ bs.length) : Alike bs (needR bs p e) (dNeed (bs.drop p) e) := by
  obtain ⟨hd, hq⟩ := str_doc bs p e 24 hp
  obtain ⟨a1, a2, a3⟩ := alikeL (alikeSpan bs) (spanR_p bs) dSpan_sticks (e := (strM bs p e 24).2.2) (most := 6) hq
  unfold dNeed needR Alike
  rw [hd]
  simp only [a1, a2]
  exact ⟨trivial, trivial, fun h => by rw [a3 h]⟩

theorem alikeRel (bs : List UInt8) (p : Nat) (e : Int) (hp : p ≤ bs.length) : Alike bs (relR bs p e) (dRel (bs.drop p) e) := by
  obtain ⟨hd, hq⟩ := num_doc bs p e 1000000000 hp
  obtain ⟨a1, a2, a3⟩ := alikeL (alikeNeed bs) (needR_p bs) dNeed_sticks (e := (numM bs p e 1000000000).2.2) (most := 6) hq
  unfold dRel relR Alike
  rw [hd]
  simp only [a1, a2]
  exact ⟨trivial, trivial, fun h => by rw [a3 h]⟩

theorem alikeMani (bs : List UInt8) : Alike bs (maniR bs) (dMani bs) := by
  obtain ⟨hd, hq⟩ := str_doc bs 0 0 24 (Nat.zero_le _)
  rw [List.drop_zero] at hd
  obtain ⟨a1, a2, a3⟩ := alikeL (alikeRel bs) (relR_p bs) dRel_sticks (e := (strM bs 0 0 24).2.2) (most := 8) hq
  unfold dMani maniR Alike
  rw [hd]
  simp only [a1, a2]
  exact ⟨trivial, trivial, fun h => by rw [a3 h]⟩

theorem dRead_eq (bs : List UInt8) : dRead bs = readM bs := by
  obtain ⟨a1, a2, a3⟩ := alikeMani bs
  unfold dRead readM
  rw [a1, a2, List.length_drop]
  by_cases h : (maniR bs).2.2 = 0
  · rw [a3 h]
  · have hc : ∀ n, closeM (maniR bs).2.2 n = (maniR bs).2.2 := fun n => by simp only [closeM, if_pos h]
    rw [hc]
    unfold endM
    rw [if_pos h, if_pos h]

/-! ### the document's walk -/

theorem dnumM_len (l : List UInt8) (e most : Int) : (dnumM l e most).2.1.length ≤ l.length := by
  unfold dnumM; split <;> simp
theorem dstrM_len (l : List UInt8) (e most : Int) : (dstrM l e most).2.1.length ≤ l.length := by
  unfold dstrM; repeat' split
  all_goals simp
theorem dnumM_most (l : List UInt8) (e most : Int) (h : 0 ≤ most) : 0 ≤ (dnumM l e most).1 ∧ (dnumM l e most).1 ≤ most := by
  unfold dnumM
  split
  · exact ⟨Int.le_refl _, h⟩
  · exact ⟨(lookM_le _ _).2.1, lookM_most _ _ h⟩
theorem dSpan_len (l : List UInt8) (e : Int) : (dSpan l e).2.1.length ≤ l.length := Nat.le_trans (dnumM_len _ _ _) (dnumM_len _ _ _)
theorem dF_len {α : Type} {one : List UInt8 → Int → α × List UInt8 × Int} (h : ∀ l e, (one l e).2.1.length ≤ l.length) : ∀ (k : Nat) (l : List UInt8) (e : Int), (dF one k l e).2.1.length ≤ l.length
  | 0, l, e => Nat.le_refl _
  | k + 1, l, e => Nat.le_trans (dF_len h k _ _) (h l e)
theorem dL_len {α : Type} {one : List UInt8 → Int → α × List UInt8 × Int} (h : ∀ l e, (one l e).2.1.length ≤ l.length) (l : List UInt8) (e most : Int) : (dL one l e most).2.1.length ≤ l.length :=
  Nat.le_trans (dF_len h _ _ _) (dnumM_len _ _ _)
theorem dNeed_len (l : List UInt8) (e : Int) : (dNeed l e).2.1.length ≤ l.length := Nat.le_trans (dL_len dSpan_len _ _ _) (dstrM_len _ _ _)
theorem dRel_len (l : List UInt8) (e : Int) : (dRel l e).2.1.length ≤ l.length := Nat.le_trans (dL_len dNeed_len _ _ _) (dnumM_len _ _ _)

section
variable {Post : AV → List AObj → Prop}

theorem q9 {acc : List Need} {n i : Int} {nm : List UInt8} (ha : acc.length ≤ 100) {k : Nat} (hk : k ≤ 100) {R : Need × List UInt8 × Int}
    (K : AWP Try.prog 47 1 c106_4 [(0, .ptr 0 0), (3, .sl 2 (.map encN ([], []) (acc ++ [R.1])) (.tok 1)), (4, .int .i64 n), (5, .int .i64 (IntKind.wrap .i64 (i + 1)))] [dr R.2.1 R.2.2, .tok] (q106_2 1 Post)) :
    ∀ (m j : Nat) (l : List UInt8) (e : Int) (sp : List Span), m + j = k → l.length ≤ 10 * big → sp.length + m ≤ 100 → R = ((nm, sp ++ (dF dSpan m l e).1), (dF dSpan m l e).2) →
    AWP Try.prog 47 1 c106_9 [(0, .ptr 0 0), (3, .sl 2 (.map encN ([], []) acc) (.tok 1)), (4, .int .i64 n), (5, .int .i64 i), (6, .ptr 2 0), (7, .int .i64 k), (8, .int .i64 j)]
      [dr l e, .tok, .cells [.str (B nm), .sl 2 (.map encS (0, 0) sp) (.tok 3)], .tok] (q106_7 1 Post) := by
  intro m
  induction m with
  | zero =>
    intro j l e sp hm hl hs hR
    refine v106_9 _ _ _ _ _ _ _ _ _ _ _ (condD (fun hc => by omega) fun _ => needJ (by omega) ?_)
    simp only [dF, List.append_nil] at hR
    subst hR
    refine AWP.shape [0, 4] [(0, .ptr 0 0), (3, .sl 2 (.map encN ([], []) (acc ++ [(nm, sp)])) (.tok 1)), (4, .int .i64 n), (5, .int .i64 (IntKind.wrap .i64 (i + 1)))] [dr l e, .tok] ?_ ⟨rfl, Le.refl _, rfl, ?_, rfl, Le.refl _, rfl, Le.refl _, trivial⟩ K
    · refine ⟨by decide, rfl, by decide, fun i hi => ?_, fun i hi => .inl ?_⟩
      · match i, hi with
        | 0, _ => rfl
      · match i, hi with
        | 0, _ | 1, _ => rfl
    · exact Le.trans (leAppE (x := (nm, sp)) ⟨Le.refl _, Le.sl rfl (.inl rfl) (.inr rfl), trivial⟩) (Le.refl _)
  | succ m ih =>
    intro j l e sp hm hl hs hR
    refine v106_9 _ _ _ _ _ _ _ _ _ _ _ (condD (fun _ => ?_) fun hc => by omega)
    have h1 := dnumM_len l e 1000000000
    refine ASpec.call (dnum_spec (H := [dr l e, .tok, .cells [.str (B nm), .sl 2 (.map encS (0, 0) sp) (.tok 3)], .tok]) (id := 0) (l := l) (e := e) 1000000000 hl rfl) (Les.refl _)
      ⟨((dnumM l e 1000000000).1, B (dnumM l e 1000000000).2.1, (dnumM l e 1000000000).2.2), rfl, rfl, ?_⟩
    refine ASpec.call (dnum_spec (H := [dr (dnumM l e 1000000000).2.1 (dnumM l e 1000000000).2.2, .tok, .cells [.str (B nm), .sl 2 (.map encS (0, 0) sp) (.tok 3)], .tok]) (id := 0) (l := (dnumM l e 1000000000).2.1) (e := (dnumM l e 1000000000).2.2) 1000000000 (by omega) rfl) (Les.refl _)
      ⟨((dnumM (dnumM l e 1000000000).2.1 (dnumM l e 1000000000).2.2 1000000000).1, B (dnumM (dnumM l e 1000000000).2.1 (dnumM l e 1000000000).2.2 1000000000).2.1, (dnumM (dnumM l e 1000000000).2.1 (dnumM l e 1000000000).2.2 1000000000).2.2), rfl, rfl, needJ (by omega) ?_⟩
    refine AWP.re (ReSt.leCell (id := 2) (cs' := [.str (B nm), .sl 2 (.map encS (0, 0) (sp ++ [(dSpan l e).1])) (.tok 4)]) rfl ⟨Le.refl _, leAppE (Les.refl _), trivial⟩) ?_
    rw [succ64 (by omega)]
    refine AWP.shape [0, 1, 2, 4] [(0, .ptr 0 0), (3, .sl 2 (.map encN ([], []) acc) (.tok 1)), (4, .int .i64 n), (5, .int .i64 i), (6, .ptr 2 0), (7, .int .i64 k), (8, .int .i64 (j + 1 : Nat))]
      [dr (dSpan l e).2.1 (dSpan l e).2.2, .tok, .cells [.str (B nm), .sl 2 (.map encS (0, 0) (sp ++ [(dSpan l e).1])) (.tok 3)], .tok] ?_
      ⟨rfl, Le.refl _, rfl, Le.refl _, rfl, Le.refl _, rfl, Le.refl _, rfl, Le.refl _, rfl, Le.refl _, rfl, Le.refl _, trivial⟩ (ih (j + 1) _ _ _ (by omega) (Nat.le_trans (dSpan_len l e) hl) (by simp; omega) ?_)
    · refine ⟨by decide, rfl, by decide, fun i hi => ?_, fun i hi => .inl ?_⟩
      · match i, hi with
        | 0, _ => rfl
      · match i, hi with
        | 0, _ | 1, _ | 2, _ | 3, _ => rfl
    · rw [hR]; simp [dF]

theorem q4 {n : Nat} (hn : n ≤ 50) : ∀ (m i : Nat) (l : List UInt8) (e : Int) (acc : List Need), m + i = n → l.length ≤ 10 * big → acc.length + m ≤ 100 →
    Post (.sl 2 (.map encN ([], []) (acc ++ (dF dNeed m l e).1)) (.tok 1)) [dr (dF dNeed m l e).2.1 (dF dNeed m l e).2.2, .tok] →
    AWP Try.prog 47 1 c106_4 [(0, .ptr 0 0), (3, .sl 2 (.map encN ([], []) acc) (.tok 1)), (4, .int .i64 n), (5, .int .i64 i)] [dr l e, .tok] (q106_2 1 Post) := by
  intro m
  induction m with
  | zero =>
    intro i l e acc hm hl ha h
    refine v106_4 _ _ _ _ _ _ _ (condD (fun hc => by omega) fun _ => ?_)
    simp only [dF, List.append_nil] at h
    exact h
  | succ m ih =>
    intro i l e acc hm hl ha h
    refine v106_4 _ _ _ _ _ _ _ (condD (fun _ => ?_) fun hc => by omega)
    have h1 := dstrM_len l e 24
    have h2 := dnumM_most (dstrM l e 24).2.1 (dstrM l e 24).2.2 6 (by omega)
    have h3 := dnumM_len (dstrM l e 24).2.1 (dstrM l e 24).2.2 6
    refine ASpec.call (dstr_spec (H := [dr l e, .tok]) (id := 0) (l := l) (e := e) 24 hl rfl) (Les.refl _) ⟨(B (dstrM l e 24).1, B (dstrM l e 24).2.1, (dstrM l e 24).2.2), rfl, rfl, ?_⟩
    refine ASpec.call (dnum_spec (H := [dr (dstrM l e 24).2.1 (dstrM l e 24).2.2, .tok, .cells [.str (B (dstrM l e 24).1), .sl 0 (.raw []) .nil]]) (id := 0) (l := (dstrM l e 24).2.1) (e := (dstrM l e 24).2.2) 6 (by omega) rfl) (Les.refl _)
      ⟨((dnumM (dstrM l e 24).2.1 (dstrM l e 24).2.2 6).1, B (dnumM (dstrM l e 24).2.1 (dstrM l e 24).2.2 6).2.1, (dnumM (dstrM l e 24).2.1 (dstrM l e 24).2.2 6).2.2), rfl, rfl, ?_⟩
    refine AWP.re (ReSt.tokCell (id := 2) (j := 1) (q' := .map encS (0, 0) []) (sz' := 2) rfl rfl (.inl rfl) rfl (.inr rfl)) ?_
    obtain ⟨k, hk⟩ := Int.eq_ofNat_of_zero_le h2.1
    rw [hk]
    refine q9 (nm := (dstrM l e 24).1) (by omega) (k := k) (by omega) (R := dNeed l e) ?_ k 0 _ _ [] (by omega) (by omega) (by simp; omega) ?_
    · rw [succ64 (by omega)]
      refine ih (i + 1) _ _ _ (by omega) (Nat.le_trans (dNeed_len l e) hl) (by simp; omega) ?_
      simp only [dF] at h
      simpa using h
    · rw [dNeed, dL, hk]; rfl

theorem dneeds_read {H : List AObj} {id : Nat} {l : List UInt8} {e : Int} (hl : l.length ≤ 10 * big) (h : AtD H id l e) :
    ASpec Try.prog 106 [.ptr id 0] H (fun r H' => r = slN (dL dNeed l e 6).1 ∧ H' = H.set id (dr (dL dNeed l e 6).2.1 (dL dNeed l e 6).2.2)) := by
  have k : ASpec Try.prog 106 [.ptr 0 0] [dr l e] (fun r H' => r = slN (dL dNeed l e 6).1 ∧ H' = [dr (dL dNeed l e 6).2.1 (dL dNeed l e 6).2.2]) := by
    have h2 := dnumM_most l e 6 (by omega)
    have h3 := dnumM_len l e 6
    refine ASpec.sel (s106 _ _ _ (ASpec.call (dnum_spec (H := [dr l e]) (id := 0) (l := l) (e := e) 6 hl rfl) (Les.refl _) ⟨((dnumM l e 6).1, B (dnumM l e 6).2.1, (dnumM l e 6).2.2), rfl, rfl, ?_⟩))
    refine AWP.re (ReSt.tok (H := [dr (dnumM l e 6).2.1 (dnumM l e 6).2.2]) (k := 3) (q' := .map encN ([], []) []) (sz' := 2) (s2 := [(0, .ptr 0 0), (3, .sl 2 (.map encN ([], []) []) (.tok 1)), (4, .int .i64 (dnumM l e 6).1), (5, .int .i64 0)]) rfl (.inl rfl) rfl (.inr rfl) (fun d hd => ?_) rfl) ?_
    · simp only [Ab.get]
      have e : Nat.beq 3 d = false := by
        cases hx : Nat.beq 3 d with
        | false => rfl
        | true => exact absurd (Nat.eq_of_beq_eq_true hx).symm hd
      rw [e]; rfl
    · obtain ⟨k, hk⟩ := Int.eq_ofNat_of_zero_le h2.1
      rw [hk]
      refine q4 (n := k) (by omega) k 0 _ _ [] (by omega) (by omega) (by simp; omega) ?_
      have hL : dF dNeed k (dnumM l e 6).2.1 (dnumM l e 6).2.2 = dL dNeed l e 6 := by rw [dL, hk]; rfl
      rw [hL, List.nil_append]
      refine ⟨[0], [dr (dL dNeed l e 6).2.1 (dL dNeed l e 6).2.2], slN (dL dNeed l e 6).1, ?_, leNone renN, rfl, rfl⟩
      refine ⟨by decide, rfl, Nat.le_refl _, fun i hi => ?_, fun i hi => .inl ?_⟩
      · match i, hi with
        | 0, _ => rfl
      · match i, hi with
        | 0, _ => rfl
  exact ASpec.oneH H id k _ _ _ rfl rfl h rfl


/-- a manifest and an error are told, whatever lies in the heap -/
abbrev PM (v : Mani × Int) : AV → List AObj → Prop := fun r H' => ∃ l H2 r2, Sel 0 l H' H2 ∧ Le r (AV.ren (selR l H'.length) r2) ∧ (r2 = .tup [.agg (encM v.1), .int .i64 v.2] ∧ H2 = [])

theorem pmNil {v : Mani × Int} {c : Int} {H' : List AObj} (h : v = (([], []), c)) : PM v (.tup [.agg [.str ⟨#[]⟩, .sl 0 (.raw []) .nil], .int .i64 c]) H' := by
  subst h
  exact ⟨[], [], .tup [.agg (encM ([], [])), .int .i64 c], Sel.none,
    Le.tup ⟨Le.agg ⟨Le.refl _, Le.sl (s' := Seq.ren _ (.map T.encR (0, []) [])) rfl (.inr ⟨rfl, fun _ h => by cases h⟩) (.inr rfl), trivial⟩, Le.refl _, trivial⟩, rfl, rfl⟩

theorem pmVal {v : Mani × Int} {nm : List UInt8} {rs : List Rel} {tip : Tip} {H' : List AObj} (h : v = ((nm, rs), 0)) : PM v (.tup [.agg [.str (B nm), .sl 2 (.map T.encR (0, []) rs) tip], .int .i64 0]) H' := by
  subst h
  exact ⟨[], [], .tup [.agg (encM (nm, rs)), .int .i64 0], Sel.none, Le.tup ⟨Le.agg ⟨Le.refl _, leNone renR, trivial⟩, Le.refl _, trivial⟩, rfl, rfl⟩

theorem q7 {nm : List UInt8} {n : Nat} (hn : n ≤ 50) {v : Mani × Int} {R : List Rel × List UInt8 × Int} (hR : v = endM (nm, R.1) (closeM R.2.2 R.2.1.length)) (hok : closeM R.2.2 R.2.1.length = 0 → okM (nm, R.1)) :
    ∀ (m i : Nat) (l : List UInt8) (e : Int) (acc : List Rel), m + i = n → l.length ≤ 10 * big → acc.length + m ≤ 100 → R = (acc ++ (dF dRel m l e).1, (dF dRel m l e).2) →
    AWP Try.prog 53 0 c41_7 [(2, .ptr 0 0), (4, .ptr 1 0), (5, .ptr 2 0), (6, .int .i64 n), (7, .int .i64 i)] [zM, dr l e, .cells [.str (B nm), .sl 2 (.map T.encR (0, []) acc) (.tok 3)], .tok] (q41_2 0 (PM v)) := by
  intro m
  induction m with
  | zero =>
    intro i l e acc hm hl ha h
    simp only [dF, List.append_nil] at h
    subst h
    refine v41_7 _ _ _ _ _ _ _ _ (condD (fun hc => by omega) fun _ => ?_)
    refine ASpec.call (dclose_spec (H := [zM, dr l e, .cells [.str (B nm), .sl 2 (.map T.encR (0, []) acc) (.tok 3)], .tok]) (id := 1) (l := l) (e := e) rfl) (Les.refl _) ⟨_, rfl, rfl, ?_⟩
    generalize closeM e l.length = c at hR hok
    refine condE (fun h0 => ?_) fun h0 => condNe (fun _ => pmNil (by rw [hR, endM, if_pos h0])) fun h1 => (h0 h1).elim
    refine ASpec.call (rmaniCheck_spec (nm, acc) (hok h0) _) ⟨Le.agg ⟨Le.refl _, Le.sl rfl (.inl rfl) (.inr rfl), trivial⟩, trivial⟩ ⟨_, rfl, rfl, condBn (fun hm => pmNil ?_) fun hm => condNe (fun h1 => (h1 h0).elim) fun _ => pmVal ?_⟩
    · rw [hR, endM, if_neg (by simpa using h0), if_neg (by rw [hm]; simp)]
    · rw [hR, endM, if_neg (by simpa using h0), if_pos hm]
  | succ m ih =>
    intro i l e acc hm hl ha h
    have h1 := dnumM_len l e 1000000000
    refine v41_7 _ _ _ _ _ _ _ _ (condD (fun _ => ?_) fun hc => by omega)
    refine ASpec.call (dnum_spec (H := [zM, dr l e, .cells [.str (B nm), .sl 2 (.map T.encR (0, []) acc) (.tok 3)], .tok]) (id := 1) (l := l) (e := e) 1000000000 hl rfl) (Les.refl _)
      ⟨((dnumM l e 1000000000).1, B (dnumM l e 1000000000).2.1, (dnumM l e 1000000000).2.2), rfl, rfl, ?_⟩
    refine ASpec.call (dneeds_read (H := [zM, dr (dnumM l e 1000000000).2.1 (dnumM l e 1000000000).2.2, .cells [.str (B nm), .sl 2 (.map T.encR (0, []) acc) (.tok 3)], .tok, .cells [.int .i64 (dnumM l e 1000000000).1, .sl 0 (.raw []) .nil]]) (id := 1) (l := (dnumM l e 1000000000).2.1) (e := (dnumM l e 1000000000).2.2) (by omega) rfl) (Les.refl _)
      ⟨((dRel l e).1.2, B (dRel l e).2.1, (dRel l e).2.2), rfl, rfl, needJ (by omega) ?_⟩
    refine AWP.re (ReSt.leCell (id := 2) (cs' := [.str (B nm), .sl 2 (.map T.encR (0, []) (acc ++ [(dRel l e).1])) (.tok 5)]) rfl ⟨Le.refl _, leAppE (Les.refl _), trivial⟩) ?_
    rw [succ64 (by omega)]
    refine AWP.shape [0, 1, 2, 5] [(2, .ptr 0 0), (4, .ptr 1 0), (5, .ptr 2 0), (6, .int .i64 n), (7, .int .i64 (i + 1 : Nat))]
      [zM, dr (dRel l e).2.1 (dRel l e).2.2, .cells [.str (B nm), .sl 2 (.map T.encR (0, []) (acc ++ [(dRel l e).1])) (.tok 3)], .tok] ?_
      ⟨rfl, Le.refl _, rfl, Le.refl _, rfl, Le.refl _, rfl, Le.refl _, rfl, Le.refl _, trivial⟩ (ih (i + 1) _ _ _ (by omega) (Nat.le_trans (dRel_len l e) hl) (by simp; omega) ?_)
    · refine ⟨by decide, rfl, by decide, fun i hi => by omega, fun i hi => .inl ?_⟩
      match i, hi with
      | 0, _ | 1, _ | 2, _ | 3, _ => rfl
    · rw [h]; simp [dF]

theorem rread_spec (bs : List UInt8) (hb : bs.length ≤ 1000000) (H : List AObj) : ASpec Try.prog 41 [.str (B bs)] H (fun r H' => r = .tup [.agg (encM (readM bs).1), .int .i64 (readM bs).2] ∧ H' = H) := by
  have k : ASpec Try.prog 41 [.str (B bs)] [] (fun r H' => r = .tup [.agg (encM (readM bs).1), .int .i64 (readM bs).2] ∧ H' = []) := by
    have hl : bs.length ≤ 10 * big := by unfold big; omega
    refine ASpec.sel (s41 _ _ ?_)
    rw [B_size]
    refine condD (fun h => pmNil ?_) fun h => ?_
    · rw [readM, if_pos (by omega)]
    have h1 := dstrM_len bs 0 24
    have h2 := dnumM_most (dstrM bs 0 24).2.1 (dstrM bs 0 24).2.2 8 (by omega)
    have h3 := dnumM_len (dstrM bs 0 24).2.1 (dstrM bs 0 24).2.2 8
    refine ASpec.call (dstr_spec (H := [zM, dr bs 0]) (id := 1) (l := bs) (e := 0) 24 hl rfl) (Les.refl _) ⟨(B (dstrM bs 0 24).1, B (dstrM bs 0 24).2.1, (dstrM bs 0 24).2.2), rfl, rfl, ?_⟩
    refine ASpec.call (dnum_spec (H := [zM, dr (dstrM bs 0 24).2.1 (dstrM bs 0 24).2.2, .cells [.str (B (dstrM bs 0 24).1), .sl 0 (.raw []) .nil]]) (id := 1) (l := (dstrM bs 0 24).2.1) (e := (dstrM bs 0 24).2.2) 8 (by omega) rfl) (Les.refl _)
      ⟨((dnumM (dstrM bs 0 24).2.1 (dstrM bs 0 24).2.2 8).1, B (dnumM (dstrM bs 0 24).2.1 (dstrM bs 0 24).2.2 8).2.1, (dnumM (dstrM bs 0 24).2.1 (dstrM bs 0 24).2.2 8).2.2), rfl, rfl, ?_⟩
    refine AWP.re (ReSt.tokCell (id := 2) (j := 1) (q' := .map T.encR (0, []) []) (sz' := 2) rfl rfl (.inl rfl) rfl (.inr rfl)) ?_
    obtain ⟨k, hk⟩ := Int.eq_ofNat_of_zero_le h2.1
    rw [hk]
    obtain ⟨a1, a2, a3⟩ := alikeMani bs
    refine q7 (n := k) (by omega) (R := ((dMani bs).1.2, (dMani bs).2)) ?_ ?_ k 0 _ _ [] (by omega) (by omega) (by simp; omega) ?_
    · rw [← dRead_eq, dRead, if_neg (by omega)]; rfl
    · intro h0
      have he : (maniR bs).2.2 = 0 := by
        by_cases he : (maniR bs).2.2 = 0
        · exact he
        · simp only [a2] at h0
          have hc : ∀ n, closeM (maniR bs).2.2 n = (maniR bs).2.2 := fun n => by simp only [closeM, if_pos he]
          rw [hc] at h0
          exact h0
      have := maniR_ok bs
      rw [← a3 he] at this
      exact this
    · simp only [dMani, dL, hk]; rfl
  exact ASpec.pureH H k _ _ rfl rfl

/-! ### are they alike? -/

theorem cons_dec {α : Type} [DecidableEq α] (x y : α) (a b : List α) : decide (x :: a = y :: b) = (decide (x = y) && decide (a = b)) := by
  rw [Bool.eq_iff_iff]; simp

theorem sameS4 {a b : List Span} {c : Bool} (hl : a.length ≤ lim) (he : a.length = b.length) : ∀ (m i : Nat), m + i = a.length → decide (a.drop i = b.drop i) = c →
    AWP Try.prog 26 0 c131_4 [(0, slS a), (1, slS b), (5, .int .i64 i)] [] (q131_2 0 (PB c)) := by
  unfold lim at hl
  intro m
  induction m with
  | zero =>
    intro i hm h
    refine v131_4 _ _ _ _ _ (condD (fun hc => by omega) fun _ => pb ?_)
    rw [List.drop_eq_nil_of_le (by omega), List.drop_eq_nil_of_le (by omega)] at h
    rw [← h]; simp
  | succ m ih =>
    intro i hm h
    rw [dropD a (0, 0) i (by omega), dropD b (0, 0) i (by omega), cons_dec] at h
    refine v131_4 _ _ _ _ _ (condD (fun hc => needJ ⟨by omega, by omega⟩ (needJ ⟨by omega, by omega⟩ ?_)) fun hc => by omega)
    rw [Int.toNat_natCast]
    generalize a.getD i (0, 0) = x at h ⊢
    generalize b.getD i (0, 0) = y at h ⊢
    have e : (x.1 == y.1 && (x.2 == y.2 && true)) = decide (x = y) := by
      obtain ⟨x1, x2⟩ := x
      obtain ⟨y1, y2⟩ := y
      rw [Bool.eq_iff_iff]; simp
    rw [e]
    refine condBn (fun h1 => pb ?_) fun h1 => ?_
    · rw [h1, Bool.false_and] at h; exact h
    · rw [h1, Bool.true_and] at h
      rw [succ64 (by omega)]
      exact ih (i + 1) (by omega) h

theorem sameS_spec (a b : List Span) (hl : a.length ≤ lim) (H : List AObj) : ASpec Try.prog 131 [slS a, slS b] H (fun r H' => r = .bool (decide (a = b)) ∧ H' = H) := by
  have k : ASpec Try.prog 131 [slS a, slS b] [] (fun r H' => r = .bool (decide (a = b)) ∧ H' = []) := by
    refine ASpec.sel (s131 _ _ _ (condNe (fun h => pb ?_) fun h => sameS4 hl (by omega) a.length 0 (by omega) rfl))
    symm
    rw [decide_eq_false]
    rintro rfl; exact h rfl
  exact ASpec.pureH H k _ _ rfl rfl

theorem sameN4 {a b : List Need} {c : Bool} (hl : okN a) (he : a.length = b.length) : ∀ (m i : Nat), m + i = a.length → decide (a.drop i = b.drop i) = c →
    AWP Try.prog 42 0 c108_4 [(0, slN a), (1, slN b), (5, .int .i64 i)] [] (q108_2 0 (PB c)) := by
  obtain ⟨hl1, hl2⟩ := hl
  unfold lim at hl1
  intro m
  induction m with
  | zero =>
    intro i hm h
    refine v108_4 _ _ _ _ _ (condD (fun hc => by omega) fun _ => pb ?_)
    rw [List.drop_eq_nil_of_le (by omega), List.drop_eq_nil_of_le (by omega)] at h
    rw [← h]; simp
  | succ m ih =>
    intro i hm h
    have hx := hl2 _ (memD a ([], []) i (by omega))
    rw [dropD a ([], []) i (by omega), dropD b ([], []) i (by omega), cons_dec] at h
    refine v108_4 _ _ _ _ _ (condD (fun hc => needJ ⟨by omega, by omega⟩ (needJ ⟨by omega, by omega⟩ ?_)) fun hc => by omega)
    rw [Int.toNat_natCast]
    generalize a.getD i ([], []) = x at h hx ⊢
    generalize b.getD i ([], []) = y at h ⊢
    have no : ¬ (x.1 = y.1 ∧ x.2 = y.2) → PB c (.bool false) [] := by
      intro hh
      rw [decide_eq_false (by rintro rfl; exact hh ⟨rfl, rfl⟩), Bool.false_and] at h
      exact pb h
    refine condSn (fun h1 => no (fun hh => h1 hh.1)) fun h1 => needJ ⟨by omega, by omega⟩ (needJ ⟨by omega, by omega⟩ ?_)
    refine ASpec.call (sameS_spec x.2 y.2 hx.2 []) (Les.refl _) ⟨_, rfl, rfl, condBn (fun h2 => no (fun hh => ?_)) fun h2 => ?_⟩
    · rw [hh.2] at h2; simp at h2
    · rw [decide_eq_true (show x = y from Prod.ext h1 (of_decide_eq_true h2)), Bool.true_and] at h
      rw [succ64 (by omega)]
      exact ih (i + 1) (by omega) h

theorem sameN_spec (a b : List Need) (hl : okN a) (H : List AObj) : ASpec Try.prog 108 [slN a, slN b] H (fun r H' => r = .bool (decide (a = b)) ∧ H' = H) := by
  have k : ASpec Try.prog 108 [slN a, slN b] [] (fun r H' => r = .bool (decide (a = b)) ∧ H' = []) := by
    refine ASpec.sel (s108 _ _ _ (condNe (fun h => pb ?_) fun h => sameN4 hl (by omega) a.length 0 (by omega) rfl))
    symm
    rw [decide_eq_false]
    rintro rfl; exact h rfl
  exact ASpec.pureH H k _ _ rfl rfl

theorem sameM4 {a b : Mani} {c : Bool} (hl : okM a) (he : a.2.length = b.2.length) : ∀ (m i : Nat), m + i = a.2.length → decide (a.2.drop i = b.2.drop i) = c →
    AWP Try.prog 56 0 c44_4 [(2, .ptr 0 0), (3, .ptr 1 0), (5, .int .i64 i)] [.cells (encM a), .cells (encM b)] (q44_2 0 (PB c)) := by
  obtain ⟨hl1, hl2, hl3⟩ := hl
  unfold lim at hl2
  intro m
  induction m with
  | zero =>
    intro i hm h
    refine v44_4 _ _ _ _ _ (condD (fun hc => by omega) fun _ => pb ?_)
    rw [List.drop_eq_nil_of_le (by omega), List.drop_eq_nil_of_le (by omega)] at h
    rw [← h]; simp
  | succ m ih =>
    intro i hm h
    have hx := hl3 _ (memD a.2 (0, []) i (by omega))
    rw [dropD a.2 (0, []) i (by omega), dropD b.2 (0, []) i (by omega), cons_dec] at h
    refine v44_4 _ _ _ _ _ (condD (fun hc => needJ ⟨by omega, by omega⟩ (needJ ⟨by omega, by omega⟩ ?_)) fun hc => by omega)
    rw [Int.toNat_natCast]
    generalize a.2.getD i (0, []) = x at h hx ⊢
    generalize b.2.getD i (0, []) = y at h ⊢
    have no : ∀ {H' : List AObj}, ¬ (x.1 = y.1 ∧ x.2 = y.2) → PB c (.bool false) H' := by
      intro H' hh
      rw [decide_eq_false (by rintro rfl; exact hh ⟨rfl, rfl⟩), Bool.false_and] at h
      exact pb h
    refine condNe (fun h1 => no (fun hh => h1 hh.1)) fun h1 => needJ ⟨by omega, by omega⟩ (needJ ⟨by omega, by omega⟩ ?_)
    refine ASpec.call (sameN_spec x.2 y.2 hx _) (Les.refl _) ⟨_, rfl, rfl, condBn (fun h2 => no (fun hh => ?_)) fun h2 => ?_⟩
    · rw [hh.2] at h2; simp at h2
    · rw [decide_eq_true (show x = y from Prod.ext h1 (of_decide_eq_true h2)), Bool.true_and] at h
      rw [succ64 (by omega)]
      exact ih (i + 1) (by omega) h

theorem sameM_spec (a b : Mani) (hl : okM a) (H : List AObj) : ASpec Try.prog 44 [.agg (encM a), .agg (encM b)] H (fun r H' => r = .bool (decide (a.1 = b.1 ∧ a.2 = b.2)) ∧ H' = H) := by
  have k : ASpec Try.prog 44 [.agg (encM a), .agg (encM b)] [] (fun r H' => r = .bool (decide (a.1 = b.1 ∧ a.2 = b.2)) ∧ H' = []) := by
    refine ASpec.sel (s44 _ _ _ (condSn (fun h => pb ?_) fun h0 => condNe (fun h => pb ?_) fun h => sameM4 hl (by omega) a.2.length 0 (by omega) ?_))
    · symm; rw [decide_eq_false]; intro hh; exact h hh.1
    · symm; rw [decide_eq_false]; intro hh; rw [hh.2] at h; exact h rfl
    · rw [List.drop_zero, List.drop_zero, Bool.eq_iff_iff, decide_eq_true_iff, decide_eq_true_iff]
      exact ⟨fun h => ⟨h0, h⟩, fun h => h.2⟩
  exact ASpec.pureH H k _ _ rfl rfl

/-! ### the law -/

theorem awake_spec (H : List AObj) : ASpec Try.prog 39 [] H (fun r H' => r = .bool true ∧ H' = H) := by
  have k : ASpec Try.prog 39 [] [] (fun r H' => r = .bool true ∧ H' = []) := by
    refine s39 _ (ASpec.call (put_spec ([97], []) ⟨by unfold lim; simp, by unfold lim; simp, fun r hr => by simp at hr⟩ []) ⟨Le.agg ⟨Le.refl _, Le.sl (s' := .map T.encR (0, []) []) rfl (.inr ⟨rfl, fun _ h => by cases h⟩) (.inr rfl), trivial⟩, trivial⟩ ⟨_, rfl, rfl, needJ (allBytes_map _) ?_⟩)
    have e : putMan ([97], []) = [1, 97, 0] := by decide +kernel
    rw [e, bytesOf_map]
    exact ⟨congrArg AV.bool (beq_iff_eq.2 rfl), rfl⟩
  exact ASpec.pureH H k _ _ rfl rfl

theorem endT {f : FuncId} {args : List AV} (h : ASpec Try.prog f args [] (PB true)) : ASpec Try.prog f args [] (fun r H' => r = .bool true ∧ H' = []) :=
  ASpec.sel (h.mono fun r H' h => h)

theorem wirePuts_spec (m : Mani) (bs : List UInt8) : ASpec Try.prog 9 [.agg (encM m), sl1 bs] [] (fun r H' => r = .bool true ∧ H' = []) := by
  refine endT (s9 _ _ _ (ASpec.call (largeM_spec m _) (Les.refl _) ⟨_, rfl, rfl, condB (fun _ => ASpec.call (awake_spec _) (Les.refl _) ⟨(), rfl, rfl, pb rfl⟩) fun hm => condD (fun _ => ASpec.call (awake_spec _) (Les.refl _) ⟨(), rfl, rfl, pb rfl⟩) fun hb => ?_⟩))
  have hok := largeM_ok hm
  have hro := readM_ok bs
  refine v9_3 _ _ _ _ (ASpec.call (read_spec bs (by omega) _) (Les.refl _) ⟨readM bs, rfl, rfl, needJ (allBytes_map _) ?_⟩)
  rw [bytesOf_map]
  refine ASpec.call (rread_spec bs (by omega) _) (Les.refl _) ⟨readM bs, rfl, rfl, ?_⟩
  refine ASpec.call (put_spec m hok _) (Les.refl _) ⟨putMan m, rfl, rfl, ⟨rfl, rfl⟩, needJ (allBytes_map _) ?_⟩
  refine ASpec.call (rput_spec m hok _) (Les.refl _) ⟨B (putMan m), rfl, rfl, ?_⟩
  rw [bytesOf_map]
  refine condS (fun _ => ?_) fun h => (h rfl).elim
  refine ASpec.call (sameM_spec (readM bs).1 (readM bs).1 hro _) (Les.refl _) ⟨true, by simp, rfl, ?_⟩
  refine condE (fun _ => ?_) fun h => (h rfl).elim
  exact ASpec.call (awake_spec _) (Les.refl _) ⟨(), rfl, rfl, pb rfl⟩

end
end W
