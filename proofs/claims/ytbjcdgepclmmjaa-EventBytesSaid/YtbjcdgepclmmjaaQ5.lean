/- Q5: several of this proof's own texts, one behind the other: what each proves stands at its head. -/
import Derived.Test.YtbjcdgepclmmjaaQ4
import Derived.Test.YtbjcdgepclmmjaaProg
import Derived.Test.YtbjcdgepclmmjaaA1
import Derived.Test.YtbjcdgepclmmjaaQ2
import Derived.Test.YtbjcdgepclmmjaaChecked
import Derived.KernelRfl
import Derived.JoinedOf
section
/- Events as bytes and back: plain laws. -/

set_option linter.unusedVariables false
set_option linter.unusedSimpArgs false
set_option maxRecDepth 100000
open Go Go.Ab Go.Proofs V S T C
open W (numB text spanB needB needR listM listR numM_most numM_p strM_p strM_len Back Canon num_back text_back need_back listM_back listR_back num_canon text_canon need_canon listM_canon listR_canon closeM_zero needOk_ok numB_len text_len needB_len flat_len)
namespace E

def needsB (l : List Need) : List UInt8 := numB l.length ++ l.flatMap needB
def tailB (e : Ev) : List UInt8 :=
  if e.1 = 1 then numB e.2.2.1 ++ needsB e.2.1 else if e.1 = 3 then numB e.2.2.2.1 ++ text e.2.2.2.2 else if e.1 = 4 then numB e.2.2.2.1 else []
def evB (e : Ev) : List UInt8 := numB e.1 ++ tailB e
def evsB (l : List Ev) : List UInt8 := numB l.length ++ l.flatMap evB
def putE (l : List Ev) : List UInt8 := if l.length ≤ 400 ∧ l.all evOk = true then evsB l else []

theorem needsB_len {l : List Need} (h : needOk l = true) : (needsB l).length ≤ 700 := by
  obtain ⟨h1, h2⟩ := needOk_ok h
  have a := numB_len l.length
  have b := flat_len needB 108 l (fun n hn => needB_len (h2 n hn).1 (h2 n hn).2.1)
  have c : l.length * 108 ≤ 6 * 108 := Nat.mul_le_mul_right _ h1
  simp only [needsB, List.length_append]; omega

theorem evB_len {e : Ev} (h : evOk e = true) : (evB e).length ≤ 10000 := by
  obtain ⟨h1, h2⟩ := (evOk_iff e).1 h
  have a := numB_len e.1
  have b := needsB_len h1
  have c := numB_len e.2.2.1
  have d := numB_len e.2.2.2.1
  have f := text_len e.2.2.2.2
  unfold evP at h2
  simp only [evB, tailB, List.length_append]
  by_cases k1 : e.1 = 1
  · rw [if_pos k1, List.length_append]; omega
  · rw [if_neg k1]
    by_cases k3 : e.1 = 3
    · rw [if_pos k3, List.length_append]
      have := h2.2.2.1 (.inl k3); omega
    · rw [if_neg k3]
      by_cases k4 : e.1 = 4
      · rw [if_pos k4]; omega
      · rw [if_neg k4]; simp; omega

theorem ev_back {e : Ev} (h : evOk e = true) : Back evB evR e := by
  intro pre rest
  obtain ⟨h1, h2⟩ := (evOk_iff e).1 h
  obtain ⟨k, l, t, n, b⟩ := e
  unfold evP at h2
  simp only at h1 h2
  have e1 := num_back (x := k) (most := 4) (by omega) (by omega) (by omega) pre (tailB (k, l, t, n, b) ++ rest)
  simp only [List.append_assoc] at e1
  simp only [evR, evB, List.append_assoc, e1]
  by_cases k1 : k = 1
  · subst k1
    obtain ⟨hl, hn⟩ := needOk_ok h1
    have hs : ∀ x ∈ l, Back needB needR x := fun x hx => by
      obtain ⟨a, b, c, d⟩ := hn x hx
      exact need_back a b c
    have e2 := num_back (x := t) (most := 1099511627776) (by omega) (by omega) (by omega) (pre ++ numB 1) (needsB l ++ rest)
    have e3 := listM_back (most := 6) l hs (by omega) (by omega) (pre ++ numB 1 ++ numB t) rest
    have hn0 := h2.2.2.2 (by omega)
    have hb0 : b = [] := List.eq_nil_of_length_eq_zero hn0.2.1
    simp only [needsB, List.append_assoc, List.length_append, Nat.add_assoc] at e2 e3
    simp only [evK, tailB, needsR, needsB, if_pos, List.append_assoc, List.length_append, Nat.add_assoc, e2, e3]
    rw [hn0.1, hb0]
  · by_cases k3 : k = 3
    · subst k3
      have hh := h2.2.2.1 (.inl rfl)
      have hl0 : l = [] := List.eq_nil_of_length_eq_zero (h2.2.1 (by omega)).1
      have ht0 := (h2.2.1 (by omega)).2
      have e2 := num_back (x := n) (most := 1099511627776) (by omega) (by omega) (by omega) (pre ++ numB 3) (text b ++ rest)
      have e3 := text_back (s := b) (most := 9000) (by omega) (by omega) (pre ++ numB 3 ++ numB n) rest
      simp only [List.append_assoc, List.length_append, Nat.add_assoc] at e2 e3
      simp only [evK, tailB, if_neg (show ¬ ((3 : Int) = 1) by omega), if_pos, List.append_assoc, List.length_append, Nat.add_assoc, e2, e3]
      rw [hl0, ht0]
    · by_cases k4 : k = 4
      · subst k4
        have hh := h2.2.2.1 (.inr rfl)
        have hl0 : l = [] := List.eq_nil_of_length_eq_zero (h2.2.1 (by omega)).1
        have ht0 := (h2.2.1 (by omega)).2
        have hb0 : b = [] := List.eq_nil_of_length_eq_zero (by omega)
        have e2 := num_back (x := n) (most := 1099511627776) (by omega) (by omega) (by omega) (pre ++ numB 4) rest
        simp only [List.append_assoc, List.length_append, Nat.add_assoc] at e2
        simp only [evK, tailB, if_neg (show ¬ ((4 : Int) = 1) by omega), if_neg (show ¬ ((4 : Int) = 3) by omega), if_pos, List.append_assoc, List.length_append, Nat.add_assoc, e2]
        rw [hl0, ht0, hb0]
      · have hh := h2.2.2.2 (by omega)
        have hl0 : l = [] := List.eq_nil_of_length_eq_zero (h2.2.1 (by omega)).1
        have ht0 := (h2.2.1 (by omega)).2
        have hb0 : b = [] := List.eq_nil_of_length_eq_zero (by omega)
        simp only [evK, tailB, if_neg k1, if_neg k3, if_neg k4, List.append_nil]
        rw [hl0, ht0, hb0, hh.1]

theorem evs_back {l : List Ev} (hl : l.length ≤ 400) (h : l.all evOk = true) : evsR (evsB l) = (l, (evsB l).length, 0) := by
  have e2 := listM_back (most := 400) l (fun x hx => ev_back (List.all_eq_true.1 h x hx)) (by omega) (by omega) [] []
  simp only [List.append_assoc, List.length_append, List.nil_append, List.length_nil, Nat.zero_add, List.append_nil] at e2
  simp only [evsR, evsB, List.append_assoc, List.length_append, e2]

theorem read_putE {l : List Ev} (hl : l.length ≤ 400) (h : l.all evOk = true) : readE (evsB l) = (l, 0) := by
  rw [readE, evs_back hl h]
  simp only [Nat.sub_self]
  rw [show closeM 0 0 = 0 from rfl, endE, if_neg (by simp), if_pos h]

theorem ev_canon : Canon evB evR := by
  intro bs p e h
  simp only [evR] at h ⊢
  generalize hk : (numM bs p e 4).1 = k at h ⊢
  have key : (numM bs p e 4).2.2 = 0 ∧ (evK bs k (numM bs p e 4).2.1 (numM bs p e 4).2.2).1.1 = k ∧ bs.drop (numM bs p e 4).2.1 = tailB (evK bs k (numM bs p e 4).2.1 (numM bs p e 4).2.2).1 ++ bs.drop (evK bs k (numM bs p e 4).2.1 (numM bs p e 4).2.2).2.1 := by
    generalize (numM bs p e 4).2.1 = p1 at h ⊢
    generalize (numM bs p e 4).2.2 = e1 at h ⊢
    unfold evK at h ⊢
    by_cases k1 : k = 1
    · simp only [if_pos k1] at h ⊢
      obtain ⟨a, b⟩ := listM_canon need_canon (by omega) bs _ _ h
      obtain ⟨c, d⟩ := num_canon 1099511627776 bs _ _ a
      simp only at d
      refine ⟨c, trivial, ?_⟩
      simp only [tailB, if_pos k1, needsB, needsR, List.append_assoc] at b ⊢
      rw [d, b]
    · simp only [if_neg k1] at h ⊢
      by_cases k3 : k = 3
      · simp only [if_pos k3] at h ⊢
        obtain ⟨a, b⟩ := text_canon 9000 bs _ _ h
        obtain ⟨c, d⟩ := num_canon 1099511627776 bs _ _ a
        simp only at b d
        refine ⟨c, trivial, ?_⟩
        simp only [tailB, if_neg k1, if_pos k3, List.append_assoc]
        rw [d, b]
      · simp only [if_neg k3] at h ⊢
        by_cases k4 : k = 4
        · simp only [if_pos k4] at h ⊢
          obtain ⟨c, d⟩ := num_canon 1099511627776 bs _ _ h
          simp only at d
          refine ⟨c, trivial, ?_⟩
          simp only [tailB, if_neg k1, if_neg k3, if_pos k4]
          rw [d]
        · simp only [if_neg k4] at h ⊢
          refine ⟨h, trivial, ?_⟩
          simp [tailB, k1, k3, k4]
  obtain ⟨a, hb, c⟩ := key
  obtain ⟨d, f⟩ := num_canon 4 bs p e a
  simp only at f
  refine ⟨d, ?_⟩
  rw [f, c, evB, hb, hk, List.append_assoc]

theorem put_readE {bs : List UInt8} (h : (readE bs).2 = 0) : evsB (readE bs).1 = bs ∧ (readE bs).1.all evOk = true ∧ (readE bs).1.length ≤ 400 := by
  refine ⟨?_, ?_, (readE_ok bs).1⟩
  · unfold readE endE at h ⊢
    split at h
    · rename_i hc; exact absurd h hc
    · rename_i hc
      rw [if_neg hc]
      split at h
      · rename_i hm
        rw [if_pos hm]
        obtain ⟨h1, h2⟩ := closeM_zero (e := (evsR bs).2.2) (n := bs.length - (evsR bs).2.1) (by simpa using hc)
        obtain ⟨-, c⟩ := listM_canon ev_canon (by omega) bs 0 0 h1
        simp only [List.drop_zero] at c
        have hd : bs.drop (listM (evR bs) bs 0 0 400).2.1 = [] := List.drop_eq_nil_of_le (by unfold evsR at h2; omega)
        rw [hd, List.append_nil] at c
        unfold evsB evsR
        exact c.symm
      · simp at h
  · unfold readE endE at h ⊢
    split at h
    · rename_i hc; exact absurd h hc
    · rename_i hc
      rw [if_neg hc]
      split at h
      · rename_i hm
        rw [if_pos hm]; exact hm
      · simp at h

theorem putE_readE {bs : List UInt8} (h : (readE bs).2 = 0) : putE (readE bs).1 = bs := by
  obtain ⟨a, b, c⟩ := put_readE h
  rw [putE, if_pos ⟨c, b⟩, a]

theorem putE_ne {l : List Ev} (h : putE l ≠ []) : l.length ≤ 400 ∧ l.all evOk = true := by
  unfold putE at h
  split at h
  · assumption
  · exact absurd rfl h
theorem readE_putE {l : List Ev} (h : putE l ≠ []) : readE (putE l) = (l, 0) := by
  obtain ⟨a, b⟩ := putE_ne h
  rw [putE, if_pos ⟨a, b⟩]; exact read_putE a b
end E
end

section
/- Events out of bytes: the document's reader. -/

set_option linter.unusedVariables false
set_option linter.unusedSimpArgs false
set_option maxRecDepth 100000
open Go Go.Ab Go.Proofs V S T C
open W (sl1 slS slN dNeed dSpan dL dF dnumM_len dstrM_len dnumM_most dSpan_len dNeed_len dL_len Alike Sticks alikeL alikeNeed needR_p spanR_p dNeed_sticks dnumM_err dstrM_err listR listM listR_err leNone renN Inside)
open EB (s193 v193_4 v193_9 c193_4 c193_9 q193_2 q193_7 s74 v74_5 v74_11 v74_13 v74_15 v74_16 v74_18 c74_5 c74_11 c74_13 c74_15 c74_16 c74_18 q74_0 q74_2 q74_5 q74_7)
namespace E

/-! ### the document's model -/

def dEvK (l : List UInt8) (k : Int) (e : Int) : Ev × List UInt8 × Int :=
  if k = 1 then ((k, (dL dNeed (dnumM l e 1099511627776).2.1 (dnumM l e 1099511627776).2.2 6).1, (dnumM l e 1099511627776).1, 0, []), (dL dNeed (dnumM l e 1099511627776).2.1 (dnumM l e 1099511627776).2.2 6).2)
  else if k = 3 then ((k, [], 0, (dnumM l e 1099511627776).1, (dstrM (dnumM l e 1099511627776).2.1 (dnumM l e 1099511627776).2.2 9000).1), (dstrM (dnumM l e 1099511627776).2.1 (dnumM l e 1099511627776).2.2 9000).2)
  else if k = 4 then ((k, [], 0, (dnumM l e 1099511627776).1, []), (dnumM l e 1099511627776).2)
  else ((k, [], 0, 0, []), l, e)

def dEv (l : List UInt8) (e : Int) : Ev × List UInt8 × Int := dEvK (dnumM l e 4).2.1 (dnumM l e 4).1 (dnumM l e 4).2.2

def dG {α : Type} (one : List UInt8 → Int → α × List UInt8 × Int) : Nat → List UInt8 → Int → List α × List UInt8 × Int
  | 0, l, e => ([], l, e)
  | k + 1, l, e => if e = 0 then ((one l e).1 :: (dG one k (one l e).2.1 (one l e).2.2).1, (dG one k (one l e).2.1 (one l e).2.2).2) else ([], l, e)

def dEvs (l : List UInt8) : List Ev × List UInt8 × Int := dG dEv (dnumM l 0 400).1.toNat (dnumM l 0 400).2.1 (dnumM l 0 400).2.2

theorem alikeG {α : Type} {bs : List UInt8} {one : Nat → Int → α × Nat × Int} {done : List UInt8 → Int → α × List UInt8 × Int} (h1 : ∀ p e, p ≤ bs.length → Alike bs (one p e) (done (bs.drop p) e)) (hin : Inside bs one) :
    ∀ (k p : Nat) (e : Int), p ≤ bs.length → Alike bs (listR one k p e) (dG done k (bs.drop p) e)
  | 0, p, e, hp => ⟨rfl, rfl, fun _ => rfl⟩
  | k + 1, p, e, hp => by
    by_cases he : e = 0
    · obtain ⟨a1, a2, a3⟩ := h1 p e hp
      obtain ⟨b1, b2, b3⟩ := alikeG h1 hin k (one p e).2.1 (one p e).2.2 (hin p e hp)
      simp only [listR, if_pos he, dG, a1, a2]
      refine ⟨b1, b2, fun h0 => ?_⟩
      have hz : (one p e).2.2 = 0 := by
        by_cases hz : (one p e).2.2 = 0
        · exact hz
        · simp only [listR_err hz] at h0
          exact h0
      show _ :: _ = _ :: _
      rw [a3 hz, b3 h0]
    · rw [listR_err he]
      simp only [dG, if_neg he]
      exact ⟨rfl, rfl, fun h => (he h).elim⟩

theorem alikeEv (bs : List UInt8) (p : Nat) (e : Int) (hp : p ≤ bs.length) : Alike bs (evR bs p e) (dEv (bs.drop p) e) := by
  obtain ⟨hd, hq⟩ := num_doc bs p e 4 hp
  have key : ∀ (k : Int) (p : Nat) (e : Int), p ≤ bs.length → Alike bs (evK bs k p e) (dEvK (bs.drop p) k e) := by
    intro k p e hp
    obtain ⟨hd1, hq1⟩ := num_doc bs p e 1099511627776 hp
    unfold evK dEvK
    rw [hd1]
    by_cases k1 : k = 1
    · obtain ⟨a1, a2, a3⟩ := alikeL (alikeNeed bs) (needR_p bs) dNeed_sticks (e := (numM bs p e 1099511627776).2.2) (most := 6) hq1
      rw [if_pos k1, if_pos k1]
      refine ⟨a1, a2, fun h => ?_⟩
      have := a3 h
      show (k, (dL dNeed (bs.drop (numM bs p e 1099511627776).2.1) (numM bs p e 1099511627776).2.2 6).1, (numM bs p e 1099511627776).1, (0 : Int), ([] : List UInt8)) = _
      rw [this]; rfl
    · rw [if_neg k1, if_neg k1]
      by_cases k3 : k = 3
      · obtain ⟨hd2, hq2⟩ := str_doc bs (numM bs p e 1099511627776).2.1 (numM bs p e 1099511627776).2.2 9000 hq1
        rw [if_pos k3, if_pos k3, hd2]
        exact ⟨rfl, rfl, fun _ => rfl⟩
      · rw [if_neg k3, if_neg k3]
        by_cases k4 : k = 4
        · rw [if_pos k4, if_pos k4]
          exact ⟨rfl, rfl, fun _ => rfl⟩
        · rw [if_neg k4, if_neg k4]
          exact ⟨rfl, rfl, fun _ => rfl⟩
  unfold dEv evR
  rw [hd]
  exact key _ _ _ hq

theorem alikeEvs (bs : List UInt8) : Alike bs (evsR bs) (dEvs bs) := by
  obtain ⟨hd, hq⟩ := num_doc bs 0 0 400 (Nat.zero_le _)
  rw [List.drop_zero] at hd
  unfold evsR dEvs listM
  rw [hd]
  exact alikeG (alikeEv bs) (evR_p bs) _ _ _ hq

theorem dReadE_eq (bs : List UInt8) : endE (dEvs bs).1 (closeM (dEvs bs).2.2 (dEvs bs).2.1.length) = readE bs := by
  obtain ⟨a1, a2, a3⟩ := alikeEvs bs
  unfold readE
  rw [a1, a2, List.length_drop]
  by_cases h : (evsR bs).2.2 = 0
  · rw [a3 h]
  · have hc : ∀ n, closeM (evsR bs).2.2 n = (evsR bs).2.2 := fun n => by simp only [closeM, if_pos h]
    rw [hc]
    unfold endE
    rw [if_pos h, if_pos h]

theorem dEvK_len (l : List UInt8) (k e : Int) : (dEvK l k e).2.1.length ≤ l.length := by
  unfold dEvK
  repeat' split
  · exact Nat.le_trans (dL_len dNeed_len _ _ _) (dnumM_len _ _ _)
  · exact Nat.le_trans (dstrM_len _ _ _) (dnumM_len _ _ _)
  · exact dnumM_len _ _ _
  · exact Nat.le_refl _
theorem dEv_len (l : List UInt8) (e : Int) : (dEv l e).2.1.length ≤ l.length := Nat.le_trans (dEvK_len _ _ _) (dnumM_len _ _ _)

/-! ### the walk -/

section
variable {Post : AV → List AObj → Prop}

theorem r9 {acc : List Need} {n i : Int} {nm : List UInt8} (ha : acc.length ≤ 100) {k : Nat} (hk : k ≤ 100) {R : Need × List UInt8 × Int}
    (K : AWP Try.prog 47 1 c193_4 [(0, .ptr 0 0), (3, .sl 2 (.map encN ([], []) (acc ++ [R.1])) (.tok 1)), (4, .int .i64 n), (5, .int .i64 (IntKind.wrap .i64 (i + 1)))] [dr R.2.1 R.2.2, .tok] (q193_2 1 Post)) :
    ∀ (m j : Nat) (l : List UInt8) (e : Int) (sp : List Span), m + j = k → l.length ≤ 10 * big → sp.length + m ≤ 100 → R = ((nm, sp ++ (dF dSpan m l e).1), (dF dSpan m l e).2) →
    AWP Try.prog 47 1 c193_9 [(0, .ptr 0 0), (3, .sl 2 (.map encN ([], []) acc) (.tok 1)), (4, .int .i64 n), (5, .int .i64 i), (6, .ptr 2 0), (7, .int .i64 k), (8, .int .i64 j)]
      [dr l e, .tok, .cells [.str (B nm), .sl 2 (.map encS (0, 0) sp) (.tok 3)], .tok] (q193_7 1 Post) := by
  intro m
  induction m with
  | zero =>
    intro j l e sp hm hl hs hR
    refine v193_9 _ _ _ _ _ _ _ _ _ _ _ (condD (fun hc => by omega) fun _ => needJ (by omega) ?_)
    simp only [dF, List.append_nil] at hR
    subst hR
    refine AWP.shape [0, 4] [(0, .ptr 0 0), (3, .sl 2 (.map encN ([], []) (acc ++ [(nm, sp)])) (.tok 1)), (4, .int .i64 n), (5, .int .i64 (IntKind.wrap .i64 (i + 1)))] [dr l e, .tok] ?_ ⟨rfl, Le.refl _, rfl, ?_, rfl, Le.refl _, rfl, Le.refl _, trivial⟩ K
    · refine ⟨by decide, rfl, by decide, fun i hi => ?_, fun i hi => .inl ?_⟩
      · match i, hi with
        | 0, _ => rfl
      · match i, hi with
        | 0, _ | 1, _ => rfl
    · exact Le.trans (leAppE (x := (nm, sp)) ⟨Le.refl _, Le.sl rfl (.inl rfl) (.inr rfl), trivial⟩) (Le.refl _)
  | succ m ih =>
    intro j l e sp hm hl hs hR
    refine v193_9 _ _ _ _ _ _ _ _ _ _ _ (condD (fun _ => ?_) fun hc => by omega)
    have h1 := dnumM_len l e 1000000000
    refine ASpec.call (dnum_spec (H := [dr l e, .tok, .cells [.str (B nm), .sl 2 (.map encS (0, 0) sp) (.tok 3)], .tok]) (id := 0) (l := l) (e := e) 1000000000 hl rfl) (Les.refl _)
      ⟨((dnumM l e 1000000000).1, B (dnumM l e 1000000000).2.1, (dnumM l e 1000000000).2.2), rfl, rfl, ?_⟩
    refine ASpec.call (dnum_spec (H := [dr (dnumM l e 1000000000).2.1 (dnumM l e 1000000000).2.2, .tok, .cells [.str (B nm), .sl 2 (.map encS (0, 0) sp) (.tok 3)], .tok]) (id := 0) (l := (dnumM l e 1000000000).2.1) (e := (dnumM l e 1000000000).2.2) 1000000000 (by omega) rfl) (Les.refl _)
      ⟨((dnumM (dnumM l e 1000000000).2.1 (dnumM l e 1000000000).2.2 1000000000).1, B (dnumM (dnumM l e 1000000000).2.1 (dnumM l e 1000000000).2.2 1000000000).2.1, (dnumM (dnumM l e 1000000000).2.1 (dnumM l e 1000000000).2.2 1000000000).2.2), rfl, rfl, needJ (by omega) ?_⟩
    refine AWP.re (ReSt.leCell (id := 2) (cs' := [.str (B nm), .sl 2 (.map encS (0, 0) (sp ++ [(dSpan l e).1])) (.tok 4)]) rfl ⟨Le.refl _, leAppE (Les.refl _), trivial⟩) ?_
    rw [succ64 (by omega)]
    refine AWP.shape [0, 1, 2, 4] [(0, .ptr 0 0), (3, .sl 2 (.map encN ([], []) acc) (.tok 1)), (4, .int .i64 n), (5, .int .i64 i), (6, .ptr 2 0), (7, .int .i64 k), (8, .int .i64 (j + 1 : Nat))]
      [dr (dSpan l e).2.1 (dSpan l e).2.2, .tok, .cells [.str (B nm), .sl 2 (.map encS (0, 0) (sp ++ [(dSpan l e).1])) (.tok 3)], .tok] ?_
      ⟨rfl, Le.refl _, rfl, Le.refl _, rfl, Le.refl _, rfl, Le.refl _, rfl, Le.refl _, rfl, Le.refl _, rfl, Le.refl _, trivial⟩ (ih (j + 1) _ _ _ (by omega) (Nat.le_trans (dSpan_len l e) hl) (by simp; omega) ?_)
    · refine ⟨by decide, rfl, by decide, fun i hi => ?_, fun i hi => .inl ?_⟩
      · match i, hi with
        | 0, _ => rfl
      · match i, hi with
        | 0, _ | 1, _ | 2, _ | 3, _ => rfl
    · rw [hR]; simp [dF]

theorem r4 {n : Nat} (hn : n ≤ 50) : ∀ (m i : Nat) (l : List UInt8) (e : Int) (acc : List Need), m + i = n → l.length ≤ 10 * big → acc.length + m ≤ 100 →
    Post (.sl 2 (.map encN ([], []) (acc ++ (dF dNeed m l e).1)) (.tok 1)) [dr (dF dNeed m l e).2.1 (dF dNeed m l e).2.2, .tok] →
    AWP Try.prog 47 1 c193_4 [(0, .ptr 0 0), (3, .sl 2 (.map encN ([], []) acc) (.tok 1)), (4, .int .i64 n), (5, .int .i64 i)] [dr l e, .tok] (q193_2 1 Post) := by
  intro m
  induction m with
  | zero =>
    intro i l e acc hm hl ha h
    refine v193_4 _ _ _ _ _ _ _ (condD (fun hc => by omega) fun _ => ?_)
    simp only [dF, List.append_nil] at h
    exact h
  | succ m ih =>
    intro i l e acc hm hl ha h
    refine v193_4 _ _ _ _ _ _ _ (condD (fun _ => ?_) fun hc => by omega)
    have h1 := dstrM_len l e 24
    have h2 := dnumM_most (dstrM l e 24).2.1 (dstrM l e 24).2.2 6 (by omega)
    have h3 := dnumM_len (dstrM l e 24).2.1 (dstrM l e 24).2.2 6
    refine ASpec.call (dstr_spec (H := [dr l e, .tok]) (id := 0) (l := l) (e := e) 24 hl rfl) (Les.refl _) ⟨(B (dstrM l e 24).1, B (dstrM l e 24).2.1, (dstrM l e 24).2.2), rfl, rfl, ?_⟩
    refine ASpec.call (dnum_spec (H := [dr (dstrM l e 24).2.1 (dstrM l e 24).2.2, .tok, .cells [.str (B (dstrM l e 24).1), .sl 0 (.raw []) .nil]]) (id := 0) (l := (dstrM l e 24).2.1) (e := (dstrM l e 24).2.2) 6 (by omega) rfl) (Les.refl _)
      ⟨((dnumM (dstrM l e 24).2.1 (dstrM l e 24).2.2 6).1, B (dnumM (dstrM l e 24).2.1 (dstrM l e 24).2.2 6).2.1, (dnumM (dstrM l e 24).2.1 (dstrM l e 24).2.2 6).2.2), rfl, rfl, ?_⟩
    refine AWP.re (ReSt.tokCell (id := 2) (j := 1) (q' := .map encS (0, 0) []) (sz' := 2) rfl rfl (.inl rfl) rfl (.inr rfl)) ?_
    obtain ⟨k, hk⟩ := Int.eq_ofNat_of_zero_le h2.1
    rw [hk]
    refine r9 (nm := (dstrM l e 24).1) (by omega) (k := k) (by omega) (R := dNeed l e) ?_ k 0 _ _ [] (by omega) (by omega) (by simp; omega) ?_
    · rw [succ64 (by omega)]
      refine ih (i + 1) _ _ _ (by omega) (Nat.le_trans (dNeed_len l e) hl) (by simp; omega) ?_
      simp only [dF] at h
      simpa using h
    · rw [dNeed, dL, hk]; rfl

theorem dneedsE {H : List AObj} {id : Nat} {l : List UInt8} {e : Int} (hl : l.length ≤ 10 * big) (h : AtD H id l e) :
    ASpec Try.prog 193 [.ptr id 0] H (fun r H' => r = slN (dL dNeed l e 6).1 ∧ H' = H.set id (dr (dL dNeed l e 6).2.1 (dL dNeed l e 6).2.2)) := by
  have k : ASpec Try.prog 193 [.ptr 0 0] [dr l e] (fun r H' => r = slN (dL dNeed l e 6).1 ∧ H' = [dr (dL dNeed l e 6).2.1 (dL dNeed l e 6).2.2]) := by
    have h2 := dnumM_most l e 6 (by omega)
    have h3 := dnumM_len l e 6
    refine ASpec.sel (s193 _ _ _ (ASpec.call (dnum_spec (H := [dr l e]) (id := 0) (l := l) (e := e) 6 hl rfl) (Les.refl _) ⟨((dnumM l e 6).1, B (dnumM l e 6).2.1, (dnumM l e 6).2.2), rfl, rfl, ?_⟩))
    refine AWP.re (ReSt.tok (H := [dr (dnumM l e 6).2.1 (dnumM l e 6).2.2]) (k := 3) (q' := .map encN ([], []) []) (sz' := 2) (s2 := [(0, .ptr 0 0), (3, .sl 2 (.map encN ([], []) []) (.tok 1)), (4, .int .i64 (dnumM l e 6).1), (5, .int .i64 0)]) rfl (.inl rfl) rfl (.inr rfl) (fun d hd => ?_) rfl) ?_
    · simp only [Ab.get]
      have e : Nat.beq 3 d = false := by
        cases hx : Nat.beq 3 d with
        | false => rfl
        | true => exact absurd (Nat.eq_of_beq_eq_true hx).symm hd
      rw [e]; rfl
    · obtain ⟨k, hk⟩ := Int.eq_ofNat_of_zero_le h2.1
      rw [hk]
      refine r4 (n := k) (by omega) k 0 _ _ [] (by omega) (by omega) (by simp; omega) ?_
      have hL : dF dNeed k (dnumM l e 6).2.1 (dnumM l e 6).2.2 = dL dNeed l e 6 := by rw [dL, hk]; rfl
      rw [hL, List.nil_append]
      refine ⟨[0], [dr (dL dNeed l e 6).2.1 (dL dNeed l e 6).2.2], slN (dL dNeed l e 6).1, ?_, leNone renN, rfl, rfl⟩
      refine ⟨by decide, rfl, Nat.le_refl _, fun i hi => ?_, fun i hi => .inl ?_⟩
      · match i, hi with
        | 0, _ => rfl
      · match i, hi with
        | 0, _ => rfl
  exact ASpec.oneH H id k _ _ _ rfl rfl h rfl

/-- events and an error are told, whatever lies in the heap -/
abbrev PR (v : List Ev × Int) : AV → List AObj → Prop := fun r H' => ∃ l H2 r2, Sel 0 l H' H2 ∧ Le r (AV.ren (selR l H'.length) r2) ∧ (r2 = .tup [.sl 5 (.map encE noEv v.1) .none, .int .i64 v.2] ∧ H2 = [])

theorem renE (ρ : Nat → Nat) (x : Ev) : renL ρ (encE x) = encE x := rfl

theorem prNil {v : List Ev × Int} {c : Int} {H' : List AObj} (h : v = ([], c)) : PR v (.tup [.sl 0 (.raw []) .nil, .int .i64 c]) H' := by
  subst h
  exact ⟨[], [], .tup [.sl 5 (.map encE noEv []) .none, .int .i64 c], Sel.none, Le.tup ⟨Le.sl (s' := Seq.ren _ (.map encE noEv [])) rfl (.inr ⟨rfl, fun _ h => by cases h⟩) (.inr rfl), Le.refl _, trivial⟩, rfl, rfl⟩
theorem prVal {v : List Ev × Int} {l : List Ev} {tip : Tip} {H' : List AObj} (h : v = (l, 0)) : PR v (.tup [.sl 5 (.map encE noEv l) tip, .int .i64 0]) H' := by
  subst h
  exact ⟨[], [], .tup [.sl 5 (.map encE noEv l) .none, .int .i64 0], Sel.none, Le.tup ⟨leNone renE, Le.refl _, trivial⟩, rfl, rfl⟩

/-- what is told of events that are left, behind an error -/
def endE' (f : Int) (acc l : List Ev) : List Ev × Int := if f ≠ 0 then ([], f) else if l.all evOk = true then (acc, 0) else ([], 3)

theorem e18 {acc : List Ev} (ha : acc.length ≤ 1000) {s : List UInt8} {e : Int} (hok : ∀ x ∈ acc, okE x) {v : List Ev × Int} : ∀ (m i : Nat) (f : Int), m + i = acc.length →
    v = endE' f acc (acc.drop i) →
    AWP Try.prog 84 0 c74_18 [(5, .sl 5 (.map encE noEv acc) (.tok 1)), (9, .int .i64 f), (10, .int .i64 i)] [dr s e, .tok] (q74_7 0 (PR v)) := by
  have out : ∀ (f : Int), v = endE' f acc [] → condP (f != 0) (PR v (.tup [.sl 0 (.raw []) .nil, .int .i64 f]) [dr s e, .tok]) (PR v (.tup [.sl 5 (.map encE noEv acc) (.tok 1), .int .i64 0]) [dr s e, .tok]) := by
    intro f h
    refine condNe (fun h0 => prNil ?_) fun h0 => prVal ?_
    · rw [h, endE', if_pos h0]
    · rw [h, endE', if_neg (by simpa using h0)]; rfl
  intro m
  induction m with
  | zero =>
    intro i f hm h
    rw [List.drop_eq_nil_of_le (by omega)] at h
    exact v74_18 _ _ _ _ _ _ _ (condD (fun hc => by omega) fun _ => out f h)
  | succ m ih =>
    intro i f hm h
    refine v74_18 _ _ _ _ _ _ _ (condD (fun _ => condE (fun h0 => needJ ⟨by omega, by omega⟩ ?_) fun h0 => condNe (fun _ => prNil ?_) fun h1 => (h0 h1).elim) fun hc => by omega)
    · subst h0
      rw [Int.toNat_natCast]
      rw [dropD acc noEv i (by omega)] at h
      have hx := hok _ (memD acc noEv i (by omega))
      generalize acc.getD i noEv = x at h hx
      refine ASpec.call (rcheck_spec x hx _) (Les.refl _) ⟨_, rfl, rfl, condBn (fun h1 => ?_) fun h1 => ?_⟩
      · rw [succ64 (by omega)]
        refine ih (i + 1) 3 (by omega) ?_
        rw [h]
        simp [endE', h1]
      · rw [succ64 (by omega)]
        refine ih (i + 1) 0 (by omega) ?_
        rw [h]
        simp only [endE', List.all_cons, h1, Bool.true_and]
    · rw [h, endE', if_pos h0]

theorem e16 {acc : List Ev} (ha : acc.length ≤ 1000) {s : List UInt8} {e : Int} {v : List Ev × Int} (hok : closeM e s.length = 0 → ∀ x ∈ acc, okE x) (hv : v = endE acc (closeM e s.length)) :
    AWP Try.prog 84 0 c74_16 [(4, .ptr 0 0), (5, .sl 5 (.map encE noEv acc) (.tok 1))] [dr s e, .tok] (q74_0 0 (PR v)) := by
  refine v74_16 _ _ _ _ _ (ASpec.call (dclose_spec (id := 0) (l := s) (e := e) rfl) (Les.refl _) ⟨_, rfl, rfl, ?_⟩)
  by_cases h0 : closeM e s.length = 0
  · exact e18 ha (hok h0) acc.length 0 _ (by omega) (by rw [hv]; rfl)
  · refine v74_18 _ _ _ _ _ _ _ (condD (fun _ => condE (fun h => (h0 h).elim) fun _ => condNe (fun _ => prNil ?_) fun h => (h0 h).elim) fun _ => condNe (fun _ => prNil ?_) fun h => (h0 h).elim)
    · rw [hv, endE, if_pos h0]
    · rw [hv, endE, if_pos h0]

theorem e15 {acc : List Ev} (ha : acc.length ≤ 1000) {s : List UInt8} {e n : Int} {i : Nat} (hi : i ≤ 1000) {k t u : Int} {l : List Need} {b : List UInt8}
    (K : AWP Try.prog 84 0 c74_5 [(4, .ptr 0 0), (5, .sl 5 (.map encE noEv (acc ++ [(k, l, t, u, b)])) (.tok 1)), (6, .int .i64 n), (7, .int .i64 (i + 1 : Nat))] [dr s e, .tok] (q74_2 0 Post)) :
    AWP Try.prog 84 0 c74_15 [(4, .ptr 0 0), (5, .sl 5 (.map encE noEv acc) (.tok 1)), (6, .int .i64 n), (7, .int .i64 i), (8, .ptr 2 0)] [dr s e, .tok, .cells (encE (k, l, t, u, b))] (q74_5 0 Post) := by
  refine v74_15 _ _ _ _ _ _ _ _ _ _ _ _ (needJ (by omega) ?_)
  rw [succ64 (by omega)]
  refine AWP.shape [0, 3] [(4, .ptr 0 0), (5, .sl 5 (.map encE noEv (acc ++ [(k, l, t, u, b)])) (.tok 1)), (6, .int .i64 n), (7, .int .i64 (i + 1 : Nat))] [dr s e, .tok] ?_ ⟨rfl, Le.refl _, rfl, ?_, rfl, Le.refl _, rfl, Le.refl _, trivial⟩ K
  · refine ⟨by decide, rfl, by decide, fun i hi => by omega, fun i hi => .inl ?_⟩
    match i, hi with
    | 0, _ | 1, _ => rfl
  · exact Le.trans (leAppE (x := (k, l, t, u, b)) (Les.refl _)) (Le.refl _)

theorem e5 {n : Nat} (hn : n ≤ 500) {v : List Ev × Int} {R : List Ev × List UInt8 × Int} (hR : v = endE R.1 (closeM R.2.2 R.2.1.length)) (hok : closeM R.2.2 R.2.1.length = 0 → ∀ x ∈ R.1, okE x) :
    ∀ (m i : Nat) (l : List UInt8) (e : Int) (acc : List Ev), m + i = n → l.length ≤ 10 * big → acc.length + m ≤ 600 → R = (acc ++ (dG dEv m l e).1, (dG dEv m l e).2) →
    AWP Try.prog 84 0 c74_5 [(4, .ptr 0 0), (5, .sl 5 (.map encE noEv acc) (.tok 1)), (6, .int .i64 n), (7, .int .i64 i)] [dr l e, .tok] (q74_2 0 (PR v)) := by
  intro m
  induction m with
  | zero =>
    intro i l e acc hm hl ha h
    simp only [dG, List.append_nil] at h
    subst h
    exact v74_5 _ _ _ _ _ _ _ (condD (fun hc => by omega) fun _ => e16 (by omega) hok hR)
  | succ m ih =>
    intro i l e acc hm hl ha h
    refine v74_5 _ _ _ _ _ _ _ (condD (fun _ => condE (fun he => ?_) fun he => ?_) fun hc => by omega)
    · simp only [dG, if_pos he] at h
      have hnext := ih (i + 1) (dEv l e).2.1 (dEv l e).2.2 (acc ++ [(dEv l e).1]) (by omega) (Nat.le_trans (dEv_len l e) hl) (by simp; omega) (by rw [h]; simp)
      have h1 := dnumM_len l e 4
      refine ASpec.call (dnum_spec (id := 0) (l := l) (e := e) 4 hl rfl) (Les.refl _) ⟨((dnumM l e 4).1, B (dnumM l e 4).2.1, (dnumM l e 4).2.2), rfl, rfl, ?_⟩
      simp only
      have hE : dEv l e = dEvK (dnumM l e 4).2.1 (dnumM l e 4).1 (dnumM l e 4).2.2 := rfl
      rw [hE] at hnext
      generalize (dnumM l e 4).1 = k at hnext ⊢
      generalize (dnumM l e 4).2.1 = l1 at hnext h1 ⊢
      generalize (dnumM l e 4).2.2 = e1 at hnext ⊢
      have hl1 : l1.length ≤ 10 * big := by omega
      have h2 := dnumM_len l1 e1 1099511627776
      refine condE (fun k1 => ?_) fun k1 => ?_
      · refine ASpec.call (dnum_spec (id := 0) (l := l1) (e := e1) 1099511627776 hl1 rfl) (Les.refl _) ⟨(_, _, _), rfl, rfl, ?_⟩
        refine ASpec.call (dneedsE (id := 0) (l := (dnumM l1 e1 1099511627776).2.1) (e := (dnumM l1 e1 1099511627776).2.2) (by omega) rfl) (Les.refl _) ⟨(_, _, _), rfl, rfl, ?_⟩
        simp only [dEvK, if_pos k1] at hnext
        refine AWP.re (ReSt.leCell (id := 2) (cs' := encE (k, (dL dNeed (dnumM l1 e1 1099511627776).2.1 (dnumM l1 e1 1099511627776).2.2 6).1, (dnumM l1 e1 1099511627776).1, 0, [])) rfl ⟨Le.refl _, Le.refl _, Le.refl _, Le.refl _, leB0 (ρ := id), trivial⟩) ?_
        refine v74_11 _ _ _ _ _ _ _ _ _ _ _ _ (condE (fun h => by omega) fun _ => condE (fun h => by omega) fun _ => ?_)
        refine v74_13 _ _ _ _ _ _ _ _ _ _ _ _ (condE (fun h => by omega) fun _ => ?_)
        exact e15 (by omega) (by omega) hnext
      · refine AWP.re (ReSt.leCell (id := 2) (cs' := encE (k, [], 0, 0, [])) rfl ⟨Le.refl _, leN0 (ρ := id), Le.refl _, Le.refl _, leB0 (ρ := id), trivial⟩) ?_
        refine v74_11 _ _ _ _ _ _ _ _ _ _ _ _ (condE (fun k3 => ?_) fun k3 => condE (fun k4 => ?_) fun k4 => ?_)
        · refine ASpec.call (dnum_spec (id := 0) (l := l1) (e := e1) 1099511627776 hl1 rfl) (Les.refl _) ⟨(_, _, _), rfl, rfl, ?_⟩
          refine v74_13 _ _ _ _ _ _ _ _ _ _ _ _ (condE (fun _ => ?_) fun h => (h k3).elim)
          refine ASpec.call (dstr_spec (id := 0) (l := (dnumM l1 e1 1099511627776).2.1) (e := (dnumM l1 e1 1099511627776).2.2) 9000 (by omega) rfl) (Les.refl _) ⟨(_, _, _), rfl, rfl, ?_⟩
          simp only [dEvK, if_neg k1, if_pos k3] at hnext
          refine AWP.re (ReSt.leCell (id := 2) (cs' := encE (k, [], 0, (dnumM l1 e1 1099511627776).1, (dstrM (dnumM l1 e1 1099511627776).2.1 (dnumM l1 e1 1099511627776).2.2 9000).1)) rfl
            ⟨Le.refl _, Le.refl _, Le.refl _, Le.refl _, sealLe (ρ := id) _ (bytesSeq_toList _), trivial⟩) ?_
          exact e15 (by omega) (by omega) hnext
        · refine ASpec.call (dnum_spec (id := 0) (l := l1) (e := e1) 1099511627776 hl1 rfl) (Les.refl _) ⟨(_, _, _), rfl, rfl, ?_⟩
          refine v74_13 _ _ _ _ _ _ _ _ _ _ _ _ (condE (fun h => by omega) fun _ => ?_)
          simp only [dEvK, if_neg k1, if_neg k3, if_pos k4] at hnext
          exact e15 (by omega) (by omega) hnext
        · refine v74_13 _ _ _ _ _ _ _ _ _ _ _ _ (condE (fun h => (k3 h).elim) fun _ => ?_)
          simp only [dEvK, if_neg k1, if_neg k3, if_neg k4] at hnext
          exact e15 (by omega) (by omega) hnext
    · simp only [dG, if_neg he, List.append_nil] at h
      subst h
      exact e16 (by omega) hok hR

theorem rread_spec (bs : List UInt8) (hb : bs.length ≤ 1000000) (H : List AObj) : ASpec Try.prog 74 [.str (B bs)] H (fun r H' => r = .tup [.sl 5 (.map encE noEv (readE bs).1) .none, .int .i64 (readE bs).2] ∧ H' = H) := by
  have k : ASpec Try.prog 74 [.str (B bs)] [] (fun r H' => r = .tup [.sl 5 (.map encE noEv (readE bs).1) .none, .int .i64 (readE bs).2] ∧ H' = []) := by
    have hl : bs.length ≤ 10 * big := by unfold big; omega
    have h2 := dnumM_most bs 0 400 (by omega)
    have h3 := dnumM_len bs 0 400
    refine ASpec.sel (s74 _ _ (ASpec.call (dnum_spec (id := 0) (l := bs) (e := 0) 400 hl rfl) (Les.refl _) ⟨((dnumM bs 0 400).1, B (dnumM bs 0 400).2.1, (dnumM bs 0 400).2.2), rfl, rfl, ?_⟩))
    refine AWP.re (ReSt.tok (H := [dr (dnumM bs 0 400).2.1 (dnumM bs 0 400).2.2]) (k := 5) (q' := .map encE noEv []) (sz' := 5) (s2 := [(4, .ptr 0 0), (5, .sl 5 (.map encE noEv []) (.tok 1)), (6, .int .i64 (dnumM bs 0 400).1), (7, .int .i64 0)]) rfl (.inl rfl) rfl (.inr rfl) (fun d hd => ?_) rfl) ?_
    · simp only [Ab.get]
      have e : Nat.beq 5 d = false := by
        cases hx : Nat.beq 5 d with
        | false => rfl
        | true => exact absurd (Nat.eq_of_beq_eq_true hx).symm hd
      rw [e]; rfl
    · obtain ⟨k, hk⟩ := Int.eq_ofNat_of_zero_le h2.1
      rw [hk]
      obtain ⟨a1, a2, a3⟩ := alikeEvs bs
      have hD : dEvs bs = dG dEv k (dnumM bs 0 400).2.1 (dnumM bs 0 400).2.2 := by rw [dEvs, hk]; rfl
      refine e5 (n := k) (by omega) (R := dEvs bs) (dReadE_eq bs).symm ?_ k 0 _ _ [] (by omega) (by omega) (by simp; omega) ?_
      · intro h0
        have he : (evsR bs).2.2 = 0 := by
          by_cases he : (evsR bs).2.2 = 0
          · exact he
          · rw [a2] at h0
            have hc : ∀ n, closeM (evsR bs).2.2 n = (evsR bs).2.2 := fun n => by simp only [closeM, if_pos he]
            rw [hc] at h0
            exact h0
        rw [a3 he]
        exact evsR_ok bs
      · rw [hD]; rfl
  exact ASpec.pureH H k _ _ rfl rfl

end
end E
end

section
/- EventBytes: the bytes of any events, and the events of any bytes, or what is wrong first, are the document's: the law's function returns true. -/

set_option linter.unusedVariables false
set_option linter.unusedSimpArgs false
set_option maxRecDepth 100000
open Go Go.Ab Go.Proofs V S T C
open W (sl1 slS slN numB text spanB needB lenL leTwo leTok put1M put2M numB_len text_len flat_len cons_dec leNone)
open EB (s416 v416_3 v416_7 c416_3 c416_7 q416_2 q416_6 s417 s418 s195 v195_5 v195_10 v195_13 v195_15 c195_5 c195_10 c195_13 c195_15 q195_0 q195_2 q195_6 s75 v75_5 c75_5 q75_2 s76 v76_4 c76_4 q76_2 s9 v9_8 c9_8 q9_0 s73 v73_4 v73_7 c73_4 c73_7 q73_0 q73_2 s192)
namespace E

section
variable {Post : AV → List AObj → Prop}

noncomputable abbrev slE (l : List Ev) : AV := .sl 5 (.map encE noEv l) .none

/-! ### what is put -/

theorem a7 {ns : List Need} {n i : Int} {ss : List Span} (hs : ss.length ≤ lim) {P : List UInt8} (hP : P.length ≤ 1000000000)
    (k : AWP Try.prog 53 0 c416_3 [(1, sl1 P), (18, slN ns), (19, .int .i64 n), (20, .int .i64 (IntKind.wrap .i64 (i + 1)))] [] (q416_2 0 Post)) :
    ∀ (m j : Nat) (b : List UInt8), m + j = ss.length → b ++ (ss.drop j).flatMap spanB = P →
    AWP Try.prog 53 0 c416_7 [(1, sl1 b), (18, slN ns), (19, .int .i64 n), (20, .int .i64 i), (34, slS ss), (35, .int .i64 ss.length), (36, .int .i64 j)] [] (q416_6 0 Post) := by
  unfold lim at hs
  intro m
  induction m with
  | zero =>
    intro j b hm h
    refine v416_7 _ _ _ _ _ _ _ _ _ (condD (fun hc => by omega) fun _ => ?_)
    rw [List.drop_eq_nil_of_le (by omega)] at h
    simp only [List.flatMap_nil, List.append_nil] at h
    subst h; exact k
  | succ m ih =>
    intro j b hm h
    have hbl : b.length ≤ P.length := lenL h
    rw [dropD ss (0, 0) j (by omega), List.flatMap_cons, ← List.append_assoc] at h
    refine v416_7 _ _ _ _ _ _ _ _ _ (condD (fun hc => needJ ⟨by omega, by omega⟩ ?_) fun hc => by omega)
    rw [Int.toNat_natCast]
    generalize ss.getD j (0, 0) = x at h ⊢
    refine put_spec' (bs := b) (ns := [x.1, IntKind.wrap .i64 (x.2 - x.1)]) ⟨Le.refl _, leTwo _ _, trivial⟩ (by unfold big; simp; omega) ⟨_, rfl, rfl, ?_⟩
    rw [put2M]
    rw [succ64 (by omega)]
    exact AWP.shape [] [(1, sl1 (b ++ spanB x)), (18, slN ns), (19, .int .i64 n), (20, .int .i64 i), (34, slS ss), (35, .int .i64 ss.length), (36, .int .i64 (j + 1 : Nat))] [] Sel.none
      ⟨rfl, sealLe _ rfl, rfl, Le.refl _, rfl, Le.refl _, rfl, Le.refl _, rfl, Le.refl _, rfl, Le.refl _, rfl, Le.refl _, trivial⟩ (ih (j + 1) _ (by omega) h)

theorem a3 {ns : List Need} (hs : ∀ x ∈ ns, x.1.length ≤ lim ∧ x.2.length ≤ lim) (hn : ns.length ≤ lim) {P : List UInt8} (hP : P.length ≤ 1000000000) (k : ∀ H', Post (sl1 P) H') :
    ∀ (m j : Nat) (b : List UInt8), m + j = ns.length → b ++ (ns.drop j).flatMap needB = P →
    AWP Try.prog 53 0 c416_3 [(1, sl1 b), (18, slN ns), (19, .int .i64 ns.length), (20, .int .i64 j)] [] (q416_2 0 Post) := by
  unfold lim at hs hn
  intro m
  induction m with
  | zero =>
    intro j b hm h
    refine v416_3 _ _ _ _ _ _ (condD (fun hc => by omega) fun _ => ?_)
    rw [List.drop_eq_nil_of_le (by omega)] at h
    simp only [List.flatMap_nil, List.append_nil] at h
    subst h; exact k _
  | succ m ih =>
    intro j b hm h
    have hbl : b.length ≤ P.length := lenL h
    have hx := hs _ (memD ns ([], []) j (by omega))
    rw [dropD ns ([], []) j (by omega), List.flatMap_cons, ← List.append_assoc] at h
    refine v416_3 _ _ _ _ _ _ (condD (fun hc => needJ ⟨by omega, by omega⟩ ?_) fun hc => by omega)
    rw [Int.toNat_natCast]
    generalize ns.getD j ([], []) = x at h hx ⊢
    have hb2 : (b ++ needB x).length ≤ P.length := lenL h
    have hb3 : (b ++ text x.1).length ≤ (b ++ needB x).length := by simp [needB]
    have etx : b ++ V.enc (held x.1.length) ++ x.1 = b ++ text x.1 := by simp [text]
    refine ASpec.call (text_spec b x.1 (by unfold big; omega) _) (Les.refl _) ⟨b ++ text x.1, by rw [etx]; rfl, rfl, ⟨rfl, rfl⟩, ⟨rfl, rfl⟩, ?_⟩
    refine put_spec' (bs := b ++ text x.1) (ns := [(x.2.length : Int)]) ⟨leTok, leOne _, trivial⟩ (by unfold big; simp only [List.length_cons, List.length_nil]; omega) ⟨_, rfl, rfl, ?_⟩
    rw [put1M]
    refine AWP.shape [] [(1, sl1 (b ++ text x.1 ++ numB x.2.length)), (18, slN ns), (19, .int .i64 ns.length), (20, .int .i64 j), (34, slS x.2), (35, .int .i64 x.2.length), (36, .int .i64 (0 : Nat))] [] Sel.none
      ⟨rfl, sealLe _ rfl, rfl, Le.refl _, rfl, Le.refl _, rfl, Le.refl _, rfl, Le.refl _, rfl, Le.refl _, rfl, Le.refl _, trivial⟩ ?_
    refine a7 (P := b ++ needB x) (by unfold lim; omega) (by omega) ?_ x.2.length 0 _ (by omega) (by simp [needB])
    rw [succ64 (by omega)]
    exact ih (j + 1) _ (by omega) h

theorem ask_spec (t : Int) (l : List Need) (hl : okN l) (b : List UInt8) (hb : (b ++ (numB t ++ needsB l)).length ≤ 1000000000) (H : List AObj) :
    ASpec Try.prog 416 [.agg [.int .i64 t, slN l], sl1 b] H (fun r H' => r = sl1 (b ++ (numB t ++ needsB l)) ∧ H' = H) := by
  have k : ASpec Try.prog 416 [.agg [.int .i64 t, slN l], sl1 b] [] (fun r H' => r = sl1 (b ++ (numB t ++ needsB l)) ∧ H' = []) := by
    have hbl : b.length ≤ 1000000000 := by simp only [List.length_append] at hb; omega
    refine ASpec.sel (s416 _ _ _ _ (put_spec' (bs := b) (ns := [t, (l.length : Int)]) ⟨Le.refl _, leTwo _ _, trivial⟩ (by unfold big; simp; omega) ⟨_, rfl, rfl, ?_⟩))
    rw [put2M]
    refine AWP.shape [] [(1, sl1 (b ++ (numB t ++ numB l.length))), (18, slN l), (19, .int .i64 l.length), (20, .int .i64 (0 : Nat))] [] Sel.none
      ⟨rfl, sealLe _ rfl, rfl, Le.refl _, rfl, Le.refl _, rfl, Le.refl _, trivial⟩ ?_
    refine a3 (P := b ++ (numB t ++ needsB l)) hl.2 hl.1 hb (fun H' => ⟨[], [], sl1 _, Sel.none, Le.refl _, rfl, rfl⟩) l.length 0 _ (by omega) (by simp [needsB])
  exact ASpec.pureH H k _ _ rfl rfl

theorem reply_spec (t : Int) (y b : List UInt8) (hb : b.length + y.length ≤ 1000000000) (H : List AObj) :
    ASpec Try.prog 417 [.agg [.int .i64 t, sl1 y], sl1 b] H (fun r H' => r = sl1 (b ++ (numB t ++ text y)) ∧ H' = H) := by
  have k : ASpec Try.prog 417 [.agg [.int .i64 t, sl1 y], sl1 b] [] (fun r H' => r = sl1 (b ++ (numB t ++ text y)) ∧ H' = []) := by
    have n1 := numB_len t
    refine ASpec.sel (s417 _ _ _ _ (needJ (allBytes_map _) (put_spec' (bs := b) (ns := [t]) ⟨Le.refl _, leOne _, trivial⟩ (by unfold big; simp; omega) ⟨_, rfl, rfl, ⟨rfl, rfl⟩, ?_⟩)))
    rw [put1M, bytesOf_map]
    have etx : b ++ numB t ++ V.enc (held y.length) ++ y = b ++ (numB t ++ text y) := by simp [text]
    refine ASpec.call (text_spec (b ++ numB t) y (by unfold big; simp only [List.length_append]; omega) _) ⟨leTok, Le.refl _, trivial⟩ ⟨b ++ (numB t ++ text y), by rw [etx]; rfl, rfl, ?_⟩
    exact ⟨[], [], sl1 _, Sel.none, sealLe _ rfl, rfl, rfl⟩
  exact ASpec.pureH H k _ _ rfl rfl

theorem fail_spec (t : Int) (b : List UInt8) (hb : b.length ≤ 1000000000) (H : List AObj) :
    ASpec Try.prog 418 [.agg [.int .i64 t], sl1 b] H (fun r H' => r = sl1 (b ++ numB t) ∧ H' = H) := by
  have k : ASpec Try.prog 418 [.agg [.int .i64 t], sl1 b] [] (fun r H' => r = sl1 (b ++ numB t) ∧ H' = []) := by
    refine ASpec.sel (s418 _ _ _ (put_spec' (bs := b) (ns := [t]) ⟨Le.refl _, leOne _, trivial⟩ (by unfold big; simp; omega) ⟨_, rfl, rfl, ?_⟩))
    rw [put1M]
    exact ⟨[], [], sl1 _, Sel.none, sealLe _ rfl, rfl, rfl⟩
  exact ASpec.pureH H k _ _ rfl rfl

theorem ev_fits {x : Ev} (h : evOk x = true) (hx : okE x) : x.2.2.2.2.length ≤ 9000 ∧ (x.1 = 1 ∨ x.1 = 2 ∨ x.1 = 3 ∨ x.1 = 4) := by
  obtain ⟨h1, h2⟩ := (evOk_iff x).1 h
  unfold evP at h2
  by_cases k : x.1 = 3 ∨ x.1 = 4
  · have := h2.2.2.1 k; omega
  · have := h2.2.2.2 k; omega

theorem put5 {l : List Ev} (hl : l.length ≤ 500) (hk : ∀ e ∈ l, okE e ∧ evOk e = true) {P : List UInt8} (hP : P.length ≤ 100000000) (h : ∀ H', Post (sl1 P) H') :
    ∀ (m i : Nat) (b : List UInt8), m + i = l.length → b ++ (l.drop i).flatMap evB = P →
    AWP Try.prog 36 0 c72_5 [(3, sl1 b), (17, slE l), (18, .int .i64 l.length), (19, .int .i64 i)] [] (q72_2 0 Post) := by
  intro m
  induction m with
  | zero =>
    intro i b hm hb
    refine v72_5 _ _ _ _ _ _ (condD (fun hc => by omega) fun _ => ?_)
    rw [List.drop_eq_nil_of_le (by omega)] at hb
    simp only [List.flatMap_nil, List.append_nil] at hb
    subst hb; exact h _
  | succ m ih =>
    intro i b hm hb
    have hbl : b.length ≤ P.length := lenL hb
    obtain ⟨hx, ho⟩ := hk _ (memD l noEv i (by omega))
    rw [dropD l noEv i (by omega), List.flatMap_cons, ← List.append_assoc] at hb
    refine v72_5 _ _ _ _ _ _ (condD (fun _ => needJ ⟨by omega, by omega⟩ ?_) fun h => by omega)
    rw [Int.toNat_natCast]
    generalize l.getD i noEv = x at hb hx ho ⊢
    have hb2 : (b ++ evB x).length ≤ P.length := lenL hb
    obtain ⟨hy, hc⟩ := ev_fits ho hx
    have n1 := numB_len x.1
    have nxt : ∀ (H' : List AObj), AWP Try.prog 36 0 c72_5 [(3, sl1 (b ++ evB x)), (17, slE l), (18, .int .i64 l.length), (19, .int .i64 (IntKind.wrap .i64 ((i : Int) + 1)))] H' (q72_2 0 Post) := by
      intro H'
      rw [succ64 (by omega)]
      exact AWP.shape [] [(3, sl1 (b ++ evB x)), (17, slE l), (18, .int .i64 l.length), (19, .int .i64 (i + 1 : Nat))] [] Sel.none ⟨rfl, Le.refl _, rfl, Le.refl _, rfl, Le.refl _, rfl, Le.refl _, trivial⟩ (ih (i + 1) _ (by omega) hb)
    rcases hc with k1 | k2 | k3 | k4
    · have e : b ++ numB x.1 ++ (numB x.2.2.1 ++ needsB x.2.1) = b ++ evB x := by simp [evB, tailB, k1]
      refine ASpec.call (of_ask k1 _) (Les.refl _) (.inl ⟨(x.2.2.1, x.2.1), rfl, rfl, ⟨rfl, rfl⟩, ?_⟩)
      refine put_spec' (bs := b) (ns := [x.1]) ⟨Le.refl _, leOne _, trivial⟩ (by unfold big; simp; omega) ⟨_, rfl, rfl, ?_⟩
      rw [put1M]
      refine ASpec.call (ask_spec x.2.2.1 x.2.1 hx.1 (b ++ numB x.1) (by rw [e]; omega) _) ⟨Le.refl _, leTok, trivial⟩ ⟨_, rfl, rfl, ?_⟩
      rw [e]; exact nxt _
    · have e : b ++ numB x.1 = b ++ evB x := by simp [evB, tailB, k2]
      refine ASpec.call (of_pass k2 _) (Les.refl _) (.inr (.inl ⟨(), rfl, rfl, ⟨rfl, rfl⟩, ?_⟩))
      refine put_spec' (bs := b) (ns := [x.1]) ⟨Le.refl _, leOne _, trivial⟩ (by unfold big; simp; omega) ⟨_, rfl, rfl, ?_⟩
      rw [put1M]
      refine ASpec.call (pass_spec (b ++ numB x.1) _) ⟨Le.refl _, leTok, trivial⟩ ⟨_, rfl, rfl, ?_⟩
      rw [e]; exact nxt _
    · have e : b ++ numB x.1 ++ (numB x.2.2.2.1 ++ text x.2.2.2.2) = b ++ evB x := by simp [evB, tailB, k3]
      refine ASpec.call (of_reply k3 _) (Les.refl _) (.inr (.inr (.inl ⟨(x.2.2.2.1, x.2.2.2.2), rfl, rfl, ⟨rfl, rfl⟩, ?_⟩)))
      refine put_spec' (bs := b) (ns := [x.1]) ⟨Le.refl _, leOne _, trivial⟩ (by unfold big; simp; omega) ⟨_, rfl, rfl, ?_⟩
      rw [put1M]
      refine ASpec.call (reply_spec x.2.2.2.1 x.2.2.2.2 (b ++ numB x.1) (by simp only [List.length_append]; omega) _) ⟨Le.refl _, leTok, trivial⟩ ⟨_, rfl, rfl, ?_⟩
      rw [e]; exact nxt _
    · have e : b ++ numB x.1 ++ numB x.2.2.2.1 = b ++ evB x := by simp [evB, tailB, k4]
      refine ASpec.call (of_fail k4 _) (Les.refl _) (.inr (.inr (.inr (.inl ⟨x.2.2.2.1, rfl, rfl, ⟨rfl, rfl⟩, ?_⟩))))
      refine put_spec' (bs := b) (ns := [x.1]) ⟨Le.refl _, leOne _, trivial⟩ (by unfold big; simp; omega) ⟨_, rfl, rfl, ?_⟩
      rw [put1M]
      refine ASpec.call (fail_spec x.2.2.2.1 (b ++ numB x.1) (by simp only [List.length_append]; omega) _) ⟨Le.refl _, leTok, trivial⟩ ⟨_, rfl, rfl, ?_⟩
      rw [e]; exact nxt _

theorem evsB_len {l : List Ev} (hl : l.length ≤ 400) (h : l.all evOk = true) : (evsB l).length ≤ 10000000 := by
  have a := numB_len l.length
  have b := flat_len evB 10000 l (fun x hx => evB_len (List.all_eq_true.1 h x hx))
  have c : l.length * 10000 ≤ 400 * 10000 := Nat.mul_le_mul_right _ hl
  simp only [evsB, List.length_append]; omega

theorem put_specE (l : List Ev) (hl : l.length ≤ lim) (hk : ∀ e ∈ l, okE e) (H : List AObj) : ASpec Try.prog 72 [slE l] H (fun r H' => r = sl1 (putE l) ∧ H' = H) := by
  have k : ASpec Try.prog 72 [slE l] [] (fun r H' => r = sl1 (putE l) ∧ H' = []) := by
    have nil_ : ∀ H' : List AObj, putE l = [] → PA (sl1 (putE l)) (.sl 0 (.raw []) .nil) H' := fun H' e => by rw [e]; exact pa leB0
    refine ASpec.sel (s72 _ _ (condD (fun h => nil_ _ ?_) fun h1 => ?_))
    · rw [putE, if_neg (by omega)]
    refine ASpec.call (contains_spec l hl hk _) (Les.refl _) ⟨_, rfl, rfl, condB (fun h => nil_ _ ?_) fun h => ?_⟩
    · rw [putE, if_neg (by rintro ⟨_, h2⟩; rw [h2] at h; cases h)]
    have hall : l.all evOk = true := by simpa using h
    have hP := evsB_len (l := l) (by omega) hall
    refine put1 _ _ ⟨V.enc (held l.length), rfl, rfl, ?_⟩
    refine AWP.shape [] [(3, sl1 (numB l.length)), (17, slE l), (18, .int .i64 l.length), (19, .int .i64 (0 : Nat))] [] Sel.none ⟨rfl, sealLe _ rfl, rfl, Le.refl _, rfl, Le.refl _, rfl, Le.refl _, trivial⟩ ?_
    refine put5 (P := evsB l) (by omega) (fun e he => ⟨hk e he, List.all_eq_true.1 hall e he⟩) (by omega) (fun H' => ?_) l.length 0 _ (by omega) rfl
    rw [show putE l = evsB l by rw [putE, if_pos ⟨by omega, hall⟩]]
    exact pa (Le.refl _)
  exact ASpec.pureH H k _ _ rfl rfl

/-! ### what is read -/

theorem notCheck2 (e : Ev) (hl : okE e) (H : List AObj) : ASpec Try.prog 192 [.agg (encE e)] H (fun r H' => r = .bool (!evOk e) ∧ H' = H) :=
  ASpec.pureH (r0 := .bool (!evOk e)) H (ASpec.sel (s192 _ _ (ASpec.call (check_spec e hl _) (Les.refl _) ⟨_, rfl, rfl, pb rfl⟩))) _ _ rfl rfl

theorem index2b {l : List Ev} (hl : l.length ≤ lim) (hk : ∀ e ∈ l, okE e) {c : Int} : ∀ (m i : Nat), m + i = l.length → (match (l.drop i).findIdx? (fun e => !evOk e) with | some j => (i + j : Nat) | none => (-1 : Int)) = c →
    AWP Try.prog 19 0 EB.c281_2 [(0, slE l), (1, .fn 192 []), (7, .int .i64 l.length), (8, .int .i64 i)] [] (EB.q281_2 0 (fun r H' => r = .int .i64 c ∧ H' = [])) := by
  unfold lim at hl
  intro m
  induction m with
  | zero =>
    intro i hm h
    refine EB.v281_2 _ _ _ _ _ (condD (fun hc => by omega) fun _ => ?_)
    rw [List.drop_eq_nil_of_le (by omega)] at h
    simp at h
    rw [← h]; exact ⟨rfl, rfl⟩
  | succ m ih =>
    intro i hm h
    have hx := hk _ (memD l noEv i (by omega))
    rw [dropD l noEv i (by omega)] at h
    refine EB.v281_2 _ _ _ _ _ (condD (fun hc => needJ ⟨by omega, by omega⟩ ?_) fun hc => by omega)
    rw [Int.toNat_natCast]
    generalize l.getD i noEv = x at h hx ⊢
    refine ASpec.call (notCheck2 x hx _) (Les.refl _) ⟨_, rfl, rfl, condB (fun h1 => ?_) fun h1 => ?_⟩
    · simp only [List.findIdx?_cons, h1, if_true] at h
      rw [← h]; exact ⟨rfl, rfl⟩
    · rw [succ64 (by omega)]
      refine ih (i + 1) (by omega) ?_
      simp only [List.findIdx?_cons, h1, Bool.false_eq_true, if_false] at h
      rw [← h]
      cases (l.drop (i + 1)).findIdx? (fun e => !evOk e) with
      | none => rfl
      | some j =>
        simp only [Option.map_some]
        show ((i + 1 + j : Nat) : Int) = ((i + (j + 1) : Nat) : Int)
        omega

theorem contains2 (l : List Ev) (hl : l.length ≤ lim) (hk : ∀ e ∈ l, okE e) (H : List AObj) : ASpec Try.prog 187 [slE l, .fn 192 []] H (fun r H' => r = .bool (!l.all evOk) ∧ H' = H) := by
  have k : ∀ c : Int, (match (l.drop 0).findIdx? (fun e => !evOk e) with | some j => ((0 + j : Nat) : Int) | none => (-1 : Int)) = c → ASpec Try.prog 281 [slE l, .fn 192 []] [] (fun r H' => r = .int .i64 c ∧ H' = []) :=
    fun c h => EB.s281 _ _ (index2b hl hk l.length 0 (by omega) h)
  have k2 : ASpec Try.prog 187 [slE l, .fn 192 []] [] (fun r H' => r = .bool (!l.all evOk) ∧ H' = []) := by
    refine EB.s187 _ _ (ASpec.call (k _ rfl) (Les.refl _) ⟨_, rfl, rfl, ?_, rfl⟩)
    exact congrArg AV.bool (idx_all l)
  exact ASpec.pureH H k2 _ _ rfl rfl

theorem g7 {bs : List UInt8} {p : Nat} {e : Int} {acc : List Ev} (hb : bs.length ≤ big) (hp : p ≤ bs.length) (ha : acc.length ≤ 1000) (hok : ∀ x ∈ acc, okE x) {v : List Ev × Int} (hv : v = endE acc (closeM e (bs.length - p))) :
    AWP Try.prog 38 0 c73_7 [(4, .ptr 0 0), (5, .sl 5 (.map encE noEv acc) (.tok 1))] [rd bs p e, .tok] (q73_0 0 (PR v)) := by
  refine v73_7 _ _ _ _ _ _ (ASpec.call (close_spec (id := 0) (bs := bs) (p := p) (e := e) hb hp rfl) (Les.refl _) ⟨_, rfl, rfl, ?_⟩)
  generalize closeM e (bs.length - p) = c at hv
  refine condE (fun h0 => ?_) fun h0 => condNe (fun _ => prNil (by rw [hv, endE, if_pos h0])) fun h => (h0 h).elim
  refine ASpec.call (contains2 acc (by unfold lim; omega) hok _) ⟨Le.sl rfl (.inl rfl) (.inr rfl), Le.refl _, trivial⟩ ⟨_, rfl, rfl, condB (fun h => prNil ?_) fun h => condNe (fun h1 => (h1 h0).elim) fun _ => prVal ?_⟩
  · rw [hv, endE, if_neg (by simpa using h0), if_neg (by simpa using h)]
  · rw [hv, endE, if_neg (by simpa using h0), if_pos (by simpa using h)]

theorem g4 {bs : List UInt8} (hb : bs.length ≤ big) {v : List Ev × Int} {R : List Ev × Nat × Int} (hR : v = endE R.1 (closeM R.2.2 (bs.length - R.2.1))) (hok : ∀ x ∈ R.1, okE x) (hRp : R.2.1 ≤ bs.length) (hRl : R.1.length ≤ 1000) :
    ∀ (k p : Nat) (e : Int) (acc : List Ev), p ≤ bs.length → acc.length + k ≤ 600 → R = (acc ++ (W.listR (evR bs) k p e).1, (W.listR (evR bs) k p e).2) →
    AWP Try.prog 38 0 c73_4 [(4, .ptr 0 0), (5, .sl 5 (.map encE noEv acc) (.tok 1)), (6, .int .i64 k)] [rd bs p e, .tok] (q73_2 0 (PR v)) := by
  intro k
  induction k with
  | zero =>
    intro p e acc hp ha h
    simp only [W.listR, List.append_nil] at h
    subst h
    exact v73_4 _ _ _ _ _ _ _ (condD (fun hc => by omega) fun _ => g7 hb hp hRl hok hR)
  | succ k ih =>
    intro p e acc hp ha h
    refine v73_4 _ _ _ _ _ _ _ (condD (fun _ => ?_) fun hc => by omega)
    refine ASpec.call (err_spec (id := 0) (bs := bs) (p := p) (e := e) rfl) (Les.refl _) ⟨e, rfl, rfl, condE (fun he => ?_) fun he => ?_⟩
    · simp only [W.listR, if_pos he] at h
      refine ASpec.call (one_spec (id := 0) (p := p) (e := e) hb hp rfl) (Les.refl _) ⟨((evR bs p e).1, ((evR bs p e).2.1 : Nat), (evR bs p e).2.2), rfl, rfl, needJ (by omega) ?_⟩
      rw [show IntKind.wrap .i64 (((k + 1 : Nat) : Int) - 1) = (k : Int) by rw [wrap64 (by omega) (by omega)]; omega]
      refine AWP.shape [0, 2] [(4, .ptr 0 0), (5, .sl 5 (.map encE noEv (acc ++ [(evR bs p e).1])) (.tok 1)), (6, .int .i64 k)] [rd bs (evR bs p e).2.1 (evR bs p e).2.2, .tok] ?_ ⟨rfl, Le.refl _, rfl, ?_, rfl, Le.refl _, trivial⟩
        (ih _ _ _ (evR_p bs p e hp) (by simp; omega) (by rw [h]; simp))
      · refine ⟨by decide, rfl, by decide, fun i hi => by omega, fun i hi => .inl ?_⟩
        match i, hi with
        | 0, _ | 1, _ => rfl
      · exact Le.trans (leAppE (x := (evR bs p e).1) (Les.refl _)) (Le.refl _)
    · simp only [W.listR, if_neg he, List.append_nil] at h
      subst h
      exact g7 hb hp hRl hok hR

theorem read_specE (bs : List UInt8) (hb : bs.length ≤ 1000000000) (H : List AObj) : ASpec Try.prog 73 [sl1 bs] H (fun r H' => r = .tup [slE (readE bs).1, .int .i64 (readE bs).2] ∧ H' = H) := by
  have k : ASpec Try.prog 73 [sl1 bs] [] (fun r H' => r = .tup [slE (readE bs).1, .int .i64 (readE bs).2] ∧ H' = []) := by
    have hb' : bs.length ≤ big := by unfold big; omega
    have h2 := W.numM_most bs 0 0 400 (by omega)
    refine ASpec.sel (s73 _ _ (ASpec.call (V.open_spec bs hb' []) (Les.refl _) ⟨bs, rfl, rfl, ?_⟩))
    refine ASpec.call (num_spec (id := 0) (bs := bs) (p := 0) (e := 0) 400 hb' (by omega) rfl) (Les.refl _) ⟨((numM bs 0 0 400).1, ((numM bs 0 0 400).2.1 : Nat), (numM bs 0 0 400).2.2), rfl, rfl, ?_⟩
    refine AWP.re (ReSt.tok (H := [rd bs (numM bs 0 0 400).2.1 (numM bs 0 0 400).2.2]) (k := 5) (q' := .map encE noEv []) (sz' := 5) (s2 := [(4, .ptr 0 0), (5, .sl 5 (.map encE noEv []) (.tok 1)), (6, .int .i64 (numM bs 0 0 400).1)]) rfl (.inl rfl) rfl (.inr rfl) (fun d hd => ?_) rfl) ?_
    · simp only [Ab.get]
      have e : Nat.beq 5 d = false := by
        cases hx : Nat.beq 5 d with
        | false => rfl
        | true => exact absurd (Nat.eq_of_beq_eq_true hx).symm hd
      rw [e]; rfl
    · obtain ⟨c, hc⟩ := Int.eq_ofNat_of_zero_le h2.1
      rw [hc]
      refine g4 hb' (R := evsR bs) rfl (evsR_ok bs) (evsR_p bs) (by have := evsR_len bs; omega) c _ _ [] (W.numM_p (by omega)) (by simp; omega) ?_
      simp only [evsR, W.listM, hc]; rfl
  exact ASpec.pureH H k _ _ rfl rfl
end
end E
end

section
/- EventBytes: the document's bytes, and the law: it returns true. -/

set_option linter.unusedVariables false
set_option linter.unusedSimpArgs false
set_option maxRecDepth 100000
open Go Go.Ab Go.Proofs V S T C
open W (sl1 slS slN numB text spanB needB lenL numB_len text_len flat_len cons_dec)
open EB (s195 v195_5 v195_10 v195_13 v195_15 c195_5 c195_10 c195_13 c195_15 q195_0 q195_2 q195_6 s75 v75_5 c75_5 q75_2 s76 v76_4 c76_4 q76_2 s9 v9_8 c9_8 q9_0)
namespace E

instance decEv : DecidableEq Ev := fun a b => instDecidableEqProd a b

section
variable {Post : AV → List AObj → Prop}

abbrev PS (x : List UInt8) : AV → List AObj → Prop := PA (.str (B x))

theorem o15 {e : Ev} {s P : List UInt8} (hP : P.length ≤ 1000000000) (hs : s ++ (if e.1 = 4 then numB e.2.2.2.1 else []) = P) {n : Nat} (hn : n = 0) : AWP Try.prog 98 n c195_15 [(1, .ptr 0 0), (3, .str (B s))] [.cells (encE e)] (q195_0 n (PS P)) := by
  have n1 := numB_len e.2.2.2.1
  subst hn
  refine v195_15 _ _ _ _ (condE (fun k4 => ?_) fun k4 => ?_)
  · rw [if_pos k4] at hs
    have := lenL hs
    refine ASpec.call (rnum_spec _ _) (Les.refl _) ⟨B (numB e.2.2.2.1), rfl, rfl, needJ (by rw [B_size, B_size]; omega) ?_⟩
    rw [B_append, hs]; exact pa (Le.refl _)
  · rw [if_neg k4, List.append_nil] at hs
    rw [hs]; exact pa (Le.refl _)

theorem o13 {e : Ev} {s P : List UInt8} (hP : P.length ≤ 1000000000) (hy : e.2.2.2.2.length ≤ 9000) (hs : s ++ (if e.1 = 3 then numB e.2.2.2.1 ++ text e.2.2.2.2 else if e.1 = 4 then numB e.2.2.2.1 else []) = P) :
    AWP Try.prog 98 0 c195_13 [(1, .ptr 0 0), (3, .str (B s))] [.cells (encE e)] (q195_0 0 (PS P)) := by
  have n1 := numB_len e.2.2.2.1
  have n2 := text_len e.2.2.2.2
  have hl := lenL hs
  refine v195_13 _ _ _ _ (condE (fun k3 => needJ (allBytes_map _) ?_) fun k3 => ?_)
  · rw [if_pos k3] at hs
    refine ASpec.call (rnum_spec _ _) (Les.refl _) ⟨B (numB e.2.2.2.1), rfl, rfl, ⟨rfl, rfl⟩, needJ (by rw [B_size, B_size]; omega) ?_⟩
    rw [B_append, bytesOf_map]
    refine ASpec.call (rtext_spec _ (by unfold big; omega) _) (Les.refl _) ⟨B (text e.2.2.2.2), rfl, rfl, needJ (by rw [B_size, B_size, List.length_append]; omega) ?_⟩
    rw [B_append]
    refine o15 hP ?_ rfl
    rw [if_neg (by omega), List.append_nil, List.append_assoc]; exact hs
  · rw [if_neg k3] at hs
    exact o15 hP hs rfl

theorem o10 {e : Ev} {x : Need} {i : Nat} (hi : i ≤ 100) (hx : x.2.length ≤ lim) {P : List UInt8} (hP : P.length ≤ 1000000000)
    (k : AWP Try.prog 98 0 c195_5 [(1, .ptr 0 0), (3, .str (B P)), (4, .int .i64 (i + 1 : Nat))] [.cells (encE e)] (q195_2 0 Post)) :
    ∀ (m j : Nat) (b : List UInt8), m + j = x.2.length → b ++ (x.2.drop j).flatMap spanB = P →
    AWP Try.prog 98 0 c195_10 [(1, .ptr 0 0), (3, .str (B b)), (4, .int .i64 i), (5, .ptr 1 0), (6, .int .i64 j)] [.cells (encE e), .cells (encN x)] (q195_6 0 Post) := by
  unfold lim at hx
  intro m
  induction m with
  | zero =>
    intro j b hm h
    refine v195_10 _ _ _ _ _ _ _ (condD (fun hc => by omega) fun _ => ?_)
    rw [List.drop_eq_nil_of_le (by omega)] at h
    simp only [List.flatMap_nil, List.append_nil] at h
    subst h
    rw [succ64 (by omega)]
    refine AWP.shape [0] [(1, .ptr 0 0), (3, .str (B b)), (4, .int .i64 (i + 1 : Nat))] [.cells (encE e)] ?_ ⟨rfl, Le.refl _, rfl, Le.refl _, rfl, Le.refl _, trivial⟩ k
    exact Sel.one 0 rfl rfl
  | succ m ih =>
    intro j b hm h
    have hbl : b.length ≤ P.length := lenL h
    rw [dropD x.2 (0, 0) j (by omega), List.flatMap_cons, ← List.append_assoc] at h
    refine v195_10 _ _ _ _ _ _ _ (condD (fun hc => needJ ⟨by omega, by omega⟩ (needJ ⟨by omega, by omega⟩ (needJ ⟨by omega, by omega⟩ ?_))) fun hc => by omega)
    rw [Int.toNat_natCast]
    generalize x.2.getD j (0, 0) = y at h ⊢
    have n1 := numB_len y.1
    have n2 := numB_len (IntKind.wrap .i64 (y.2 - y.1))
    refine ASpec.call (rnum_spec y.1 _) (Les.refl _) ⟨B (numB y.1), rfl, rfl, ⟨rfl, rfl⟩, ⟨rfl, rfl⟩, ⟨rfl, rfl⟩, ⟨rfl, rfl⟩, needJ (by rw [B_size, B_size]; omega) ?_⟩
    rw [B_append]
    refine ASpec.call (rnum_spec _ _) (Les.refl _) ⟨B (numB (IntKind.wrap .i64 (y.2 - y.1))), rfl, rfl, needJ (by rw [B_size, B_size, List.length_append]; omega) ?_⟩
    rw [B_append, succ64 (by omega), show b ++ numB y.1 ++ numB (IntKind.wrap .i64 (y.2 - y.1)) = b ++ spanB y by simp [spanB]]
    exact ih (j + 1) _ (by omega) h

theorem o5 {e : Ev} (hn : e.2.1.length ≤ 100) (hl : okN e.2.1) {P : List UInt8} (hP : P.length ≤ 1000000000)
    (k : AWP Try.prog 98 0 c195_13 [(1, .ptr 0 0), (3, .str (B P))] [.cells (encE e)] (q195_0 0 Post)) :
    ∀ (m i : Nat) (b : List UInt8), m + i = e.2.1.length → b ++ (e.2.1.drop i).flatMap needB = P →
    AWP Try.prog 98 0 c195_5 [(1, .ptr 0 0), (3, .str (B b)), (4, .int .i64 i)] [.cells (encE e)] (q195_2 0 Post) := by
  intro m
  induction m with
  | zero =>
    intro i b hm hb
    refine v195_5 _ _ _ _ _ (condD (fun hc => by omega) fun _ => ?_)
    rw [List.drop_eq_nil_of_le (by omega)] at hb
    simp only [List.flatMap_nil, List.append_nil] at hb
    subst hb; exact k
  | succ m ih =>
    intro i b hm hb
    have hbl : b.length ≤ P.length := lenL hb
    have hx := hl.2 _ (memD e.2.1 ([], []) i (by omega))
    rw [dropD e.2.1 ([], []) i (by omega), List.flatMap_cons, ← List.append_assoc] at hb
    refine v195_5 _ _ _ _ _ (condD (fun hc => needJ ⟨by omega, by omega⟩ ?_) fun hc => by omega)
    rw [Int.toNat_natCast]
    generalize e.2.1.getD i ([], []) = x at hb hx ⊢
    have hb2 : (b ++ needB x).length ≤ P.length := lenL hb
    have hb3 : (b ++ text x.1).length ≤ (b ++ needB x).length := by simp [needB]
    have hb4 : (text x.1).length ≤ (b ++ text x.1).length := by simp
    have n1 := numB_len x.2.length
    unfold lim at hx
    refine ASpec.call (rtext_spec x.1 (by unfold big; omega) _) (Les.refl _) ⟨B (text x.1), rfl, rfl, ⟨rfl, rfl⟩, ⟨rfl, rfl⟩, needJ (by rw [B_size, B_size]; omega) ?_⟩
    rw [B_append]
    refine ASpec.call (rnum_spec _ _) (Les.refl _) ⟨B (numB x.2.length), rfl, rfl, needJ (by rw [B_size, B_size]; omega) ?_⟩
    rw [B_append]
    exact o10 (x := x) (i := i) (P := b ++ needB x) (by omega) (by unfold lim; omega) (by omega) (ih (i + 1) _ (by omega) hb) x.2.length 0 _ (by omega) (by simp [needB])

theorem rone_spec (e : Ev) (ho : evOk e = true) (hx : okE e) (H : List AObj) : ASpec Try.prog 195 [.agg (encE e)] H (fun r H' => r = .str (B (evB e)) ∧ H' = H) := by
  have k : ASpec Try.prog 195 [.agg (encE e)] [] (fun r H' => r = .str (B (evB e)) ∧ H' = []) := by
    have hlen := evB_len ho
    obtain ⟨hy, hc⟩ := ev_fits ho hx
    have hno := (W.needOk_ok ((evOk_iff e).1 ho).1).1
    have n1 := numB_len e.1
    have n2 := numB_len e.2.2.1
    have n3 := numB_len e.2.1.length
    refine ASpec.sel (s195 _ _ (ASpec.call (rnum_spec e.1 _) (Les.refl _) ⟨B (numB e.1), rfl, rfl, condE (fun k1 => ?_) fun k1 => ?_⟩))
    · refine ASpec.call (rnum_spec _ _) (Les.refl _) ⟨B (numB e.2.2.1), rfl, rfl, ⟨rfl, rfl⟩, ⟨rfl, rfl⟩, needJ (by rw [B_size, B_size]; omega) ?_⟩
      refine ASpec.call (rnum_spec _ _) (Les.refl _) ⟨B (numB e.2.1.length), rfl, rfl, needJ (by rw [B_append, B_size, B_size, List.length_append]; omega) ?_⟩
      rw [B_append, B_append]
      refine o5 (P := evB e) (by omega) hx.1 (by omega) ?_ e.2.1.length 0 _ (by omega) (by simp [evB, tailB, needsB, k1])
      refine o13 (P := evB e) (by omega) hy ?_
      rw [if_neg (by omega), if_neg (by omega), List.append_nil]
    · refine o13 (P := evB e) (by omega) hy ?_
      rw [evB, tailB, if_neg k1]
  exact ASpec.pureH H k _ _ rfl rfl

theorem rput5 {l : List Ev} (hl : l.length ≤ 400) (hk : ∀ e ∈ l, okE e) : ∀ (m i : Nat) (b : List UInt8), m + i = l.length → b.length ≤ 100 + 10000 * i → ∀ {P : List UInt8}, P = (if (l.drop i).all evOk = true then b ++ (l.drop i).flatMap evB else []) →
    AWP Try.prog 31 0 c75_5 [(0, slE l), (3, .str (B b)), (4, .int .i64 i)] [] (q75_2 0 (PS P)) := by
  intro m
  induction m with
  | zero =>
    intro i b hm hb P h
    refine v75_5 _ _ _ _ _ (condD (fun hc => by omega) fun _ => ?_)
    rw [List.drop_eq_nil_of_le (by omega)] at h
    simp at h
    rw [h]; exact pa (Le.refl _)
  | succ m ih =>
    intro i b hm hb P h
    have hx := hk _ (memD l noEv i (by omega))
    rw [dropD l noEv i (by omega)] at h
    refine v75_5 _ _ _ _ _ (condD (fun hc => needJ ⟨by omega, by omega⟩ ?_) fun hc => by omega)
    rw [Int.toNat_natCast]
    generalize l.getD i noEv = x at h hx ⊢
    refine ASpec.call (rcheck_spec x hx _) (Les.refl _) ⟨_, rfl, rfl, condBn (fun h1 => ?_) fun h1 => needJ ⟨by omega, by omega⟩ ?_⟩
    · simp only [List.all_cons, h1, Bool.false_and, Bool.false_eq_true, if_false] at h
      rw [h]; exact pa (Le.refl _)
    · have hlen := evB_len h1
      refine ASpec.call (rone_spec x h1 hx _) (Les.refl _) ⟨_, rfl, rfl, needJ (by rw [B_size, B_size]; omega) ?_⟩
      rw [B_append, succ64 (by omega)]
      refine ih (i + 1) _ (by omega) (by rw [List.length_append]; omega) ?_
      rw [h]
      simp only [List.all_cons, h1, Bool.true_and, List.flatMap_cons, List.append_assoc]

theorem rput_specE (l : List Ev) (hk : ∀ e ∈ l, okE e) (H : List AObj) : ASpec Try.prog 75 [slE l] H (fun r H' => r = .str (B (putE l)) ∧ H' = H) := by
  have k : ASpec Try.prog 75 [slE l] [] (fun r H' => r = .str (B (putE l)) ∧ H' = []) := by
    refine ASpec.sel (s75 _ _ (condD (fun h => ?_) fun h1 => ?_))
    · rw [show putE l = [] by rw [putE, if_neg (by omega)]]
      exact pa (Le.refl _)
    · have n1 := numB_len l.length
      refine ASpec.call (rnum_spec _ _) (Les.refl _) ⟨B (numB l.length), rfl, rfl, ?_⟩
      refine rput5 (by omega) hk l.length 0 _ (by omega) (by omega) ?_
      rw [List.drop_zero, putE]
      by_cases h2 : l.all evOk = true
      · rw [if_pos ⟨by omega, h2⟩, if_pos h2]; rfl
      · rw [if_neg (fun h => h2 h.2), if_neg h2]
  exact ASpec.pureH H k _ _ rfl rfl

theorem sameA4 {a b : List Ev} {c : Bool} (hl : a.length ≤ lim) (hk : ∀ e ∈ a, okE e) (he : a.length = b.length) : ∀ (m i : Nat), m + i = a.length → decide (a.drop i = b.drop i) = c →
    AWP Try.prog 27 0 c76_4 [(0, slE a), (1, slE b), (5, .int .i64 i)] [] (q76_2 0 (PB c)) := by
  unfold lim at hl
  intro m
  induction m with
  | zero =>
    intro i hm h
    refine v76_4 _ _ _ _ _ (condD (fun hc => by omega) fun _ => pb ?_)
    rw [List.drop_eq_nil_of_le (by omega), List.drop_eq_nil_of_le (by omega)] at h
    rw [← h]; simp
  | succ m ih =>
    intro i hm h
    have hx := hk _ (memD a noEv i (by omega))
    rw [dropD a noEv i (by omega), dropD b noEv i (by omega), cons_dec] at h
    refine v76_4 _ _ _ _ _ (condD (fun hc => needJ ⟨by omega, by omega⟩ (needJ ⟨by omega, by omega⟩ ?_)) fun hc => by omega)
    rw [Int.toNat_natCast]
    generalize a.getD i noEv = x at h hx ⊢
    generalize b.getD i noEv = y at h ⊢
    refine ASpec.call (rsame_spec x y hx _) (Les.refl _) ⟨_, rfl, rfl, condBn (fun h1 => pb ?_) fun h1 => ?_⟩
    · rw [h1, Bool.false_and] at h; exact h
    · rw [h1, Bool.true_and] at h
      rw [succ64 (by omega)]
      exact ih (i + 1) (by omega) h

theorem sameA_spec (a b : List Ev) (hl : a.length ≤ lim) (hk : ∀ e ∈ a, okE e) (H : List AObj) : ASpec Try.prog 76 [slE a, slE b] H (fun r H' => r = .bool (decide (a = b)) ∧ H' = H) := by
  have k : ASpec Try.prog 76 [slE a, slE b] [] (fun r H' => r = .bool (decide (a = b)) ∧ H' = []) := by
    refine ASpec.sel (s76 _ _ _ (condNe (fun h => pb ?_) fun h => sameA4 hl hk (by omega) a.length 0 (by omega) rfl))
    symm
    rw [decide_eq_false]
    rintro rfl; exact h rfl
  exact ASpec.pureH H k _ _ rfl rfl

/-! ### the law -/

theorem eventBytes_spec (l : List Ev) (b : List UInt8) (hb : ∀ e ∈ l, e.2.2.2.2.length ≤ maxLen) (H : List AObj) : ASpec Try.prog 9 [slE l, sl1 b] H (fun r H' => r = .bool true ∧ H' = H) := by
  have k : ASpec Try.prog 9 [slE l, sl1 b] [] (PB true) := by
    have aw : ∀ (H' : List AObj), ASpec Try.prog 71 [] H' (fun r H'' => r = .bool true ∧ H'' = H') := awake_spec
    refine s9 _ _ _ (ASpec.call (largeE_spec l hb _) (Les.refl _) ⟨_, rfl, rfl, condB (fun _ => ASpec.call (aw _) (Les.refl _) ⟨(), rfl, rfl, pb rfl⟩) fun hlg => condD (fun _ => ASpec.call (aw _) (Les.refl _) ⟨(), rfl, rfl, pb rfl⟩) fun h1 => ?_⟩)
    have hk := largeE_ok hlg
    have hll : l.length ≤ 403 := by
      unfold largeE at hlg
      split at hlg
      · cases hlg
      · omega
    refine ASpec.call (put_specE l (by unfold lim; omega) hk _) (Les.refl _) ⟨_, rfl, rfl, ?_⟩
    refine ASpec.call (read_specE b (by omega) _) (Les.refl _) ⟨((readE b).1, (readE b).2), rfl, rfl, needJ (allBytes_map _) ?_⟩
    rw [bytesOf_map]
    refine ASpec.call (rread_spec b (by omega) _) (Les.refl _) ⟨((readE b).1, (readE b).2), rfl, rfl, needJ (allBytes_map _) ?_⟩
    refine ASpec.call (rput_specE l hk _) (Les.refl _) ⟨_, rfl, rfl, ?_⟩
    rw [bytesOf_map]
    refine condSn (fun h => (h rfl).elim) fun _ => ?_
    have hr := readE_ok b
    refine ASpec.call (sameA_spec (readE b).1 (readE b).1 (by unfold lim; omega) hr.2 _) (Les.refl _) ⟨_, rfl, rfl, condBn (fun h => by simp at h) fun _ => condNe (fun h => (h rfl).elim) fun _ => ?_⟩
    have fin : AWP Try.prog 81 0 c9_8 [(0, slE l), (5, sl1 (putE l))] [] (q9_0 0 (PB true)) := by
      have hpl : (putE l).length ≤ 10000000 := by
        unfold putE
        split
        · rename_i h; exact evsB_len h.1 h.2
        · simp
      refine v9_8 _ _ _ _ (ASpec.call (read_specE (putE l) (by omega) _) (Les.refl _) ⟨((readE (putE l)).1, (readE (putE l)).2), rfl, rfl, ?_⟩)
      refine ASpec.call (rput_specE l hk _) (Les.refl _) ⟨_, rfl, rfl, condS (b := []) (fun _ => ASpec.call (aw _) (Les.refl _) ⟨(), rfl, rfl, pb rfl⟩) fun hne => ?_⟩
      rw [readE_putE hne]
      refine condE (fun _ => ?_) fun h => (h rfl).elim
      exact ASpec.call (sameA_spec l l (by unfold lim; omega) hk _) (Les.refl _) ⟨_, rfl, rfl, condB (fun _ => ASpec.call (aw _) (Les.refl _) ⟨(), rfl, rfl, pb rfl⟩) fun h => by simp at h⟩
    refine condE (fun h0 => needJ (allBytes_map _) ?_) fun _ => fin
    refine ASpec.call (put_specE (readE b).1 (by unfold lim; omega) hr.2 _) (Les.refl _) ⟨_, rfl, rfl, needJ (allBytes_map _) ?_⟩
    rw [bytesOf_map, putE_readE h0]
    exact condSn (fun h => (h rfl).elim) fun _ => fin
  exact ASpec.pureH (r0 := .bool true) H (ASpec.sel k) _ _ rfl rfl
end
end E
end

section
/- The codecs of this seat's plain arguments. -/

open Go Go.Ab Go.Proofs
namespace Go.Ab

noncomputable def cInt : Codec Try.prog 3 Int := Codec.int .i64 Try.underlying3
noncomputable def cStr : Codec Try.prog 9 ByteArray := Codec.str Try.underlying9
noncomputable def cInts : Codec Try.prog 153 (List Int) := Codec.slice (sz := 1) cInt Try.underlying153 (by kernel_rfl) (by omega) (fun _ => rfl)
/-- a byte -/
noncomputable def cByte : Codec Try.prog 5 UInt8 where
  enc b := encB b
  ok _ := True
  dflt := 0
  opens := by
    intro H e w fuel cs x h
    obtain ⟨n, h1, h2⟩ := (Codec.int .u8 Try.underlying5).opens e w fuel cs x h
    have hn : 0 ≤ n ∧ n ≤ 255 := by simpa [Codec.int, Lit.wf, IntKind.min, IntKind.max, IntKind.signed, IntKind.bits] using h1
    refine ⟨UInt8.ofNat n.toNat, trivial, ?_⟩
    rw [← encB_ofNat hn.1 (by omega)]
    exact h2
noncomputable def cBytes : Codec Try.prog 23 (List UInt8) := Codec.slice (sz := 1) cByte Try.underlying23 (by kernel_rfl) (by omega) (fun _ => rfl)

end Go.Ab
end

section
/- The codecs of manifests. -/

open Go Go.Ab Go.Proofs
namespace Go.Ab

noncomputable def cName : Codec Try.prog 9 (List UInt8) := cStr.iso (fun s => s.data.toList) (fun l => [.str ⟨l.toArray⟩]) (fun _ => True) (fun _ => rfl) (fun _ _ => trivial)
noncomputable def cSpan : Codec Try.prog 200 T.Span :=
  (Codec.struct (n := 2) Try.underlying200 (FC.cons (k := 1) (n := 1) cInt rfl (by kernel_rfl) (FC.cons (k := 1) (n := 0) cInt rfl (by kernel_rfl) FC.nil)) (by kernel_rfl)).iso (fun x => (x.1, x.2.1)) T.encS (fun _ => True) (fun _ => rfl) (fun _ _ => trivial)
noncomputable def cSpans : Codec Try.prog 38 (List T.Span) := Codec.slice (sz := 2) cSpan Try.underlying38 (by kernel_rfl) (by omega) (fun _ => rfl)
noncomputable def cNeed : Codec Try.prog 290 T.Need :=
  (Codec.struct (n := 2) Try.underlying290 (FC.cons (k := 1) (n := 1) cName rfl (by kernel_rfl) (FC.cons (k := 1) (n := 0) cSpans rfl (by kernel_rfl) FC.nil)) (by kernel_rfl)).iso (fun x => (x.1, x.2.1)) T.encN (fun _ => True) (fun _ => rfl) (fun _ _ => trivial)
noncomputable def cNeeds : Codec Try.prog 66 (List T.Need) := Codec.slice (sz := 2) cNeed Try.underlying66 (by kernel_rfl) (by omega) (fun _ => rfl)
noncomputable def cRel : Codec Try.prog 177 T.Rel :=
  (Codec.struct (n := 2) Try.underlying177 (FC.cons (k := 1) (n := 1) cInt rfl (by kernel_rfl) (FC.cons (k := 1) (n := 0) cNeeds rfl (by kernel_rfl) FC.nil)) (by kernel_rfl)).iso (fun x => (x.1, x.2.1)) T.encR (fun _ => True) (fun _ => rfl) (fun _ _ => trivial)
noncomputable def cRels : Codec Try.prog 90 (List T.Rel) := Codec.slice (sz := 2) cRel Try.underlying90 (by kernel_rfl) (by omega) (fun _ => rfl)
noncomputable def cMani : Codec Try.prog 92 T.Mani :=
  (Codec.struct (n := 2) Try.underlying92 (FC.cons (k := 1) (n := 1) cName rfl (by kernel_rfl) (FC.cons (k := 1) (n := 0) cRels rfl (by kernel_rfl) FC.nil)) (by kernel_rfl)).iso (fun x => (x.1, x.2.1)) T.encM (fun _ => True) (fun _ => rfl) (fun _ _ => trivial)

end Go.Ab
end

section
/- The codec of events. -/

open Go Go.Ab Go.Proofs
namespace Go.Ab

noncomputable def cEv : Codec Try.prog 68 T.Ev :=
  (Codec.struct (n := 5) Try.underlying68 (FC.cons (k := 1) (n := 4) cInt rfl (by kernel_rfl) (FC.cons (k := 1) (n := 3) cNeeds rfl (by kernel_rfl) (FC.cons (k := 1) (n := 2) cInt rfl (by kernel_rfl) (FC.cons (k := 1) (n := 1) cInt rfl (by kernel_rfl)
    (FC.cons (k := 1) (n := 0) cBytes rfl (by kernel_rfl) FC.nil))))) (by kernel_rfl)).iso (fun x => (x.1, x.2.1, x.2.2.1, x.2.2.2.1, x.2.2.2.2.1)) T.encE (fun e => e.2.2.2.2.length ≤ maxLen) (fun _ => rfl) (fun _ h => h.2.2.2.2.1.1)
theorem okEv {e : T.Ev} (h : cEv.ok e) : e.2.2.2.2.length ≤ maxLen := h

end Go.Ab
end

section
/- The codec of lists of events. -/

open Go Go.Ab Go.Proofs
namespace Go.Ab
noncomputable def cEvs : Codec Try.prog 84 (List T.Ev) := Codec.slice (sz := 5) cEv Try.underlying84 (by kernel_rfl) (by omega) (fun _ => rfl)
theorem okEvs {l : List T.Ev} (h : cEvs.ok l) : ∀ e ∈ l, e.2.2.2.2.length ≤ maxLen := fun e he => okEv (h.2 e he)
end Go.Ab
end

section
/- What is asked of the program alone, once for all statements. -/

namespace Go.Proofs.Facts
open Go Go.Proofs
theorem andT {a b : Bool} (h : a = true) (k : b = true) : (a && b) = true := by rw [h, k]; rfl
theorem laid : laidOutB Try.prog = true := by kernel_rfl
theorem mapsRowed : Go.mapsRowed Try.prog = true := by kernel_rfl
theorem stops : (Try.prog.stops == []) = true := by kernel_rfl
theorem stopKnobs : (Try.prog.stopKnobs == []) = true := by kernel_rfl
theorem heard : Try.prog.stopsHeard = true := by kernel_rfl
theorem may : Try.prog.mayEnter = true := by kernel_rfl
theorem lifted : (false == Try.prog.liftsFinal) = true := by kernel_rfl
theorem plain : (true == Try.prog.plainKeys) = true := by kernel_rfl
theorem made : (Try.prog.make == some .cut) = true := by kernel_rfl
theorem own : ownKnob Try.prog.godebug = none := by kernel_rfl
end Go.Proofs.Facts
end
