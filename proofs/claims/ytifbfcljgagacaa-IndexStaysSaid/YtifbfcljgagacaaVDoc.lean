/- The document's reader, and a reader that is none: what their methods compute, in any heap. -/
import Derived.Test.YtifbfcljgagacaaVBack
set_option linter.unusedVariables false
set_option linter.unusedSimpArgs false
open Go Go.Ab Go.Proofs
namespace V

/-- the document's reader -/
abbrev dr (l : List UInt8) (e : Int) : AObj := .cells [.str (B l), .int .i64 e]
abbrev AtD (H : List AObj) (id : Nat) (l : List UInt8) (e : Int) : Prop := H[id]? = some (dr l e)

def dnumM (l : List UInt8) (e most : Int) : Int × List UInt8 × Int :=
  if e ≠ 0 then (0, l, e) else ((lookM l most).1, l.drop (lookM l most).2.1, (lookM l most).2.2)
def dstrM (l : List UInt8) (e most : Int) : List UInt8 × List UInt8 × Int :=
  if e ≠ 0 then ([], l, e) else if (lookM l most).2.2 ≠ 0 then ([], l, (lookM l most).2.2) else
    if (lookM l most).1 > (l.length : Int) - ((lookM l most).2.1 : Nat) then ([], l, 2) else
    ((l.drop (lookM l most).2.1).take (lookM l most).1.toNat, l.drop ((lookM l most).2.1 + (lookM l most).1.toNat), 0)

theorem dnum_spec0 (l : List UInt8) (e most : Int) (hl : l.length ≤ 10 * big) :
    ASpec Try.prog 26 [.ptr 0 0, .int .i64 most] [dr l e] (fun r H' => r = .int .i64 (dnumM l e most).1 ∧ H' = [dr (dnumM l e most).2.1 (dnumM l e most).2.2]) := by
  refine s26 _ _ _ _ (condNe (fun he => ?_) fun he => ?_)
  · rw [show dnumM l e most = (0, l, e) by simp only [dnumM, if_pos he]]
    exact ⟨rfl, rfl⟩
  · subst he
    rw [show dnumM l 0 most = ((lookM l most).1, l.drop (lookM l most).2.1, (lookM l most).2.2) by simp [dnumM]]
    obtain ⟨h1, h2, h3, h4⟩ := lookM_le l most
    refine ASpec.call (look_spec l most hl _) (Les.refl _) ⟨((lookM l most).1, ((lookM l most).2.1 : Nat), (lookM l most).2.2), rfl, rfl, needJ ?_ ⟨rfl, ?_⟩⟩
    · simp only [B_size]; omega
    · simp only [Int.toNat_natCast, B_size]
      rw [B_extract _ _ _ (Nat.le_refl _), List.take_of_length_le (Nat.le_refl _)]

theorem dstr_spec0 (l : List UInt8) (e most : Int) (hl : l.length ≤ 10 * big) :
    ASpec Try.prog 27 [.ptr 0 0, .int .i64 most] [dr l e] (fun r H' => r = .str (B (dstrM l e most).1) ∧ H' = [dr (dstrM l e most).2.1 (dstrM l e most).2.2]) := by
  refine s27 _ _ _ _ (condNe (fun he => ?_) fun he => ?_)
  · rw [show dstrM l e most = ([], l, e) by simp only [dstrM, if_pos he]]
    exact ⟨rfl, rfl⟩
  · subst he
    obtain ⟨h1, h2, h3, h4⟩ := lookM_le l most
    refine ASpec.call (look_spec l most hl _) (Les.refl _) ⟨((lookM l most).1, ((lookM l most).2.1 : Nat), (lookM l most).2.2), rfl, rfl, ?_⟩
    have hs : dstrM l 0 most = if (lookM l most).2.2 ≠ 0 then ([], l, (lookM l most).2.2) else
      if (lookM l most).1 > (l.length : Int) - ((lookM l most).2.1 : Nat) then ([], l, 2) else
      ((l.drop (lookM l most).2.1).take (lookM l most).1.toNat, l.drop ((lookM l most).2.1 + (lookM l most).1.toNat), 0) := by simp [dstrM]
    rw [hs]
    generalize lookM l most = q at h1 h2 h3 h4 ⊢
    obtain ⟨n, k, er⟩ := q
    unfold big at hl
    simp only at h1 h2 h3 h4 ⊢
    simp only [B_size]
    refine condE (fun he => ?_) fun he => ?_
    · subst he
      rw [wrap64 (x := (l.length : Int) - ((k : Nat) : Int)) (by omega) (by omega)]
      refine condD (fun hg => ?_) fun hg => ?_
      · rw [if_neg (by simp), if_pos hg]; exact ⟨rfl, rfl⟩
      · rw [if_neg (by simp), if_neg hg]
        have hw : IntKind.wrap .i64 (((k : Nat) : Int) + n) = ((k + n.toNat : Nat) : Int) := by
          rw [wrap64 (x := ((k : Nat) : Int) + n) (by omega) (by omega)]; omega
        refine condNe (fun h => (h rfl).elim) fun _ => ?_
        rw [hw]
        refine needJ (by omega) (needJ (by omega) ?_)
        simp only [Int.toNat_natCast]
        rw [B_extract _ _ _ (by omega), B_extract _ _ _ (Nat.le_refl _), List.take_of_length_le (Nat.le_refl _), List.drop_take, show k + n.toNat - k = n.toNat by omega]
        exact ⟨rfl, rfl⟩
    · refine condNe (fun h => ?_) fun h => (he h).elim
      rw [if_pos he]; exact ⟨rfl, rfl⟩

theorem dnum_spec {H : List AObj} {id : Nat} {l : List UInt8} {e : Int} (most : Int) (hl : l.length ≤ 10 * big) (h : AtD H id l e) :
    ASpec Try.prog 26 [.ptr id 0, .int .i64 most] H (fun r H' => r = .int .i64 (dnumM l e most).1 ∧ H' = H.set id (dr (dnumM l e most).2.1 (dnumM l e most).2.2)) :=
  ASpec.oneH H id (dnum_spec0 l e most hl) _ _ _ rfl rfl h rfl
theorem dstr_spec {H : List AObj} {id : Nat} {l : List UInt8} {e : Int} (most : Int) (hl : l.length ≤ 10 * big) (h : AtD H id l e) :
    ASpec Try.prog 27 [.ptr id 0, .int .i64 most] H (fun r H' => r = .str (B (dstrM l e most).1) ∧ H' = H.set id (dr (dstrM l e most).2.1 (dstrM l e most).2.2)) :=
  ASpec.oneH H id (dstr_spec0 l e most hl) _ _ _ rfl rfl h rfl

/-- an error is noted -/
def badM (e x : Int) : Int := if e = 0 then x else e

theorem bad_spec {H : List AObj} {id : Nat} {bs : List UInt8} {p : Nat} {e : Int} (x : Int) (h : At H id bs p e) :
    ASpec Try.prog 28 [.ptr id 0, .int .i64 x] H (fun r H' => r = .tup [] ∧ H' = H.set id (rd bs p (badM e x))) := by
  have k : ASpec Try.prog 28 [.ptr 0 0, .int .i64 x] [rd bs p e] (fun r H' => r = .tup [] ∧ H' = [rd bs p (badM e x)]) := by
    refine s28 _ _ _ _ _ (condE (fun he => ?_) fun he => ?_)
    · rw [show badM e x = x from if_pos he]; exact ⟨rfl, rfl⟩
    · rw [show badM e x = e from if_neg he]; exact ⟨rfl, rfl⟩
  exact ASpec.oneH H id k _ _ _ rfl rfl h rfl
theorem dbad_spec {H : List AObj} {id : Nat} {l : List UInt8} {e : Int} (x : Int) (h : AtD H id l e) :
    ASpec Try.prog 29 [.ptr id 0, .int .i64 x] H (fun r H' => r = .tup [] ∧ H' = H.set id (dr l (badM e x))) := by
  have k : ASpec Try.prog 29 [.ptr 0 0, .int .i64 x] [dr l e] (fun r H' => r = .tup [] ∧ H' = [dr l (badM e x)]) := by
    refine s29 _ _ _ _ (condE (fun he => ?_) fun he => ?_)
    · rw [show badM e x = x from if_pos he]; exact ⟨rfl, rfl⟩
    · rw [show badM e x = e from if_neg he]; exact ⟨rfl, rfl⟩
  exact ASpec.oneH H id k _ _ _ rfl rfl h rfl

def closeM (e : Int) (left : Nat) : Int := if e ≠ 0 then e else if 0 < left then 3 else 0

theorem close_spec {H : List AObj} {id : Nat} {bs : List UInt8} {p : Nat} {e : Int} (hb : bs.length ≤ big) (hp : p ≤ bs.length) (h : At H id bs p e) :
    ASpec Try.prog 30 [.ptr id 0] H (fun r H' => r = .int .i64 (closeM e (bs.length - p)) ∧ H' = H) := by
  have k : ASpec Try.prog 30 [.ptr 0 0] [rd bs p e] (fun r H' => r = .int .i64 (closeM e (bs.length - p)) ∧ H' = [rd bs p e]) := by
    refine s30 _ _ _ _ (ASpec.call (err_spec (id := 0) (bs := bs) (p := p) (e := e) rfl) (Les.refl _) ⟨e, rfl, rfl, ?_⟩)
    refine condNe (fun he => ?_) fun he => ?_
    · rw [show closeM e (bs.length - p) = e from if_pos he]; exact ⟨rfl, rfl⟩
    · subst he
      refine ASpec.call (left_spec (id := 0) (bs := bs) (p := p) (e := 0) hb hp rfl) (Les.refl _) ⟨_, rfl, rfl, ?_⟩
      refine condD (fun hc => ?_) fun hc => ?_
      · rw [show closeM 0 (bs.length - p) = 3 by simp only [closeM]; rw [if_neg (by simp), if_pos (by omega)]]; exact ⟨rfl, rfl⟩
      · rw [show closeM 0 (bs.length - p) = 0 by simp only [closeM]; rw [if_neg (by simp), if_neg (by omega)]]; exact ⟨rfl, rfl⟩
  have := ASpec.oneH H id k [.ptr id 0] (.int .i64 (closeM e (bs.length - p))) (rd bs p e) rfl rfl h rfl
  rw [set_same h] at this
  exact this

theorem condSn {a b : List UInt8} {A C : Prop} (h1 : a ≠ b → A) (h2 : a = b → C) : condP (!(B a).toList == (B b).toList) A C := by
  rw [B_beq]
  by_cases h : a = b
  · rw [beq_iff_eq.2 h]; exact h2 h
  · rw [beq_eq_false_iff_ne.2 h]; exact h1 h

theorem dclose_spec {H : List AObj} {id : Nat} {l : List UInt8} {e : Int} (h : AtD H id l e) :
    ASpec Try.prog 31 [.ptr id 0] H (fun r H' => r = .int .i64 (closeM e l.length) ∧ H' = H) := by
  have k : ASpec Try.prog 31 [.ptr 0 0] [dr l e] (fun r H' => r = .int .i64 (closeM e l.length) ∧ H' = [dr l e]) := by
    refine s31 _ _ _ (condE (fun he => condSn (b := []) (fun hl => ?_) fun hl => ?_) fun he => ?_)
    · subst he
      rw [show closeM 0 l.length = 3 by simp only [closeM]; rw [if_neg (by simp), if_pos (List.length_pos_iff.2 hl)]]; exact ⟨rfl, rfl⟩
    · subst he; subst hl
      exact ⟨rfl, rfl⟩
    · rw [show closeM e l.length = e from if_pos he]; exact ⟨rfl, rfl⟩
  have := ASpec.oneH H id k [.ptr id 0] (.int .i64 (closeM e l.length)) (dr l e) rfl rfl h rfl
  rw [set_same h] at this
  exact this

/-! ### a reader that is none -/

theorem numn_spec (most : Int) (H : List AObj) : ASpec Try.prog 22 [.nilp, .int .i64 most] H (fun r H' => r = .int .i64 0 ∧ H' = H) :=
  ASpec.pureH H (s22n most _ ⟨rfl, rfl⟩) _ _ rfl rfl
theorem strn_spec (most : Int) (H : List AObj) : ASpec Try.prog 23 [.nilp, .int .i64 most] H (fun r H' => r = .str (B []) ∧ H' = H) :=
  ASpec.pureH H (s23n most _ ⟨rfl, rfl⟩) _ _ rfl rfl
theorem errn_spec (H : List AObj) : ASpec Try.prog 24 [.nilp] H (fun r H' => r = .int .i64 1 ∧ H' = H) :=
  ASpec.pureH H (s24n _ ⟨rfl, rfl⟩) _ _ rfl rfl
theorem leftn_spec (H : List AObj) : ASpec Try.prog 25 [.nilp] H (fun r H' => r = .int .i64 0 ∧ H' = H) :=
  ASpec.pureH H (s25n _ ⟨rfl, rfl⟩) _ _ rfl rfl
theorem badn_spec (x : Int) (H : List AObj) : ASpec Try.prog 28 [.nilp, .int .i64 x] H (fun r H' => r = .tup [] ∧ H' = H) :=
  ASpec.pureH H (s28n x _ ⟨rfl, rfl⟩) _ _ rfl rfl
theorem closen_spec (H : List AObj) : ASpec Try.prog 30 [.nilp] H (fun r H' => r = .int .i64 1 ∧ H' = H) :=
  ASpec.pureH H (s30n _ (ASpec.call (errn_spec []) (Les.refl _) ⟨1, rfl, rfl, ⟨rfl, rfl⟩⟩)) _ _ rfl rfl

/-! ### the reader and the document's -/

theorem num_doc (bs : List UInt8) (p : Nat) (e most : Int) (hp : p ≤ bs.length) :
    dnumM (bs.drop p) e most = ((numM bs p e most).1, bs.drop (numM bs p e most).2.1, (numM bs p e most).2.2) ∧ (numM bs p e most).2.1 ≤ bs.length := by
  have h := (lookM_le (bs.drop p) most).1
  rw [List.length_drop] at h
  unfold dnumM numM
  split
  · exact ⟨rfl, hp⟩
  · refine ⟨by simp [List.drop_drop], by simp only; omega⟩

theorem str_doc (bs : List UInt8) (p : Nat) (e most : Int) (hp : p ≤ bs.length) :
    dstrM (bs.drop p) e most = ((strM bs p e most).1, bs.drop (strM bs p e most).2.1, (strM bs p e most).2.2) ∧ (strM bs p e most).2.1 ≤ bs.length := by
  obtain ⟨h, h2, -, -⟩ := lookM_le (bs.drop p) most
  rw [List.length_drop] at h
  unfold dstrM strM
  simp only [List.length_drop]
  split
  · exact ⟨rfl, hp⟩
  split
  · exact ⟨rfl, hp⟩
  split
  · rename_i hg
    rw [if_pos (by omega)]
    exact ⟨rfl, hp⟩
  · rename_i hg
    rw [if_neg (by omega)]
    refine ⟨by simp [List.drop_drop, Nat.add_assoc], by simp only; omega⟩

end V
