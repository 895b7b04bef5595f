/- Q6: several of this proof's own texts, one behind the other: what each proves stands at its head. -/
import Derived.Test.YtkkdhnhgfbddeaaDoorQ5
import Derived.Test.YtkkdhnhgfbddeaaDoorA3
import Derived.KernelRfl
import Derived.Test.YtkkdhnhgfbddeaaDoorA4
import Derived.Sort.Walk0
import Derived.Lib.Bytealg
import Derived.Test.YtkkdhnhgfbddeaaDoorProg
import Derived.Lib.Split
import Derived.Lib.Join
section
/- Manifests out of bytes: what the code reads. -/

set_option linter.unusedVariables false
set_option linter.unusedSimpArgs false
set_option maxRecDepth 100000
open Go Go.Ab Go.Proofs V S T C
namespace W

/-! ### the model -/

def listR {α : Type} (one : Nat → Int → α × Nat × Int) : Nat → Nat → Int → List α × Nat × Int
  | 0, p, e => ([], p, e)
  | k + 1, p, e => if e = 0 then ((one p e).1 :: (listR one k (one p e).2.1 (one p e).2.2).1, (listR one k (one p e).2.1 (one p e).2.2).2) else ([], p, e)

def listM {α : Type} (one : Nat → Int → α × Nat × Int) (bs : List UInt8) (p : Nat) (e most : Int) : List α × Nat × Int :=
  listR one (numM bs p e most).1.toNat (numM bs p e most).2.1 (numM bs p e most).2.2

theorem lookM_most (s : List UInt8) (most : Int) (h : 0 ≤ most) : (lookM s most).1 ≤ most := by
  cases s with
  | nil => simpa [lookM] using h
  | cons c s =>
    simp only [lookM]
    split
    · exact h
    · split
      · exact h
      · split
        · exact h
        · simp only; omega

theorem numM_most (bs : List UInt8) (p : Nat) (e most : Int) (h : 0 ≤ most) : 0 ≤ (numM bs p e most).1 ∧ (numM bs p e most).1 ≤ most := by
  unfold numM
  split
  · exact ⟨Int.le_refl _, h⟩
  · exact ⟨(lookM_le _ _).2.1, lookM_most _ _ h⟩

theorem numM_p {bs : List UInt8} {p : Nat} {e most : Int} (hp : p ≤ bs.length) : (numM bs p e most).2.1 ≤ bs.length := (num_doc bs p e most hp).2
theorem strM_p {bs : List UInt8} {p : Nat} {e most : Int} (hp : p ≤ bs.length) : (strM bs p e most).2.1 ≤ bs.length := (str_doc bs p e most hp).2

theorem strM_len (bs : List UInt8) (p : Nat) (e most : Int) (h : 0 ≤ most) : ((strM bs p e most).1.length : Int) ≤ most := by
  unfold strM
  have := lookM_most (bs.drop p) most h
  have h2 := (lookM_le (bs.drop p) most).2.1
  repeat' split
  all_goals (simp only [List.length_nil, List.length_take]; omega)

/-- one keeps its place in the bytes -/
def Inside {α : Type} (bs : List UInt8) (one : Nat → Int → α × Nat × Int) : Prop := ∀ p e, p ≤ bs.length → (one p e).2.1 ≤ bs.length

theorem listR_p {α : Type} {bs : List UInt8} {one : Nat → Int → α × Nat × Int} (h : Inside bs one) : ∀ (k p : Nat) (e : Int), p ≤ bs.length → (listR one k p e).2.1 ≤ bs.length
  | 0, p, e, hp => hp
  | k + 1, p, e, hp => by
    simp only [listR]
    split
    · exact listR_p h k _ _ (h p e hp)
    · exact hp

theorem listM_p {α : Type} {bs : List UInt8} {one : Nat → Int → α × Nat × Int} (h : Inside bs one) {p : Nat} {e most : Int} (hp : p ≤ bs.length) : (listM one bs p e most).2.1 ≤ bs.length :=
  listR_p h _ _ _ (numM_p hp)

theorem listR_len {α : Type} (one : Nat → Int → α × Nat × Int) : ∀ (k p : Nat) (e : Int), (listR one k p e).1.length ≤ k
  | 0, p, e => by simp [listR]
  | k + 1, p, e => by
    simp only [listR]
    split
    · have := listR_len one k (one p e).2.1 (one p e).2.2
      simp only [List.length_cons]; omega
    · simp

theorem listM_len {α : Type} (one : Nat → Int → α × Nat × Int) (bs : List UInt8) (p : Nat) (e most : Int) (h : 0 ≤ most) : ((listM one bs p e most).1.length : Int) ≤ most := by
  have h1 := numM_most bs p e most h
  have h2 := listR_len one (numM bs p e most).1.toNat (numM bs p e most).2.1 (numM bs p e most).2.2
  unfold listM
  omega

theorem listR_all {α : Type} {one : Nat → Int → α × Nat × Int} {Q : α → Prop} (h : ∀ p e, Q (one p e).1) : ∀ (k p : Nat) (e : Int), ∀ x ∈ (listR one k p e).1, Q x
  | 0, p, e, x, hx => by simp [listR] at hx
  | k + 1, p, e, x, hx => by
    simp only [listR] at hx
    split at hx
    · rcases List.mem_cons.1 hx with rfl | hx
      · exact h p e
      · exact listR_all h k _ _ x hx
    · simp at hx

/-! ### the walk -/

section
variable {bs : List UInt8} {p : Nat} {e : Int}

end

end W
end

section
/- WirePuts: the bytes of any manifest, and the manifest of any bytes, or what is wrong first, are the document's: the law's function returns true. -/

set_option linter.unusedVariables false
set_option linter.unusedSimpArgs false
set_option maxRecDepth 100000
open Go Go.Ab Go.Proofs V S T C
namespace W

/-! ### the document's model -/

/-! ### it is the code's -/

def Alike {α : Type} (bs : List UInt8) (R : α × Nat × Int) (D : α × List UInt8 × Int) : Prop := D.2.1 = bs.drop R.2.1 ∧ D.2.2 = R.2.2 ∧ (R.2.2 = 0 → D.1 = R.1)

theorem listR_err {α : Type} {one : Nat → Int → α × Nat × Int} {e : Int} (h : e ≠ 0) (k p : Nat) : listR one k p e = ([], p, e) := by
  cases k with
  | zero => rfl
  | succ k => simp only [listR, if_neg h]

/-! ### the document's walk -/

theorem dnumM_len (l : List UInt8) (e most : Int) : (dnumM l e most).2.1.length ≤ l.length := by
  unfold dnumM; split <;> simp
theorem dstrM_len (l : List UInt8) (e most : Int) : (dstrM l e most).2.1.length ≤ l.length := by
  unfold dstrM; repeat' split
  all_goals simp
theorem dnumM_most (l : List UInt8) (e most : Int) (h : 0 ≤ most) : 0 ≤ (dnumM l e most).1 ∧ (dnumM l e most).1 ≤ most := by
  unfold dnumM
  split
  · exact ⟨Int.le_refl _, h⟩
  · exact ⟨(lookM_le _ _).2.1, lookM_most _ _ h⟩
section
variable {Post : AV → List AObj → Prop}

/-! ### are they alike? -/

theorem cons_dec {α : Type} [DecidableEq α] (x y : α) (a b : List α) : decide (x :: a = y :: b) = (decide (x = y) && decide (a = b)) := by
  rw [Bool.eq_iff_iff]; simp

/-! ### the law -/

end
end W
end

section
/- Events: which may be, and which are alike. -/

set_option linter.unusedVariables false
set_option linter.unusedSimpArgs false
set_option maxRecDepth 100000
open Go Go.Ab Go.Proofs V S T C
open W (sl1 cons_dec)
namespace E

/-- the answer r0, whatever lies in the heap -/
abbrev PA (r0 : AV) : AV → List AObj → Prop := fun r H' => ∃ l H2 r2, Sel 0 l H' H2 ∧ Le r (AV.ren (selR l H'.length) r2) ∧ (r2 = r0 ∧ H2 = [])
theorem pa {r r0 : AV} {H' : List AObj} (h : Le r (AV.ren (selR [] H'.length) r0)) : PA r0 r H' := ⟨[], [], r0, Sel.none, h, rfl, rfl⟩

/-! ### alike -/

/-! ### which may be -/

/-- of a kind, the needs' number, the ticks, the ticket, the body's length -/
def evP (k : Int) (A : Nat) (t n : Int) (B : Nat) : Prop := (0 ≤ t ∧ t ≤ 1099511627776) ∧ (k ≠ 1 → A = 0 ∧ t = 0) ∧ ((k = 3 ∨ k = 4) → 1 ≤ n ∧ n ≤ 1099511627776 ∧ B ≤ 9000 ∧ (k = 3 ∨ B = 0)) ∧ (¬ (k = 3 ∨ k = 4) → n = 0 ∧ B = 0 ∧ (k = 1 ∨ k = 2))
instance (k : Int) (A : Nat) (t n : Int) (B : Nat) : Decidable (evP k A t n B) := by unfold evP; infer_instance
section
variable {e : Ev}
end

/-! ### are they large? -/

/-! ### the example -/

end E
end

section
/- What was put of a manifest is read; what is read is put so. -/

set_option linter.unusedVariables false
set_option linter.unusedSimpArgs false
set_option maxRecDepth 100000
open Go Go.Ab Go.Proofs V S T C
namespace W

/-! ### what was put is read -/

def Back {α : Type} (bytes : α → List UInt8) (one : List UInt8 → Nat → Int → α × Nat × Int) (x : α) : Prop :=
  ∀ pre rest, one (pre ++ bytes x ++ rest) pre.length 0 = (x, pre.length + (bytes x).length, 0)

theorem num_back {x most : Int} (h0 : 0 ≤ x) (h1 : x ≤ most) (h2 : most ≤ 1099511627776) : Back numB (fun bs p e => numM bs p e most) x := by
  intro pre rest
  have hh := held_of (x := x) h0 (by omega)
  have hd : (pre ++ numB x ++ rest).drop pre.length = enc (held x) ++ rest := by rw [List.append_assoc, List.drop_left]; rfl
  simp only [numM, if_neg (show ¬ ((0 : Int) ≠ 0) by simp), hd, look_enc rest (v := held x) (most := most) (held_le x) (by omega)]
  rw [hh]; rfl

theorem str_back (pre s rest : List UInt8) (most : Int) (hs : (s.length : Int) ≤ most) (hl : s.length ≤ 1000000) :
    strM (pre ++ text s ++ rest) pre.length 0 most = (s, pre.length + (text s).length, 0) := by
  have hh := held_of (x := (s.length : Int)) (by omega) (by omega)
  have hh : held s.length = s.length := by omega
  have hd : (pre ++ text s ++ rest).drop pre.length = enc s.length ++ (s ++ rest) := by
    rw [List.append_assoc, List.drop_left, text, hh, List.append_assoc]
  have hd2 : (pre ++ text s ++ rest).drop (pre.length + (enc s.length).length) = s ++ rest := by
    rw [← List.drop_drop, hd, List.drop_left]
  have hk := look_enc (s ++ rest) (v := s.length) (most := most) (by omega) hs
  have hlen : (text s).length = (enc s.length).length + s.length := by rw [text, hh, List.length_append]
  simp only [strM, if_neg (show ¬ ((0 : Int) ≠ 0) by simp), hd, hk]
  rw [if_neg (by simp only [List.length_append, hlen]; omega), hd2, hlen]
  simp [Nat.add_assoc]

theorem text_back {s : List UInt8} {most : Int} (h : (s.length : Int) ≤ most) (hl : s.length ≤ 1000000) : Back text (fun bs p e => strM bs p e most) s :=
  fun pre rest => str_back pre s rest most h hl

theorem listR_back {α : Type} {bytes : α → List UInt8} {one : List UInt8 → Nat → Int → α × Nat × Int} : ∀ (l : List α), (∀ x ∈ l, Back bytes one x) → ∀ pre rest,
    listR (one (pre ++ l.flatMap bytes ++ rest)) l.length pre.length 0 = (l, pre.length + (l.flatMap bytes).length, 0)
  | [], _, pre, rest => by simp [listR]
  | x :: r, h, pre, rest => by
    have hx := h x (by simp) pre (r.flatMap bytes ++ rest)
    have hr := listR_back r (fun y hy => h y (by simp [hy])) (pre ++ bytes x) rest
    simp only [List.flatMap_cons, List.append_assoc, List.length_append, List.length_cons] at hx hr ⊢
    simp only [listR, if_pos, hx, hr]
    rw [Nat.add_assoc]

theorem listM_back {α : Type} {bytes : α → List UInt8} {one : List UInt8 → Nat → Int → α × Nat × Int} {most : Int} (l : List α) (h : ∀ x ∈ l, Back bytes one x) (hl : (l.length : Int) ≤ most) (h2 : most ≤ 1099511627776) :
    ∀ pre rest, listM (one (pre ++ (numB l.length ++ l.flatMap bytes) ++ rest)) (pre ++ (numB l.length ++ l.flatMap bytes) ++ rest) pre.length 0 most = (l, pre.length + (numB l.length ++ l.flatMap bytes).length, 0) := by
  intro pre rest
  have e1 := num_back (x := (l.length : Int)) (most := most) (by omega) hl h2 pre (l.flatMap bytes ++ rest)
  have e2 := listR_back l h (pre ++ numB l.length) rest
  simp only [List.append_assoc, List.length_append] at e1 e2 ⊢
  simp only [listM, e1, Int.toNat_natCast, e2]
  rw [Nat.add_assoc]

/-! ### what is read is put so -/

theorem scan_canon : ∀ (f : Nat) (s : List UInt8) (x i n k : Nat), scan f s x i = .inr (n, k) → (0 < x ∨ s.head? ≠ some 128) → lead x ++ s = enc n ++ s.drop (k - i)
  | 0, s, x, i, n, k, h, _ => by simp [scan] at h
  | f + 1, [], x, i, n, k, h, _ => by simp [scan] at h
  | f + 1, c :: s, x, i, n, k, h, hx => by
    have hc := c.toNat_lt
    simp only [scan] at h
    split at h
    · rename_i hge
      have hk := scan_le _ _ _ _ _ _ h
      have hpos : 0 < x * 128 + c.toNat % 128 := by
        rcases hx with hx | hx
        · omega
        · have : c.toNat ≠ 128 := fun hh => hx (by
            have : c = 128 := UInt8.toNat_inj.1 (by rw [hh]; rfl)
            rw [this]; rfl)
          omega
      have := scan_canon f s _ _ _ _ h (.inl hpos)
      rw [lead_pos hpos, show (x * 128 + c.toNat % 128) / 128 = x by omega, show 128 + (x * 128 + c.toNat % 128) % 128 = c.toNat by omega, UInt8.ofNat_toNat, List.append_assoc, List.singleton_append] at this
      rw [this, show k - i = (k - (i + 1)) + 1 by omega, List.drop_succ_cons]
    · rename_i hlt
      simp only [Sum.inr.injEq, Prod.mk.injEq] at h
      obtain ⟨rfl, rfl⟩ := h
      rw [show i + 1 - i = 1 by omega]
      unfold enc
      rw [show (x * 128 + c.toNat % 128) / 128 = x by omega, show (x * 128 + c.toNat % 128) % 128 = c.toNat by omega, UInt8.ofNat_toNat]
      simp

theorem look_canon {s : List UInt8} {most : Int} (h : (lookM s most).2.2 = 0) : s = numB (lookM s most).1 ++ s.drop (lookM s most).2.1 := by
  cases s with
  | nil => simp [lookM] at h
  | cons c s =>
    simp only [lookM] at h ⊢
    split at h
    · simp at h
    · rename_i hc
      simp only [if_neg hc]
      split at h
      · rename_i e hs
        simp only at h
        subst h
        exact absurd hs (by
          intro hs
          have : ∀ (f : Nat) (s : List UInt8) (x i : Nat), scan f s x i ≠ .inl 0 := by
            intro f
            induction f with
            | zero => intro s x i hh; simp [scan] at hh
            | succ f ih =>
              intro s x i hh
              cases s with
              | nil => simp [scan] at hh
              | cons c s =>
                simp only [scan] at hh
                split at hh
                · exact ih _ _ _ hh
                · cases hh
          exact this _ _ _ _ hs)
      · rename_i n k hs
        split at h
        · simp at h
        · rename_i hn
          simp only [hs, if_neg hn]
          have := scan_canon 6 (c :: s) 0 0 n k hs (.inr (by simpa using hc))
          rw [lead_zero, List.nil_append, Nat.sub_zero] at this
          have hh : held (n : Int) = n := by
            have := held_of (x := (n : Int)) (by omega) (by omega)
            omega
          rw [numB, hh]; exact this

def Canon {α : Type} (bytes : α → List UInt8) (one : List UInt8 → Nat → Int → α × Nat × Int) : Prop :=
  ∀ bs p e, (one bs p e).2.2 = 0 → e = 0 ∧ bs.drop p = bytes (one bs p e).1 ++ bs.drop (one bs p e).2.1

theorem num_canon (most : Int) : Canon numB (fun bs p e => numM bs p e most) := by
  intro bs p e h
  simp only [numM] at h ⊢
  split at h
  · rename_i he; exact absurd h he
  · rename_i he
    simp only [if_neg he]
    refine ⟨by omega, ?_⟩
    rw [← List.drop_drop]
    exact look_canon h

theorem text_canon (most : Int) : Canon text (fun bs p e => strM bs p e most) := by
  intro bs p e h
  simp only [strM] at h ⊢
  split at h
  · rename_i he; exact absurd h he
  rename_i he
  split at h
  · rename_i h1; exact absurd h h1
  rename_i h1
  split at h
  · simp at h
  rename_i h2
  simp only [if_neg he, if_neg h1, if_neg h2]
  refine ⟨by omega, ?_⟩
  have hc := look_canon (s := bs.drop p) (most := most) (by simpa using h1)
  have hl := lookM_le (bs.drop p) most
  generalize lookM (bs.drop p) most = q at h2 hc hl ⊢
  obtain ⟨n, k, er⟩ := q
  simp only at h2 hc hl ⊢
  have hlen : ((bs.drop (p + k)).take n.toNat).length = n.toNat := by
    rw [List.length_take, List.length_drop]; omega
  rw [List.drop_drop] at hc
  rw [hc, text, hlen, show numB n = enc (held (n.toNat : Int)) by rw [numB, show ((n.toNat : Int)) = n by omega], List.append_assoc]
  congr 1
  rw [show bs.drop (p + k + n.toNat) = (bs.drop (p + k)).drop n.toNat by rw [List.drop_drop], List.take_append_drop]

theorem listR_canon {α : Type} {bytes : α → List UInt8} {one : List UInt8 → Nat → Int → α × Nat × Int} (hc : Canon bytes one) (bs : List UInt8) : ∀ (k p : Nat) (e : Int), (listR (one bs) k p e).2.2 = 0 →
    e = 0 ∧ (listR (one bs) k p e).1.length = k ∧ bs.drop p = (listR (one bs) k p e).1.flatMap bytes ++ bs.drop (listR (one bs) k p e).2.1
  | 0, p, e, h => by
    simp only [listR] at h ⊢
    exact ⟨h, rfl, by simp⟩
  | k + 1, p, e, h => by
    simp only [listR] at h ⊢
    split at h
    · rename_i he
      simp only [if_pos he]
      obtain ⟨a, b, c⟩ := listR_canon hc bs k _ _ h
      obtain ⟨d, f⟩ := hc bs p e a
      refine ⟨he, by rw [List.length_cons, b], ?_⟩
      rw [f, c, List.flatMap_cons, List.append_assoc]
    · rename_i he
      exact absurd h he

theorem listM_canon {α : Type} {bytes : α → List UInt8} {one : List UInt8 → Nat → Int → α × Nat × Int} (hc : Canon bytes one) {most : Int} (hm : 0 ≤ most) : ∀ bs p e, (listM (one bs) bs p e most).2.2 = 0 →
    e = 0 ∧ bs.drop p = numB (listM (one bs) bs p e most).1.length ++ (listM (one bs) bs p e most).1.flatMap bytes ++ bs.drop (listM (one bs) bs p e most).2.1 := by
  intro bs p e h
  simp only [listM] at h ⊢
  obtain ⟨a, b, c⟩ := listR_canon hc bs _ _ _ h
  obtain ⟨d, f⟩ := num_canon most bs p e a
  have m1 := numM_most bs p e most hm
  simp only at f
  refine ⟨d, ?_⟩
  rw [b, f, c, List.append_assoc, show (((numM bs p e most).1.toNat : Nat) : Int) = (numM bs p e most).1 by omega]

theorem closeM_zero {e : Int} {n : Nat} (h : closeM e n = 0) : e = 0 ∧ n = 0 := by
  unfold closeM at h
  split at h
  · rename_i he; exact absurd h he
  · split at h
    · simp at h
    · exact ⟨by omega, by omega⟩

/-! ### the law -/

section
variable {Post : AV → List AObj → Prop}

end
end W
end

section
/- Events out of bytes: what the code reads. -/

set_option linter.unusedVariables false
set_option linter.unusedSimpArgs false
set_option maxRecDepth 100000
open Go Go.Ab Go.Proofs V S T C
open W (sl1 cons_dec listR listM numM_p strM_p numM_most strM_len listM_p listM_len listR_len listR_all Inside)
namespace E

/-! ### the model -/

/-! ### needs -/

section
variable {bs : List UInt8} {p : Nat} {e : Int} {Post : AV → List AObj → Prop}

/-! ### one event -/

end
end E
end

section
/- Events as bytes and back: plain laws. -/

set_option linter.unusedVariables false
set_option linter.unusedSimpArgs false
set_option maxRecDepth 100000
open Go Go.Ab Go.Proofs V S T C
open W (numB text listM listR numM_most numM_p strM_p strM_len Back Canon num_back text_back listM_back listR_back num_canon text_canon listM_canon listR_canon closeM_zero numB_len text_len flat_len)
namespace E

end E
end

section
/- Events out of bytes: the document's reader. -/

set_option linter.unusedVariables false
set_option linter.unusedSimpArgs false
set_option maxRecDepth 100000
open Go Go.Ab Go.Proofs V S T C
open W (sl1 dnumM_len dstrM_len dnumM_most Alike listR listM listR_err Inside)
namespace E

/-! ### the document's model -/

def dG {α : Type} (one : List UInt8 → Int → α × List UInt8 × Int) : Nat → List UInt8 → Int → List α × List UInt8 × Int
  | 0, l, e => ([], l, e)
  | k + 1, l, e => if e = 0 then ((one l e).1 :: (dG one k (one l e).2.1 (one l e).2.2).1, (dG one k (one l e).2.1 (one l e).2.2).2) else ([], l, e)

theorem alikeG {α : Type} {bs : List UInt8} {one : Nat → Int → α × Nat × Int} {done : List UInt8 → Int → α × List UInt8 × Int} (h1 : ∀ p e, p ≤ bs.length → Alike bs (one p e) (done (bs.drop p) e)) (hin : Inside bs one) :
    ∀ (k p : Nat) (e : Int), p ≤ bs.length → Alike bs (listR one k p e) (dG done k (bs.drop p) e)
  | 0, p, e, hp => ⟨rfl, rfl, fun _ => rfl⟩
  | k + 1, p, e, hp => by
    by_cases he : e = 0
    · obtain ⟨a1, a2, a3⟩ := h1 p e hp
      obtain ⟨b1, b2, b3⟩ := alikeG h1 hin k (one p e).2.1 (one p e).2.2 (hin p e hp)
      simp only [listR, if_pos he, dG, a1, a2]
      refine ⟨b1, b2, fun h0 => ?_⟩
      have hz : (one p e).2.2 = 0 := by
        by_cases hz : (one p e).2.2 = 0
        · exact hz
        · simp only [listR_err hz] at h0
          exact h0
      show _ :: _ = _ :: _
      rw [a3 hz, b3 h0]
    · rw [listR_err he]
      simp only [dG, if_neg he]
      exact ⟨rfl, rfl, fun h => (he h).elim⟩

/-! ### the walk -/

section
variable {Post : AV → List AObj → Prop}

end
end E
end

section
/- EventBytes: the bytes of any events, and the events of any bytes, or what is wrong first, are the document's: the law's function returns true. -/

set_option linter.unusedVariables false
set_option linter.unusedSimpArgs false
set_option maxRecDepth 100000
open Go Go.Ab Go.Proofs V S T C
open W (sl1 numB text lenL leTwo leTok put1M put2M numB_len text_len flat_len cons_dec)
namespace E

section
variable {Post : AV → List AObj → Prop}

/-! ### what is put -/

/-! ### what is read -/

end
end E
end

section
/- The library of earlier texts: events and manifests out of bytes. -/
end

section
/- A pick put among picks: what the library's Insert computes. -/

set_option linter.unusedVariables false
set_option linter.unusedSimpArgs false
set_option maxRecDepth 100000
open Go Go.Ab Go.Proofs V S T C
open In
namespace Pc

noncomputable abbrev slK (l : List Pk) : AV := .sl 2 (.map encPk noPk l) .none
section
variable {s : List Pk} {p : Pk} {i : Nat} (hi : i ≤ s.length) (hl : s.length ≤ 1000000)
include hi hl

end

end Pc
end

section
/- Where a pick stands, or would stand: what the code computes. -/

set_option linter.unusedVariables false
set_option linter.unusedSimpArgs false
set_option maxRecDepth 100000
open Go Go.Ab Go.Proofs V S T C
open E (PA pa)
open In
open Go.Proofs
namespace Pc

end Pc
end

section
/- pick.Put: what the code computes, of some picks. -/

set_option linter.unusedVariables false
set_option linter.unusedSimpArgs false
set_option maxRecDepth 100000
open Go Go.Ab Go.Proofs V S T C
open E (PA pa)
open In
namespace Pc

theorem renPk (ρ : Nat → Nat) (x : Pk) : renL ρ (encPk x) = encPk x := rfl
theorem slKLe {ρ : Nat → Nat} (l : List Pk) (tip : Tip) : Le (.sl 2 (.map encPk noPk l) tip) (AV.ren ρ (slK l)) := Le.sl (s' := Seq.ren _ (.map encPk noPk l)) (by simp [Ab.Seq.toList, Seq.ren, renPk]) (.inl rfl) (.inr rfl)

end Pc
end

section
/- pick.Put: what the code computes, of any picks. -/

set_option linter.unusedVariables false
set_option linter.unusedSimpArgs false
set_option maxRecDepth 100000
open Go Go.Ab Go.Proofs V S T C
open E (PA pa)
namespace Pc

end Pc
end

section
/- The order of names, and looking for one by halves: plain laws. -/

set_option linter.unusedVariables false
set_option linter.unusedSimpArgs false
open Go Go.Ab Go.Proofs V S T C
namespace Dp

/-! ### entries that may be -/

end Dp
end

section
/- Picks that rise: the place of a name, what is put, got, dropped: plain laws. -/

set_option linter.unusedVariables false
set_option linter.unusedSimpArgs false
open Go Go.Ab Go.Proofs V S T C
namespace Pc
end Pc
end

section
/- Picks: what the program's and the document's functions compute. -/

set_option linter.unusedVariables false
set_option linter.unusedSimpArgs false
set_option maxRecDepth 100000
open Go Go.Ab Go.Proofs V S T C
open E (PA pa)
open Pc (slK slKLe renPk)
namespace Dk
abbrev Nm := List UInt8
theorem nameEq (a b : List UInt8) : ((B a).toList == (B b).toList) = decide (a = b) := by
  rw [B_toList, B_toList, Bool.eq_iff_iff]; simp
theorem getD_mem {α : Type} {l : List α} {d : α} {i : Nat} (h : i < l.length) : l.getD i d ∈ l := by
  rw [List.getD_eq_getElem?_getD, List.getElem?_eq_getElem h]; exact List.getElem_mem h
/-! ### Drop -/
/-! ### Put -/
/-! ### are picks alike? -/
theorem rsameP4 {a b : List Pk} (hl : a.length ≤ 100000) (hab : a.length = b.length) : ∀ (m i : Nat), m + i = a.length →
    AWP Tryd.prog 26 0 c37_4 [(0, slK a), (1, slK b), (5, .int .i64 i)] [] (q37_2 0 (fun r H' => r = .bool (decide (a.drop i = b.drop i)) ∧ H' = [])) := by
  intro m
  induction m with
  | zero =>
    intro i hm
    refine v37_4 _ _ _ _ _ (condD (fun hc => by omega) fun _ => ?_)
    rw [List.drop_eq_nil_of_le (by omega), List.drop_eq_nil_of_le (by omega)]
    exact ⟨rfl, rfl⟩
  | succ m ih =>
    intro i hm
    have h := ih (i + 1) (by omega)
    refine v37_4 _ _ _ _ _ (condD (fun hc => needJ ⟨by omega, by omega⟩ (needJ ⟨by omega, by omega⟩ ?_)) fun hc => by omega)
    rw [Int.toNat_natCast, succ64 (by omega), dropD a noPk i (by omega), dropD b noPk i (by omega)]
    generalize a.getD i noPk = y
    generalize b.getD i noPk = z
    rw [nameEq, Bool.and_true]
    have e : (!(decide (y.1 = z.1) && y.2 == z.2)) = decide (y ≠ z) := by
      rw [Bool.eq_iff_iff]
      simp only [Bool.not_eq_true', Bool.and_eq_false_iff, decide_eq_false_iff_not, beq_eq_false_iff_ne, decide_eq_true_eq]
      obtain ⟨y1, y2⟩ := y
      obtain ⟨z1, z2⟩ := z
      simp only [ne_eq, Prod.mk.injEq, not_and]
      constructor
      · rintro (h | h)
        · exact fun h' => (h h').elim
        · exact fun _ => h
      · intro h
        by_cases h1 : y1 = z1
        · exact .inr (h h1)
        · exact .inl h1
    rw [e]
    refine condD (fun h1 => ⟨?_, rfl⟩) fun h1 => ?_
    · rw [decide_eq_false (fun hq => h1 (List.cons.inj hq).1)]
    · have h2 : y = z := Classical.byContradiction h1
      subst h2
      have e2 : decide (y :: a.drop (i + 1) = y :: b.drop (i + 1)) = decide (a.drop (i + 1) = b.drop (i + 1)) := by rw [decide_eq_decide]; simp
      rw [e2]; exact h
theorem rsameP_spec (a b : List Pk) (hl : a.length ≤ 100000) (H : List AObj) : ASpec Tryd.prog 37 [slK a, slK b] H (fun r H' => r = .bool (decide (a = b)) ∧ H' = H) := by
  have k : ASpec Tryd.prog 37 [slK a, slK b] [] (fun r H' => r = .bool (decide (a = b)) ∧ H' = []) := by
    refine s37 _ _ _ (condNe (fun h => ⟨?_, rfl⟩) fun h => ?_)
    · rw [decide_eq_false (fun hq => h (by rw [hq]))]
    · exact rsameP4 hl (by omega) a.length 0 (by omega)
  exact ASpec.pureH H k _ _ rfl rfl
/-! ### Large -/
def largeF : List Pk → Bool
  | [] => false
  | p :: r => if 200 < p.1.length then true else largeF r
def largeK (s : List Pk) : Bool := if 60 < s.length then true else largeF s
theorem largeF_ok : ∀ {s : List Pk}, largeF s = false → ∀ p ∈ s, p.1.length ≤ 200
  | [], _, p, hp => by simp at hp
  | x :: r, h, p, hp => by
    simp only [largeF] at h
    split at h
    · cases h
    · rcases List.mem_cons.1 hp with rfl | hp
      · omega
      · exact largeF_ok h p hp
theorem largeK_ok {s : List Pk} (h : largeK s = false) : s.length ≤ 60 ∧ ∀ p ∈ s, p.1.length ≤ 200 := by
  unfold largeK at h
  split at h
  · cases h
  · exact ⟨by omega, largeF_ok h⟩
theorem large4 {s : List Pk} {c : Bool} (hl : s.length ≤ 60) : ∀ (m i : Nat), m + i = s.length → largeF (s.drop i) = c →
    AWP Tryd.prog 20 0 c30_4 [(0, slK s), (3, .int .i64 i)] [] (q30_2 0 (PA (.bool c))) := by
  intro m
  induction m with
  | zero =>
    intro i hm h
    refine v30_4 _ _ _ _ (condD (fun hc => by omega) fun _ => ?_)
    rw [List.drop_eq_nil_of_le (by omega)] at h
    subst h
    exact pa (Le.refl _)
  | succ m ih =>
    intro i hm h
    rw [dropD s noPk i (by omega)] at h
    simp only [largeF] at h
    refine v30_4 _ _ _ _ (condD (fun hc => needJ ⟨by omega, by omega⟩ ?_) fun hc => by omega)
    rw [Int.toNat_natCast, succ64 (by omega)]
    generalize s.getD i noPk = p at h ⊢
    rw [B_size]
    refine condD (fun h1 => ?_) fun h1 => ?_
    · rw [if_pos (by omega)] at h; subst h; exact pa (Le.refl _)
    · rw [if_neg (by omega)] at h; exact ih (i + 1) (by omega) h
theorem large_spec (s : List Pk) (H : List AObj) : ASpec Tryd.prog 30 [slK s] H (fun r H' => r = .bool (largeK s) ∧ H' = H) := by
  have k : ASpec Tryd.prog 30 [slK s] [] (fun r H' => r = .bool (largeK s) ∧ H' = []) := by
    refine ASpec.sel (s30 _ _ (condD (fun h => ?_) fun h => ?_))
    · rw [largeK, if_pos (by omega)]; exact pa (Le.refl _)
    · refine large4 (by omega) s.length 0 (by omega) ?_
      rw [largeK, if_neg (by omega)]; rfl
  exact ASpec.pureH H k _ _ rfl rfl

/-! ### Check -/
noncomputable def fitP (p : Pk) : Bool := fitM p.1 && decide (0 ≤ p.2 ∧ p.2 < 1000000000)
noncomputable def chkF : Option Nm → List Pk → Bool
  | _, [] => true
  | o, p :: r => if fitP p = false then false else match o with
    | none => chkF (some p.1) r
    | some q => if (Op.bytesLess p.1 q || p.1 == q) = true then false else chkF (some p.1) r
def prevN (s : List Pk) : Nat → Option Nm
  | 0 => none
  | i + 1 => some (s.getD i noPk).1
theorem fitP_spec (p : Pk) (hp : p.1.length ≤ 10 * big) (H : List AObj) : ASpec Tryd.prog 130 [.agg (encPk p)] H (fun r H' => r = .bool (fitP p) ∧ H' = H) := by
  have k : ASpec Tryd.prog 130 [.agg (encPk p)] [] (fun r H' => r = .bool (fitP p) ∧ H' = []) := by
    refine ASpec.sel (s130 _ _ (ASpec.call (fit_spec (l := p.1) hp _) (Les.refl _) ⟨_, rfl, rfl, ?_⟩))
    unfold fitP
    refine condB (fun h => condD (fun h2 => pa ?_) fun h2 => pa ?_) fun h => pa ?_
    · rw [h, Bool.true_and]
      have : decide (p.2 < 1000000000) = decide (0 ≤ p.2 ∧ p.2 < 1000000000) := by rw [decide_eq_decide]; omega
      rw [this]; exact Le.refl _
    · rw [decide_eq_false (p := 0 ≤ p.2 ∧ p.2 < 1000000000) (by omega), Bool.and_false]; exact Le.refl _
    · rw [h, Bool.false_and]; exact Le.refl _
  exact ASpec.pureH H k _ _ rfl rfl
theorem prev_some {s : List Pk} {i : Nat} (h : 0 < i) : prevN s i = some (s.getD (i - 1) noPk).1 := by
  cases i with
  | zero => omega
  | succ i => rfl
section
variable {s : List Pk} (hl : s.length ≤ 100000) (hn : ∀ p ∈ s, p.1.length ≤ 10 * big)
include hl hn
theorem chk2 {c : Bool} : ∀ (m i : Nat), m + i = s.length → chkF (prevN s i) (s.drop i) = c →
    AWP Tryd.prog 31 0 c79_2 [(0, slK s), (5, slK s), (6, .int .i64 s.length), (7, .int .i64 i)] [] (q79_2 0 (PA (.bool c))) := by
  intro m
  induction m with
  | zero =>
    intro i hm h
    refine v79_2 _ _ _ _ _ _ (condD (fun hc => by omega) fun _ => ?_)
    rw [List.drop_eq_nil_of_le (by omega)] at h
    have h' : true = c := by rw [← h]; cases prevN s i <;> rfl
    subst h'
    exact pa (Le.refl _)
  | succ m ih =>
    intro i hm h
    have hp := hn _ (getD_mem (d := noPk) (show i < s.length by omega))
    have hnx := ih (i + 1) (by omega)
    rw [dropD s noPk i (by omega)] at h
    have e1 : prevN s (i + 1) = some (s.getD i noPk).1 := rfl
    rw [e1] at hnx
    refine v79_2 _ _ _ _ _ _ (condD (fun hc => needJ ⟨by omega, by omega⟩ ?_) fun hc => by omega)
    rw [Int.toNat_natCast, succ64 (by omega)]
    generalize s.getD i noPk = p at h hp hnx ⊢
    refine ASpec.call (fitP_spec p (by omega) _) (Les.refl _) ⟨_, rfl, rfl, condBn (fun h1 => ?_) fun h1 => ?_⟩
    · have : c = false := by rw [← h]; simp only [chkF, h1, if_true]
      subst this
      exact pa (Le.refl _)
    have fin : ∀ o : AObj, chkF (some p.1) (s.drop (i + 1)) = c → AWP Tryd.prog 31 0 c79_2 [(0, slK s), (5, slK s), (6, .int .i64 s.length), (7, .int .i64 ((i + 1 : Nat) : Int))] [o] (q79_2 0 (PA (.bool c))) := fun o hc =>
      AWP.shape [] [(0, slK s), (5, slK s), (6, .int .i64 s.length), (7, .int .i64 (i + 1 : Nat))] [] Sel.none ⟨rfl, slKLe _ _, rfl, slKLe _ _, rfl, Le.refl _, rfl, Le.refl _, trivial⟩ (hnx hc)
    refine condD (fun h2 => needJ ⟨?_, ?_⟩ ?_) fun h2 => fin _ ?_
    · rw [wrap64 (by omega) (by omega)]; omega
    · rw [wrap64 (by omega) (by omega)]; omega
    · rw [wrap64 (by omega) (by omega), show ((i : Int) - 1).toNat = i - 1 by omega, B_toList, B_toList]
      rw [prev_some (by omega)] at h
      simp only [chkF, h1, Bool.true_eq_false, if_false] at h
      refine condB (fun h3 => ?_) fun h3 => fin _ ?_
      · rw [if_pos h3] at h; subst h; exact pa (Le.refl _)
      · rw [if_neg (by rw [h3]; simp)] at h; exact h
    · have : i = 0 := by omega
      subst this
      simp only [prevN, chkF, h1, Bool.true_eq_false, if_false] at h
      exact h
theorem chk_spec (H : List AObj) : ASpec Tryd.prog 79 [slK s] H (fun r H' => r = .bool (chkF none s) ∧ H' = H) := by
  have k : ASpec Tryd.prog 79 [slK s] [] (fun r H' => r = .bool (chkF none s) ∧ H' = []) := ASpec.sel (s79 _ _ (chk2 hl hn s.length 0 (by omega) rfl))
  exact ASpec.pureH H k _ _ rfl rfl
end
/-- the document's Fit, of any text -/
theorem rfit_any (l : Nm) (H : List AObj) : ASpec Tryd.prog 59 [.str (B l)] H (fun r H' => r = .bool (fitM l) ∧ H' = H) := by
  by_cases h : l.length ≤ 10 * big
  · exact rfit_spec h H
  · have hf : fitM l = false := by
      cases hb : fitM l with
      | false => rfl
      | true => have := fitM_short hb; unfold big at h; omega
    have k : ASpec Tryd.prog 59 [.str (B l)] [] (fun r H' => r = .bool (fitM l) ∧ H' = []) := by
      refine ASpec.sel (s59 _ _ (condD (fun _ => ?_) fun h2 => ?_))
      · rw [hf]; exact pa (Le.refl _)
      · rw [B_size] at h2; unfold big at h; omega
    exact ASpec.pureH H k _ _ rfl rfl
section
variable {s : List Pk} (hl : s.length ≤ 100000)
include hl
theorem rchk2 {c : Bool} : ∀ (m i : Nat), m + i = s.length → chkF (prevN s i) (s.drop i) = c →
    AWP Tryd.prog 44 0 c31_2 [(0, slK s), (3, .int .i64 i)] [] (q31_2 0 (PA (.bool c))) := by
  intro m
  induction m with
  | zero =>
    intro i hm h
    refine v31_2 _ _ _ _ (condD (fun hc => by omega) fun _ => ?_)
    rw [List.drop_eq_nil_of_le (by omega)] at h
    have h' : true = c := by rw [← h]; cases prevN s i <;> rfl
    subst h'
    exact pa (Le.refl _)
  | succ m ih =>
    intro i hm h
    have hnx := ih (i + 1) (by omega)
    rw [dropD s noPk i (by omega)] at h
    have e1 : prevN s (i + 1) = some (s.getD i noPk).1 := rfl
    rw [e1] at hnx
    have hin : (0 : Int) ≤ (i : Int) ∧ (i : Int) < (s.length : Int) := ⟨by omega, by omega⟩
    refine v31_2 _ _ _ _ (condD (fun hc => needJ hin ?_) fun hc => by omega)
    rw [Int.toNat_natCast, succ64 (by omega)]
    generalize s.getD i noPk = p at h hnx ⊢
    have bad : fitP p = false → c = false := fun h1 => by rw [← h]; simp only [chkF, h1, if_true]
    refine ASpec.call (rfit_any p.1 _) (Les.refl _) ⟨_, rfl, rfl, condBn (fun h1 => ?_) fun h1 => needJ hin ?_⟩
    · have := bad (by unfold fitP; rw [h1]; rfl)
      subst this
      exact pa (Le.refl _)
    refine ASpec.call (verFit_spec p.2 _) (Les.refl _) ⟨_, rfl, rfl, condBn (fun h1v => ?_) fun h1v => ?_⟩
    · have := bad (by unfold fitP; rw [h1, h1v]; rfl)
      subst this
      exact pa (Le.refl _)
    have h1 : fitP p = true := by unfold fitP; rw [h1, h1v]; rfl
    refine condD (fun h2 => needJ hin (needJ ⟨?_, ?_⟩ ?_)) fun h2 => hnx ?_
    · rw [wrap64 (by omega) (by omega)]; omega
    · rw [wrap64 (by omega) (by omega)]; omega
    · rw [wrap64 (by omega) (by omega), show ((i : Int) - 1).toNat = i - 1 by omega, B_toList, B_toList]
      rw [prev_some (by omega)] at h
      simp only [chkF, h1, Bool.true_eq_false, if_false] at h
      refine condB (fun h3 => ?_) fun h3 => hnx ?_
      · rw [if_pos h3] at h; subst h; exact pa (Le.refl _)
      · rw [if_neg (by rw [h3]; simp)] at h; exact h
    · have : i = 0 := by omega
      subst this
      simp only [prevN, chkF, h1, Bool.true_eq_false, if_false] at h
      exact h
theorem rchk_spec (H : List AObj) : ASpec Tryd.prog 31 [slK s] H (fun r H' => r = .bool (chkF none s) ∧ H' = H) := by
  have k : ASpec Tryd.prog 31 [slK s] [] (fun r H' => r = .bool (chkF none s) ∧ H' = []) := ASpec.sel (s31 _ _ (rchk2 hl s.length 0 (by omega) rfl))
  exact ASpec.pureH H k _ _ rfl rfl
end
/-! ### Same -/
/-! ### Get -/
end Dk
end

section
/- Picks: one is taken out, by the program. -/

set_option linter.unusedVariables false
set_option linter.unusedSimpArgs false
set_option maxRecDepth 100000
open Go Go.Ab Go.Proofs V S T C
open E (PA pa)
open Pc (slK slKLe renPk)
namespace Dk
/-! ### where -/
/-! ### what stays -/
end Dk
end

section
/- Printed: what the code of functions 156, 155, 146, 121 asks for, by the framework's own reading of it; each line is checked against the code. -/

set_option linter.unusedVariables false
set_option maxRecDepth 100000
set_option maxHeartbeats 4000000
open Go Go.Ab Go.Proofs
namespace D
noncomputable section

noncomputable def retL : List (Nat × Ret) := [
  (146, ⟨(Int × Int × Int) × Bool, fun _ _ x => .tup [.agg [.int .i64 x.1.1, .int .i64 x.1.2.1, .int .i64 x.1.2.2], .bool x.2], fun _ H _ => H⟩),
  (121, ⟨ByteArray, fun _ _ x => .str x, fun _ H _ => H⟩),
  (156, ⟨Unit, fun _ _ x => .agg [.int .i64 1000000, .int .i64 1000, .int .i64 1], fun _ H _ => H⟩),
  (155, ⟨Bool, fun _ _ x => .bool x, fun _ H _ => H⟩),
  (9070, ⟨Int × Bool, fun _ _ x => .tup [.int .i64 x.1, .bool x.2], fun _ H _ => H⟩),
  (9053, ⟨Int × Bool, fun _ _ x => .tup [.int .i64 x.1, .bool x.2], fun _ H _ => H⟩),
  (86, ⟨ByteArray, fun _ _ x => .str x, fun _ H _ => H⟩)]
noncomputable def rets : FuncId → List Ret := lookupR retL

-- 156
noncomputable def l156 : Nat → List Nat
  | _ => []
noncomputable def u156 : Nat → Bool
  | _ => false
noncomputable def m156 : Nat → Bool
  | _ => false
noncomputable def g156 : Cfg := { N := 2, live := l156, cut := u156, mu := m156, ret := rets }
theorem s156 : ∀ (Post : AV → List AObj → Prop),
  Post (AV.agg [AV.int IntKind.i64 (1000000 : Int), AV.int IntKind.i64 (1000 : Int), AV.int IntKind.i64 (1 : Int)])
      [AObj.cells [AV.int IntKind.i64 (1000000 : Int), AV.int IntKind.i64 (1000 : Int), AV.int IntKind.i64 (1 : Int)]] →
    ASpec Tryd.prog 156 [] [] Post := fun Post h => Go.Ab.ASpec.of_vc g156 Go.Proofs.Tryd.func156 (by kernel_rfl) (by kernel_rfl) (by kernel_rfl) (Go.Ab.kc (by kernel_rfl) h)

-- 155
noncomputable def l155 : Nat → List Nat
  | _ => []
noncomputable def u155 : Nat → Bool
  | _ => false
noncomputable def m155 : Nat → Bool
  | _ => false
noncomputable def g155 : Cfg := { N := 9, live := l155, cut := u155, mu := m155, ret := rets }
theorem s155 : ∀ (p : Int) (Post : AV → List AObj → Prop),
  condP (decide (p ≥ (0 : Int))) (Post (AV.bool (decide (p < (1000000000 : Int)))) []) (Post (AV.bool false) []) → ASpec Tryd.prog 155 [AV.int IntKind.i64 p] [] Post := fun p Post h => Go.Ab.ASpec.of_vc g155 Go.Proofs.Tryd.func155 (by kernel_rfl) (by kernel_rfl) (by kernel_rfl) (Go.Ab.kc (by kernel_rfl) h)

-- 146
noncomputable def l146 : Nat → List Nat
  | 5 => [0, 2, 4, 12, 13]
  | _ => []
noncomputable def u146 : Nat → Bool
  | _ => false
noncomputable def m146 : Nat → Bool
  | _ => false
noncomputable def g146 : Cfg := { N := 25, live := l146, cut := u146, mu := m146, ret := rets }
noncomputable def c146 : Go.Code := Go.Ab.bodyOf Go.Proofs.Tryd.f146
noncomputable def q146_0 : Nat → (AV → List AObj → Prop) → AQ := fun (n : Nat) (Post : AV → List AObj → Prop) => endQ Tryd.prog (resultsOf Tryd.f146) Post
noncomputable def q146_1 : Nat → (AV → List AObj → Prop) → AQ := fun (n : Nat) (Post : AV → List AObj → Prop) => seqQ (fun (s' : Slots) (H' : List AObj) => awp Tryd.prog g146 n (codeSnd (codeSnd (codeSnd (codeSnd c146)))) s' H' (q146_0 n Post)) (q146_0 n Post)
noncomputable def q146_2 : Nat → (AV → List AObj → Prop) → AQ := fun (n : Nat) (Post : AV → List AObj → Prop) => blockQ 0 (q146_1 n Post)
noncomputable def c146_5 : Go.Code := codeFst (codeSnd (codeFst (codeSnd (codeSnd (codeSnd c146)))))
theorem s146 : ∀ (p : Int) (Post : AV → List AObj → Prop),
  (ASpec Tryd.prog 155 [AV.int IntKind.i64 p]
      [AObj.cells [AV.int IntKind.i64 (0 : Int), AV.int IntKind.i64 (0 : Int), AV.int IntKind.i64 (0 : Int)],
        AObj.cells [AV.int IntKind.i64 (0 : Int), AV.int IntKind.i64 (0 : Int), AV.int IntKind.i64 (0 : Int)]]
      fun (r : AV) (H' : List AObj) =>
      ∃ (x : Bool),
        r = AV.bool x ∧
         H' =
         [AObj.cells [AV.int IntKind.i64 (0 : Int), AV.int IntKind.i64 (0 : Int), AV.int IntKind.i64 (0 : Int)],
         AObj.cells [AV.int IntKind.i64 (0 : Int), AV.int IntKind.i64 (0 : Int), AV.int IntKind.i64 (0 : Int)]] ∧
         condP (!x)
         (Post (AV.tup [AV.agg [AV.int IntKind.i64 (0 : Int), AV.int IntKind.i64 (0 : Int), AV.int IntKind.i64 (0 : Int)], AV.bool false])
         [AObj.cells [AV.int IntKind.i64 (0 : Int), AV.int IntKind.i64 (0 : Int), AV.int IntKind.i64 (0 : Int)],
         AObj.cells [AV.int IntKind.i64 (0 : Int), AV.int IntKind.i64 (0 : Int), AV.int IntKind.i64 (0 : Int)]])
         (ASpec Tryd.prog 156 []
         [AObj.cells [AV.int IntKind.i64 (0 : Int), AV.int IntKind.i64 (0 : Int), AV.int IntKind.i64 (0 : Int)],
         AObj.cells [AV.int IntKind.i64 (0 : Int), AV.int IntKind.i64 (0 : Int), AV.int IntKind.i64 (0 : Int)]]
         fun (r : AV) (H' : List AObj) =>
         ∃ (x : Unit),
         r = AV.agg [AV.int IntKind.i64 (1000000 : Int), AV.int IntKind.i64 (1000 : Int), AV.int IntKind.i64 (1 : Int)] ∧
         H' =
         [AObj.cells [AV.int IntKind.i64 (0 : Int), AV.int IntKind.i64 (0 : Int), AV.int IntKind.i64 (0 : Int)],
         AObj.cells [AV.int IntKind.i64 (0 : Int), AV.int IntKind.i64 (0 : Int), AV.int IntKind.i64 (0 : Int)]] ∧
         AWP Tryd.prog 25 0 c146_5
         [(0, AV.int IntKind.i64 p), (2, AV.ptr 0 0), (4, AV.ptr 1 0),
         (12, AV.agg [AV.int IntKind.i64 (1000000 : Int), AV.int IntKind.i64 (1000 : Int), AV.int IntKind.i64 (1 : Int)]), (13, AV.int IntKind.i64 (0 : Int))]
         [AObj.cells [AV.int IntKind.i64 (0 : Int), AV.int IntKind.i64 (0 : Int), AV.int IntKind.i64 (0 : Int)],
         AObj.cells [AV.int IntKind.i64 (0 : Int), AV.int IntKind.i64 (0 : Int), AV.int IntKind.i64 (0 : Int)]]
         (q146_2 0 Post))) →
    ASpec Tryd.prog 146 [AV.int IntKind.i64 p] [] Post := fun p Post h => Go.Ab.ASpec.of_vc g146 Go.Proofs.Tryd.func146 (by kernel_rfl) (by kernel_rfl) (by kernel_rfl) (Go.Ab.kc (by kernel_rfl) h)
theorem v146_5a : ∀ (p x y z : Int) (n : Nat) (Post : AV → List AObj → Prop),
  needP ((0 : Int) ≤ (0 : Int) ∧ (0 : Int) < (3 : Int))
      (needP ((1000000 : Int) ≠ (0 : Int))
        (needP ((1000 : Int) ≠ (0 : Int))
         (needP ((0 : Int) ≤ (0 : Int) ∧ (0 : Int) < (3 : Int))
         (AWP Tryd.prog 25 n c146_5
         [(0, AV.int IntKind.i64 p), (2, AV.ptr 0 0), (4, AV.ptr 1 0),
         (12, AV.agg [AV.int IntKind.i64 (1000000 : Int), AV.int IntKind.i64 (1000 : Int), AV.int IntKind.i64 (1 : Int)]), (13, AV.int IntKind.i64 (1 : Int))]
         [AObj.cells [AV.int IntKind.i64 (0 : Int), AV.int IntKind.i64 (0 : Int), AV.int IntKind.i64 (0 : Int)],
         AObj.cells [AV.int IntKind.i64 (Int.tmod (IntKind.wrap IntKind.i64 (Int.tdiv p (1000000 : Int))) (1000 : Int)), AV.int IntKind.i64 y, AV.int IntKind.i64 z]]
         (q146_2 n Post))))) →
    AWP Tryd.prog 25 n c146_5
      [(0, AV.int IntKind.i64 p), (2, AV.ptr 0 0), (4, AV.ptr 1 0),
        (12, AV.agg [AV.int IntKind.i64 (1000000 : Int), AV.int IntKind.i64 (1000 : Int), AV.int IntKind.i64 (1 : Int)]), (13, AV.int IntKind.i64 (0 : Int))]
      [AObj.cells [AV.int IntKind.i64 (0 : Int), AV.int IntKind.i64 (0 : Int), AV.int IntKind.i64 (0 : Int)], AObj.cells [AV.int IntKind.i64 x, AV.int IntKind.i64 y, AV.int IntKind.i64 z]]
      (q146_2 n Post) := fun p x y z n Post h => Go.Ab.AWP.loop' g146 (Cfg.live g146) c146_5 (by kernel_rfl) (by kernel_rfl) (Go.Ab.kc (by kernel_rfl) h)
theorem v146_5b : ∀ (p x y z : Int) (n : Nat) (Post : AV → List AObj → Prop),
  needP ((0 : Int) ≤ (1 : Int) ∧ (1 : Int) < (3 : Int))
      (needP ((1000 : Int) ≠ (0 : Int))
        (needP ((1000 : Int) ≠ (0 : Int))
         (needP ((0 : Int) ≤ (1 : Int) ∧ (1 : Int) < (3 : Int))
         (AWP Tryd.prog 25 n c146_5
         [(0, AV.int IntKind.i64 p), (2, AV.ptr 0 0), (4, AV.ptr 1 0),
         (12, AV.agg [AV.int IntKind.i64 (1000000 : Int), AV.int IntKind.i64 (1000 : Int), AV.int IntKind.i64 (1 : Int)]), (13, AV.int IntKind.i64 (2 : Int))]
         [AObj.cells [AV.int IntKind.i64 (0 : Int), AV.int IntKind.i64 (0 : Int), AV.int IntKind.i64 (0 : Int)],
         AObj.cells [AV.int IntKind.i64 x, AV.int IntKind.i64 (Int.tmod (IntKind.wrap IntKind.i64 (Int.tdiv p (1000 : Int))) (1000 : Int)), AV.int IntKind.i64 z]]
         (q146_2 n Post))))) →
    AWP Tryd.prog 25 n c146_5
      [(0, AV.int IntKind.i64 p), (2, AV.ptr 0 0), (4, AV.ptr 1 0),
        (12, AV.agg [AV.int IntKind.i64 (1000000 : Int), AV.int IntKind.i64 (1000 : Int), AV.int IntKind.i64 (1 : Int)]), (13, AV.int IntKind.i64 (1 : Int))]
      [AObj.cells [AV.int IntKind.i64 (0 : Int), AV.int IntKind.i64 (0 : Int), AV.int IntKind.i64 (0 : Int)], AObj.cells [AV.int IntKind.i64 x, AV.int IntKind.i64 y, AV.int IntKind.i64 z]]
      (q146_2 n Post) := fun p x y z n Post h => Go.Ab.AWP.loop' g146 (Cfg.live g146) c146_5 (by kernel_rfl) (by kernel_rfl) (Go.Ab.kc (by kernel_rfl) h)
theorem v146_5c : ∀ (p x y z : Int) (n : Nat) (Post : AV → List AObj → Prop),
  needP ((0 : Int) ≤ (2 : Int) ∧ (2 : Int) < (3 : Int))
      (needP ((1 : Int) ≠ (0 : Int))
        (needP ((1000 : Int) ≠ (0 : Int))
         (needP ((0 : Int) ≤ (2 : Int) ∧ (2 : Int) < (3 : Int))
         (AWP Tryd.prog 25 n c146_5
         [(0, AV.int IntKind.i64 p), (2, AV.ptr 0 0), (4, AV.ptr 1 0),
         (12, AV.agg [AV.int IntKind.i64 (1000000 : Int), AV.int IntKind.i64 (1000 : Int), AV.int IntKind.i64 (1 : Int)]), (13, AV.int IntKind.i64 (3 : Int))]
         [AObj.cells [AV.int IntKind.i64 (0 : Int), AV.int IntKind.i64 (0 : Int), AV.int IntKind.i64 (0 : Int)],
         AObj.cells [AV.int IntKind.i64 x, AV.int IntKind.i64 y, AV.int IntKind.i64 (Int.tmod (IntKind.wrap IntKind.i64 (Int.tdiv p (1 : Int))) (1000 : Int))]]
         (q146_2 n Post))))) →
    AWP Tryd.prog 25 n c146_5
      [(0, AV.int IntKind.i64 p), (2, AV.ptr 0 0), (4, AV.ptr 1 0),
        (12, AV.agg [AV.int IntKind.i64 (1000000 : Int), AV.int IntKind.i64 (1000 : Int), AV.int IntKind.i64 (1 : Int)]), (13, AV.int IntKind.i64 (2 : Int))]
      [AObj.cells [AV.int IntKind.i64 (0 : Int), AV.int IntKind.i64 (0 : Int), AV.int IntKind.i64 (0 : Int)], AObj.cells [AV.int IntKind.i64 x, AV.int IntKind.i64 y, AV.int IntKind.i64 z]]
      (q146_2 n Post) := fun p x y z n Post h => Go.Ab.AWP.loop' g146 (Cfg.live g146) c146_5 (by kernel_rfl) (by kernel_rfl) (Go.Ab.kc (by kernel_rfl) h)
theorem v146_5d : ∀ (p x y z : Int) (n : Nat) (Post : AV → List AObj → Prop),
  Post (AV.tup [AV.agg [AV.int IntKind.i64 x, AV.int IntKind.i64 y, AV.int IntKind.i64 z], AV.bool true])
      [AObj.cells [AV.int IntKind.i64 x, AV.int IntKind.i64 y, AV.int IntKind.i64 z], AObj.cells [AV.int IntKind.i64 x, AV.int IntKind.i64 y, AV.int IntKind.i64 z]] →
    AWP Tryd.prog 25 n c146_5
      [(0, AV.int IntKind.i64 p), (2, AV.ptr 0 0), (4, AV.ptr 1 0),
        (12, AV.agg [AV.int IntKind.i64 (1000000 : Int), AV.int IntKind.i64 (1000 : Int), AV.int IntKind.i64 (1 : Int)]), (13, AV.int IntKind.i64 (3 : Int))]
      [AObj.cells [AV.int IntKind.i64 (0 : Int), AV.int IntKind.i64 (0 : Int), AV.int IntKind.i64 (0 : Int)], AObj.cells [AV.int IntKind.i64 x, AV.int IntKind.i64 y, AV.int IntKind.i64 z]]
      (q146_2 n Post) := fun p x y z n Post h => Go.Ab.AWP.loop' g146 (Cfg.live g146) c146_5 (by kernel_rfl) (by kernel_rfl) (Go.Ab.kc (by kernel_rfl) h)

-- 121
noncomputable def l121 : Nat → List Nat
  | _ => []
noncomputable def u121 : Nat → Bool
  | _ => false
noncomputable def m121 : Nat → Bool
  | _ => false
noncomputable def g121 : Cfg := { N := 25, live := l121, cut := u121, mu := m121, ret := rets }
theorem s121 : ∀ (p : Int) (Post : AV → List AObj → Prop),
  (ASpec Tryd.prog 146 [AV.int IntKind.i64 p] [] fun (r : AV) (H' : List AObj) =>
      ∃ (x : (Int × Int × Int) × Bool),
        r =
         AV.tup
         [AV.agg [AV.int IntKind.i64 (Prod.fst (Prod.fst x)), AV.int IntKind.i64 (Prod.fst (Prod.snd (Prod.fst x))), AV.int IntKind.i64 (Prod.snd (Prod.snd (Prod.fst x)))],
         AV.bool (Prod.snd x)] ∧
         H' = [] ∧
         condP (!Prod.snd x)
         (Post (AV.str { data := #[] })
         [AObj.cells [AV.int IntKind.i64 (Prod.fst (Prod.fst x)), AV.int IntKind.i64 (Prod.fst (Prod.snd (Prod.fst x))), AV.int IntKind.i64 (Prod.snd (Prod.snd (Prod.fst x)))]])
         (needP ((0 : Int) ≤ (0 : Int) ∧ (0 : Int) < (3 : Int))
         (needP ((0 : Int) ≤ (1 : Int) ∧ (1 : Int) < (3 : Int))
         (needP ((0 : Int) ≤ (2 : Int) ∧ (2 : Int) < (3 : Int))
         (ASpec Tryd.prog 86 [AV.int IntKind.i64 (Prod.fst (Prod.fst x))]
         [AObj.cells [AV.int IntKind.i64 (Prod.fst (Prod.fst x)), AV.int IntKind.i64 (Prod.fst (Prod.snd (Prod.fst x))), AV.int IntKind.i64 (Prod.snd (Prod.snd (Prod.fst x)))]]
         fun (r : AV) (H' : List AObj) =>
         ∃ (x_1 : ByteArray),
         r = AV.str x_1 ∧
         H' = [AObj.cells [AV.int IntKind.i64 (Prod.fst (Prod.fst x)), AV.int IntKind.i64 (Prod.fst (Prod.snd (Prod.fst x))), AV.int IntKind.i64 (Prod.snd (Prod.snd (Prod.fst x)))]] ∧
         (AV.int IntKind.i64 (Prod.snd (Prod.snd (Prod.fst x))) = AV.int IntKind.i64 (Prod.snd (Prod.snd (Prod.fst x))) ∧
         [AObj.cells
         [AV.int IntKind.i64 (Prod.fst (Prod.fst x)), AV.int IntKind.i64 (Prod.fst (Prod.snd (Prod.fst x))), AV.int IntKind.i64 (Prod.snd (Prod.snd (Prod.fst x)))]] =
         [AObj.cells
         [AV.int IntKind.i64 (Prod.fst (Prod.fst x)), AV.int IntKind.i64 (Prod.fst (Prod.snd (Prod.fst x))), AV.int IntKind.i64 (Prod.snd (Prod.snd (Prod.fst x)))]]) ∧
         (AV.int IntKind.i64 (Prod.fst (Prod.snd (Prod.fst x))) = AV.int IntKind.i64 (Prod.fst (Prod.snd (Prod.fst x))) ∧
         [AObj.cells
         [AV.int IntKind.i64 (Prod.fst (Prod.fst x)), AV.int IntKind.i64 (Prod.fst (Prod.snd (Prod.fst x))), AV.int IntKind.i64 (Prod.snd (Prod.snd (Prod.fst x)))]] =
         [AObj.cells
         [AV.int IntKind.i64 (Prod.fst (Prod.fst x)), AV.int IntKind.i64 (Prod.fst (Prod.snd (Prod.fst x))), AV.int IntKind.i64 (Prod.snd (Prod.snd (Prod.fst x)))]]) ∧
         needP ((↑(ByteArray.size x_1 + 1) : Int) ≤ (9223372036854775807 : Int))
         (ASpec Tryd.prog 86 [AV.int IntKind.i64 (Prod.fst (Prod.snd (Prod.fst x)))]
         [AObj.cells
         [AV.int IntKind.i64 (Prod.fst (Prod.fst x)), AV.int IntKind.i64 (Prod.fst (Prod.snd (Prod.fst x))), AV.int IntKind.i64 (Prod.snd (Prod.snd (Prod.fst x)))]]
         fun (r : AV) (H' : List AObj) =>
         ∃ (x_2 : ByteArray),
         r = AV.str x_2 ∧
         H' =
         [AObj.cells
         [AV.int IntKind.i64 (Prod.fst (Prod.fst x)), AV.int IntKind.i64 (Prod.fst (Prod.snd (Prod.fst x))),
         AV.int IntKind.i64 (Prod.snd (Prod.snd (Prod.fst x)))]] ∧
         (AV.int IntKind.i64 (Prod.snd (Prod.snd (Prod.fst x))) = AV.int IntKind.i64 (Prod.snd (Prod.snd (Prod.fst x))) ∧
         [AObj.cells
         [AV.int IntKind.i64 (Prod.fst (Prod.fst x)), AV.int IntKind.i64 (Prod.fst (Prod.snd (Prod.fst x))),
         AV.int IntKind.i64 (Prod.snd (Prod.snd (Prod.fst x)))]] =
         [AObj.cells
         [AV.int IntKind.i64 (Prod.fst (Prod.fst x)), AV.int IntKind.i64 (Prod.fst (Prod.snd (Prod.fst x))),
         AV.int IntKind.i64 (Prod.snd (Prod.snd (Prod.fst x)))]]) ∧
         needP ((↑(ByteArray.size (x_1 ++ { data := #[(46 : UInt8)] }) + ByteArray.size x_2) : Int) ≤ (9223372036854775807 : Int))
         (needP ((↑(ByteArray.size (x_1 ++ { data := #[(46 : UInt8)] } ++ x_2) + 1) : Int) ≤ (9223372036854775807 : Int))
         (ASpec Tryd.prog 86 [AV.int IntKind.i64 (Prod.snd (Prod.snd (Prod.fst x)))]
         [AObj.cells
         [AV.int IntKind.i64 (Prod.fst (Prod.fst x)), AV.int IntKind.i64 (Prod.fst (Prod.snd (Prod.fst x))),
         AV.int IntKind.i64 (Prod.snd (Prod.snd (Prod.fst x)))]]
         fun (r : AV) (H' : List AObj) =>
         ∃ (x_3 : ByteArray),
         r = AV.str x_3 ∧
         H' =
         [AObj.cells
         [AV.int IntKind.i64 (Prod.fst (Prod.fst x)), AV.int IntKind.i64 (Prod.fst (Prod.snd (Prod.fst x))),
         AV.int IntKind.i64 (Prod.snd (Prod.snd (Prod.fst x)))]] ∧
         needP
         ((↑(ByteArray.size (x_1 ++ { data := #[(46 : UInt8)] } ++ x_2 ++ { data := #[(46 : UInt8)] }) + ByteArray.size x_3) : Int) ≤
         (9223372036854775807 : Int))
         (Post (AV.str (x_1 ++ { data := #[(46 : UInt8)] } ++ x_2 ++ { data := #[(46 : UInt8)] } ++ x_3))
         [AObj.cells
         [AV.int IntKind.i64 (Prod.fst (Prod.fst x)), AV.int IntKind.i64 (Prod.fst (Prod.snd (Prod.fst x))),
         AV.int IntKind.i64 (Prod.snd (Prod.snd (Prod.fst x)))]]))))))))) →
    ASpec Tryd.prog 121 [AV.int IntKind.i64 p] [] Post := fun p Post h => Go.Ab.ASpec.of_vc g121 Go.Proofs.Tryd.func121 (by kernel_rfl) (by kernel_rfl) (by kernel_rfl) (Go.Ab.kc (by kernel_rfl) h)

end
end D
end

section
/- The plain law of versions and their texts. -/

set_option linter.unusedVariables false
set_option linter.unusedSimpArgs false
namespace Ve

/-- a part's digits -/
def dg (n : Nat) : List UInt8 :=
  if n < 10 then [UInt8.ofNat (48 + n)] else if n < 100 then [UInt8.ofNat (48 + n / 10), UInt8.ofNat (48 + n % 10)] else [UInt8.ofNat (48 + n / 100), UInt8.ofNat (48 + n / 10 % 10), UInt8.ofNat (48 + n % 10)]

def text3 (a b c : Nat) : List UInt8 := dg a ++ 46 :: (dg b ++ 46 :: dg c)
def textM (p : Int) : List UInt8 := if 0 ≤ p ∧ p < 1000000000 then text3 (p / 1000000).toNat (p / 1000 % 1000).toNat (p % 1000).toNat else []

theorem dg_len (n : Nat) : 1 ≤ (dg n).length ∧ (dg n).length ≤ 3 := by
  unfold dg; split
  · simp
  · split <;> simp

theorem text3_len (a b c : Nat) : 5 ≤ (text3 a b c).length ∧ (text3 a b c).length ≤ 11 := by
  have h1 := dg_len a
  have h2 := dg_len b
  have h3 := dg_len c
  simp only [text3, List.length_append, List.length_cons]; omega

end Ve
end

section
/- Bytes and runes: plain facts. -/

set_option linter.unusedVariables false
set_option linter.unusedSimpArgs false
set_option maxRecDepth 100000
open Go Go.Ab
namespace D

abbrev B (l : List UInt8) : ByteArray := ⟨l.toArray⟩

theorem B_size (l : List UInt8) : (B l).size = l.length := by simp [ByteArray.size]
theorem B_append (a b : List UInt8) : B a ++ B b = B (a ++ b) := by
  apply ByteArray.ext
  simp
/-! ### the rune at a place -/

end D
end

section
/- Printed: what the code of functions 131, 80, 132, 81, 84, 78, 92, 106, 97, 102 asks for, by the framework's own reading of it; each line is checked against the code. -/

set_option linter.unusedVariables false
set_option maxRecDepth 100000
set_option maxHeartbeats 4000000
open Go Go.Ab Go.Proofs
namespace Pf
noncomputable section

noncomputable def retP : List (Nat × Ret) := [
  (131, ⟨Bool, fun _ _ x => .bool x, fun _ H _ => H⟩), (80, ⟨Bool, fun _ _ x => .bool x, fun _ H _ => H⟩), (132, ⟨Bool, fun _ _ x => .bool x, fun _ H _ => H⟩), (81, ⟨Bool, fun _ _ x => .bool x, fun _ H _ => H⟩), (84, ⟨Bool, fun _ _ x => .bool x, fun _ H _ => H⟩), (78, ⟨Bool, fun _ _ x => .bool x, fun _ H _ => H⟩), (9019, ⟨Unit, fun _ _ _ => .bool true, fun _ H _ => H⟩),
  (92, ⟨List UInt8, fun _ _ x => .sl 1 (.map encB 0 x) .none, fun _ H _ => H⟩),
  (97, ⟨List T.St × Int, fun _ _ x => .tup [.sl 6 (.map T.encSt T.noSt x.1) .none, .int .i64 x.2], fun _ H _ => H⟩),
  (102, ⟨List T.St × Int, fun _ _ x => .tup [.sl 6 (.map T.encSt T.noSt x.1) .none, .int .i64 x.2], fun _ H _ => H⟩),
  (106, ⟨ByteArray, fun _ _ x => .str x, fun _ H _ => H⟩),
  (9125, ⟨List T.St, fun _ _ x => .sl 6 (.map T.encSt T.noSt x) .none, fun _ H _ => H⟩),
  (9228, ⟨Unit, fun _ H _ => .fn 9309 [.ptr H.length 0], fun a H _ => H ++ [.cells [a.getD 0 .bad]]⟩),
  (yieldKey, ⟨List Bool, fun _ _ _ => .bool true, fun _ H x => H.set 0 (.arr 1 (.map T.encBo false x))⟩)]
noncomputable def rets : FuncId → List Ret := lookupR (retP ++ C.retC ++ V.retL)

-- 131
noncomputable def l131 : Nat → List Nat
  | 2 => [1, 2, 5]
  | 3 => [1, 2, 5, 6]
  | _ => []
noncomputable def u131 : Nat → Bool
  | 2 => true
  | 3 => true
  | _ => false
noncomputable def m131 : Nat → Bool
  | _ => false
noncomputable def g131 : Cfg := { N := 85, live := l131, cut := u131, mu := m131, ret := rets }
noncomputable def c131 : Go.Code := Go.Ab.bodyOf Go.Proofs.Tryd.f131
noncomputable def q131_0 : Nat → (AV → List AObj → Prop) → AQ := fun (n : Nat) (Post : AV → List AObj → Prop) => endQ Tryd.prog (resultsOf Tryd.f131) Post
noncomputable def c131_2 : Go.Code := codeSnd (codeSnd c131)
theorem s131 : ∀ (x : T.St) (i : Int) (Post : AV → List AObj → Prop),
  condP (ByteArray.toList { data := List.toArray (Prod.fst (Prod.snd (Prod.snd (Prod.snd x)))) } == ByteArray.toList { data := #[] })
      (AWP Tryd.prog 85 0 c131_2 [(1, AV.int IntKind.i64 i), (2, AV.ptr 0 0), (5, AV.bool (Prod.fst (Prod.snd (Prod.snd x)) == (0 : Int)))]
        [AObj.cells
         [AV.int IntKind.i64 (Prod.fst x), AV.str { data := List.toArray (Prod.fst (Prod.snd x)) }, AV.int IntKind.i64 (Prod.fst (Prod.snd (Prod.snd x))),
         AV.str { data := List.toArray (Prod.fst (Prod.snd (Prod.snd (Prod.snd x)))) }, AV.int IntKind.i64 (Prod.fst (Prod.snd (Prod.snd (Prod.snd (Prod.snd x))))),
         AV.int IntKind.i64 (Prod.snd (Prod.snd (Prod.snd (Prod.snd (Prod.snd x)))))]]
        (q131_0 0 Post))
      (AWP Tryd.prog 85 0 c131_2 [(1, AV.int IntKind.i64 i), (2, AV.ptr 0 0), (5, AV.bool false)]
        [AObj.cells
         [AV.int IntKind.i64 (Prod.fst x), AV.str { data := List.toArray (Prod.fst (Prod.snd x)) }, AV.int IntKind.i64 (Prod.fst (Prod.snd (Prod.snd x))),
         AV.str { data := List.toArray (Prod.fst (Prod.snd (Prod.snd (Prod.snd x)))) }, AV.int IntKind.i64 (Prod.fst (Prod.snd (Prod.snd (Prod.snd (Prod.snd x))))),
         AV.int IntKind.i64 (Prod.snd (Prod.snd (Prod.snd (Prod.snd (Prod.snd x)))))]]
        (q131_0 0 Post)) →
    ASpec Tryd.prog 131 [AV.agg (T.encSt x), AV.int IntKind.i64 i] [] Post := fun x i Post h => Go.Ab.ASpec.of_vc g131 Go.Proofs.Tryd.func131 (by kernel_rfl) (by kernel_rfl) (by kernel_rfl) (Go.Ab.kc (by kernel_rfl) h)
noncomputable def c131_3 : Go.Code := codeSnd c131_2
theorem v131_2 : ∀ (x : T.St) (i : Int) (p : Bool) (n : Nat) (Post : AV → List AObj → Prop),
  condP (Prod.fst (Prod.snd (Prod.snd (Prod.snd (Prod.snd x)))) == (0 : Int))
      (AWP Tryd.prog 85 n c131_3
        [(1, AV.int IntKind.i64 i), (2, AV.ptr 0 0), (5, AV.bool p), (6, AV.bool (Prod.snd (Prod.snd (Prod.snd (Prod.snd (Prod.snd x)))) == (0 : Int)))]
        [AObj.cells
         [AV.int IntKind.i64 (Prod.fst x), AV.str { data := List.toArray (Prod.fst (Prod.snd x)) }, AV.int IntKind.i64 (Prod.fst (Prod.snd (Prod.snd x))),
         AV.str { data := List.toArray (Prod.fst (Prod.snd (Prod.snd (Prod.snd x)))) }, AV.int IntKind.i64 (Prod.fst (Prod.snd (Prod.snd (Prod.snd (Prod.snd x))))),
         AV.int IntKind.i64 (Prod.snd (Prod.snd (Prod.snd (Prod.snd (Prod.snd x)))))]]
        (q131_0 n Post))
      (AWP Tryd.prog 85 n c131_3 [(1, AV.int IntKind.i64 i), (2, AV.ptr 0 0), (5, AV.bool p), (6, AV.bool false)]
        [AObj.cells
         [AV.int IntKind.i64 (Prod.fst x), AV.str { data := List.toArray (Prod.fst (Prod.snd x)) }, AV.int IntKind.i64 (Prod.fst (Prod.snd (Prod.snd x))),
         AV.str { data := List.toArray (Prod.fst (Prod.snd (Prod.snd (Prod.snd x)))) }, AV.int IntKind.i64 (Prod.fst (Prod.snd (Prod.snd (Prod.snd (Prod.snd x))))),
         AV.int IntKind.i64 (Prod.snd (Prod.snd (Prod.snd (Prod.snd (Prod.snd x)))))]]
        (q131_0 n Post)) →
    AWP Tryd.prog 85 n c131_2 [(1, AV.int IntKind.i64 i), (2, AV.ptr 0 0), (5, AV.bool p)] [AObj.cells (T.encSt x)] (q131_0 n Post) := fun x i p n Post h => Go.Ab.awp_sound g131 n _ _ _ _ (Go.Ab.kc (by kernel_rfl) h)
theorem v131_3 : ∀ (x : T.St) (i : Int) (p q : Bool) (n : Nat) (Post : AV → List AObj → Prop),
  condP (Prod.fst x == (1 : Int))
      (condP (Prod.fst x == (1 : Int))
        (ASpec Tryd.prog 50 [AV.str { data := List.toArray (Prod.fst (Prod.snd x)) }]
         [AObj.cells
         [AV.int IntKind.i64 (Prod.fst x), AV.str { data := List.toArray (Prod.fst (Prod.snd x)) }, AV.int IntKind.i64 (Prod.fst (Prod.snd (Prod.snd x))),
         AV.str { data := List.toArray (Prod.fst (Prod.snd (Prod.snd (Prod.snd x)))) }, AV.int IntKind.i64 (Prod.fst (Prod.snd (Prod.snd (Prod.snd (Prod.snd x))))),
         AV.int IntKind.i64 (Prod.snd (Prod.snd (Prod.snd (Prod.snd (Prod.snd x)))))]]
         fun (r : AV) (H' : List AObj) =>
         ∃ (x_1 : Bool),
         r = AV.bool x_1 ∧
         H' =
         [AObj.cells
         [AV.int IntKind.i64 (Prod.fst x), AV.str { data := List.toArray (Prod.fst (Prod.snd x)) }, AV.int IntKind.i64 (Prod.fst (Prod.snd (Prod.snd x))),
         AV.str { data := List.toArray (Prod.fst (Prod.snd (Prod.snd (Prod.snd x)))) }, AV.int IntKind.i64 (Prod.fst (Prod.snd (Prod.snd (Prod.snd (Prod.snd x))))),
         AV.int IntKind.i64 (Prod.snd (Prod.snd (Prod.snd (Prod.snd (Prod.snd x)))))]] ∧
         condP x_1
         (condP p
         (Post (AV.bool q)
         [AObj.cells
         [AV.int IntKind.i64 (Prod.fst x), AV.str { data := List.toArray (Prod.fst (Prod.snd x)) }, AV.int IntKind.i64 (Prod.fst (Prod.snd (Prod.snd x))),
         AV.str { data := List.toArray (Prod.fst (Prod.snd (Prod.snd (Prod.snd x)))) }, AV.int IntKind.i64 (Prod.fst (Prod.snd (Prod.snd (Prod.snd (Prod.snd x))))),
         AV.int IntKind.i64 (Prod.snd (Prod.snd (Prod.snd (Prod.snd (Prod.snd x)))))]])
         (Post (AV.bool false)
         [AObj.cells
         [AV.int IntKind.i64 (Prod.fst x), AV.str { data := List.toArray (Prod.fst (Prod.snd x)) }, AV.int IntKind.i64 (Prod.fst (Prod.snd (Prod.snd x))),
         AV.str { data := List.toArray (Prod.fst (Prod.snd (Prod.snd (Prod.snd x)))) }, AV.int IntKind.i64 (Prod.fst (Prod.snd (Prod.snd (Prod.snd (Prod.snd x))))),
         AV.int IntKind.i64 (Prod.snd (Prod.snd (Prod.snd (Prod.snd (Prod.snd x)))))]]))
         (Post (AV.bool false)
         [AObj.cells
         [AV.int IntKind.i64 (Prod.fst x), AV.str { data := List.toArray (Prod.fst (Prod.snd x)) }, AV.int IntKind.i64 (Prod.fst (Prod.snd (Prod.snd x))),
         AV.str { data := List.toArray (Prod.fst (Prod.snd (Prod.snd (Prod.snd x)))) }, AV.int IntKind.i64 (Prod.fst (Prod.snd (Prod.snd (Prod.snd (Prod.snd x))))),
         AV.int IntKind.i64 (Prod.snd (Prod.snd (Prod.snd (Prod.snd (Prod.snd x)))))]]))
        (condP (Prod.fst x == (3 : Int))
         (ASpec Tryd.prog 50 [AV.str { data := List.toArray (Prod.fst (Prod.snd x)) }]
         [AObj.cells
         [AV.int IntKind.i64 (Prod.fst x), AV.str { data := List.toArray (Prod.fst (Prod.snd x)) }, AV.int IntKind.i64 (Prod.fst (Prod.snd (Prod.snd x))),
         AV.str { data := List.toArray (Prod.fst (Prod.snd (Prod.snd (Prod.snd x)))) }, AV.int IntKind.i64 (Prod.fst (Prod.snd (Prod.snd (Prod.snd (Prod.snd x))))),
         AV.int IntKind.i64 (Prod.snd (Prod.snd (Prod.snd (Prod.snd (Prod.snd x)))))]]
         fun (r : AV) (H' : List AObj) =>
         ∃ (x_1 : Bool),
         r = AV.bool x_1 ∧
         H' =
         [AObj.cells
         [AV.int IntKind.i64 (Prod.fst x), AV.str { data := List.toArray (Prod.fst (Prod.snd x)) }, AV.int IntKind.i64 (Prod.fst (Prod.snd (Prod.snd x))),
         AV.str { data := List.toArray (Prod.fst (Prod.snd (Prod.snd (Prod.snd x)))) }, AV.int IntKind.i64 (Prod.fst (Prod.snd (Prod.snd (Prod.snd (Prod.snd x))))),
         AV.int IntKind.i64 (Prod.snd (Prod.snd (Prod.snd (Prod.snd (Prod.snd x)))))]] ∧
         condP x_1
         (ASpec Tryd.prog 50 [AV.str { data := List.toArray (Prod.fst (Prod.snd (Prod.snd (Prod.snd x)))) }]
         [AObj.cells
         [AV.int IntKind.i64 (Prod.fst x), AV.str { data := List.toArray (Prod.fst (Prod.snd x)) }, AV.int IntKind.i64 (Prod.fst (Prod.snd (Prod.snd x))),
         AV.str { data := List.toArray (Prod.fst (Prod.snd (Prod.snd (Prod.snd x)))) }, AV.int IntKind.i64 (Prod.fst (Prod.snd (Prod.snd (Prod.snd (Prod.snd x))))),
         AV.int IntKind.i64 (Prod.snd (Prod.snd (Prod.snd (Prod.snd (Prod.snd x)))))]]
         fun (r : AV) (H' : List AObj) =>
         ∃ (x_2 : Bool),
         r = AV.bool x_2 ∧
         H' =
         [AObj.cells
         [AV.int IntKind.i64 (Prod.fst x), AV.str { data := List.toArray (Prod.fst (Prod.snd x)) }, AV.int IntKind.i64 (Prod.fst (Prod.snd (Prod.snd x))),
         AV.str { data := List.toArray (Prod.fst (Prod.snd (Prod.snd (Prod.snd x)))) }, AV.int IntKind.i64 (Prod.fst (Prod.snd (Prod.snd (Prod.snd (Prod.snd x))))),
         AV.int IntKind.i64 (Prod.snd (Prod.snd (Prod.snd (Prod.snd (Prod.snd x)))))]] ∧
         condP x_2
         (condP (decide (Prod.fst (Prod.snd (Prod.snd x)) ≥ (0 : Int)))
         (condP (decide (Prod.fst (Prod.snd (Prod.snd x)) < (1000000000 : Int)))
         (Post (AV.bool q)
         [AObj.cells
         [AV.int IntKind.i64 (Prod.fst x), AV.str { data := List.toArray (Prod.fst (Prod.snd x)) }, AV.int IntKind.i64 (Prod.fst (Prod.snd (Prod.snd x))),
         AV.str { data := List.toArray (Prod.fst (Prod.snd (Prod.snd (Prod.snd x)))) }, AV.int IntKind.i64 (Prod.fst (Prod.snd (Prod.snd (Prod.snd (Prod.snd x))))),
         AV.int IntKind.i64 (Prod.snd (Prod.snd (Prod.snd (Prod.snd (Prod.snd x)))))]])
         (Post (AV.bool false)
         [AObj.cells
         [AV.int IntKind.i64 (Prod.fst x), AV.str { data := List.toArray (Prod.fst (Prod.snd x)) }, AV.int IntKind.i64 (Prod.fst (Prod.snd (Prod.snd x))),
         AV.str { data := List.toArray (Prod.fst (Prod.snd (Prod.snd (Prod.snd x)))) }, AV.int IntKind.i64 (Prod.fst (Prod.snd (Prod.snd (Prod.snd (Prod.snd x))))),
         AV.int IntKind.i64 (Prod.snd (Prod.snd (Prod.snd (Prod.snd (Prod.snd x)))))]]))
         (Post (AV.bool false)
         [AObj.cells
         [AV.int IntKind.i64 (Prod.fst x), AV.str { data := List.toArray (Prod.fst (Prod.snd x)) }, AV.int IntKind.i64 (Prod.fst (Prod.snd (Prod.snd x))),
         AV.str { data := List.toArray (Prod.fst (Prod.snd (Prod.snd (Prod.snd x)))) }, AV.int IntKind.i64 (Prod.fst (Prod.snd (Prod.snd (Prod.snd (Prod.snd x))))),
         AV.int IntKind.i64 (Prod.snd (Prod.snd (Prod.snd (Prod.snd (Prod.snd x)))))]]))
         (Post (AV.bool false)
         [AObj.cells
         [AV.int IntKind.i64 (Prod.fst x), AV.str { data := List.toArray (Prod.fst (Prod.snd x)) }, AV.int IntKind.i64 (Prod.fst (Prod.snd (Prod.snd x))),
         AV.str { data := List.toArray (Prod.fst (Prod.snd (Prod.snd (Prod.snd x)))) }, AV.int IntKind.i64 (Prod.fst (Prod.snd (Prod.snd (Prod.snd (Prod.snd x))))),
         AV.int IntKind.i64 (Prod.snd (Prod.snd (Prod.snd (Prod.snd (Prod.snd x)))))]]))
         (Post (AV.bool false)
         [AObj.cells
         [AV.int IntKind.i64 (Prod.fst x), AV.str { data := List.toArray (Prod.fst (Prod.snd x)) }, AV.int IntKind.i64 (Prod.fst (Prod.snd (Prod.snd x))),
         AV.str { data := List.toArray (Prod.fst (Prod.snd (Prod.snd (Prod.snd x)))) }, AV.int IntKind.i64 (Prod.fst (Prod.snd (Prod.snd (Prod.snd (Prod.snd x))))),
         AV.int IntKind.i64 (Prod.snd (Prod.snd (Prod.snd (Prod.snd (Prod.snd x)))))]]))
         (condP (Prod.fst x == (4 : Int))
         (ASpec Tryd.prog 50 [AV.str { data := List.toArray (Prod.fst (Prod.snd x)) }]
         [AObj.cells
         [AV.int IntKind.i64 (Prod.fst x), AV.str { data := List.toArray (Prod.fst (Prod.snd x)) }, AV.int IntKind.i64 (Prod.fst (Prod.snd (Prod.snd x))),
         AV.str { data := List.toArray (Prod.fst (Prod.snd (Prod.snd (Prod.snd x)))) }, AV.int IntKind.i64 (Prod.fst (Prod.snd (Prod.snd (Prod.snd (Prod.snd x))))),
         AV.int IntKind.i64 (Prod.snd (Prod.snd (Prod.snd (Prod.snd (Prod.snd x)))))]]
         fun (r : AV) (H' : List AObj) =>
         ∃ (x_1 : Bool),
         r = AV.bool x_1 ∧
         H' =
         [AObj.cells
         [AV.int IntKind.i64 (Prod.fst x), AV.str { data := List.toArray (Prod.fst (Prod.snd x)) }, AV.int IntKind.i64 (Prod.fst (Prod.snd (Prod.snd x))),
         AV.str { data := List.toArray (Prod.fst (Prod.snd (Prod.snd (Prod.snd x)))) }, AV.int IntKind.i64 (Prod.fst (Prod.snd (Prod.snd (Prod.snd (Prod.snd x))))),
         AV.int IntKind.i64 (Prod.snd (Prod.snd (Prod.snd (Prod.snd (Prod.snd x)))))]] ∧
         condP x_1
         (condP p
         (condP
         (decide
         ((if Prod.snd (Prod.snd (Prod.snd (Prod.snd (Prod.snd x)))) < Prod.fst (Prod.snd (Prod.snd (Prod.snd (Prod.snd x)))) then
         Prod.snd (Prod.snd (Prod.snd (Prod.snd (Prod.snd x))))
         else Prod.fst (Prod.snd (Prod.snd (Prod.snd (Prod.snd x))))) ≥
         (0 : Int)))
         (Post
         (AV.bool
         (decide
         ((if Prod.snd (Prod.snd (Prod.snd (Prod.snd (Prod.snd x)))) > Prod.fst (Prod.snd (Prod.snd (Prod.snd (Prod.snd x)))) then
         Prod.snd (Prod.snd (Prod.snd (Prod.snd (Prod.snd x))))
         else Prod.fst (Prod.snd (Prod.snd (Prod.snd (Prod.snd x))))) <
         i)))
         [AObj.cells
         [AV.int IntKind.i64 (Prod.fst x), AV.str { data := List.toArray (Prod.fst (Prod.snd x)) }, AV.int IntKind.i64 (Prod.fst (Prod.snd (Prod.snd x))),
         AV.str { data := List.toArray (Prod.fst (Prod.snd (Prod.snd (Prod.snd x)))) }, AV.int IntKind.i64 (Prod.fst (Prod.snd (Prod.snd (Prod.snd (Prod.snd x))))),
         AV.int IntKind.i64 (Prod.snd (Prod.snd (Prod.snd (Prod.snd (Prod.snd x)))))]])
         (Post (AV.bool false)
         [AObj.cells
         [AV.int IntKind.i64 (Prod.fst x), AV.str { data := List.toArray (Prod.fst (Prod.snd x)) }, AV.int IntKind.i64 (Prod.fst (Prod.snd (Prod.snd x))),
         AV.str { data := List.toArray (Prod.fst (Prod.snd (Prod.snd (Prod.snd x)))) }, AV.int IntKind.i64 (Prod.fst (Prod.snd (Prod.snd (Prod.snd (Prod.snd x))))),
         AV.int IntKind.i64 (Prod.snd (Prod.snd (Prod.snd (Prod.snd (Prod.snd x)))))]]))
         (Post (AV.bool false)
         [AObj.cells
         [AV.int IntKind.i64 (Prod.fst x), AV.str { data := List.toArray (Prod.fst (Prod.snd x)) }, AV.int IntKind.i64 (Prod.fst (Prod.snd (Prod.snd x))),
         AV.str { data := List.toArray (Prod.fst (Prod.snd (Prod.snd (Prod.snd x)))) }, AV.int IntKind.i64 (Prod.fst (Prod.snd (Prod.snd (Prod.snd (Prod.snd x))))),
         AV.int IntKind.i64 (Prod.snd (Prod.snd (Prod.snd (Prod.snd (Prod.snd x)))))]]))
         (Post (AV.bool false)
         [AObj.cells
         [AV.int IntKind.i64 (Prod.fst x), AV.str { data := List.toArray (Prod.fst (Prod.snd x)) }, AV.int IntKind.i64 (Prod.fst (Prod.snd (Prod.snd x))),
         AV.str { data := List.toArray (Prod.fst (Prod.snd (Prod.snd (Prod.snd x)))) }, AV.int IntKind.i64 (Prod.fst (Prod.snd (Prod.snd (Prod.snd (Prod.snd x))))),
         AV.int IntKind.i64 (Prod.snd (Prod.snd (Prod.snd (Prod.snd (Prod.snd x)))))]]))
         (Post (AV.bool false)
         [AObj.cells
         [AV.int IntKind.i64 (Prod.fst x), AV.str { data := List.toArray (Prod.fst (Prod.snd x)) }, AV.int IntKind.i64 (Prod.fst (Prod.snd (Prod.snd x))),
         AV.str { data := List.toArray (Prod.fst (Prod.snd (Prod.snd (Prod.snd x)))) }, AV.int IntKind.i64 (Prod.fst (Prod.snd (Prod.snd (Prod.snd (Prod.snd x))))),
         AV.int IntKind.i64 (Prod.snd (Prod.snd (Prod.snd (Prod.snd (Prod.snd x)))))]]))))
      (condP (Prod.fst x == (2 : Int))
        (ASpec Tryd.prog 50 [AV.str { data := List.toArray (Prod.fst (Prod.snd x)) }]
         [AObj.cells
         [AV.int IntKind.i64 (Prod.fst x), AV.str { data := List.toArray (Prod.fst (Prod.snd x)) }, AV.int IntKind.i64 (Prod.fst (Prod.snd (Prod.snd x))),
         AV.str { data := List.toArray (Prod.fst (Prod.snd (Prod.snd (Prod.snd x)))) }, AV.int IntKind.i64 (Prod.fst (Prod.snd (Prod.snd (Prod.snd (Prod.snd x))))),
         AV.int IntKind.i64 (Prod.snd (Prod.snd (Prod.snd (Prod.snd (Prod.snd x)))))]]
         fun (r : AV) (H' : List AObj) =>
         ∃ (x_1 : Bool),
         r = AV.bool x_1 ∧
         H' =
         [AObj.cells
         [AV.int IntKind.i64 (Prod.fst x), AV.str { data := List.toArray (Prod.fst (Prod.snd x)) }, AV.int IntKind.i64 (Prod.fst (Prod.snd (Prod.snd x))),
         AV.str { data := List.toArray (Prod.fst (Prod.snd (Prod.snd (Prod.snd x)))) }, AV.int IntKind.i64 (Prod.fst (Prod.snd (Prod.snd (Prod.snd (Prod.snd x))))),
         AV.int IntKind.i64 (Prod.snd (Prod.snd (Prod.snd (Prod.snd (Prod.snd x)))))]] ∧
         condP x_1
         (condP p
         (Post (AV.bool q)
         [AObj.cells
         [AV.int IntKind.i64 (Prod.fst x), AV.str { data := List.toArray (Prod.fst (Prod.snd x)) }, AV.int IntKind.i64 (Prod.fst (Prod.snd (Prod.snd x))),
         AV.str { data := List.toArray (Prod.fst (Prod.snd (Prod.snd (Prod.snd x)))) }, AV.int IntKind.i64 (Prod.fst (Prod.snd (Prod.snd (Prod.snd (Prod.snd x))))),
         AV.int IntKind.i64 (Prod.snd (Prod.snd (Prod.snd (Prod.snd (Prod.snd x)))))]])
         (Post (AV.bool false)
         [AObj.cells
         [AV.int IntKind.i64 (Prod.fst x), AV.str { data := List.toArray (Prod.fst (Prod.snd x)) }, AV.int IntKind.i64 (Prod.fst (Prod.snd (Prod.snd x))),
         AV.str { data := List.toArray (Prod.fst (Prod.snd (Prod.snd (Prod.snd x)))) }, AV.int IntKind.i64 (Prod.fst (Prod.snd (Prod.snd (Prod.snd (Prod.snd x))))),
         AV.int IntKind.i64 (Prod.snd (Prod.snd (Prod.snd (Prod.snd (Prod.snd x)))))]]))
         (Post (AV.bool false)
         [AObj.cells
         [AV.int IntKind.i64 (Prod.fst x), AV.str { data := List.toArray (Prod.fst (Prod.snd x)) }, AV.int IntKind.i64 (Prod.fst (Prod.snd (Prod.snd x))),
         AV.str { data := List.toArray (Prod.fst (Prod.snd (Prod.snd (Prod.snd x)))) }, AV.int IntKind.i64 (Prod.fst (Prod.snd (Prod.snd (Prod.snd (Prod.snd x))))),
         AV.int IntKind.i64 (Prod.snd (Prod.snd (Prod.snd (Prod.snd (Prod.snd x)))))]]))
        (condP (Prod.fst x == (3 : Int))
         (ASpec Tryd.prog 50 [AV.str { data := List.toArray (Prod.fst (Prod.snd x)) }]
         [AObj.cells
         [AV.int IntKind.i64 (Prod.fst x), AV.str { data := List.toArray (Prod.fst (Prod.snd x)) }, AV.int IntKind.i64 (Prod.fst (Prod.snd (Prod.snd x))),
         AV.str { data := List.toArray (Prod.fst (Prod.snd (Prod.snd (Prod.snd x)))) }, AV.int IntKind.i64 (Prod.fst (Prod.snd (Prod.snd (Prod.snd (Prod.snd x))))),
         AV.int IntKind.i64 (Prod.snd (Prod.snd (Prod.snd (Prod.snd (Prod.snd x)))))]]
         fun (r : AV) (H' : List AObj) =>
         ∃ (x_1 : Bool),
         r = AV.bool x_1 ∧
         H' =
         [AObj.cells
         [AV.int IntKind.i64 (Prod.fst x), AV.str { data := List.toArray (Prod.fst (Prod.snd x)) }, AV.int IntKind.i64 (Prod.fst (Prod.snd (Prod.snd x))),
         AV.str { data := List.toArray (Prod.fst (Prod.snd (Prod.snd (Prod.snd x)))) }, AV.int IntKind.i64 (Prod.fst (Prod.snd (Prod.snd (Prod.snd (Prod.snd x))))),
         AV.int IntKind.i64 (Prod.snd (Prod.snd (Prod.snd (Prod.snd (Prod.snd x)))))]] ∧
         condP x_1
         (ASpec Tryd.prog 50 [AV.str { data := List.toArray (Prod.fst (Prod.snd (Prod.snd (Prod.snd x)))) }]
         [AObj.cells
         [AV.int IntKind.i64 (Prod.fst x), AV.str { data := List.toArray (Prod.fst (Prod.snd x)) }, AV.int IntKind.i64 (Prod.fst (Prod.snd (Prod.snd x))),
         AV.str { data := List.toArray (Prod.fst (Prod.snd (Prod.snd (Prod.snd x)))) }, AV.int IntKind.i64 (Prod.fst (Prod.snd (Prod.snd (Prod.snd (Prod.snd x))))),
         AV.int IntKind.i64 (Prod.snd (Prod.snd (Prod.snd (Prod.snd (Prod.snd x)))))]]
         fun (r : AV) (H' : List AObj) =>
         ∃ (x_2 : Bool),
         r = AV.bool x_2 ∧
         H' =
         [AObj.cells
         [AV.int IntKind.i64 (Prod.fst x), AV.str { data := List.toArray (Prod.fst (Prod.snd x)) }, AV.int IntKind.i64 (Prod.fst (Prod.snd (Prod.snd x))),
         AV.str { data := List.toArray (Prod.fst (Prod.snd (Prod.snd (Prod.snd x)))) }, AV.int IntKind.i64 (Prod.fst (Prod.snd (Prod.snd (Prod.snd (Prod.snd x))))),
         AV.int IntKind.i64 (Prod.snd (Prod.snd (Prod.snd (Prod.snd (Prod.snd x)))))]] ∧
         condP x_2
         (condP (decide (Prod.fst (Prod.snd (Prod.snd x)) ≥ (0 : Int)))
         (condP (decide (Prod.fst (Prod.snd (Prod.snd x)) < (1000000000 : Int)))
         (Post (AV.bool q)
         [AObj.cells
         [AV.int IntKind.i64 (Prod.fst x), AV.str { data := List.toArray (Prod.fst (Prod.snd x)) }, AV.int IntKind.i64 (Prod.fst (Prod.snd (Prod.snd x))),
         AV.str { data := List.toArray (Prod.fst (Prod.snd (Prod.snd (Prod.snd x)))) }, AV.int IntKind.i64 (Prod.fst (Prod.snd (Prod.snd (Prod.snd (Prod.snd x))))),
         AV.int IntKind.i64 (Prod.snd (Prod.snd (Prod.snd (Prod.snd (Prod.snd x)))))]])
         (Post (AV.bool false)
         [AObj.cells
         [AV.int IntKind.i64 (Prod.fst x), AV.str { data := List.toArray (Prod.fst (Prod.snd x)) }, AV.int IntKind.i64 (Prod.fst (Prod.snd (Prod.snd x))),
         AV.str { data := List.toArray (Prod.fst (Prod.snd (Prod.snd (Prod.snd x)))) }, AV.int IntKind.i64 (Prod.fst (Prod.snd (Prod.snd (Prod.snd (Prod.snd x))))),
         AV.int IntKind.i64 (Prod.snd (Prod.snd (Prod.snd (Prod.snd (Prod.snd x)))))]]))
         (Post (AV.bool false)
         [AObj.cells
         [AV.int IntKind.i64 (Prod.fst x), AV.str { data := List.toArray (Prod.fst (Prod.snd x)) }, AV.int IntKind.i64 (Prod.fst (Prod.snd (Prod.snd x))),
         AV.str { data := List.toArray (Prod.fst (Prod.snd (Prod.snd (Prod.snd x)))) }, AV.int IntKind.i64 (Prod.fst (Prod.snd (Prod.snd (Prod.snd (Prod.snd x))))),
         AV.int IntKind.i64 (Prod.snd (Prod.snd (Prod.snd (Prod.snd (Prod.snd x)))))]]))
         (Post (AV.bool false)
         [AObj.cells
         [AV.int IntKind.i64 (Prod.fst x), AV.str { data := List.toArray (Prod.fst (Prod.snd x)) }, AV.int IntKind.i64 (Prod.fst (Prod.snd (Prod.snd x))),
         AV.str { data := List.toArray (Prod.fst (Prod.snd (Prod.snd (Prod.snd x)))) }, AV.int IntKind.i64 (Prod.fst (Prod.snd (Prod.snd (Prod.snd (Prod.snd x))))),
         AV.int IntKind.i64 (Prod.snd (Prod.snd (Prod.snd (Prod.snd (Prod.snd x)))))]]))
         (Post (AV.bool false)
         [AObj.cells
         [AV.int IntKind.i64 (Prod.fst x), AV.str { data := List.toArray (Prod.fst (Prod.snd x)) }, AV.int IntKind.i64 (Prod.fst (Prod.snd (Prod.snd x))),
         AV.str { data := List.toArray (Prod.fst (Prod.snd (Prod.snd (Prod.snd x)))) }, AV.int IntKind.i64 (Prod.fst (Prod.snd (Prod.snd (Prod.snd (Prod.snd x))))),
         AV.int IntKind.i64 (Prod.snd (Prod.snd (Prod.snd (Prod.snd (Prod.snd x)))))]]))
         (condP (Prod.fst x == (4 : Int))
         (ASpec Tryd.prog 50 [AV.str { data := List.toArray (Prod.fst (Prod.snd x)) }]
         [AObj.cells
         [AV.int IntKind.i64 (Prod.fst x), AV.str { data := List.toArray (Prod.fst (Prod.snd x)) }, AV.int IntKind.i64 (Prod.fst (Prod.snd (Prod.snd x))),
         AV.str { data := List.toArray (Prod.fst (Prod.snd (Prod.snd (Prod.snd x)))) }, AV.int IntKind.i64 (Prod.fst (Prod.snd (Prod.snd (Prod.snd (Prod.snd x))))),
         AV.int IntKind.i64 (Prod.snd (Prod.snd (Prod.snd (Prod.snd (Prod.snd x)))))]]
         fun (r : AV) (H' : List AObj) =>
         ∃ (x_1 : Bool),
         r = AV.bool x_1 ∧
         H' =
         [AObj.cells
         [AV.int IntKind.i64 (Prod.fst x), AV.str { data := List.toArray (Prod.fst (Prod.snd x)) }, AV.int IntKind.i64 (Prod.fst (Prod.snd (Prod.snd x))),
         AV.str { data := List.toArray (Prod.fst (Prod.snd (Prod.snd (Prod.snd x)))) }, AV.int IntKind.i64 (Prod.fst (Prod.snd (Prod.snd (Prod.snd (Prod.snd x))))),
         AV.int IntKind.i64 (Prod.snd (Prod.snd (Prod.snd (Prod.snd (Prod.snd x)))))]] ∧
         condP x_1
         (condP p
         (condP
         (decide
         ((if Prod.snd (Prod.snd (Prod.snd (Prod.snd (Prod.snd x)))) < Prod.fst (Prod.snd (Prod.snd (Prod.snd (Prod.snd x)))) then
         Prod.snd (Prod.snd (Prod.snd (Prod.snd (Prod.snd x))))
         else Prod.fst (Prod.snd (Prod.snd (Prod.snd (Prod.snd x))))) ≥
         (0 : Int)))
         (Post
         (AV.bool
         (decide
         ((if Prod.snd (Prod.snd (Prod.snd (Prod.snd (Prod.snd x)))) > Prod.fst (Prod.snd (Prod.snd (Prod.snd (Prod.snd x)))) then
         Prod.snd (Prod.snd (Prod.snd (Prod.snd (Prod.snd x))))
         else Prod.fst (Prod.snd (Prod.snd (Prod.snd (Prod.snd x))))) <
         i)))
         [AObj.cells
         [AV.int IntKind.i64 (Prod.fst x), AV.str { data := List.toArray (Prod.fst (Prod.snd x)) }, AV.int IntKind.i64 (Prod.fst (Prod.snd (Prod.snd x))),
         AV.str { data := List.toArray (Prod.fst (Prod.snd (Prod.snd (Prod.snd x)))) }, AV.int IntKind.i64 (Prod.fst (Prod.snd (Prod.snd (Prod.snd (Prod.snd x))))),
         AV.int IntKind.i64 (Prod.snd (Prod.snd (Prod.snd (Prod.snd (Prod.snd x)))))]])
         (Post (AV.bool false)
         [AObj.cells
         [AV.int IntKind.i64 (Prod.fst x), AV.str { data := List.toArray (Prod.fst (Prod.snd x)) }, AV.int IntKind.i64 (Prod.fst (Prod.snd (Prod.snd x))),
         AV.str { data := List.toArray (Prod.fst (Prod.snd (Prod.snd (Prod.snd x)))) }, AV.int IntKind.i64 (Prod.fst (Prod.snd (Prod.snd (Prod.snd (Prod.snd x))))),
         AV.int IntKind.i64 (Prod.snd (Prod.snd (Prod.snd (Prod.snd (Prod.snd x)))))]]))
         (Post (AV.bool false)
         [AObj.cells
         [AV.int IntKind.i64 (Prod.fst x), AV.str { data := List.toArray (Prod.fst (Prod.snd x)) }, AV.int IntKind.i64 (Prod.fst (Prod.snd (Prod.snd x))),
         AV.str { data := List.toArray (Prod.fst (Prod.snd (Prod.snd (Prod.snd x)))) }, AV.int IntKind.i64 (Prod.fst (Prod.snd (Prod.snd (Prod.snd (Prod.snd x))))),
         AV.int IntKind.i64 (Prod.snd (Prod.snd (Prod.snd (Prod.snd (Prod.snd x)))))]]))
         (Post (AV.bool false)
         [AObj.cells
         [AV.int IntKind.i64 (Prod.fst x), AV.str { data := List.toArray (Prod.fst (Prod.snd x)) }, AV.int IntKind.i64 (Prod.fst (Prod.snd (Prod.snd x))),
         AV.str { data := List.toArray (Prod.fst (Prod.snd (Prod.snd (Prod.snd x)))) }, AV.int IntKind.i64 (Prod.fst (Prod.snd (Prod.snd (Prod.snd (Prod.snd x))))),
         AV.int IntKind.i64 (Prod.snd (Prod.snd (Prod.snd (Prod.snd (Prod.snd x)))))]]))
         (Post (AV.bool false)
         [AObj.cells
         [AV.int IntKind.i64 (Prod.fst x), AV.str { data := List.toArray (Prod.fst (Prod.snd x)) }, AV.int IntKind.i64 (Prod.fst (Prod.snd (Prod.snd x))),
         AV.str { data := List.toArray (Prod.fst (Prod.snd (Prod.snd (Prod.snd x)))) }, AV.int IntKind.i64 (Prod.fst (Prod.snd (Prod.snd (Prod.snd (Prod.snd x))))),
         AV.int IntKind.i64 (Prod.snd (Prod.snd (Prod.snd (Prod.snd (Prod.snd x)))))]])))) →
    AWP Tryd.prog 85 n c131_3 [(1, AV.int IntKind.i64 i), (2, AV.ptr 0 0), (5, AV.bool p), (6, AV.bool q)] [AObj.cells (T.encSt x)]
      (q131_0 n Post) := fun x i p q n Post h => Go.Ab.awp_sound g131 n _ _ _ _ (Go.Ab.kc (by kernel_rfl) h)

-- 80
noncomputable def l80 : Nat → List Nat
  | 4 => [13, 14, 15]
  | _ => []
noncomputable def u80 : Nat → Bool
  | _ => false
noncomputable def m80 : Nat → Bool
  | _ => false
noncomputable def g80 : Cfg := { N := 25, live := l80, cut := u80, mu := m80, ret := rets }
noncomputable def c80 : Go.Code := Go.Ab.bodyOf Go.Proofs.Tryd.f80
noncomputable def q80_0 : Nat → (AV → List AObj → Prop) → AQ := fun (n : Nat) (Post : AV → List AObj → Prop) => endQ Tryd.prog (resultsOf Tryd.f80) Post
noncomputable def q80_1 : Nat → (AV → List AObj → Prop) → AQ := fun (n : Nat) (Post : AV → List AObj → Prop) => seqQ (fun (s' : Slots) (H' : List AObj) => awp Tryd.prog g80 n (codeSnd (codeSnd (codeSnd c80))) s' H' (q80_0 n Post)) (q80_0 n Post)
noncomputable def q80_2 : Nat → (AV → List AObj → Prop) → AQ := fun (n : Nat) (Post : AV → List AObj → Prop) => blockQ 0 (q80_1 n Post)
noncomputable def c80_4 : Go.Code := codeFst (codeSnd (codeFst (codeSnd (codeSnd c80))))
theorem s80 : ∀ (l : List T.St) (Post : AV → List AObj → Prop),
  condP ((↑(List.length l) : Int) == (0 : Int)) (Post (AV.bool false) [])
      (condP (decide ((↑(List.length l) : Int) > (1048576 : Int))) (Post (AV.bool false) [])
        (AWP Tryd.prog 25 0 c80_4
         [(13, AV.sl 6 (Seq.map T.encSt T.noSt l) Tip.none), (14, AV.int IntKind.i64 (↑(List.length l) : Int)), (15, AV.int IntKind.i64 (0 : Int))] []
         (q80_2 0 Post))) →
    ASpec Tryd.prog 80 [AV.sl 6 (Seq.map T.encSt T.noSt l) Tip.none] [] Post := fun l Post h => Go.Ab.ASpec.of_vc g80 Go.Proofs.Tryd.func80 (by kernel_rfl) (by kernel_rfl) (by kernel_rfl) (Go.Ab.kc (by kernel_rfl) h)
theorem v80_4 : ∀ (l : List T.St) (n i : Int) (n_1 : Nat) (Post : AV → List AObj → Prop),
  condP (decide (i < n))
      (needP ((0 : Int) ≤ i ∧ i < (↑(List.length l) : Int))
        (ASpec Tryd.prog 131
         [AV.agg
         [AV.int IntKind.i64 (Prod.fst (List.getD l (Int.toNat i) T.noSt)), AV.str { data := List.toArray (Prod.fst (Prod.snd (List.getD l (Int.toNat i) T.noSt))) },
         AV.int IntKind.i64 (Prod.fst (Prod.snd (Prod.snd (List.getD l (Int.toNat i) T.noSt)))),
         AV.str { data := List.toArray (Prod.fst (Prod.snd (Prod.snd (Prod.snd (List.getD l (Int.toNat i) T.noSt))))) },
         AV.int IntKind.i64 (Prod.fst (Prod.snd (Prod.snd (Prod.snd (Prod.snd (List.getD l (Int.toNat i) T.noSt)))))),
         AV.int IntKind.i64 (Prod.snd (Prod.snd (Prod.snd (Prod.snd (Prod.snd (List.getD l (Int.toNat i) T.noSt))))))],
         AV.int IntKind.i64 i]
         [AObj.cells
         [AV.int IntKind.i64 (Prod.fst (List.getD l (Int.toNat i) T.noSt)), AV.str { data := List.toArray (Prod.fst (Prod.snd (List.getD l (Int.toNat i) T.noSt))) },
         AV.int IntKind.i64 (Prod.fst (Prod.snd (Prod.snd (List.getD l (Int.toNat i) T.noSt)))),
         AV.str { data := List.toArray (Prod.fst (Prod.snd (Prod.snd (Prod.snd (List.getD l (Int.toNat i) T.noSt))))) },
         AV.int IntKind.i64 (Prod.fst (Prod.snd (Prod.snd (Prod.snd (Prod.snd (List.getD l (Int.toNat i) T.noSt)))))),
         AV.int IntKind.i64 (Prod.snd (Prod.snd (Prod.snd (Prod.snd (Prod.snd (List.getD l (Int.toNat i) T.noSt))))))]]
         fun (r : AV) (H' : List AObj) =>
         ∃ (x : Bool),
         r = AV.bool x ∧
         H' =
         [AObj.cells
         [AV.int IntKind.i64 (Prod.fst (List.getD l (Int.toNat i) T.noSt)), AV.str { data := List.toArray (Prod.fst (Prod.snd (List.getD l (Int.toNat i) T.noSt))) },
         AV.int IntKind.i64 (Prod.fst (Prod.snd (Prod.snd (List.getD l (Int.toNat i) T.noSt)))),
         AV.str { data := List.toArray (Prod.fst (Prod.snd (Prod.snd (Prod.snd (List.getD l (Int.toNat i) T.noSt))))) },
         AV.int IntKind.i64 (Prod.fst (Prod.snd (Prod.snd (Prod.snd (Prod.snd (List.getD l (Int.toNat i) T.noSt)))))),
         AV.int IntKind.i64 (Prod.snd (Prod.snd (Prod.snd (Prod.snd (Prod.snd (List.getD l (Int.toNat i) T.noSt))))))]] ∧
         condP (!x)
         (Post (AV.bool false)
         [AObj.cells
         [AV.int IntKind.i64 (Prod.fst (List.getD l (Int.toNat i) T.noSt)), AV.str { data := List.toArray (Prod.fst (Prod.snd (List.getD l (Int.toNat i) T.noSt))) },
         AV.int IntKind.i64 (Prod.fst (Prod.snd (Prod.snd (List.getD l (Int.toNat i) T.noSt)))),
         AV.str { data := List.toArray (Prod.fst (Prod.snd (Prod.snd (Prod.snd (List.getD l (Int.toNat i) T.noSt))))) },
         AV.int IntKind.i64 (Prod.fst (Prod.snd (Prod.snd (Prod.snd (Prod.snd (List.getD l (Int.toNat i) T.noSt)))))),
         AV.int IntKind.i64 (Prod.snd (Prod.snd (Prod.snd (Prod.snd (Prod.snd (List.getD l (Int.toNat i) T.noSt))))))]])
         (AWP Tryd.prog 25 n_1 c80_4
         [(13, AV.sl 6 (Seq.map T.encSt T.noSt l) Tip.none), (14, AV.int IntKind.i64 n), (15, AV.int IntKind.i64 (IntKind.wrap IntKind.i64 (i + (1 : Int))))]
         [AObj.cells
         [AV.int IntKind.i64 (Prod.fst (List.getD l (Int.toNat i) T.noSt)), AV.str { data := List.toArray (Prod.fst (Prod.snd (List.getD l (Int.toNat i) T.noSt))) },
         AV.int IntKind.i64 (Prod.fst (Prod.snd (Prod.snd (List.getD l (Int.toNat i) T.noSt)))),
         AV.str { data := List.toArray (Prod.fst (Prod.snd (Prod.snd (Prod.snd (List.getD l (Int.toNat i) T.noSt))))) },
         AV.int IntKind.i64 (Prod.fst (Prod.snd (Prod.snd (Prod.snd (Prod.snd (List.getD l (Int.toNat i) T.noSt)))))),
         AV.int IntKind.i64 (Prod.snd (Prod.snd (Prod.snd (Prod.snd (Prod.snd (List.getD l (Int.toNat i) T.noSt))))))]]
         (q80_2 n_1 Post))))
      (Post (AV.bool true) []) →
    AWP Tryd.prog 25 n_1 c80_4 [(13, AV.sl 6 (Seq.map T.encSt T.noSt l) Tip.none), (14, AV.int IntKind.i64 n), (15, AV.int IntKind.i64 i)] [] (q80_2 n_1 Post) := fun l n i n Post h => Go.Ab.AWP.loop' g80 (Cfg.live g80) c80_4 (by kernel_rfl) (by kernel_rfl) (Go.Ab.kc (by kernel_rfl) h)

-- 132
noncomputable def l132 : Nat → List Nat
  | 3 => [1, 2]
  | 5 => [1, 2]
  | _ => []
noncomputable def u132 : Nat → Bool
  | 3 => true
  | 5 => true
  | _ => false
noncomputable def m132 : Nat → Bool
  | _ => false
noncomputable def g132 : Cfg := { N := 80, live := l132, cut := u132, mu := m132, ret := rets }
noncomputable def c132 : Go.Code := Go.Ab.bodyOf Go.Proofs.Tryd.f132
noncomputable def q132_0 : Nat → (AV → List AObj → Prop) → AQ := fun (n : Nat) (Post : AV → List AObj → Prop) => endQ Tryd.prog (resultsOf Tryd.f132) Post
noncomputable def c132_3 : Go.Code := codeSnd (codeSnd c132)
theorem s132 : ∀ (x : T.St) (i : Int) (Post : AV → List AObj → Prop),
  condP (decide (Prod.fst x < (1 : Int)))
      (Post (AV.bool false)
        [AObj.cells
         [AV.int IntKind.i64 (Prod.fst x), AV.str { data := List.toArray (Prod.fst (Prod.snd x)) }, AV.int IntKind.i64 (Prod.fst (Prod.snd (Prod.snd x))),
         AV.str { data := List.toArray (Prod.fst (Prod.snd (Prod.snd (Prod.snd x)))) }, AV.int IntKind.i64 (Prod.fst (Prod.snd (Prod.snd (Prod.snd (Prod.snd x))))),
         AV.int IntKind.i64 (Prod.snd (Prod.snd (Prod.snd (Prod.snd (Prod.snd x)))))]])
      (condP (decide (Prod.fst x > (4 : Int)))
        (Post (AV.bool false)
         [AObj.cells
         [AV.int IntKind.i64 (Prod.fst x), AV.str { data := List.toArray (Prod.fst (Prod.snd x)) }, AV.int IntKind.i64 (Prod.fst (Prod.snd (Prod.snd x))),
         AV.str { data := List.toArray (Prod.fst (Prod.snd (Prod.snd (Prod.snd x)))) }, AV.int IntKind.i64 (Prod.fst (Prod.snd (Prod.snd (Prod.snd (Prod.snd x))))),
         AV.int IntKind.i64 (Prod.snd (Prod.snd (Prod.snd (Prod.snd (Prod.snd x)))))]])
        (ASpec Tryd.prog 59 [AV.str { data := List.toArray (Prod.fst (Prod.snd x)) }]
         [AObj.cells
         [AV.int IntKind.i64 (Prod.fst x), AV.str { data := List.toArray (Prod.fst (Prod.snd x)) }, AV.int IntKind.i64 (Prod.fst (Prod.snd (Prod.snd x))),
         AV.str { data := List.toArray (Prod.fst (Prod.snd (Prod.snd (Prod.snd x)))) }, AV.int IntKind.i64 (Prod.fst (Prod.snd (Prod.snd (Prod.snd (Prod.snd x))))),
         AV.int IntKind.i64 (Prod.snd (Prod.snd (Prod.snd (Prod.snd (Prod.snd x)))))]]
         fun (r : AV) (H' : List AObj) =>
         ∃ (x_1 : Bool),
         r = AV.bool x_1 ∧
         H' =
         [AObj.cells
         [AV.int IntKind.i64 (Prod.fst x), AV.str { data := List.toArray (Prod.fst (Prod.snd x)) }, AV.int IntKind.i64 (Prod.fst (Prod.snd (Prod.snd x))),
         AV.str { data := List.toArray (Prod.fst (Prod.snd (Prod.snd (Prod.snd x)))) }, AV.int IntKind.i64 (Prod.fst (Prod.snd (Prod.snd (Prod.snd (Prod.snd x))))),
         AV.int IntKind.i64 (Prod.snd (Prod.snd (Prod.snd (Prod.snd (Prod.snd x)))))]] ∧
         condP (!x_1)
         (Post (AV.bool false)
         [AObj.cells
         [AV.int IntKind.i64 (Prod.fst x), AV.str { data := List.toArray (Prod.fst (Prod.snd x)) }, AV.int IntKind.i64 (Prod.fst (Prod.snd (Prod.snd x))),
         AV.str { data := List.toArray (Prod.fst (Prod.snd (Prod.snd (Prod.snd x)))) }, AV.int IntKind.i64 (Prod.fst (Prod.snd (Prod.snd (Prod.snd (Prod.snd x))))),
         AV.int IntKind.i64 (Prod.snd (Prod.snd (Prod.snd (Prod.snd (Prod.snd x)))))]])
         (AWP Tryd.prog 80 0 c132_3 [(1, AV.int IntKind.i64 i), (2, AV.ptr 0 0)]
         [AObj.cells
         [AV.int IntKind.i64 (Prod.fst x), AV.str { data := List.toArray (Prod.fst (Prod.snd x)) }, AV.int IntKind.i64 (Prod.fst (Prod.snd (Prod.snd x))),
         AV.str { data := List.toArray (Prod.fst (Prod.snd (Prod.snd (Prod.snd x)))) }, AV.int IntKind.i64 (Prod.fst (Prod.snd (Prod.snd (Prod.snd (Prod.snd x))))),
         AV.int IntKind.i64 (Prod.snd (Prod.snd (Prod.snd (Prod.snd (Prod.snd x)))))]]
         (q132_0 0 Post)))) →
    ASpec Tryd.prog 132 [AV.agg (T.encSt x), AV.int IntKind.i64 i] [] Post := fun x i Post h => Go.Ab.ASpec.of_vc g132 Go.Proofs.Tryd.func132 (by kernel_rfl) (by kernel_rfl) (by kernel_rfl) (Go.Ab.kc (by kernel_rfl) h)
noncomputable def c132_5 : Go.Code := codeSnd c132_3
theorem v132_3 : ∀ (x : T.St) (i : Int) (n : Nat) (Post : AV → List AObj → Prop),
  condP (Prod.fst x == (3 : Int))
      (ASpec Tryd.prog 59 [AV.str { data := List.toArray (Prod.fst (Prod.snd (Prod.snd (Prod.snd x)))) }]
        [AObj.cells
         [AV.int IntKind.i64 (Prod.fst x), AV.str { data := List.toArray (Prod.fst (Prod.snd x)) }, AV.int IntKind.i64 (Prod.fst (Prod.snd (Prod.snd x))),
         AV.str { data := List.toArray (Prod.fst (Prod.snd (Prod.snd (Prod.snd x)))) }, AV.int IntKind.i64 (Prod.fst (Prod.snd (Prod.snd (Prod.snd (Prod.snd x))))),
         AV.int IntKind.i64 (Prod.snd (Prod.snd (Prod.snd (Prod.snd (Prod.snd x)))))]]
        fun (r : AV) (H' : List AObj) =>
        ∃ (x_1 : Bool),
         r = AV.bool x_1 ∧
         H' =
         [AObj.cells
         [AV.int IntKind.i64 (Prod.fst x), AV.str { data := List.toArray (Prod.fst (Prod.snd x)) }, AV.int IntKind.i64 (Prod.fst (Prod.snd (Prod.snd x))),
         AV.str { data := List.toArray (Prod.fst (Prod.snd (Prod.snd (Prod.snd x)))) }, AV.int IntKind.i64 (Prod.fst (Prod.snd (Prod.snd (Prod.snd (Prod.snd x))))),
         AV.int IntKind.i64 (Prod.snd (Prod.snd (Prod.snd (Prod.snd (Prod.snd x)))))]] ∧
         condP (!x_1)
         (Post (AV.bool false)
         [AObj.cells
         [AV.int IntKind.i64 (Prod.fst x), AV.str { data := List.toArray (Prod.fst (Prod.snd x)) }, AV.int IntKind.i64 (Prod.fst (Prod.snd (Prod.snd x))),
         AV.str { data := List.toArray (Prod.fst (Prod.snd (Prod.snd (Prod.snd x)))) }, AV.int IntKind.i64 (Prod.fst (Prod.snd (Prod.snd (Prod.snd (Prod.snd x))))),
         AV.int IntKind.i64 (Prod.snd (Prod.snd (Prod.snd (Prod.snd (Prod.snd x)))))]])
         (ASpec Tryd.prog 71 [AV.int IntKind.i64 (Prod.fst (Prod.snd (Prod.snd x)))]
         [AObj.cells
         [AV.int IntKind.i64 (Prod.fst x), AV.str { data := List.toArray (Prod.fst (Prod.snd x)) }, AV.int IntKind.i64 (Prod.fst (Prod.snd (Prod.snd x))),
         AV.str { data := List.toArray (Prod.fst (Prod.snd (Prod.snd (Prod.snd x)))) }, AV.int IntKind.i64 (Prod.fst (Prod.snd (Prod.snd (Prod.snd (Prod.snd x))))),
         AV.int IntKind.i64 (Prod.snd (Prod.snd (Prod.snd (Prod.snd (Prod.snd x)))))]]
         fun (r : AV) (H' : List AObj) =>
         ∃ (x_2 : Bool),
         r = AV.bool x_2 ∧
         H' =
         [AObj.cells
         [AV.int IntKind.i64 (Prod.fst x), AV.str { data := List.toArray (Prod.fst (Prod.snd x)) }, AV.int IntKind.i64 (Prod.fst (Prod.snd (Prod.snd x))),
         AV.str { data := List.toArray (Prod.fst (Prod.snd (Prod.snd (Prod.snd x)))) }, AV.int IntKind.i64 (Prod.fst (Prod.snd (Prod.snd (Prod.snd (Prod.snd x))))),
         AV.int IntKind.i64 (Prod.snd (Prod.snd (Prod.snd (Prod.snd (Prod.snd x)))))]] ∧
         condP (!x_2)
         (Post (AV.bool false)
         [AObj.cells
         [AV.int IntKind.i64 (Prod.fst x), AV.str { data := List.toArray (Prod.fst (Prod.snd x)) }, AV.int IntKind.i64 (Prod.fst (Prod.snd (Prod.snd x))),
         AV.str { data := List.toArray (Prod.fst (Prod.snd (Prod.snd (Prod.snd x)))) }, AV.int IntKind.i64 (Prod.fst (Prod.snd (Prod.snd (Prod.snd (Prod.snd x))))),
         AV.int IntKind.i64 (Prod.snd (Prod.snd (Prod.snd (Prod.snd (Prod.snd x)))))]])
         (condP (Prod.fst x != (3 : Int))
         (condP (!ByteArray.toList { data := List.toArray (Prod.fst (Prod.snd (Prod.snd (Prod.snd x)))) } == ByteArray.toList { data := #[] })
         (Post (AV.bool false)
         [AObj.cells
         [AV.int IntKind.i64 (Prod.fst x), AV.str { data := List.toArray (Prod.fst (Prod.snd x)) }, AV.int IntKind.i64 (Prod.fst (Prod.snd (Prod.snd x))),
         AV.str { data := List.toArray (Prod.fst (Prod.snd (Prod.snd (Prod.snd x)))) }, AV.int IntKind.i64 (Prod.fst (Prod.snd (Prod.snd (Prod.snd (Prod.snd x))))),
         AV.int IntKind.i64 (Prod.snd (Prod.snd (Prod.snd (Prod.snd (Prod.snd x)))))]])
         (condP (Prod.fst (Prod.snd (Prod.snd x)) != (0 : Int))
         (Post (AV.bool false)
         [AObj.cells
         [AV.int IntKind.i64 (Prod.fst x), AV.str { data := List.toArray (Prod.fst (Prod.snd x)) }, AV.int IntKind.i64 (Prod.fst (Prod.snd (Prod.snd x))),
         AV.str { data := List.toArray (Prod.fst (Prod.snd (Prod.snd (Prod.snd x)))) }, AV.int IntKind.i64 (Prod.fst (Prod.snd (Prod.snd (Prod.snd (Prod.snd x))))),
         AV.int IntKind.i64 (Prod.snd (Prod.snd (Prod.snd (Prod.snd (Prod.snd x)))))]])
         (AWP Tryd.prog 80 n c132_5 [(1, AV.int IntKind.i64 i), (2, AV.ptr 0 0)]
         [AObj.cells
         [AV.int IntKind.i64 (Prod.fst x), AV.str { data := List.toArray (Prod.fst (Prod.snd x)) }, AV.int IntKind.i64 (Prod.fst (Prod.snd (Prod.snd x))),
         AV.str { data := List.toArray (Prod.fst (Prod.snd (Prod.snd (Prod.snd x)))) }, AV.int IntKind.i64 (Prod.fst (Prod.snd (Prod.snd (Prod.snd (Prod.snd x))))),
         AV.int IntKind.i64 (Prod.snd (Prod.snd (Prod.snd (Prod.snd (Prod.snd x)))))]]
         (q132_0 n Post))))
         (AWP Tryd.prog 80 n c132_5 [(1, AV.int IntKind.i64 i), (2, AV.ptr 0 0)]
         [AObj.cells
         [AV.int IntKind.i64 (Prod.fst x), AV.str { data := List.toArray (Prod.fst (Prod.snd x)) }, AV.int IntKind.i64 (Prod.fst (Prod.snd (Prod.snd x))),
         AV.str { data := List.toArray (Prod.fst (Prod.snd (Prod.snd (Prod.snd x)))) }, AV.int IntKind.i64 (Prod.fst (Prod.snd (Prod.snd (Prod.snd (Prod.snd x))))),
         AV.int IntKind.i64 (Prod.snd (Prod.snd (Prod.snd (Prod.snd (Prod.snd x)))))]]
         (q132_0 n Post)))))
      (condP (Prod.fst x != (3 : Int))
        (condP (!ByteArray.toList { data := List.toArray (Prod.fst (Prod.snd (Prod.snd (Prod.snd x)))) } == ByteArray.toList { data := #[] })
         (Post (AV.bool false)
         [AObj.cells
         [AV.int IntKind.i64 (Prod.fst x), AV.str { data := List.toArray (Prod.fst (Prod.snd x)) }, AV.int IntKind.i64 (Prod.fst (Prod.snd (Prod.snd x))),
         AV.str { data := List.toArray (Prod.fst (Prod.snd (Prod.snd (Prod.snd x)))) }, AV.int IntKind.i64 (Prod.fst (Prod.snd (Prod.snd (Prod.snd (Prod.snd x))))),
         AV.int IntKind.i64 (Prod.snd (Prod.snd (Prod.snd (Prod.snd (Prod.snd x)))))]])
         (condP (Prod.fst (Prod.snd (Prod.snd x)) != (0 : Int))
         (Post (AV.bool false)
         [AObj.cells
         [AV.int IntKind.i64 (Prod.fst x), AV.str { data := List.toArray (Prod.fst (Prod.snd x)) }, AV.int IntKind.i64 (Prod.fst (Prod.snd (Prod.snd x))),
         AV.str { data := List.toArray (Prod.fst (Prod.snd (Prod.snd (Prod.snd x)))) }, AV.int IntKind.i64 (Prod.fst (Prod.snd (Prod.snd (Prod.snd (Prod.snd x))))),
         AV.int IntKind.i64 (Prod.snd (Prod.snd (Prod.snd (Prod.snd (Prod.snd x)))))]])
         (AWP Tryd.prog 80 n c132_5 [(1, AV.int IntKind.i64 i), (2, AV.ptr 0 0)]
         [AObj.cells
         [AV.int IntKind.i64 (Prod.fst x), AV.str { data := List.toArray (Prod.fst (Prod.snd x)) }, AV.int IntKind.i64 (Prod.fst (Prod.snd (Prod.snd x))),
         AV.str { data := List.toArray (Prod.fst (Prod.snd (Prod.snd (Prod.snd x)))) }, AV.int IntKind.i64 (Prod.fst (Prod.snd (Prod.snd (Prod.snd (Prod.snd x))))),
         AV.int IntKind.i64 (Prod.snd (Prod.snd (Prod.snd (Prod.snd (Prod.snd x)))))]]
         (q132_0 n Post))))
        (AWP Tryd.prog 80 n c132_5 [(1, AV.int IntKind.i64 i), (2, AV.ptr 0 0)]
         [AObj.cells
         [AV.int IntKind.i64 (Prod.fst x), AV.str { data := List.toArray (Prod.fst (Prod.snd x)) }, AV.int IntKind.i64 (Prod.fst (Prod.snd (Prod.snd x))),
         AV.str { data := List.toArray (Prod.fst (Prod.snd (Prod.snd (Prod.snd x)))) }, AV.int IntKind.i64 (Prod.fst (Prod.snd (Prod.snd (Prod.snd (Prod.snd x))))),
         AV.int IntKind.i64 (Prod.snd (Prod.snd (Prod.snd (Prod.snd (Prod.snd x)))))]]
         (q132_0 n Post))) →
    AWP Tryd.prog 80 n c132_3 [(1, AV.int IntKind.i64 i), (2, AV.ptr 0 0)] [AObj.cells (T.encSt x)] (q132_0 n Post) := fun x i n Post h => Go.Ab.awp_sound g132 n _ _ _ _ (Go.Ab.kc (by kernel_rfl) h)
theorem v132_5 : ∀ (x : T.St) (i : Int) (n : Nat) (Post : AV → List AObj → Prop),
  condP (Prod.fst x == (4 : Int))
      (condP (decide (Prod.fst (Prod.snd (Prod.snd (Prod.snd (Prod.snd x)))) ≥ (0 : Int)))
        (condP (decide (Prod.fst (Prod.snd (Prod.snd (Prod.snd (Prod.snd x)))) < i))
         (condP (decide (Prod.snd (Prod.snd (Prod.snd (Prod.snd (Prod.snd x)))) ≥ (0 : Int)))
         (Post (AV.bool (decide (Prod.snd (Prod.snd (Prod.snd (Prod.snd (Prod.snd x)))) < i)))
         [AObj.cells
         [AV.int IntKind.i64 (Prod.fst x), AV.str { data := List.toArray (Prod.fst (Prod.snd x)) }, AV.int IntKind.i64 (Prod.fst (Prod.snd (Prod.snd x))),
         AV.str { data := List.toArray (Prod.fst (Prod.snd (Prod.snd (Prod.snd x)))) }, AV.int IntKind.i64 (Prod.fst (Prod.snd (Prod.snd (Prod.snd (Prod.snd x))))),
         AV.int IntKind.i64 (Prod.snd (Prod.snd (Prod.snd (Prod.snd (Prod.snd x)))))]])
         (Post (AV.bool false)
         [AObj.cells
         [AV.int IntKind.i64 (Prod.fst x), AV.str { data := List.toArray (Prod.fst (Prod.snd x)) }, AV.int IntKind.i64 (Prod.fst (Prod.snd (Prod.snd x))),
         AV.str { data := List.toArray (Prod.fst (Prod.snd (Prod.snd (Prod.snd x)))) }, AV.int IntKind.i64 (Prod.fst (Prod.snd (Prod.snd (Prod.snd (Prod.snd x))))),
         AV.int IntKind.i64 (Prod.snd (Prod.snd (Prod.snd (Prod.snd (Prod.snd x)))))]]))
         (Post (AV.bool false)
         [AObj.cells
         [AV.int IntKind.i64 (Prod.fst x), AV.str { data := List.toArray (Prod.fst (Prod.snd x)) }, AV.int IntKind.i64 (Prod.fst (Prod.snd (Prod.snd x))),
         AV.str { data := List.toArray (Prod.fst (Prod.snd (Prod.snd (Prod.snd x)))) }, AV.int IntKind.i64 (Prod.fst (Prod.snd (Prod.snd (Prod.snd (Prod.snd x))))),
         AV.int IntKind.i64 (Prod.snd (Prod.snd (Prod.snd (Prod.snd (Prod.snd x)))))]]))
        (Post (AV.bool false)
         [AObj.cells
         [AV.int IntKind.i64 (Prod.fst x), AV.str { data := List.toArray (Prod.fst (Prod.snd x)) }, AV.int IntKind.i64 (Prod.fst (Prod.snd (Prod.snd x))),
         AV.str { data := List.toArray (Prod.fst (Prod.snd (Prod.snd (Prod.snd x)))) }, AV.int IntKind.i64 (Prod.fst (Prod.snd (Prod.snd (Prod.snd (Prod.snd x))))),
         AV.int IntKind.i64 (Prod.snd (Prod.snd (Prod.snd (Prod.snd (Prod.snd x)))))]]))
      (condP (Prod.fst (Prod.snd (Prod.snd (Prod.snd (Prod.snd x)))) == (0 : Int))
        (Post (AV.bool (Prod.snd (Prod.snd (Prod.snd (Prod.snd (Prod.snd x)))) == (0 : Int)))
         [AObj.cells
         [AV.int IntKind.i64 (Prod.fst x), AV.str { data := List.toArray (Prod.fst (Prod.snd x)) }, AV.int IntKind.i64 (Prod.fst (Prod.snd (Prod.snd x))),
         AV.str { data := List.toArray (Prod.fst (Prod.snd (Prod.snd (Prod.snd x)))) }, AV.int IntKind.i64 (Prod.fst (Prod.snd (Prod.snd (Prod.snd (Prod.snd x))))),
         AV.int IntKind.i64 (Prod.snd (Prod.snd (Prod.snd (Prod.snd (Prod.snd x)))))]])
        (Post (AV.bool false)
         [AObj.cells
         [AV.int IntKind.i64 (Prod.fst x), AV.str { data := List.toArray (Prod.fst (Prod.snd x)) }, AV.int IntKind.i64 (Prod.fst (Prod.snd (Prod.snd x))),
         AV.str { data := List.toArray (Prod.fst (Prod.snd (Prod.snd (Prod.snd x)))) }, AV.int IntKind.i64 (Prod.fst (Prod.snd (Prod.snd (Prod.snd (Prod.snd x))))),
         AV.int IntKind.i64 (Prod.snd (Prod.snd (Prod.snd (Prod.snd (Prod.snd x)))))]])) →
    AWP Tryd.prog 80 n c132_5 [(1, AV.int IntKind.i64 i), (2, AV.ptr 0 0)] [AObj.cells (T.encSt x)] (q132_0 n Post) := fun x i n Post h => Go.Ab.awp_sound g132 n _ _ _ _ (Go.Ab.kc (by kernel_rfl) h)

-- 81
noncomputable def l81 : Nat → List Nat
  | 4 => [0, 3]
  | _ => []
noncomputable def u81 : Nat → Bool
  | _ => false
noncomputable def m81 : Nat → Bool
  | _ => false
noncomputable def g81 : Cfg := { N := 23, live := l81, cut := u81, mu := m81, ret := rets }
noncomputable def c81 : Go.Code := Go.Ab.bodyOf Go.Proofs.Tryd.f81
noncomputable def q81_0 : Nat → (AV → List AObj → Prop) → AQ := fun (n : Nat) (Post : AV → List AObj → Prop) => endQ Tryd.prog (resultsOf Tryd.f81) Post
noncomputable def q81_1 : Nat → (AV → List AObj → Prop) → AQ := fun (n : Nat) (Post : AV → List AObj → Prop) => seqQ (fun (s' : Slots) (H' : List AObj) => awp Tryd.prog g81 n (codeSnd (codeSnd (codeSnd c81))) s' H' (q81_0 n Post)) (q81_0 n Post)
noncomputable def q81_2 : Nat → (AV → List AObj → Prop) → AQ := fun (n : Nat) (Post : AV → List AObj → Prop) => blockQ 0 (q81_1 n Post)
noncomputable def c81_4 : Go.Code := codeFst (codeSnd (codeFst (codeSnd (codeSnd c81))))
theorem s81 : ∀ (l : List T.St) (Post : AV → List AObj → Prop),
  condP (decide ((↑(List.length l) : Int) > (1048576 : Int))) (Post (AV.bool false) [])
      (AWP Tryd.prog 23 0 c81_4 [(0, AV.sl 6 (Seq.map T.encSt T.noSt l) Tip.none), (3, AV.int IntKind.i64 (0 : Int))] [] (q81_2 0 Post)) →
    ASpec Tryd.prog 81 [AV.sl 6 (Seq.map T.encSt T.noSt l) Tip.none] [] Post := fun l Post h => Go.Ab.ASpec.of_vc g81 Go.Proofs.Tryd.func81 (by kernel_rfl) (by kernel_rfl) (by kernel_rfl) (Go.Ab.kc (by kernel_rfl) h)
theorem v81_4 : ∀ (l : List T.St) (i : Int) (n : Nat) (Post : AV → List AObj → Prop),
  condP (decide (i < (↑(List.length l) : Int)))
      (needP ((0 : Int) ≤ i ∧ i < (↑(List.length l) : Int))
        (ASpec Tryd.prog 132
         [AV.agg
         [AV.int IntKind.i64 (Prod.fst (List.getD l (Int.toNat i) T.noSt)), AV.str { data := List.toArray (Prod.fst (Prod.snd (List.getD l (Int.toNat i) T.noSt))) },
         AV.int IntKind.i64 (Prod.fst (Prod.snd (Prod.snd (List.getD l (Int.toNat i) T.noSt)))),
         AV.str { data := List.toArray (Prod.fst (Prod.snd (Prod.snd (Prod.snd (List.getD l (Int.toNat i) T.noSt))))) },
         AV.int IntKind.i64 (Prod.fst (Prod.snd (Prod.snd (Prod.snd (Prod.snd (List.getD l (Int.toNat i) T.noSt)))))),
         AV.int IntKind.i64 (Prod.snd (Prod.snd (Prod.snd (Prod.snd (Prod.snd (List.getD l (Int.toNat i) T.noSt))))))],
         AV.int IntKind.i64 i]
         [] fun (r : AV) (H' : List AObj) =>
         ∃ (x : Bool),
         r = AV.bool x ∧
         H' = [] ∧
         condP (!x) (Post (AV.bool false) [])
         (AWP Tryd.prog 23 n c81_4 [(0, AV.sl 6 (Seq.map T.encSt T.noSt l) Tip.none), (3, AV.int IntKind.i64 (IntKind.wrap IntKind.i64 (i + (1 : Int))))] []
         (q81_2 n Post))))
      (Post (AV.bool (decide ((↑(List.length l) : Int) ≥ (1 : Int)))) []) →
    AWP Tryd.prog 23 n c81_4 [(0, AV.sl 6 (Seq.map T.encSt T.noSt l) Tip.none), (3, AV.int IntKind.i64 i)] [] (q81_2 n Post) := fun l i n Post h => Go.Ab.AWP.loop' g81 (Cfg.live g81) c81_4 (by kernel_rfl) (by kernel_rfl) (Go.Ab.kc (by kernel_rfl) h)

-- 84
noncomputable def l84 : Nat → List Nat
  | 4 => [0, 1, 5]
  | _ => []
noncomputable def u84 : Nat → Bool
  | _ => false
noncomputable def m84 : Nat → Bool
  | _ => false
noncomputable def g84 : Cfg := { N := 26, live := l84, cut := u84, mu := m84, ret := rets }
noncomputable def c84 : Go.Code := Go.Ab.bodyOf Go.Proofs.Tryd.f84
noncomputable def q84_0 : Nat → (AV → List AObj → Prop) → AQ := fun (n : Nat) (Post : AV → List AObj → Prop) => endQ Tryd.prog (resultsOf Tryd.f84) Post
noncomputable def q84_1 : Nat → (AV → List AObj → Prop) → AQ := fun (n : Nat) (Post : AV → List AObj → Prop) => seqQ (fun (s' : Slots) (H' : List AObj) => awp Tryd.prog g84 n (codeSnd (codeSnd (codeSnd c84))) s' H' (q84_0 n Post)) (q84_0 n Post)
noncomputable def q84_2 : Nat → (AV → List AObj → Prop) → AQ := fun (n : Nat) (Post : AV → List AObj → Prop) => blockQ 0 (q84_1 n Post)
noncomputable def c84_4 : Go.Code := codeFst (codeSnd (codeFst (codeSnd (codeSnd c84))))
theorem s84 : ∀ (a b : List T.St) (Post : AV → List AObj → Prop),
  condP ((↑(List.length a) : Int) != (↑(List.length b) : Int)) (Post (AV.bool false) [])
      (AWP Tryd.prog 26 0 c84_4
        [(0, AV.sl 6 (Seq.map T.encSt T.noSt a) Tip.none), (1, AV.sl 6 (Seq.map T.encSt T.noSt b) Tip.none), (5, AV.int IntKind.i64 (0 : Int))] []
        (q84_2 0 Post)) →
    ASpec Tryd.prog 84 [AV.sl 6 (Seq.map T.encSt T.noSt a) Tip.none, AV.sl 6 (Seq.map T.encSt T.noSt b) Tip.none] [] Post := fun a b Post h => Go.Ab.ASpec.of_vc g84 Go.Proofs.Tryd.func84 (by kernel_rfl) (by kernel_rfl) (by kernel_rfl) (Go.Ab.kc (by kernel_rfl) h)
theorem v84_4 : ∀ (a b : List T.St) (i : Int) (n : Nat) (Post : AV → List AObj → Prop),
  condP (decide (i < (↑(List.length a) : Int)))
      (needP ((0 : Int) ≤ i ∧ i < (↑(List.length a) : Int))
        (needP ((0 : Int) ≤ i ∧ i < (↑(List.length b) : Int))
         (condP
         (!(Prod.fst (List.getD a (Int.toNat i) T.noSt) == Prod.fst (List.getD b (Int.toNat i) T.noSt) &&
         (ByteArray.toList { data := List.toArray (Prod.fst (Prod.snd (List.getD a (Int.toNat i) T.noSt))) } ==
         ByteArray.toList { data := List.toArray (Prod.fst (Prod.snd (List.getD b (Int.toNat i) T.noSt))) } &&
         (Prod.fst (Prod.snd (Prod.snd (List.getD a (Int.toNat i) T.noSt))) == Prod.fst (Prod.snd (Prod.snd (List.getD b (Int.toNat i) T.noSt))) &&
         (ByteArray.toList { data := List.toArray (Prod.fst (Prod.snd (Prod.snd (Prod.snd (List.getD a (Int.toNat i) T.noSt))))) } ==
         ByteArray.toList { data := List.toArray (Prod.fst (Prod.snd (Prod.snd (Prod.snd (List.getD b (Int.toNat i) T.noSt))))) } &&
         (Prod.fst (Prod.snd (Prod.snd (Prod.snd (Prod.snd (List.getD a (Int.toNat i) T.noSt))))) ==
         Prod.fst (Prod.snd (Prod.snd (Prod.snd (Prod.snd (List.getD b (Int.toNat i) T.noSt))))) &&
         (Prod.snd (Prod.snd (Prod.snd (Prod.snd (Prod.snd (List.getD a (Int.toNat i) T.noSt))))) ==
         Prod.snd (Prod.snd (Prod.snd (Prod.snd (Prod.snd (List.getD b (Int.toNat i) T.noSt))))) &&
         true)))))))
         (Post (AV.bool false) [])
         (AWP Tryd.prog 26 n c84_4
         [(0, AV.sl 6 (Seq.map T.encSt T.noSt a) Tip.none), (1, AV.sl 6 (Seq.map T.encSt T.noSt b) Tip.none),
         (5, AV.int IntKind.i64 (IntKind.wrap IntKind.i64 (i + (1 : Int))))]
         [] (q84_2 n Post)))))
      (Post (AV.bool true) []) →
    AWP Tryd.prog 26 n c84_4
      [(0, AV.sl 6 (Seq.map T.encSt T.noSt a) Tip.none), (1, AV.sl 6 (Seq.map T.encSt T.noSt b) Tip.none), (5, AV.int IntKind.i64 i)] [] (q84_2 n Post) := fun a b i n Post h => Go.Ab.AWP.loop' g84 (Cfg.live g84) c84_4 (by kernel_rfl) (by kernel_rfl) (Go.Ab.kc (by kernel_rfl) h)

-- 78
noncomputable def l78 : Nat → List Nat
  | 4 => [0, 3]
  | _ => []
noncomputable def u78 : Nat → Bool
  | _ => false
noncomputable def m78 : Nat → Bool
  | _ => false
noncomputable def g78 : Cfg := { N := 39, live := l78, cut := u78, mu := m78, ret := rets }
noncomputable def c78 : Go.Code := Go.Ab.bodyOf Go.Proofs.Tryd.f78
noncomputable def q78_0 : Nat → (AV → List AObj → Prop) → AQ := fun (n : Nat) (Post : AV → List AObj → Prop) => endQ Tryd.prog (resultsOf Tryd.f78) Post
noncomputable def q78_1 : Nat → (AV → List AObj → Prop) → AQ := fun (n : Nat) (Post : AV → List AObj → Prop) => seqQ (fun (s' : Slots) (H' : List AObj) => awp Tryd.prog g78 n (codeSnd (codeSnd (codeSnd c78))) s' H' (q78_0 n Post)) (q78_0 n Post)
noncomputable def q78_2 : Nat → (AV → List AObj → Prop) → AQ := fun (n : Nat) (Post : AV → List AObj → Prop) => blockQ 0 (q78_1 n Post)
noncomputable def c78_4 : Go.Code := codeFst (codeSnd (codeFst (codeSnd (codeSnd c78))))
theorem s78 : ∀ (l : List T.St) (Post : AV → List AObj → Prop),
  condP (decide ((↑(List.length l) : Int) > (300 : Int)))
      (condP (decide ((↑(List.length l) : Int) ≤ (1048576 : Int))) (Post (AV.bool true) [])
        (condP (decide ((↑(List.length l) : Int) > (1048586 : Int))) (Post (AV.bool true) [])
         (AWP Tryd.prog 39 0 c78_4 [(0, AV.sl 6 (Seq.map T.encSt T.noSt l) Tip.none), (3, AV.int IntKind.i64 (0 : Int))] [] (q78_2 0 Post))))
      (condP (decide ((↑(List.length l) : Int) > (1048586 : Int))) (Post (AV.bool true) [])
        (AWP Tryd.prog 39 0 c78_4 [(0, AV.sl 6 (Seq.map T.encSt T.noSt l) Tip.none), (3, AV.int IntKind.i64 (0 : Int))] [] (q78_2 0 Post))) →
    ASpec Tryd.prog 78 [AV.sl 6 (Seq.map T.encSt T.noSt l) Tip.none] [] Post := fun l Post h => Go.Ab.ASpec.of_vc g78 Go.Proofs.Tryd.func78 (by kernel_rfl) (by kernel_rfl) (by kernel_rfl) (Go.Ab.kc (by kernel_rfl) h)
theorem v78_4 : ∀ (l : List T.St) (i : Int) (n : Nat) (Post : AV → List AObj → Prop),
  condP (decide (i < (↑(List.length l) : Int)))
      (needP ((0 : Int) ≤ i ∧ i < (↑(List.length l) : Int))
        (condP (decide ((↑(ByteArray.size { data := List.toArray (Prod.fst (Prod.snd (List.getD l (Int.toNat i) T.noSt))) }) : Int) > (100 : Int))) (Post (AV.bool true) [])
         (needP ((0 : Int) ≤ i ∧ i < (↑(List.length l) : Int))
         (condP (decide ((↑(ByteArray.size { data := List.toArray (Prod.fst (Prod.snd (Prod.snd (Prod.snd (List.getD l (Int.toNat i) T.noSt))))) }) : Int) > (100 : Int))) (Post (AV.bool true) [])
         (AWP Tryd.prog 39 n c78_4 [(0, AV.sl 6 (Seq.map T.encSt T.noSt l) Tip.none), (3, AV.int IntKind.i64 (IntKind.wrap IntKind.i64 (i + (1 : Int))))] []
         (q78_2 n Post))))))
      (Post (AV.bool false) []) →
    AWP Tryd.prog 39 n c78_4 [(0, AV.sl 6 (Seq.map T.encSt T.noSt l) Tip.none), (3, AV.int IntKind.i64 i)] [] (q78_2 n Post) := fun l i n Post h => Go.Ab.AWP.loop' g78 (Cfg.live g78) c78_4 (by kernel_rfl) (by kernel_rfl) (Go.Ab.kc (by kernel_rfl) h)

-- 92
noncomputable def l92 : Nat → List Nat
  | 5 => [3, 13, 14, 15]
  | _ => []
noncomputable def u92 : Nat → Bool
  | _ => false
noncomputable def m92 : Nat → Bool
  | _ => false
noncomputable def g92 : Cfg := { N := 50, live := l92, cut := u92, mu := m92, ret := rets }
noncomputable def c92 : Go.Code := Go.Ab.bodyOf Go.Proofs.Tryd.f92
noncomputable def q92_0 : Nat → (AV → List AObj → Prop) → AQ := fun (n : Nat) (Post : AV → List AObj → Prop) => endQ Tryd.prog (resultsOf Tryd.f92) Post
noncomputable def q92_1 : Nat → (AV → List AObj → Prop) → AQ := fun (n : Nat) (Post : AV → List AObj → Prop) => seqQ (fun (s' : Slots) (H' : List AObj) => awp Tryd.prog g92 n (codeSnd (codeSnd (codeSnd (codeSnd c92)))) s' H' (q92_0 n Post)) (q92_0 n Post)
noncomputable def q92_2 : Nat → (AV → List AObj → Prop) → AQ := fun (n : Nat) (Post : AV → List AObj → Prop) => blockQ 0 (q92_1 n Post)
noncomputable def c92_5 : Go.Code := codeFst (codeSnd (codeFst (codeSnd (codeSnd (codeSnd c92)))))
theorem s92 : ∀ (l : List T.St) (Post : AV → List AObj → Prop),
  (ASpec Tryd.prog 80 [AV.sl 6 (Seq.map T.encSt T.noSt l) Tip.none] [] fun (r : AV) (H' : List AObj) =>
      ∃ (x : Bool),
        r = AV.bool x ∧
         H' = [] ∧
         condP (!x) (Post (AV.sl 0 (Seq.raw []) Tip.nil) [])
         (ASpec Tryd.prog 90 [AV.sl 0 (Seq.raw []) Tip.nil, AV.sl 1 (Seq.raw [[AV.int IntKind.i64 (↑(List.length l) : Int)]]) Tip.full] [] fun (r : AV) (H' : List AObj) =>
         ∃ (x : List UInt8),
         r = AV.sl 1 (Seq.map encB (0 : UInt8) x) (Tip.tok 0) ∧
         H' = [AObj.tok] ∧
         AWP Tryd.prog 50 0 c92_5
         [(3, AV.sl 1 (Seq.map encB (0 : UInt8) x) (Tip.tok 0)), (13, AV.sl 6 (Seq.map T.encSt T.noSt l) Tip.none),
         (14, AV.int IntKind.i64 (↑(List.length l) : Int)), (15, AV.int IntKind.i64 (0 : Int))]
         [AObj.tok] (q92_2 0 Post))) →
    ASpec Tryd.prog 92 [AV.sl 6 (Seq.map T.encSt T.noSt l) Tip.none] [] Post := fun l Post h => Go.Ab.ASpec.of_vc g92 Go.Proofs.Tryd.func92 (by kernel_rfl) (by kernel_rfl) (by kernel_rfl) (Go.Ab.kc (by kernel_rfl) h)
theorem v92_5 : ∀ (l : List T.St) (b : List UInt8) (n i : Int) (n_1 : Nat) (Post : AV → List AObj → Prop),
  condP (decide (i < n))
      (needP ((0 : Int) ≤ i ∧ i < (↑(List.length l) : Int))
        (ASpec Tryd.prog 90 [AV.sl 1 (Seq.map encB (0 : UInt8) b) Tip.none, AV.sl 1 (Seq.raw [[AV.int IntKind.i64 (Prod.fst (List.getD l (Int.toNat i) T.noSt))]]) Tip.full]
         [AObj.cells
         [AV.int IntKind.i64 (Prod.fst (List.getD l (Int.toNat i) T.noSt)), AV.str { data := List.toArray (Prod.fst (Prod.snd (List.getD l (Int.toNat i) T.noSt))) },
         AV.int IntKind.i64 (Prod.fst (Prod.snd (Prod.snd (List.getD l (Int.toNat i) T.noSt)))),
         AV.str { data := List.toArray (Prod.fst (Prod.snd (Prod.snd (Prod.snd (List.getD l (Int.toNat i) T.noSt))))) },
         AV.int IntKind.i64 (Prod.fst (Prod.snd (Prod.snd (Prod.snd (Prod.snd (List.getD l (Int.toNat i) T.noSt)))))),
         AV.int IntKind.i64 (Prod.snd (Prod.snd (Prod.snd (Prod.snd (Prod.snd (List.getD l (Int.toNat i) T.noSt))))))]]
         fun (r : AV) (H' : List AObj) =>
         ∃ (x : List UInt8),
         r = AV.sl 1 (Seq.map encB (0 : UInt8) x) (Tip.tok 1) ∧
         H' =
         [AObj.cells
         [AV.int IntKind.i64 (Prod.fst (List.getD l (Int.toNat i) T.noSt)), AV.str { data := List.toArray (Prod.fst (Prod.snd (List.getD l (Int.toNat i) T.noSt))) },
         AV.int IntKind.i64 (Prod.fst (Prod.snd (Prod.snd (List.getD l (Int.toNat i) T.noSt)))),
         AV.str { data := List.toArray (Prod.fst (Prod.snd (Prod.snd (Prod.snd (List.getD l (Int.toNat i) T.noSt))))) },
         AV.int IntKind.i64 (Prod.fst (Prod.snd (Prod.snd (Prod.snd (Prod.snd (List.getD l (Int.toNat i) T.noSt)))))),
         AV.int IntKind.i64 (Prod.snd (Prod.snd (Prod.snd (Prod.snd (Prod.snd (List.getD l (Int.toNat i) T.noSt))))))],
         AObj.tok] ∧
         (AV.str { data := List.toArray (Prod.fst (Prod.snd (List.getD l (Int.toNat i) T.noSt))) } = AV.str { data := List.toArray (Prod.fst (Prod.snd (List.getD l (Int.toNat i) T.noSt))) } ∧
         [AObj.cells
         [AV.int IntKind.i64 (Prod.fst (List.getD l (Int.toNat i) T.noSt)), AV.str { data := List.toArray (Prod.fst (Prod.snd (List.getD l (Int.toNat i) T.noSt))) },
         AV.int IntKind.i64 (Prod.fst (Prod.snd (Prod.snd (List.getD l (Int.toNat i) T.noSt)))),
         AV.str { data := List.toArray (Prod.fst (Prod.snd (Prod.snd (Prod.snd (List.getD l (Int.toNat i) T.noSt))))) },
         AV.int IntKind.i64 (Prod.fst (Prod.snd (Prod.snd (Prod.snd (Prod.snd (List.getD l (Int.toNat i) T.noSt)))))),
         AV.int IntKind.i64 (Prod.snd (Prod.snd (Prod.snd (Prod.snd (Prod.snd (List.getD l (Int.toNat i) T.noSt))))))],
         AObj.tok] =
         [AObj.cells
         [AV.int IntKind.i64 (Prod.fst (List.getD l (Int.toNat i) T.noSt)), AV.str { data := List.toArray (Prod.fst (Prod.snd (List.getD l (Int.toNat i) T.noSt))) },
         AV.int IntKind.i64 (Prod.fst (Prod.snd (Prod.snd (List.getD l (Int.toNat i) T.noSt)))),
         AV.str { data := List.toArray (Prod.fst (Prod.snd (Prod.snd (Prod.snd (List.getD l (Int.toNat i) T.noSt))))) },
         AV.int IntKind.i64 (Prod.fst (Prod.snd (Prod.snd (Prod.snd (Prod.snd (List.getD l (Int.toNat i) T.noSt)))))),
         AV.int IntKind.i64 (Prod.snd (Prod.snd (Prod.snd (Prod.snd (Prod.snd (List.getD l (Int.toNat i) T.noSt))))))],
         AObj.tok]) ∧
         ASpec Tryd.prog 91
         [AV.sl 1 (Seq.map encB (0 : UInt8) x) (Tip.tok 1), AV.str { data := List.toArray (Prod.fst (Prod.snd (List.getD l (Int.toNat i) T.noSt))) }]
         [AObj.cells
         [AV.int IntKind.i64 (Prod.fst (List.getD l (Int.toNat i) T.noSt)), AV.str { data := List.toArray (Prod.fst (Prod.snd (List.getD l (Int.toNat i) T.noSt))) },
         AV.int IntKind.i64 (Prod.fst (Prod.snd (Prod.snd (List.getD l (Int.toNat i) T.noSt)))),
         AV.str { data := List.toArray (Prod.fst (Prod.snd (Prod.snd (Prod.snd (List.getD l (Int.toNat i) T.noSt))))) },
         AV.int IntKind.i64 (Prod.fst (Prod.snd (Prod.snd (Prod.snd (Prod.snd (List.getD l (Int.toNat i) T.noSt)))))),
         AV.int IntKind.i64 (Prod.snd (Prod.snd (Prod.snd (Prod.snd (Prod.snd (List.getD l (Int.toNat i) T.noSt))))))],
         AObj.tok]
         fun (r : AV) (H' : List AObj) =>
         ∃ (x : List UInt8),
         r = AV.sl 1 (Seq.map encB (0 : UInt8) x) (Tip.tok 2) ∧
         H' =
         [AObj.cells
         [AV.int IntKind.i64 (Prod.fst (List.getD l (Int.toNat i) T.noSt)), AV.str { data := List.toArray (Prod.fst (Prod.snd (List.getD l (Int.toNat i) T.noSt))) },
         AV.int IntKind.i64 (Prod.fst (Prod.snd (Prod.snd (List.getD l (Int.toNat i) T.noSt)))),
         AV.str { data := List.toArray (Prod.fst (Prod.snd (Prod.snd (Prod.snd (List.getD l (Int.toNat i) T.noSt))))) },
         AV.int IntKind.i64 (Prod.fst (Prod.snd (Prod.snd (Prod.snd (Prod.snd (List.getD l (Int.toNat i) T.noSt)))))),
         AV.int IntKind.i64 (Prod.snd (Prod.snd (Prod.snd (Prod.snd (Prod.snd (List.getD l (Int.toNat i) T.noSt))))))],
         AObj.tok, AObj.tok] ∧
         condP (Prod.fst (List.getD l (Int.toNat i) T.noSt) == (3 : Int))
         (ASpec Tryd.prog 90
         [AV.sl 1 (Seq.map encB (0 : UInt8) x) (Tip.tok 2),
         AV.sl 1 (Seq.raw [[AV.int IntKind.i64 (Prod.fst (Prod.snd (Prod.snd (List.getD l (Int.toNat i) T.noSt))))]]) Tip.full]
         [AObj.cells
         [AV.int IntKind.i64 (Prod.fst (List.getD l (Int.toNat i) T.noSt)), AV.str { data := List.toArray (Prod.fst (Prod.snd (List.getD l (Int.toNat i) T.noSt))) },
         AV.int IntKind.i64 (Prod.fst (Prod.snd (Prod.snd (List.getD l (Int.toNat i) T.noSt)))),
         AV.str { data := List.toArray (Prod.fst (Prod.snd (Prod.snd (Prod.snd (List.getD l (Int.toNat i) T.noSt))))) },
         AV.int IntKind.i64 (Prod.fst (Prod.snd (Prod.snd (Prod.snd (Prod.snd (List.getD l (Int.toNat i) T.noSt)))))),
         AV.int IntKind.i64 (Prod.snd (Prod.snd (Prod.snd (Prod.snd (Prod.snd (List.getD l (Int.toNat i) T.noSt))))))],
         AObj.tok, AObj.tok]
         fun (r : AV) (H' : List AObj) =>
         ∃ (x : List UInt8),
         r = AV.sl 1 (Seq.map encB (0 : UInt8) x) (Tip.tok 3) ∧
         H' =
         [AObj.cells
         [AV.int IntKind.i64 (Prod.fst (List.getD l (Int.toNat i) T.noSt)), AV.str { data := List.toArray (Prod.fst (Prod.snd (List.getD l (Int.toNat i) T.noSt))) },
         AV.int IntKind.i64 (Prod.fst (Prod.snd (Prod.snd (List.getD l (Int.toNat i) T.noSt)))),
         AV.str { data := List.toArray (Prod.fst (Prod.snd (Prod.snd (Prod.snd (List.getD l (Int.toNat i) T.noSt))))) },
         AV.int IntKind.i64 (Prod.fst (Prod.snd (Prod.snd (Prod.snd (Prod.snd (List.getD l (Int.toNat i) T.noSt)))))),
         AV.int IntKind.i64 (Prod.snd (Prod.snd (Prod.snd (Prod.snd (Prod.snd (List.getD l (Int.toNat i) T.noSt))))))],
         AObj.tok, AObj.tok, AObj.tok] ∧
         (AV.str { data := List.toArray (Prod.fst (Prod.snd (Prod.snd (Prod.snd (List.getD l (Int.toNat i) T.noSt))))) } =
         AV.str { data := List.toArray (Prod.fst (Prod.snd (Prod.snd (Prod.snd (List.getD l (Int.toNat i) T.noSt))))) } ∧
         [AObj.cells
         [AV.int IntKind.i64 (Prod.fst (List.getD l (Int.toNat i) T.noSt)),
         AV.str { data := List.toArray (Prod.fst (Prod.snd (List.getD l (Int.toNat i) T.noSt))) },
         AV.int IntKind.i64 (Prod.fst (Prod.snd (Prod.snd (List.getD l (Int.toNat i) T.noSt)))),
         AV.str { data := List.toArray (Prod.fst (Prod.snd (Prod.snd (Prod.snd (List.getD l (Int.toNat i) T.noSt))))) },
         AV.int IntKind.i64 (Prod.fst (Prod.snd (Prod.snd (Prod.snd (Prod.snd (List.getD l (Int.toNat i) T.noSt)))))),
         AV.int IntKind.i64 (Prod.snd (Prod.snd (Prod.snd (Prod.snd (Prod.snd (List.getD l (Int.toNat i) T.noSt))))))],
         AObj.tok, AObj.tok, AObj.tok] =
         [AObj.cells
         [AV.int IntKind.i64 (Prod.fst (List.getD l (Int.toNat i) T.noSt)),
         AV.str { data := List.toArray (Prod.fst (Prod.snd (List.getD l (Int.toNat i) T.noSt))) },
         AV.int IntKind.i64 (Prod.fst (Prod.snd (Prod.snd (List.getD l (Int.toNat i) T.noSt)))),
         AV.str { data := List.toArray (Prod.fst (Prod.snd (Prod.snd (Prod.snd (List.getD l (Int.toNat i) T.noSt))))) },
         AV.int IntKind.i64 (Prod.fst (Prod.snd (Prod.snd (Prod.snd (Prod.snd (List.getD l (Int.toNat i) T.noSt)))))),
         AV.int IntKind.i64 (Prod.snd (Prod.snd (Prod.snd (Prod.snd (Prod.snd (List.getD l (Int.toNat i) T.noSt))))))],
         AObj.tok, AObj.tok, AObj.tok]) ∧
         ASpec Tryd.prog 91
         [AV.sl 1 (Seq.map encB (0 : UInt8) x) (Tip.tok 3),
         AV.str { data := List.toArray (Prod.fst (Prod.snd (Prod.snd (Prod.snd (List.getD l (Int.toNat i) T.noSt))))) }]
         [AObj.cells
         [AV.int IntKind.i64 (Prod.fst (List.getD l (Int.toNat i) T.noSt)), AV.str { data := List.toArray (Prod.fst (Prod.snd (List.getD l (Int.toNat i) T.noSt))) },
         AV.int IntKind.i64 (Prod.fst (Prod.snd (Prod.snd (List.getD l (Int.toNat i) T.noSt)))),
         AV.str { data := List.toArray (Prod.fst (Prod.snd (Prod.snd (Prod.snd (List.getD l (Int.toNat i) T.noSt))))) },
         AV.int IntKind.i64 (Prod.fst (Prod.snd (Prod.snd (Prod.snd (Prod.snd (List.getD l (Int.toNat i) T.noSt)))))),
         AV.int IntKind.i64 (Prod.snd (Prod.snd (Prod.snd (Prod.snd (Prod.snd (List.getD l (Int.toNat i) T.noSt))))))],
         AObj.tok, AObj.tok, AObj.tok]
         fun (r : AV) (H' : List AObj) =>
         ∃ (x : List UInt8),
         r = AV.sl 1 (Seq.map encB (0 : UInt8) x) (Tip.tok 4) ∧
         H' =
         [AObj.cells
         [AV.int IntKind.i64 (Prod.fst (List.getD l (Int.toNat i) T.noSt)),
         AV.str { data := List.toArray (Prod.fst (Prod.snd (List.getD l (Int.toNat i) T.noSt))) },
         AV.int IntKind.i64 (Prod.fst (Prod.snd (Prod.snd (List.getD l (Int.toNat i) T.noSt)))),
         AV.str { data := List.toArray (Prod.fst (Prod.snd (Prod.snd (Prod.snd (List.getD l (Int.toNat i) T.noSt))))) },
         AV.int IntKind.i64 (Prod.fst (Prod.snd (Prod.snd (Prod.snd (Prod.snd (List.getD l (Int.toNat i) T.noSt)))))),
         AV.int IntKind.i64 (Prod.snd (Prod.snd (Prod.snd (Prod.snd (Prod.snd (List.getD l (Int.toNat i) T.noSt))))))],
         AObj.tok, AObj.tok, AObj.tok, AObj.tok] ∧
         AWP Tryd.prog 50 n_1 c92_5
         [(3, AV.sl 1 (Seq.map encB (0 : UInt8) x) (Tip.tok 4)), (13, AV.sl 6 (Seq.map T.encSt T.noSt l) Tip.none),
         (14, AV.int IntKind.i64 n), (15, AV.int IntKind.i64 (IntKind.wrap IntKind.i64 (i + (1 : Int))))]
         [AObj.cells
         [AV.int IntKind.i64 (Prod.fst (List.getD l (Int.toNat i) T.noSt)),
         AV.str { data := List.toArray (Prod.fst (Prod.snd (List.getD l (Int.toNat i) T.noSt))) },
         AV.int IntKind.i64 (Prod.fst (Prod.snd (Prod.snd (List.getD l (Int.toNat i) T.noSt)))),
         AV.str { data := List.toArray (Prod.fst (Prod.snd (Prod.snd (Prod.snd (List.getD l (Int.toNat i) T.noSt))))) },
         AV.int IntKind.i64 (Prod.fst (Prod.snd (Prod.snd (Prod.snd (Prod.snd (List.getD l (Int.toNat i) T.noSt)))))),
         AV.int IntKind.i64 (Prod.snd (Prod.snd (Prod.snd (Prod.snd (Prod.snd (List.getD l (Int.toNat i) T.noSt))))))],
         AObj.tok, AObj.tok, AObj.tok, AObj.tok]
         (q92_2 n_1 Post))
         (condP (Prod.fst (List.getD l (Int.toNat i) T.noSt) == (4 : Int))
         (ASpec Tryd.prog 90
         [AV.sl 1 (Seq.map encB (0 : UInt8) x) (Tip.tok 2),
         AV.sl 1
         (Seq.raw
         [[AV.int IntKind.i64 (Prod.fst (Prod.snd (Prod.snd (Prod.snd (Prod.snd (List.getD l (Int.toNat i) T.noSt))))))],
         [AV.int IntKind.i64 (Prod.snd (Prod.snd (Prod.snd (Prod.snd (Prod.snd (List.getD l (Int.toNat i) T.noSt))))))]])
         Tip.full]
         [AObj.cells
         [AV.int IntKind.i64 (Prod.fst (List.getD l (Int.toNat i) T.noSt)), AV.str { data := List.toArray (Prod.fst (Prod.snd (List.getD l (Int.toNat i) T.noSt))) },
         AV.int IntKind.i64 (Prod.fst (Prod.snd (Prod.snd (List.getD l (Int.toNat i) T.noSt)))),
         AV.str { data := List.toArray (Prod.fst (Prod.snd (Prod.snd (Prod.snd (List.getD l (Int.toNat i) T.noSt))))) },
         AV.int IntKind.i64 (Prod.fst (Prod.snd (Prod.snd (Prod.snd (Prod.snd (List.getD l (Int.toNat i) T.noSt)))))),
         AV.int IntKind.i64 (Prod.snd (Prod.snd (Prod.snd (Prod.snd (Prod.snd (List.getD l (Int.toNat i) T.noSt))))))],
         AObj.tok, AObj.tok]
         fun (r : AV) (H' : List AObj) =>
         ∃ (x : List UInt8),
         r = AV.sl 1 (Seq.map encB (0 : UInt8) x) (Tip.tok 3) ∧
         H' =
         [AObj.cells
         [AV.int IntKind.i64 (Prod.fst (List.getD l (Int.toNat i) T.noSt)), AV.str { data := List.toArray (Prod.fst (Prod.snd (List.getD l (Int.toNat i) T.noSt))) },
         AV.int IntKind.i64 (Prod.fst (Prod.snd (Prod.snd (List.getD l (Int.toNat i) T.noSt)))),
         AV.str { data := List.toArray (Prod.fst (Prod.snd (Prod.snd (Prod.snd (List.getD l (Int.toNat i) T.noSt))))) },
         AV.int IntKind.i64 (Prod.fst (Prod.snd (Prod.snd (Prod.snd (Prod.snd (List.getD l (Int.toNat i) T.noSt)))))),
         AV.int IntKind.i64 (Prod.snd (Prod.snd (Prod.snd (Prod.snd (Prod.snd (List.getD l (Int.toNat i) T.noSt))))))],
         AObj.tok, AObj.tok, AObj.tok] ∧
         AWP Tryd.prog 50 n_1 c92_5
         [(3, AV.sl 1 (Seq.map encB (0 : UInt8) x) (Tip.tok 3)), (13, AV.sl 6 (Seq.map T.encSt T.noSt l) Tip.none),
         (14, AV.int IntKind.i64 n), (15, AV.int IntKind.i64 (IntKind.wrap IntKind.i64 (i + (1 : Int))))]
         [AObj.cells
         [AV.int IntKind.i64 (Prod.fst (List.getD l (Int.toNat i) T.noSt)), AV.str { data := List.toArray (Prod.fst (Prod.snd (List.getD l (Int.toNat i) T.noSt))) },
         AV.int IntKind.i64 (Prod.fst (Prod.snd (Prod.snd (List.getD l (Int.toNat i) T.noSt)))),
         AV.str { data := List.toArray (Prod.fst (Prod.snd (Prod.snd (Prod.snd (List.getD l (Int.toNat i) T.noSt))))) },
         AV.int IntKind.i64 (Prod.fst (Prod.snd (Prod.snd (Prod.snd (Prod.snd (List.getD l (Int.toNat i) T.noSt)))))),
         AV.int IntKind.i64 (Prod.snd (Prod.snd (Prod.snd (Prod.snd (Prod.snd (List.getD l (Int.toNat i) T.noSt))))))],
         AObj.tok, AObj.tok, AObj.tok]
         (q92_2 n_1 Post))
         (AWP Tryd.prog 50 n_1 c92_5
         [(3, AV.sl 1 (Seq.map encB (0 : UInt8) x) (Tip.tok 2)), (13, AV.sl 6 (Seq.map T.encSt T.noSt l) Tip.none),
         (14, AV.int IntKind.i64 n), (15, AV.int IntKind.i64 (IntKind.wrap IntKind.i64 (i + (1 : Int))))]
         [AObj.cells
         [AV.int IntKind.i64 (Prod.fst (List.getD l (Int.toNat i) T.noSt)), AV.str { data := List.toArray (Prod.fst (Prod.snd (List.getD l (Int.toNat i) T.noSt))) },
         AV.int IntKind.i64 (Prod.fst (Prod.snd (Prod.snd (List.getD l (Int.toNat i) T.noSt)))),
         AV.str { data := List.toArray (Prod.fst (Prod.snd (Prod.snd (Prod.snd (List.getD l (Int.toNat i) T.noSt))))) },
         AV.int IntKind.i64 (Prod.fst (Prod.snd (Prod.snd (Prod.snd (Prod.snd (List.getD l (Int.toNat i) T.noSt)))))),
         AV.int IntKind.i64 (Prod.snd (Prod.snd (Prod.snd (Prod.snd (Prod.snd (List.getD l (Int.toNat i) T.noSt))))))],
         AObj.tok, AObj.tok]
         (q92_2 n_1 Post)))))
      (Post (AV.sl 1 (Seq.map encB (0 : UInt8) b) Tip.none) []) →
    AWP Tryd.prog 50 n_1 c92_5
      [(3, AV.sl 1 (Seq.map encB (0 : UInt8) b) Tip.none), (13, AV.sl 6 (Seq.map T.encSt T.noSt l) Tip.none), (14, AV.int IntKind.i64 n),
        (15, AV.int IntKind.i64 i)]
      [] (q92_2 n_1 Post) := fun l b n i n Post h => Go.Ab.AWP.loop' g92 (Cfg.live g92) c92_5 (by kernel_rfl) (by kernel_rfl) (Go.Ab.kc (by kernel_rfl) h)

-- 106
noncomputable def l106 : Nat → List Nat
  | 5 => [0, 3, 4]
  | 10 => [0, 3, 4]
  | _ => []
noncomputable def u106 : Nat → Bool
  | 10 => true
  | _ => false
noncomputable def m106 : Nat → Bool
  | _ => false
noncomputable def g106 : Cfg := { N := 75, live := l106, cut := u106, mu := m106, ret := rets }
noncomputable def c106 : Go.Code := Go.Ab.bodyOf Go.Proofs.Tryd.f106
noncomputable def q106_0 : Nat → (AV → List AObj → Prop) → AQ := fun (n : Nat) (Post : AV → List AObj → Prop) => endQ Tryd.prog (resultsOf Tryd.f106) Post
noncomputable def q106_1 : Nat → (AV → List AObj → Prop) → AQ := fun (n : Nat) (Post : AV → List AObj → Prop) => seqQ (fun (s' : Slots) (H' : List AObj) => awp Tryd.prog g106 n (codeSnd (codeSnd (codeSnd (codeSnd c106)))) s' H' (q106_0 n Post)) (q106_0 n Post)
noncomputable def q106_2 : Nat → (AV → List AObj → Prop) → AQ := fun (n : Nat) (Post : AV → List AObj → Prop) => blockQ 0 (q106_1 n Post)
noncomputable def c106_5 : Go.Code := codeFst (codeSnd (codeFst (codeSnd (codeSnd (codeSnd c106)))))
theorem s106 : ∀ (l : List T.St) (Post : AV → List AObj → Prop),
  (ASpec Tryd.prog 81 [AV.sl 6 (Seq.map T.encSt T.noSt l) Tip.none] [] fun (r : AV) (H' : List AObj) =>
      ∃ (x : Bool),
        r = AV.bool x ∧
         H' = [] ∧
         condP (!x) (Post (AV.str { data := #[] }) [])
         (ASpec Tryd.prog 104 [AV.int IntKind.i64 (↑(List.length l) : Int)] [] fun (r : AV) (H' : List AObj) =>
         ∃ (x : ByteArray),
         r = AV.str x ∧
         H' = [] ∧
         AWP Tryd.prog 75 0 c106_5 [(0, AV.sl 6 (Seq.map T.encSt T.noSt l) Tip.none), (3, AV.str x), (4, AV.int IntKind.i64 (0 : Int))] []
         (q106_2 0 Post))) →
    ASpec Tryd.prog 106 [AV.sl 6 (Seq.map T.encSt T.noSt l) Tip.none] [] Post := fun l Post h => Go.Ab.ASpec.of_vc g106 Go.Proofs.Tryd.func106 (by kernel_rfl) (by kernel_rfl) (by kernel_rfl) (Go.Ab.kc (by kernel_rfl) h)
noncomputable def q106_3 : Nat → (AV → List AObj → Prop) → AQ := fun (n : Nat) (Post : AV → List AObj → Prop) => loopQ Tryd.prog 75 n c106_5 (q106_2 n Post) (Cfg.live g106)
noncomputable def q106_4 : Nat → (AV → List AObj → Prop) → AQ := fun (n : Nat) (Post : AV → List AObj → Prop) => seqQ (fun (s' : Slots) (H' : List AObj) => awp Tryd.prog g106 n (codeSnd (codeSnd (codeFst c106_5))) s' H' (q106_3 n Post)) (q106_3 n Post)
noncomputable def q106_5 : Nat → (AV → List AObj → Prop) → AQ := fun (n : Nat) (Post : AV → List AObj → Prop) => blockQ 1 (q106_4 n Post)
noncomputable def c106_10 : Go.Code := codeSnd (codeSnd (codeFst (codeFst (codeSnd (codeFst c106_5)))))
theorem v106_5 : ∀ (l : List T.St) (s : ByteArray) (i : Int) (n : Nat) (Post : AV → List AObj → Prop),
  condP (decide (i < (↑(List.length l) : Int)))
      (needP ((0 : Int) ≤ i ∧ i < (↑(List.length l) : Int))
        (needP ((0 : Int) ≤ i ∧ i < (↑(List.length l) : Int))
         (ASpec Tryd.prog 104 [AV.int IntKind.i64 (Prod.fst (List.getD l (Int.toNat i) T.noSt))] [] fun (r : AV) (H' : List AObj) =>
         ∃ (x : ByteArray),
         r = AV.str x ∧
         H' = [] ∧
         (AV.str { data := List.toArray (Prod.fst (Prod.snd (List.getD l (Int.toNat i) T.noSt))) } = AV.str { data := List.toArray (Prod.fst (Prod.snd (List.getD l (Int.toNat i) T.noSt))) } ∧
         ([] : List AObj) = []) ∧
         needP ((↑(ByteArray.size s + ByteArray.size x) : Int) ≤ (9223372036854775807 : Int))
         (ASpec Tryd.prog 105 [AV.str { data := List.toArray (Prod.fst (Prod.snd (List.getD l (Int.toNat i) T.noSt))) }] [] fun (r : AV) (H' : List AObj) =>
         ∃ (x_1 : ByteArray),
         r = AV.str x_1 ∧
         H' = [] ∧
         needP ((↑(ByteArray.size (s ++ x) + ByteArray.size x_1) : Int) ≤ (9223372036854775807 : Int))
         (needP ((0 : Int) ≤ i ∧ i < (↑(List.length l) : Int))
         (condP (Prod.fst (List.getD l (Int.toNat i) T.noSt) == (3 : Int))
         (needP ((0 : Int) ≤ i ∧ i < (↑(List.length l) : Int))
         (needP ((0 : Int) ≤ i ∧ i < (↑(List.length l) : Int))
         (ASpec Tryd.prog 104 [AV.int IntKind.i64 (Prod.fst (Prod.snd (Prod.snd (List.getD l (Int.toNat i) T.noSt))))] [] fun (r : AV) (H' : List AObj) =>
         ∃ (x_2 : ByteArray),
         r = AV.str x_2 ∧
         H' = [] ∧
         (AV.str { data := List.toArray (Prod.fst (Prod.snd (Prod.snd (Prod.snd (List.getD l (Int.toNat i) T.noSt))))) } =
         AV.str { data := List.toArray (Prod.fst (Prod.snd (Prod.snd (Prod.snd (List.getD l (Int.toNat i) T.noSt))))) } ∧
         ([] : List AObj) = []) ∧
         needP ((↑(ByteArray.size (s ++ x ++ x_1) + ByteArray.size x_2) : Int) ≤ (9223372036854775807 : Int))
         (ASpec Tryd.prog 105 [AV.str { data := List.toArray (Prod.fst (Prod.snd (Prod.snd (Prod.snd (List.getD l (Int.toNat i) T.noSt))))) }] []
         fun (r : AV) (H' : List AObj) =>
         ∃ (x_3 : ByteArray),
         r = AV.str x_3 ∧
         H' = [] ∧
         needP ((↑(ByteArray.size (s ++ x ++ x_1 ++ x_2) + ByteArray.size x_3) : Int) ≤ (9223372036854775807 : Int))
         (AWP Tryd.prog 75 n c106_10
         [(0, AV.sl 6 (Seq.map T.encSt T.noSt l) Tip.none), (3, AV.str (s ++ x ++ x_1 ++ x_2 ++ x_3)),
         (4, AV.int IntKind.i64 i)]
         [] (q106_5 n Post))))))
         (AWP Tryd.prog 75 n c106_10
         [(0, AV.sl 6 (Seq.map T.encSt T.noSt l) Tip.none), (3, AV.str (s ++ x ++ x_1)), (4, AV.int IntKind.i64 i)] []
         (q106_5 n Post))))))))
      (Post (AV.str s) []) →
    AWP Tryd.prog 75 n c106_5 [(0, AV.sl 6 (Seq.map T.encSt T.noSt l) Tip.none), (3, AV.str s), (4, AV.int IntKind.i64 i)] [] (q106_2 n Post) := fun l s i n Post h => Go.Ab.AWP.loop' g106 (Cfg.live g106) c106_5 (by kernel_rfl) (by kernel_rfl) (Go.Ab.kc (by kernel_rfl) h)
theorem v106_10 : ∀ (l : List T.St) (s : ByteArray) (i : Int) (n : Nat) (Post : AV → List AObj → Prop),
  needP ((0 : Int) ≤ i ∧ i < (↑(List.length l) : Int))
      (condP (Prod.fst (List.getD l (Int.toNat i) T.noSt) == (4 : Int))
        (needP ((0 : Int) ≤ i ∧ i < (↑(List.length l) : Int))
         (needP ((0 : Int) ≤ i ∧ i < (↑(List.length l) : Int))
         (ASpec Tryd.prog 104 [AV.int IntKind.i64 (Prod.fst (Prod.snd (Prod.snd (Prod.snd (Prod.snd (List.getD l (Int.toNat i) T.noSt))))))] [] fun (r : AV) (H' : List AObj) =>
         ∃ (x : ByteArray),
         r = AV.str x ∧
         H' = [] ∧
         (AV.int IntKind.i64 (Prod.snd (Prod.snd (Prod.snd (Prod.snd (Prod.snd (List.getD l (Int.toNat i) T.noSt)))))) =
         AV.int IntKind.i64 (Prod.snd (Prod.snd (Prod.snd (Prod.snd (Prod.snd (List.getD l (Int.toNat i) T.noSt)))))) ∧
         ([] : List AObj) = []) ∧
         needP ((↑(ByteArray.size s + ByteArray.size x) : Int) ≤ (9223372036854775807 : Int))
         (ASpec Tryd.prog 104 [AV.int IntKind.i64 (Prod.snd (Prod.snd (Prod.snd (Prod.snd (Prod.snd (List.getD l (Int.toNat i) T.noSt))))))] [] fun (r : AV) (H' : List AObj) =>
         ∃ (x_1 : ByteArray),
         r = AV.str x_1 ∧
         H' = [] ∧
         needP ((↑(ByteArray.size (s ++ x) + ByteArray.size x_1) : Int) ≤ (9223372036854775807 : Int))
         (AWP Tryd.prog 75 n c106_5
         [(0, AV.sl 6 (Seq.map T.encSt T.noSt l) Tip.none), (3, AV.str (s ++ x ++ x_1)),
         (4, AV.int IntKind.i64 (IntKind.wrap IntKind.i64 (i + (1 : Int))))]
         [] (q106_2 n Post))))))
        (AWP Tryd.prog 75 n c106_5
         [(0, AV.sl 6 (Seq.map T.encSt T.noSt l) Tip.none), (3, AV.str s), (4, AV.int IntKind.i64 (IntKind.wrap IntKind.i64 (i + (1 : Int))))] [] (q106_2 n Post))) →
    AWP Tryd.prog 75 n c106_10 [(0, AV.sl 6 (Seq.map T.encSt T.noSt l) Tip.none), (3, AV.str s), (4, AV.int IntKind.i64 i)] [] (q106_5 n Post) := fun l s i n Post h => Go.Ab.awp_sound g106 n _ _ _ _ (Go.Ab.kc (by kernel_rfl) h)

-- 97
noncomputable def l97 : Nat → List Nat
  | 4 => [4, 5, 6]
  | 12 => [4, 5, 6, 7]
  | 13 => [4, 5]
  | _ => []
noncomputable def u97 : Nat → Bool
  | 12 => true
  | 13 => true
  | _ => false
noncomputable def m97 : Nat → Bool
  | _ => false
noncomputable def g97 : Cfg := { N := 62, live := l97, cut := u97, mu := m97, ret := rets }
noncomputable def c97 : Go.Code := Go.Ab.bodyOf Go.Proofs.Tryd.f97
noncomputable def q97_0 : Nat → (AV → List AObj → Prop) → AQ := fun (n : Nat) (Post : AV → List AObj → Prop) => endQ Tryd.prog (resultsOf Tryd.f97) Post
noncomputable def c97_13 : Go.Code := codeSnd (codeSnd (codeSnd (codeSnd c97)))
noncomputable def q97_1 : Nat → (AV → List AObj → Prop) → AQ := fun (n : Nat) (Post : AV → List AObj → Prop) => seqQ (fun (s' : Slots) (H' : List AObj) => AWP Tryd.prog (Cfg.N g97) n c97_13 (restrict s' (Cfg.live g97 13)) H' (q97_0 n Post)) (q97_0 n Post)
noncomputable def q97_2 : Nat → (AV → List AObj → Prop) → AQ := fun (n : Nat) (Post : AV → List AObj → Prop) => blockQ 0 (q97_1 n Post)
noncomputable def c97_4 : Go.Code := codeFst (codeSnd (codeFst (codeSnd (codeSnd (codeSnd c97)))))
theorem s97 : ∀ (bs : List UInt8) (Post : AV → List AObj → Prop),
  (ASpec Tryd.prog 93 [AV.sl 1 (Seq.map encB (0 : UInt8) bs) Tip.none] [] fun (r : AV) (H' : List AObj) =>
      ∃ (x : List UInt8),
        r = AV.ptr 0 0 ∧
         H' = [AObj.cells [AV.sl 1 (Seq.map encB (0 : UInt8) x) Tip.none, AV.int IntKind.i64 (0 : Int), AV.int IntKind.i64 (0 : Int)]] ∧
         ASpec Tryd.prog 94 [AV.ptr 0 0, AV.int IntKind.i64 (1048576 : Int)]
         [AObj.cells [AV.sl 1 (Seq.map encB (0 : UInt8) x) Tip.none, AV.int IntKind.i64 (0 : Int), AV.int IntKind.i64 (0 : Int)]] fun (r : AV) (H' : List AObj) =>
         ∃ (x_1 : Int × Int × Int),
         r = AV.int IntKind.i64 (Prod.fst x_1) ∧
         H' = [AObj.cells [AV.sl 1 (Seq.map encB (0 : UInt8) x) Tip.none, AV.int IntKind.i64 (Prod.fst (Prod.snd x_1)), AV.int IntKind.i64 (Prod.snd (Prod.snd x_1))]] ∧
         AWP Tryd.prog 62 0 c97_4
         [(4, AV.ptr 0 0), (5, AV.sl 0 (Seq.raw []) Tip.nil), (6, AV.int IntKind.i64 (Prod.fst x_1))]
         [AObj.cells [AV.sl 1 (Seq.map encB (0 : UInt8) x) Tip.none, AV.int IntKind.i64 (Prod.fst (Prod.snd x_1)), AV.int IntKind.i64 (Prod.snd (Prod.snd x_1))]]
         (q97_2 0 Post)) →
    ASpec Tryd.prog 97 [AV.sl 1 (Seq.map encB (0 : UInt8) bs) Tip.none] [] Post := fun bs Post h => Go.Ab.ASpec.of_vc g97 Go.Proofs.Tryd.func97 (by kernel_rfl) (by kernel_rfl) (by kernel_rfl) (Go.Ab.kc (by kernel_rfl) h)
noncomputable def q97_3 : Nat → (AV → List AObj → Prop) → AQ := fun (n : Nat) (Post : AV → List AObj → Prop) => loopQ Tryd.prog 62 n c97_4 (q97_2 n Post) (Cfg.live g97)
noncomputable def q97_4 : Nat → (AV → List AObj → Prop) → AQ := fun (n : Nat) (Post : AV → List AObj → Prop) => seqQ (fun (s' : Slots) (H' : List AObj) => awp Tryd.prog g97 n (codeSnd (codeSnd (codeFst c97_4))) s' H' (q97_3 n Post)) (q97_3 n Post)
noncomputable def q97_5 : Nat → (AV → List AObj → Prop) → AQ := fun (n : Nat) (Post : AV → List AObj → Prop) => blockQ 1 (q97_4 n Post)
noncomputable def c97_12 : Go.Code := codeSnd (codeSnd (codeFst (codeFst (codeSnd (codeFst c97_4)))))
theorem v97_4 : ∀ (bs : List UInt8) (p e : Int) (acc : List T.St) (n : Int) (n_1 : Nat) (Post : AV → List AObj → Prop),
  condP (decide (n > (0 : Int)))
      (ASpec Tryd.prog 95 [AV.ptr 0 0] [AObj.cells [AV.sl 1 (Seq.map encB (0 : UInt8) bs) Tip.none, AV.int IntKind.i64 p, AV.int IntKind.i64 e], AObj.tok]
        fun (r : AV) (H' : List AObj) =>
        ∃ (x : Int),
         r = AV.int IntKind.i64 x ∧
         H' = [AObj.cells [AV.sl 1 (Seq.map encB (0 : UInt8) bs) Tip.none, AV.int IntKind.i64 p, AV.int IntKind.i64 e], AObj.tok] ∧
         condP (x == (0 : Int))
         (ASpec Tryd.prog 94 [AV.ptr 0 0, AV.int IntKind.i64 (4 : Int)]
         [AObj.cells [AV.sl 1 (Seq.map encB (0 : UInt8) bs) Tip.none, AV.int IntKind.i64 p, AV.int IntKind.i64 e], AObj.tok] fun (r : AV) (H' : List AObj) =>
         ∃ (x : Int × Int × Int),
         r = AV.int IntKind.i64 (Prod.fst x) ∧
         H' = [AObj.cells [AV.sl 1 (Seq.map encB (0 : UInt8) bs) Tip.none, AV.int IntKind.i64 (Prod.fst (Prod.snd x)), AV.int IntKind.i64 (Prod.snd (Prod.snd x))], AObj.tok] ∧
         ASpec Tryd.prog 96 [AV.ptr 0 0, AV.int IntKind.i64 (24 : Int)]
         [AObj.cells [AV.sl 1 (Seq.map encB (0 : UInt8) bs) Tip.none, AV.int IntKind.i64 (Prod.fst (Prod.snd x)), AV.int IntKind.i64 (Prod.snd (Prod.snd x))], AObj.tok]
         fun (r : AV) (H' : List AObj) =>
         ∃ (x_1 : ByteArray × Int × Int),
         r = AV.str (Prod.fst x_1) ∧
         H' =
         [AObj.cells [AV.sl 1 (Seq.map encB (0 : UInt8) bs) Tip.none, AV.int IntKind.i64 (Prod.fst (Prod.snd x_1)), AV.int IntKind.i64 (Prod.snd (Prod.snd x_1))],
         AObj.tok] ∧
         condP (Prod.fst x == (3 : Int))
         (ASpec Tryd.prog 94 [AV.ptr 0 0, AV.int IntKind.i64 (1000000000 : Int)]
         [AObj.cells [AV.sl 1 (Seq.map encB (0 : UInt8) bs) Tip.none, AV.int IntKind.i64 (Prod.fst (Prod.snd x_1)), AV.int IntKind.i64 (Prod.snd (Prod.snd x_1))],
         AObj.tok,
         AObj.cells
         [AV.int IntKind.i64 (Prod.fst x), AV.str (Prod.fst x_1), AV.int IntKind.i64 (0 : Int), AV.str { data := #[] }, AV.int IntKind.i64 (0 : Int),
         AV.int IntKind.i64 (0 : Int)]]
         fun (r : AV) (H' : List AObj) =>
         ∃ (x_2 : Int × Int × Int),
         r = AV.int IntKind.i64 (Prod.fst x_2) ∧
         H' =
         [AObj.cells
         [AV.sl 1 (Seq.map encB (0 : UInt8) bs) Tip.none, AV.int IntKind.i64 (Prod.fst (Prod.snd x_2)), AV.int IntKind.i64 (Prod.snd (Prod.snd x_2))],
         AObj.tok,
         AObj.cells
         [AV.int IntKind.i64 (Prod.fst x), AV.str (Prod.fst x_1), AV.int IntKind.i64 (0 : Int), AV.str { data := #[] }, AV.int IntKind.i64 (0 : Int),
         AV.int IntKind.i64 (0 : Int)]] ∧
         ASpec Tryd.prog 96 [AV.ptr 0 0, AV.int IntKind.i64 (24 : Int)]
         [AObj.cells
         [AV.sl 1 (Seq.map encB (0 : UInt8) bs) Tip.none, AV.int IntKind.i64 (Prod.fst (Prod.snd x_2)), AV.int IntKind.i64 (Prod.snd (Prod.snd x_2))],
         AObj.tok,
         AObj.cells
         [AV.int IntKind.i64 (Prod.fst x), AV.str (Prod.fst x_1), AV.int IntKind.i64 (0 : Int), AV.str { data := #[] }, AV.int IntKind.i64 (0 : Int),
         AV.int IntKind.i64 (0 : Int)]]
         fun (r : AV) (H' : List AObj) =>
         ∃ (x_3 : ByteArray × Int × Int),
         r = AV.str (Prod.fst x_3) ∧
         H' =
         [AObj.cells
         [AV.sl 1 (Seq.map encB (0 : UInt8) bs) Tip.none, AV.int IntKind.i64 (Prod.fst (Prod.snd x_3)),
         AV.int IntKind.i64 (Prod.snd (Prod.snd x_3))],
         AObj.tok,
         AObj.cells
         [AV.int IntKind.i64 (Prod.fst x), AV.str (Prod.fst x_1), AV.int IntKind.i64 (0 : Int), AV.str { data := #[] }, AV.int IntKind.i64 (0 : Int),
         AV.int IntKind.i64 (0 : Int)]] ∧
         AWP Tryd.prog 62 n_1 c97_12
         [(4, AV.ptr 0 0), (5, AV.sl 6 (Seq.map T.encSt T.noSt acc) (Tip.tok 1)),
         (6, AV.int IntKind.i64 n), (7, AV.ptr 2 0)]
         [AObj.cells
         [AV.sl 1 (Seq.map encB (0 : UInt8) bs) Tip.none, AV.int IntKind.i64 (Prod.fst (Prod.snd x_3)),
         AV.int IntKind.i64 (Prod.snd (Prod.snd x_3))],
         AObj.tok,
         AObj.cells
         [AV.int IntKind.i64 (Prod.fst x), AV.str (Prod.fst x_1), AV.int IntKind.i64 (Prod.fst x_2), AV.str (Prod.fst x_3), AV.int IntKind.i64 (0 : Int),
         AV.int IntKind.i64 (0 : Int)]]
         (q97_5 n_1 Post))
         (condP (Prod.fst x == (4 : Int))
         (ASpec Tryd.prog 94 [AV.ptr 0 0, AV.int IntKind.i64 (1048576 : Int)]
         [AObj.cells [AV.sl 1 (Seq.map encB (0 : UInt8) bs) Tip.none, AV.int IntKind.i64 (Prod.fst (Prod.snd x_1)), AV.int IntKind.i64 (Prod.snd (Prod.snd x_1))],
         AObj.tok,
         AObj.cells
         [AV.int IntKind.i64 (Prod.fst x), AV.str (Prod.fst x_1), AV.int IntKind.i64 (0 : Int), AV.str { data := #[] }, AV.int IntKind.i64 (0 : Int),
         AV.int IntKind.i64 (0 : Int)]]
         fun (r : AV) (H' : List AObj) =>
         ∃ (x_2 : Int × Int × Int),
         r = AV.int IntKind.i64 (Prod.fst x_2) ∧
         H' =
         [AObj.cells
         [AV.sl 1 (Seq.map encB (0 : UInt8) bs) Tip.none, AV.int IntKind.i64 (Prod.fst (Prod.snd x_2)), AV.int IntKind.i64 (Prod.snd (Prod.snd x_2))],
         AObj.tok,
         AObj.cells
         [AV.int IntKind.i64 (Prod.fst x), AV.str (Prod.fst x_1), AV.int IntKind.i64 (0 : Int), AV.str { data := #[] }, AV.int IntKind.i64 (0 : Int),
         AV.int IntKind.i64 (0 : Int)]] ∧
         ASpec Tryd.prog 94 [AV.ptr 0 0, AV.int IntKind.i64 (1048576 : Int)]
         [AObj.cells
         [AV.sl 1 (Seq.map encB (0 : UInt8) bs) Tip.none, AV.int IntKind.i64 (Prod.fst (Prod.snd x_2)), AV.int IntKind.i64 (Prod.snd (Prod.snd x_2))],
         AObj.tok,
         AObj.cells
         [AV.int IntKind.i64 (Prod.fst x), AV.str (Prod.fst x_1), AV.int IntKind.i64 (0 : Int), AV.str { data := #[] }, AV.int IntKind.i64 (0 : Int),
         AV.int IntKind.i64 (0 : Int)]]
         fun (r : AV) (H' : List AObj) =>
         ∃ (x_3 : Int × Int × Int),
         r = AV.int IntKind.i64 (Prod.fst x_3) ∧
         H' =
         [AObj.cells
         [AV.sl 1 (Seq.map encB (0 : UInt8) bs) Tip.none, AV.int IntKind.i64 (Prod.fst (Prod.snd x_3)),
         AV.int IntKind.i64 (Prod.snd (Prod.snd x_3))],
         AObj.tok,
         AObj.cells
         [AV.int IntKind.i64 (Prod.fst x), AV.str (Prod.fst x_1), AV.int IntKind.i64 (0 : Int), AV.str { data := #[] }, AV.int IntKind.i64 (0 : Int),
         AV.int IntKind.i64 (0 : Int)]] ∧
         AWP Tryd.prog 62 n_1 c97_12
         [(4, AV.ptr 0 0), (5, AV.sl 6 (Seq.map T.encSt T.noSt acc) (Tip.tok 1)),
         (6, AV.int IntKind.i64 n), (7, AV.ptr 2 0)]
         [AObj.cells
         [AV.sl 1 (Seq.map encB (0 : UInt8) bs) Tip.none, AV.int IntKind.i64 (Prod.fst (Prod.snd x_3)),
         AV.int IntKind.i64 (Prod.snd (Prod.snd x_3))],
         AObj.tok,
         AObj.cells
         [AV.int IntKind.i64 (Prod.fst x), AV.str (Prod.fst x_1), AV.int IntKind.i64 (0 : Int), AV.str { data := #[] },
         AV.int IntKind.i64 (Prod.fst x_2), AV.int IntKind.i64 (Prod.fst x_3)]]
         (q97_5 n_1 Post))
         (AWP Tryd.prog 62 n_1 c97_12
         [(4, AV.ptr 0 0), (5, AV.sl 6 (Seq.map T.encSt T.noSt acc) (Tip.tok 1)), (6, AV.int IntKind.i64 n),
         (7, AV.ptr 2 0)]
         [AObj.cells [AV.sl 1 (Seq.map encB (0 : UInt8) bs) Tip.none, AV.int IntKind.i64 (Prod.fst (Prod.snd x_1)), AV.int IntKind.i64 (Prod.snd (Prod.snd x_1))],
         AObj.tok,
         AObj.cells
         [AV.int IntKind.i64 (Prod.fst x), AV.str (Prod.fst x_1), AV.int IntKind.i64 (0 : Int), AV.str { data := #[] }, AV.int IntKind.i64 (0 : Int),
         AV.int IntKind.i64 (0 : Int)]]
         (q97_5 n_1 Post))))
         (AWP Tryd.prog 62 n_1 c97_13 [(4, AV.ptr 0 0), (5, AV.sl 6 (Seq.map T.encSt T.noSt acc) (Tip.tok 1))]
         [AObj.cells [AV.sl 1 (Seq.map encB (0 : UInt8) bs) Tip.none, AV.int IntKind.i64 p, AV.int IntKind.i64 e], AObj.tok] (q97_0 n_1 Post)))
      (AWP Tryd.prog 62 n_1 c97_13 [(4, AV.ptr 0 0), (5, AV.sl 6 (Seq.map T.encSt T.noSt acc) (Tip.tok 1))]
        [AObj.cells [AV.sl 1 (Seq.map encB (0 : UInt8) bs) Tip.none, AV.int IntKind.i64 p, AV.int IntKind.i64 e], AObj.tok] (q97_0 n_1 Post)) →
    AWP Tryd.prog 62 n_1 c97_4 [(4, AV.ptr 0 0), (5, AV.sl 6 (Seq.map T.encSt T.noSt acc) (Tip.tok 1)), (6, AV.int IntKind.i64 n)]
      [V.rd bs p e, AObj.tok] (q97_2 n_1 Post) := fun bs p e acc n n Post h => Go.Ab.AWP.loop' g97 (Cfg.live g97) c97_4 (by kernel_rfl) (by kernel_rfl) (Go.Ab.kc (by kernel_rfl) h)
theorem v97_12 : ∀ (bs : List UInt8) (p e : Int) (acc : List T.St) (n : Int) (x : T.St) (n_1 : Nat) (Post : AV → List AObj → Prop),
  needP ((List.length acc + 1) * 64 ≤ 140737488351232)
      (AWP Tryd.prog 62 n_1 c97_4
        [(4, AV.ptr 0 0),
         (5,
         AV.sl 6
         (Seq.app (Seq.map T.encSt T.noSt acc)
         (Seq.raw
         [[AV.int IntKind.i64 (Prod.fst x), AV.str { data := List.toArray (Prod.fst (Prod.snd x)) }, AV.int IntKind.i64 (Prod.fst (Prod.snd (Prod.snd x))),
         AV.str { data := List.toArray (Prod.fst (Prod.snd (Prod.snd (Prod.snd x)))) }, AV.int IntKind.i64 (Prod.fst (Prod.snd (Prod.snd (Prod.snd (Prod.snd x))))),
         AV.int IntKind.i64 (Prod.snd (Prod.snd (Prod.snd (Prod.snd (Prod.snd x)))))]]))
         (Tip.tok 3)),
         (6, AV.int IntKind.i64 (IntKind.wrap IntKind.i64 (n - (1 : Int))))]
        [AObj.cells [AV.sl 1 (Seq.map encB (0 : UInt8) bs) Tip.none, AV.int IntKind.i64 p, AV.int IntKind.i64 e], AObj.gone,
         AObj.cells
         [AV.int IntKind.i64 (Prod.fst x), AV.str { data := List.toArray (Prod.fst (Prod.snd x)) }, AV.int IntKind.i64 (Prod.fst (Prod.snd (Prod.snd x))),
         AV.str { data := List.toArray (Prod.fst (Prod.snd (Prod.snd (Prod.snd x)))) }, AV.int IntKind.i64 (Prod.fst (Prod.snd (Prod.snd (Prod.snd (Prod.snd x))))),
         AV.int IntKind.i64 (Prod.snd (Prod.snd (Prod.snd (Prod.snd (Prod.snd x)))))],
         AObj.tok]
        (q97_2 n_1 Post)) →
    AWP Tryd.prog 62 n_1 c97_12
      [(4, AV.ptr 0 0), (5, AV.sl 6 (Seq.map T.encSt T.noSt acc) (Tip.tok 1)), (6, AV.int IntKind.i64 n),
        (7, AV.ptr 2 0)]
      [V.rd bs p e, AObj.tok, AObj.cells (T.encSt x)] (q97_5 n_1 Post) := fun bs p e acc n x n Post h => Go.Ab.awp_sound g97 n _ _ _ _ (Go.Ab.kc (by kernel_rfl) h)
theorem v97_13 : ∀ (bs : List UInt8) (p e : Int) (acc : List T.St) (n : Nat) (Post : AV → List AObj → Prop),
  (ASpec Tryd.prog 99 [AV.ptr 0 0] [AObj.cells [AV.sl 1 (Seq.map encB (0 : UInt8) bs) Tip.none, AV.int IntKind.i64 p, AV.int IntKind.i64 e], AObj.tok]
      fun (r : AV) (H' : List AObj) =>
      ∃ (x : Int),
        r = AV.int IntKind.i64 x ∧
         H' = [AObj.cells [AV.sl 1 (Seq.map encB (0 : UInt8) bs) Tip.none, AV.int IntKind.i64 p, AV.int IntKind.i64 e], AObj.tok] ∧
         condP (x == (0 : Int))
         (ASpec Tryd.prog 80 [AV.sl 6 (Seq.map T.encSt T.noSt acc) (Tip.tok 1)]
         [AObj.cells [AV.sl 1 (Seq.map encB (0 : UInt8) bs) Tip.none, AV.int IntKind.i64 p, AV.int IntKind.i64 e], AObj.tok] fun (r : AV) (H' : List AObj) =>
         ∃ (x_1 : Bool),
         r = AV.bool x_1 ∧
         H' = [AObj.cells [AV.sl 1 (Seq.map encB (0 : UInt8) bs) Tip.none, AV.int IntKind.i64 p, AV.int IntKind.i64 e], AObj.tok] ∧
         condP (!x_1)
         (Post (AV.tup [AV.sl 0 (Seq.raw []) Tip.nil, AV.int IntKind.i64 (3 : Int)])
         [AObj.cells [AV.sl 1 (Seq.map encB (0 : UInt8) bs) Tip.none, AV.int IntKind.i64 p, AV.int IntKind.i64 e], AObj.tok])
         (condP (x != (0 : Int))
         (Post (AV.tup [AV.sl 0 (Seq.raw []) Tip.nil, AV.int IntKind.i64 x])
         [AObj.cells [AV.sl 1 (Seq.map encB (0 : UInt8) bs) Tip.none, AV.int IntKind.i64 p, AV.int IntKind.i64 e], AObj.tok])
         (Post (AV.tup [AV.sl 6 (Seq.map T.encSt T.noSt acc) (Tip.tok 1), AV.int IntKind.i64 (0 : Int)])
         [AObj.cells [AV.sl 1 (Seq.map encB (0 : UInt8) bs) Tip.none, AV.int IntKind.i64 p, AV.int IntKind.i64 e], AObj.tok])))
         (condP (x != (0 : Int))
         (Post (AV.tup [AV.sl 0 (Seq.raw []) Tip.nil, AV.int IntKind.i64 x])
         [AObj.cells [AV.sl 1 (Seq.map encB (0 : UInt8) bs) Tip.none, AV.int IntKind.i64 p, AV.int IntKind.i64 e], AObj.tok])
         (Post (AV.tup [AV.sl 6 (Seq.map T.encSt T.noSt acc) (Tip.tok 1), AV.int IntKind.i64 (0 : Int)])
         [AObj.cells [AV.sl 1 (Seq.map encB (0 : UInt8) bs) Tip.none, AV.int IntKind.i64 p, AV.int IntKind.i64 e], AObj.tok]))) →
    AWP Tryd.prog 62 n c97_13 [(4, AV.ptr 0 0), (5, AV.sl 6 (Seq.map T.encSt T.noSt acc) (Tip.tok 1))] [V.rd bs p e, AObj.tok] (q97_0 n Post) := fun bs p e acc n Post h => Go.Ab.awp_sound g97 n _ _ _ _ (Go.Ab.kc (by kernel_rfl) h)

-- 102
noncomputable def l102 : Nat → List Nat
  | 5 => [4, 5, 6, 7]
  | 11 => [4, 5, 6, 7, 8]
  | 14 => [4, 5, 6, 7, 8]
  | 15 => [4, 6]
  | _ => []
noncomputable def u102 : Nat → Bool
  | 11 => true
  | 14 => true
  | 15 => true
  | _ => false
noncomputable def m102 : Nat → Bool
  | _ => false
noncomputable def g102 : Cfg := { N := 67, live := l102, cut := u102, mu := m102, ret := rets }
noncomputable def c102 : Go.Code := Go.Ab.bodyOf Go.Proofs.Tryd.f102
noncomputable def q102_0 : Nat → (AV → List AObj → Prop) → AQ := fun (n : Nat) (Post : AV → List AObj → Prop) => endQ Tryd.prog (resultsOf Tryd.f102) Post
noncomputable def c102_15 : Go.Code := codeSnd (codeSnd (codeSnd (codeSnd (codeSnd c102))))
noncomputable def q102_1 : Nat → (AV → List AObj → Prop) → AQ := fun (n : Nat) (Post : AV → List AObj → Prop) => seqQ (fun (s' : Slots) (H' : List AObj) => AWP Tryd.prog (Cfg.N g102) n c102_15 (restrict s' (Cfg.live g102 15)) H' (q102_0 n Post)) (q102_0 n Post)
noncomputable def q102_2 : Nat → (AV → List AObj → Prop) → AQ := fun (n : Nat) (Post : AV → List AObj → Prop) => blockQ 0 (q102_1 n Post)
noncomputable def c102_5 : Go.Code := codeFst (codeSnd (codeFst (codeSnd (codeSnd (codeSnd (codeSnd c102))))))
theorem s102 : ∀ (s : ByteArray) (Post : AV → List AObj → Prop),
  (ASpec Tryd.prog 100 [AV.ptr 0 0, AV.int IntKind.i64 (1048576 : Int)] [AObj.cells [AV.str s, AV.int IntKind.i64 (0 : Int)]] fun (r : AV) (H' : List AObj) =>
      ∃ (x : Int × ByteArray × Int),
        r = AV.int IntKind.i64 (Prod.fst x) ∧
         H' = [AObj.cells [AV.str (Prod.fst (Prod.snd x)), AV.int IntKind.i64 (Prod.snd (Prod.snd x))]] ∧
         AWP Tryd.prog 67 0 c102_5
         [(4, AV.ptr 0 0), (5, AV.int IntKind.i64 (Prod.fst x)), (6, AV.sl 0 (Seq.raw []) Tip.nil), (7, AV.int IntKind.i64 (0 : Int))]
         [AObj.cells [AV.str (Prod.fst (Prod.snd x)), AV.int IntKind.i64 (Prod.snd (Prod.snd x))]] (q102_2 0 Post)) →
    ASpec Tryd.prog 102 [AV.str s] [] Post := fun s Post h => Go.Ab.ASpec.of_vc g102 Go.Proofs.Tryd.func102 (by kernel_rfl) (by kernel_rfl) (by kernel_rfl) (Go.Ab.kc (by kernel_rfl) h)
noncomputable def q102_3 : Nat → (AV → List AObj → Prop) → AQ := fun (n : Nat) (Post : AV → List AObj → Prop) => loopQ Tryd.prog 67 n c102_5 (q102_2 n Post) (Cfg.live g102)
noncomputable def q102_4 : Nat → (AV → List AObj → Prop) → AQ := fun (n : Nat) (Post : AV → List AObj → Prop) => seqQ (fun (s' : Slots) (H' : List AObj) => awp Tryd.prog g102 n (codeSnd (codeSnd (codeFst c102_5))) s' H' (q102_3 n Post)) (q102_3 n Post)
noncomputable def q102_5 : Nat → (AV → List AObj → Prop) → AQ := fun (n : Nat) (Post : AV → List AObj → Prop) => blockQ 1 (q102_4 n Post)
noncomputable def c102_11 : Go.Code := codeSnd (codeSnd (codeFst (codeFst (codeSnd (codeFst c102_5)))))
theorem v102_5 : ∀ (s : ByteArray) (e n : Int) (acc : List T.St) (i : Int) (n_1 : Nat) (Post : AV → List AObj → Prop),
  condP (decide (i < n))
      (condP (e == (0 : Int))
        (ASpec Tryd.prog 100 [AV.ptr 0 0, AV.int IntKind.i64 (4 : Int)] [AObj.cells [AV.str s, AV.int IntKind.i64 e], AObj.tok] fun (r : AV) (H' : List AObj) =>
         ∃ (x : Int × ByteArray × Int),
         r = AV.int IntKind.i64 (Prod.fst x) ∧
         H' = [AObj.cells [AV.str (Prod.fst (Prod.snd x)), AV.int IntKind.i64 (Prod.snd (Prod.snd x))], AObj.tok] ∧
         ASpec Tryd.prog 101 [AV.ptr 0 0, AV.int IntKind.i64 (24 : Int)]
         [AObj.cells [AV.str (Prod.fst (Prod.snd x)), AV.int IntKind.i64 (Prod.snd (Prod.snd x))], AObj.tok] fun (r : AV) (H' : List AObj) =>
         ∃ (x_1 : ByteArray × ByteArray × Int),
         r = AV.str (Prod.fst x_1) ∧
         H' = [AObj.cells [AV.str (Prod.fst (Prod.snd x_1)), AV.int IntKind.i64 (Prod.snd (Prod.snd x_1))], AObj.tok] ∧
         condP (Prod.fst x == (3 : Int))
         (ASpec Tryd.prog 100 [AV.ptr 0 0, AV.int IntKind.i64 (1000000000 : Int)]
         [AObj.cells [AV.str (Prod.fst (Prod.snd x_1)), AV.int IntKind.i64 (Prod.snd (Prod.snd x_1))], AObj.tok,
         AObj.cells
         [AV.int IntKind.i64 (Prod.fst x), AV.str (Prod.fst x_1), AV.int IntKind.i64 (0 : Int), AV.str { data := #[] }, AV.int IntKind.i64 (0 : Int),
         AV.int IntKind.i64 (0 : Int)]]
         fun (r : AV) (H' : List AObj) =>
         ∃ (x_2 : Int × ByteArray × Int),
         r = AV.int IntKind.i64 (Prod.fst x_2) ∧
         H' =
         [AObj.cells [AV.str (Prod.fst (Prod.snd x_2)), AV.int IntKind.i64 (Prod.snd (Prod.snd x_2))], AObj.tok,
         AObj.cells
         [AV.int IntKind.i64 (Prod.fst x), AV.str (Prod.fst x_1), AV.int IntKind.i64 (0 : Int), AV.str { data := #[] }, AV.int IntKind.i64 (0 : Int),
         AV.int IntKind.i64 (0 : Int)]] ∧
         ASpec Tryd.prog 101 [AV.ptr 0 0, AV.int IntKind.i64 (24 : Int)]
         [AObj.cells [AV.str (Prod.fst (Prod.snd x_2)), AV.int IntKind.i64 (Prod.snd (Prod.snd x_2))], AObj.tok,
         AObj.cells
         [AV.int IntKind.i64 (Prod.fst x), AV.str (Prod.fst x_1), AV.int IntKind.i64 (Prod.fst x_2), AV.str { data := #[] }, AV.int IntKind.i64 (0 : Int),
         AV.int IntKind.i64 (0 : Int)]]
         fun (r : AV) (H' : List AObj) =>
         ∃ (x_3 : ByteArray × ByteArray × Int),
         r = AV.str (Prod.fst x_3) ∧
         H' =
         [AObj.cells [AV.str (Prod.fst (Prod.snd x_3)), AV.int IntKind.i64 (Prod.snd (Prod.snd x_3))], AObj.tok,
         AObj.cells
         [AV.int IntKind.i64 (Prod.fst x), AV.str (Prod.fst x_1), AV.int IntKind.i64 (Prod.fst x_2), AV.str { data := #[] }, AV.int IntKind.i64 (0 : Int),
         AV.int IntKind.i64 (0 : Int)]] ∧
         AWP Tryd.prog 67 n_1 c102_11
         [(4, AV.ptr 0 0), (5, AV.int IntKind.i64 n), (6, AV.sl 6 (Seq.map T.encSt T.noSt acc) (Tip.tok 1)),
         (7, AV.int IntKind.i64 i), (8, AV.ptr 2 0)]
         [AObj.cells [AV.str (Prod.fst (Prod.snd x_3)), AV.int IntKind.i64 (Prod.snd (Prod.snd x_3))], AObj.tok,
         AObj.cells
         [AV.int IntKind.i64 (Prod.fst x), AV.str (Prod.fst x_1), AV.int IntKind.i64 (Prod.fst x_2), AV.str (Prod.fst x_3), AV.int IntKind.i64 (0 : Int),
         AV.int IntKind.i64 (0 : Int)]]
         (q102_5 n_1 Post))
         (AWP Tryd.prog 67 n_1 c102_11
         [(4, AV.ptr 0 0), (5, AV.int IntKind.i64 n), (6, AV.sl 6 (Seq.map T.encSt T.noSt acc) (Tip.tok 1)),
         (7, AV.int IntKind.i64 i), (8, AV.ptr 2 0)]
         [AObj.cells [AV.str (Prod.fst (Prod.snd x_1)), AV.int IntKind.i64 (Prod.snd (Prod.snd x_1))], AObj.tok,
         AObj.cells
         [AV.int IntKind.i64 (Prod.fst x), AV.str (Prod.fst x_1), AV.int IntKind.i64 (0 : Int), AV.str { data := #[] }, AV.int IntKind.i64 (0 : Int),
         AV.int IntKind.i64 (0 : Int)]]
         (q102_5 n_1 Post)))
        (AWP Tryd.prog 67 n_1 c102_15 [(4, AV.ptr 0 0), (6, AV.sl 6 (Seq.map T.encSt T.noSt acc) (Tip.tok 1))]
         [AObj.cells [AV.str s, AV.int IntKind.i64 e], AObj.tok] (q102_0 n_1 Post)))
      (AWP Tryd.prog 67 n_1 c102_15 [(4, AV.ptr 0 0), (6, AV.sl 6 (Seq.map T.encSt T.noSt acc) (Tip.tok 1))]
        [AObj.cells [AV.str s, AV.int IntKind.i64 e], AObj.tok] (q102_0 n_1 Post)) →
    AWP Tryd.prog 67 n_1 c102_5
      [(4, AV.ptr 0 0), (5, AV.int IntKind.i64 n), (6, AV.sl 6 (Seq.map T.encSt T.noSt acc) (Tip.tok 1)), (7, AV.int IntKind.i64 i)]
      [AObj.cells [AV.str s, AV.int IntKind.i64 e], AObj.tok] (q102_2 n_1 Post) := fun s e n acc i n Post h => Go.Ab.AWP.loop' g102 (Cfg.live g102) c102_5 (by kernel_rfl) (by kernel_rfl) (Go.Ab.kc (by kernel_rfl) h)
noncomputable def c102_14 : Go.Code := codeSnd c102_11
theorem v102_11 : ∀ (s : ByteArray) (e n : Int) (acc : List T.St) (i : Int) (x : T.St) (n_1 : Nat) (Post : AV → List AObj → Prop),
  condP (Prod.fst x == (4 : Int))
      (ASpec Tryd.prog 100 [AV.ptr 0 0, AV.int IntKind.i64 (1048576 : Int)]
        [AObj.cells [AV.str s, AV.int IntKind.i64 e], AObj.tok,
         AObj.cells
         [AV.int IntKind.i64 (Prod.fst x), AV.str { data := List.toArray (Prod.fst (Prod.snd x)) }, AV.int IntKind.i64 (Prod.fst (Prod.snd (Prod.snd x))),
         AV.str { data := List.toArray (Prod.fst (Prod.snd (Prod.snd (Prod.snd x)))) }, AV.int IntKind.i64 (Prod.fst (Prod.snd (Prod.snd (Prod.snd (Prod.snd x))))),
         AV.int IntKind.i64 (Prod.snd (Prod.snd (Prod.snd (Prod.snd (Prod.snd x)))))]]
        fun (r : AV) (H' : List AObj) =>
        ∃ (x_1 : Int × ByteArray × Int),
         r = AV.int IntKind.i64 (Prod.fst x_1) ∧
         H' =
         [AObj.cells [AV.str (Prod.fst (Prod.snd x_1)), AV.int IntKind.i64 (Prod.snd (Prod.snd x_1))], AObj.tok,
         AObj.cells
         [AV.int IntKind.i64 (Prod.fst x), AV.str { data := List.toArray (Prod.fst (Prod.snd x)) }, AV.int IntKind.i64 (Prod.fst (Prod.snd (Prod.snd x))),
         AV.str { data := List.toArray (Prod.fst (Prod.snd (Prod.snd (Prod.snd x)))) }, AV.int IntKind.i64 (Prod.fst (Prod.snd (Prod.snd (Prod.snd (Prod.snd x))))),
         AV.int IntKind.i64 (Prod.snd (Prod.snd (Prod.snd (Prod.snd (Prod.snd x)))))]] ∧
         ASpec Tryd.prog 100 [AV.ptr 0 0, AV.int IntKind.i64 (1048576 : Int)]
         [AObj.cells [AV.str (Prod.fst (Prod.snd x_1)), AV.int IntKind.i64 (Prod.snd (Prod.snd x_1))], AObj.tok,
         AObj.cells
         [AV.int IntKind.i64 (Prod.fst x), AV.str { data := List.toArray (Prod.fst (Prod.snd x)) }, AV.int IntKind.i64 (Prod.fst (Prod.snd (Prod.snd x))),
         AV.str { data := List.toArray (Prod.fst (Prod.snd (Prod.snd (Prod.snd x)))) }, AV.int IntKind.i64 (Prod.fst x_1),
         AV.int IntKind.i64 (Prod.snd (Prod.snd (Prod.snd (Prod.snd (Prod.snd x)))))]]
         fun (r : AV) (H' : List AObj) =>
         ∃ (x_2 : Int × ByteArray × Int),
         r = AV.int IntKind.i64 (Prod.fst x_2) ∧
         H' =
         [AObj.cells [AV.str (Prod.fst (Prod.snd x_2)), AV.int IntKind.i64 (Prod.snd (Prod.snd x_2))], AObj.tok,
         AObj.cells
         [AV.int IntKind.i64 (Prod.fst x), AV.str { data := List.toArray (Prod.fst (Prod.snd x)) }, AV.int IntKind.i64 (Prod.fst (Prod.snd (Prod.snd x))),
         AV.str { data := List.toArray (Prod.fst (Prod.snd (Prod.snd (Prod.snd x)))) }, AV.int IntKind.i64 (Prod.fst x_1),
         AV.int IntKind.i64 (Prod.snd (Prod.snd (Prod.snd (Prod.snd (Prod.snd x)))))]] ∧
         AWP Tryd.prog 67 n_1 c102_14
         [(4, AV.ptr 0 0), (5, AV.int IntKind.i64 n), (6, AV.sl 6 (Seq.map T.encSt T.noSt acc) (Tip.tok 1)),
         (7, AV.int IntKind.i64 i), (8, AV.ptr 2 0)]
         [AObj.cells [AV.str (Prod.fst (Prod.snd x_2)), AV.int IntKind.i64 (Prod.snd (Prod.snd x_2))], AObj.tok,
         AObj.cells
         [AV.int IntKind.i64 (Prod.fst x), AV.str { data := List.toArray (Prod.fst (Prod.snd x)) }, AV.int IntKind.i64 (Prod.fst (Prod.snd (Prod.snd x))),
         AV.str { data := List.toArray (Prod.fst (Prod.snd (Prod.snd (Prod.snd x)))) }, AV.int IntKind.i64 (Prod.fst x_1), AV.int IntKind.i64 (Prod.fst x_2)]]
         (q102_5 n_1 Post))
      (AWP Tryd.prog 67 n_1 c102_14
        [(4, AV.ptr 0 0), (5, AV.int IntKind.i64 n), (6, AV.sl 6 (Seq.map T.encSt T.noSt acc) (Tip.tok 1)), (7, AV.int IntKind.i64 i),
         (8, AV.ptr 2 0)]
        [AObj.cells [AV.str s, AV.int IntKind.i64 e], AObj.tok,
         AObj.cells
         [AV.int IntKind.i64 (Prod.fst x), AV.str { data := List.toArray (Prod.fst (Prod.snd x)) }, AV.int IntKind.i64 (Prod.fst (Prod.snd (Prod.snd x))),
         AV.str { data := List.toArray (Prod.fst (Prod.snd (Prod.snd (Prod.snd x)))) }, AV.int IntKind.i64 (Prod.fst (Prod.snd (Prod.snd (Prod.snd (Prod.snd x))))),
         AV.int IntKind.i64 (Prod.snd (Prod.snd (Prod.snd (Prod.snd (Prod.snd x)))))]]
        (q102_5 n_1 Post)) →
    AWP Tryd.prog 67 n_1 c102_11
      [(4, AV.ptr 0 0), (5, AV.int IntKind.i64 n), (6, AV.sl 6 (Seq.map T.encSt T.noSt acc) (Tip.tok 1)), (7, AV.int IntKind.i64 i),
        (8, AV.ptr 2 0)]
      [AObj.cells [AV.str s, AV.int IntKind.i64 e], AObj.tok, AObj.cells (T.encSt x)] (q102_5 n_1 Post) := fun s e n acc i x n Post h => Go.Ab.awp_sound g102 n _ _ _ _ (Go.Ab.kc (by kernel_rfl) h)
theorem v102_14 : ∀ (s : ByteArray) (e n : Int) (acc : List T.St) (i : Int) (x : T.St) (n_1 : Nat) (Post : AV → List AObj → Prop),
  needP ((List.length acc + 1) * 64 ≤ 140737488351232)
      (AWP Tryd.prog 67 n_1 c102_5
        [(4, AV.ptr 0 0), (5, AV.int IntKind.i64 n),
         (6,
         AV.sl 6
         (Seq.app (Seq.map T.encSt T.noSt acc)
         (Seq.raw
         [[AV.int IntKind.i64 (Prod.fst x), AV.str { data := List.toArray (Prod.fst (Prod.snd x)) }, AV.int IntKind.i64 (Prod.fst (Prod.snd (Prod.snd x))),
         AV.str { data := List.toArray (Prod.fst (Prod.snd (Prod.snd (Prod.snd x)))) }, AV.int IntKind.i64 (Prod.fst (Prod.snd (Prod.snd (Prod.snd (Prod.snd x))))),
         AV.int IntKind.i64 (Prod.snd (Prod.snd (Prod.snd (Prod.snd (Prod.snd x)))))]]))
         (Tip.tok 3)),
         (7, AV.int IntKind.i64 (IntKind.wrap IntKind.i64 (i + (1 : Int))))]
        [AObj.cells [AV.str s, AV.int IntKind.i64 e], AObj.gone,
         AObj.cells
         [AV.int IntKind.i64 (Prod.fst x), AV.str { data := List.toArray (Prod.fst (Prod.snd x)) }, AV.int IntKind.i64 (Prod.fst (Prod.snd (Prod.snd x))),
         AV.str { data := List.toArray (Prod.fst (Prod.snd (Prod.snd (Prod.snd x)))) }, AV.int IntKind.i64 (Prod.fst (Prod.snd (Prod.snd (Prod.snd (Prod.snd x))))),
         AV.int IntKind.i64 (Prod.snd (Prod.snd (Prod.snd (Prod.snd (Prod.snd x)))))],
         AObj.tok]
        (q102_2 n_1 Post)) →
    AWP Tryd.prog 67 n_1 c102_14
      [(4, AV.ptr 0 0), (5, AV.int IntKind.i64 n), (6, AV.sl 6 (Seq.map T.encSt T.noSt acc) (Tip.tok 1)), (7, AV.int IntKind.i64 i),
        (8, AV.ptr 2 0)]
      [AObj.cells [AV.str s, AV.int IntKind.i64 e], AObj.tok, AObj.cells (T.encSt x)] (q102_5 n_1 Post) := fun s e n acc i x n Post h => Go.Ab.awp_sound g102 n _ _ _ _ (Go.Ab.kc (by kernel_rfl) h)
theorem v102_15 : ∀ (s : ByteArray) (e : Int) (acc : List T.St) (n : Nat) (Post : AV → List AObj → Prop),
  (ASpec Tryd.prog 103 [AV.ptr 0 0] [AObj.cells [AV.str s, AV.int IntKind.i64 e], AObj.tok] fun (r : AV) (H' : List AObj) =>
      ∃ (x : Int),
        r = AV.int IntKind.i64 x ∧
         H' = [AObj.cells [AV.str s, AV.int IntKind.i64 e], AObj.tok] ∧
         condP (x == (0 : Int))
         (ASpec Tryd.prog 81 [AV.sl 6 (Seq.map T.encSt T.noSt acc) (Tip.tok 1)] [AObj.cells [AV.str s, AV.int IntKind.i64 e], AObj.tok] fun (r : AV) (H' : List AObj) =>
         ∃ (x_1 : Bool),
         r = AV.bool x_1 ∧
         H' = [AObj.cells [AV.str s, AV.int IntKind.i64 e], AObj.tok] ∧
         condP (!x_1) (Post (AV.tup [AV.sl 0 (Seq.raw []) Tip.nil, AV.int IntKind.i64 (3 : Int)]) [AObj.cells [AV.str s, AV.int IntKind.i64 e], AObj.tok])
         (condP (x != (0 : Int)) (Post (AV.tup [AV.sl 0 (Seq.raw []) Tip.nil, AV.int IntKind.i64 x]) [AObj.cells [AV.str s, AV.int IntKind.i64 e], AObj.tok])
         (Post (AV.tup [AV.sl 6 (Seq.map T.encSt T.noSt acc) (Tip.tok 1), AV.int IntKind.i64 (0 : Int)]) [AObj.cells [AV.str s, AV.int IntKind.i64 e], AObj.tok])))
         (condP (x != (0 : Int)) (Post (AV.tup [AV.sl 0 (Seq.raw []) Tip.nil, AV.int IntKind.i64 x]) [AObj.cells [AV.str s, AV.int IntKind.i64 e], AObj.tok])
         (Post (AV.tup [AV.sl 6 (Seq.map T.encSt T.noSt acc) (Tip.tok 1), AV.int IntKind.i64 (0 : Int)]) [AObj.cells [AV.str s, AV.int IntKind.i64 e], AObj.tok]))) →
    AWP Tryd.prog 67 n c102_15 [(4, AV.ptr 0 0), (6, AV.sl 6 (Seq.map T.encSt T.noSt acc) (Tip.tok 1))]
      [AObj.cells [AV.str s, AV.int IntKind.i64 e], AObj.tok] (q102_0 n Post) := fun s e acc n Post h => Go.Ab.awp_sound g102 n _ _ _ _ (Go.Ab.kc (by kernel_rfl) h)

end
end Pf
end

section
/- Steps of a proof: which may be. -/

set_option linter.unusedVariables false
set_option linter.unusedSimpArgs false
set_option maxRecDepth 100000
open Go Go.Ab Go.Proofs V S T C
open Pf (s131 v131_2 v131_3 c131_2 c131_3 q131_0 s132 v132_3 v132_5 c132_3 c132_5 q132_0 s80 v80_4 c80_4 q80_2 s81 v81_4 c81_4 q81_2 s84 v84_4 c84_4 q84_2 s78 v78_4 c78_4 q78_2)
namespace Pr

instance decSt : DecidableEq St := fun a b => instDecidableEqProd a b
noncomputable abbrev agS (x : St) : AV := .agg (encSt x)
noncomputable abbrev slP (l : List St) : AV := .sl 6 (.map encSt noSt l) .none

/-- may a step be, of a number? -/
def mayM (x : St) (i : Int) : Bool := fitM x.2.1 &&
  (if x.1 = 1 ∨ x.1 = 2 then decide (x.2.2.2.1 = [] ∧ x.2.2.1 = 0 ∧ x.2.2.2.2.1 = 0 ∧ x.2.2.2.2.2 = 0)
   else if x.1 = 3 then fitM x.2.2.2.1 && decide (0 ≤ x.2.2.1 ∧ x.2.2.1 < 1000000000 ∧ x.2.2.2.2.1 = 0 ∧ x.2.2.2.2.2 = 0)
   else if x.1 = 4 then decide (x.2.2.2.1 = [] ∧ x.2.2.1 = 0 ∧ 0 ≤ x.2.2.2.2.1 ∧ x.2.2.2.2.1 < i ∧ 0 ≤ x.2.2.2.2.2 ∧ x.2.2.2.2.2 < i) else false)

def okS (x : St) : Prop := x.2.1.length ≤ lim ∧ x.2.2.2.1.length ≤ lim

theorem may3 {x : St} (hx : okS x) {i : Int} {p q : Bool} (hp : p = decide (x.2.2.2.1 = [] ∧ x.2.2.1 = 0)) (hq : q = decide (x.2.2.2.2.1 = 0 ∧ x.2.2.2.2.2 = 0)) :
    AWP Tryd.prog 85 0 c131_3 [(1, .int .i64 i), (2, .ptr 0 0), (5, .bool p), (6, .bool q)] [.cells (encSt x)] (q131_0 0 (PB (mayM x i))) := by
  obtain ⟨h1, h2⟩ := hx
  unfold lim at h1 h2
  obtain ⟨k, nm, v, to, a, b⟩ := x
  simp only at h1 h2 hp hq
  refine v131_3 _ _ _ _ _ _ ?_
  simp only
  repeat' (first
    | refine condE (fun _ => ?_) fun _ => ?_
    | refine condD (fun _ => ?_) fun _ => ?_
    | refine ASpec.call (fit_spec (l := nm) (by unfold big; omega) _) (Les.refl _) ⟨_, rfl, rfl, ?_⟩
    | refine ASpec.call (fit_spec (l := to) (by unfold big; omega) _) (Les.refl _) ⟨_, rfl, rfl, ?_⟩
    | refine condB (fun _ => ?_) fun _ => ?_)
  all_goals (refine pb ?_; simp_all [mayM])
  all_goals first | (intros; omega) | skip
  rename_i h
  rw [Bool.eq_iff_iff]
  simp only [Bool.and_eq_true, decide_eq_true_eq]
  by_cases hab : a < b
  · rw [if_pos hab]; rw [if_neg (by omega)] at h; omega
  · rw [if_neg hab]
    by_cases hba : b < a
    · rw [if_pos hba] at h; omega
    · rw [if_neg hba] at h; omega

theorem may_spec (x : St) (hx : okS x) (i : Int) (H : List AObj) : ASpec Tryd.prog 131 [agS x, .int .i64 i] H (fun r H' => r = .bool (mayM x i) ∧ H' = H) := by
  have k : ASpec Tryd.prog 131 [agS x, .int .i64 i] [] (fun r H' => r = .bool (mayM x i) ∧ H' = []) := by
    have m2 : ∀ p, p = decide (x.2.2.2.1 = [] ∧ x.2.2.1 = 0) → AWP Tryd.prog 85 0 c131_2 [(1, .int .i64 i), (2, .ptr 0 0), (5, .bool p)] [.cells (encSt x)] (q131_0 0 (PB (mayM x i))) := fun p hp =>
      v131_2 _ _ _ _ _ (condE (fun h => may3 hx hp (by rw [Bool.eq_iff_iff]; simp [h])) fun h => may3 hx hp (by simp [h]))
    exact ASpec.sel (s131 _ _ _ (condS (b := []) (fun h => m2 _ (by rw [Bool.eq_iff_iff]; simp [h])) fun h => m2 _ (by simp [h])))
  exact ASpec.pureH H k _ _ rfl rfl

theorem rmay5 {x : St} {i : Int} {c : Bool} (hc : c = (if x.1 = 4 then decide (0 ≤ x.2.2.2.2.1 ∧ x.2.2.2.2.1 < i ∧ 0 ≤ x.2.2.2.2.2 ∧ x.2.2.2.2.2 < i) else decide (x.2.2.2.2.1 = 0 ∧ x.2.2.2.2.2 = 0))) :
    AWP Tryd.prog 80 0 c132_5 [(1, .int .i64 i), (2, .ptr 0 0)] [.cells (encSt x)] (q132_0 0 (PB c)) := by
  obtain ⟨k, nm, v, to, a, b⟩ := x
  simp only at hc
  refine v132_5 _ _ _ _ ?_
  simp only
  repeat' (first
    | refine condE (fun _ => ?_) fun _ => ?_
    | refine condD (fun _ => ?_) fun _ => ?_)
  all_goals (refine pb ?_; subst hc; simp_all)
  all_goals first | (intros; omega) | (rw [Bool.eq_iff_iff]; simp)

theorem rmay3 {x : St} (hx : okS x) {i : Int} (h4 : 1 ≤ x.1 ∧ x.1 ≤ 4) (hf : fitM x.2.1 = true) :
    AWP Tryd.prog 80 0 c132_3 [(1, .int .i64 i), (2, .ptr 0 0)] [.cells (encSt x)] (q132_0 0 (PB (mayM x i))) := by
  obtain ⟨h1, h2⟩ := hx
  unfold lim at h1 h2
  obtain ⟨k, nm, v, to, a, b⟩ := x
  simp only at h1 h2 h4 hf
  refine v132_3 _ _ _ _ ?_
  simp only
  repeat' (first
    | refine condE (fun _ => ?_) fun _ => ?_
    | refine condNe (fun _ => ?_) fun _ => ?_
    | refine condSn (b := []) (fun _ => ?_) fun _ => ?_
    | refine ASpec.call (rfit_spec (l := to) (by unfold big; omega) _) (Les.refl _) ⟨_, rfl, rfl, ?_⟩
    | refine ASpec.call (verFit_spec v _) (Les.refl _) ⟨_, rfl, rfl, ?_⟩
    | refine condBn (fun _ => ?_) fun _ => ?_
    | (refine pb ?_; simp_all [mayM]; done)
    | refine rmay5 (x := (k, nm, v, to, a, b)) ?_)
  all_goals (simp_all [mayM])
  · refine pb ?_
    rename_i h
    by_cases h0 : 0 ≤ v
    · have := h h0
      simp [show ¬ v < 1000000000 by omega]
    · simp [h0]
  · rename_i h3 _ _
    rcases (show k = 1 ∨ k = 2 ∨ k = 4 by omega) with rfl | rfl | rfl <;> simp

theorem rmay_spec (x : St) (hx : okS x) (i : Int) (H : List AObj) : ASpec Tryd.prog 132 [agS x, .int .i64 i] H (fun r H' => r = .bool (mayM x i) ∧ H' = H) := by
  have hx' := hx
  obtain ⟨h1, h2⟩ := hx'
  unfold lim at h1 h2
  have k : ASpec Tryd.prog 132 [agS x, .int .i64 i] [] (fun r H' => r = .bool (mayM x i) ∧ H' = []) := by
    refine ASpec.sel (s132 _ _ _ (condD (fun h => pb ?_) fun h => condD (fun h' => pb ?_) fun h' => ASpec.call (rfit_spec (l := x.2.1) (by unfold big; omega) _) (Les.refl _) ⟨_, rfl, rfl, condBn (fun hf => pb ?_) fun hf => rmay3 hx (by omega) hf⟩))
    · simp [mayM, show ¬ (x.1 = 1 ∨ x.1 = 2) by omega, show ¬ x.1 = 3 by omega, show ¬ x.1 = 4 by omega]
    · simp [mayM, show ¬ (x.1 = 1 ∨ x.1 = 2) by omega, show ¬ x.1 = 3 by omega, show ¬ x.1 = 4 by omega]
    · simp [mayM, hf]
  exact ASpec.pureH H k _ _ rfl rfl

/-- may each step be, of its number? -/
def chkF (i : Nat) : List St → Bool
  | [] => true
  | x :: r => mayM x i && chkF (i + 1) r
def checkM (l : List St) : Bool := decide (1 ≤ l.length ∧ l.length ≤ 1048576) && chkF 0 l

theorem check4 {l : List St} {c : Bool} (hl : l.length ≤ 1048576) (hk : ∀ x ∈ l, okS x) : ∀ (m i : Nat), m + i = l.length → chkF i (l.drop i) = c →
    AWP Tryd.prog 25 0 c80_4 [(13, slP l), (14, .int .i64 l.length), (15, .int .i64 i)] [] (q80_2 0 (PB c)) := by
  intro m
  induction m with
  | zero =>
    intro i hm h
    refine v80_4 _ _ _ _ _ (condD (fun hc => by omega) fun _ => pb ?_)
    rw [List.drop_eq_nil_of_le (by omega)] at h
    exact h
  | succ m ih =>
    intro i hm h
    have hx := hk _ (memD l noSt i (by omega))
    rw [dropD l noSt i (by omega)] at h
    simp only [chkF] at h
    refine v80_4 _ _ _ _ _ (condD (fun hc => needJ ⟨by omega, by omega⟩ ?_) fun hc => by omega)
    rw [Int.toNat_natCast]
    generalize l.getD i noSt = x at h hx ⊢
    refine ASpec.call (may_spec x hx i _) (Les.refl _) ⟨_, rfl, rfl, condBn (fun h1 => pb ?_) fun h1 => ?_⟩
    · rw [h1] at h; exact h
    · rw [h1, Bool.true_and] at h
      rw [succ64 (by omega)]
      exact AWP.shape [] [(13, slP l), (14, .int .i64 l.length), (15, .int .i64 (i + 1 : Nat))] [] Sel.none ⟨rfl, Le.refl _, rfl, Le.refl _, rfl, Le.refl _, trivial⟩ (ih (i + 1) (by omega) h)

theorem check_spec (l : List St) (hl : l.length ≤ maxLen) (hk : ∀ x ∈ l, okS x) (H : List AObj) : ASpec Tryd.prog 80 [slP l] H (fun r H' => r = .bool (checkM l) ∧ H' = H) := by
  have k : ASpec Tryd.prog 80 [slP l] [] (fun r H' => r = .bool (checkM l) ∧ H' = []) := by
    refine ASpec.sel (s80 _ _ (condE (fun h => pb ?_) fun h => condD (fun h1 => pb ?_) fun h1 => check4 (by omega) hk l.length 0 (by omega) ?_))
    · simp [checkM, show ¬ 1 ≤ l.length by omega]
    · simp [checkM, show ¬ l.length ≤ 1048576 by omega]
    · simp [checkM, show 1 ≤ l.length by omega, show l.length ≤ 1048576 by omega]
  exact ASpec.pureH H k _ _ rfl rfl

theorem rcheck4 {l : List St} {c : Bool} (hl : l.length ≤ 1048576) (hk : ∀ x ∈ l, okS x) : ∀ (m i : Nat), m + i = l.length → (chkF i (l.drop i) && decide (1 ≤ l.length)) = c →
    AWP Tryd.prog 23 0 c81_4 [(0, slP l), (3, .int .i64 i)] [] (q81_2 0 (PB c)) := by
  intro m
  induction m with
  | zero =>
    intro i hm h
    refine v81_4 _ _ _ _ (condD (fun hc => by omega) fun _ => pb ?_)
    rw [List.drop_eq_nil_of_le (by omega)] at h
    rw [← h, Bool.eq_iff_iff]
    simp only [chkF, Bool.true_and, decide_eq_true_eq]; omega
  | succ m ih =>
    intro i hm h
    have hx := hk _ (memD l noSt i (by omega))
    rw [dropD l noSt i (by omega)] at h
    simp only [chkF] at h
    refine v81_4 _ _ _ _ (condD (fun hc => needJ ⟨by omega, by omega⟩ ?_) fun hc => by omega)
    rw [Int.toNat_natCast]
    generalize l.getD i noSt = x at h hx ⊢
    refine ASpec.call (rmay_spec x hx i _) (Les.refl _) ⟨_, rfl, rfl, condBn (fun h1 => pb ?_) fun h1 => ?_⟩
    · rw [h1] at h; exact h
    · rw [h1, Bool.true_and] at h
      rw [succ64 (by omega)]
      exact ih (i + 1) (by omega) h

theorem rcheck_spec (l : List St) (hl : l.length ≤ maxLen) (hk : ∀ x ∈ l, okS x) (H : List AObj) : ASpec Tryd.prog 81 [slP l] H (fun r H' => r = .bool (checkM l) ∧ H' = H) := by
  have k : ASpec Tryd.prog 81 [slP l] [] (fun r H' => r = .bool (checkM l) ∧ H' = []) := by
    refine ASpec.sel (s81 _ _ (condD (fun h1 => pb ?_) fun h1 => rcheck4 (by omega) hk l.length 0 (by omega) ?_))
    · simp [checkM, show ¬ l.length ≤ 1048576 by omega]
    · simp only [checkM, List.drop_zero]
      rw [Bool.eq_iff_iff]
      simp only [Bool.and_eq_true, decide_eq_true_eq]
      constructor
      · rintro ⟨a, b⟩; exact ⟨⟨b, by omega⟩, a⟩
      · rintro ⟨a, b⟩; exact ⟨b, a.1⟩
  exact ASpec.pureH H k _ _ rfl rfl

theorem same4 {a b : List St} {c : Bool} (hl : a.length ≤ 2000000) (he : a.length = b.length) : ∀ (m i : Nat), m + i = a.length → decide (a.drop i = b.drop i) = c →
    AWP Tryd.prog 26 0 c84_4 [(0, slP a), (1, slP b), (5, .int .i64 i)] [] (q84_2 0 (PB c)) := by
  intro m
  induction m with
  | zero =>
    intro i hm h
    refine v84_4 _ _ _ _ _ (condD (fun hc => by omega) fun _ => pb ?_)
    rw [List.drop_eq_nil_of_le (by omega), List.drop_eq_nil_of_le (by omega)] at h
    rw [← h]; rfl
  | succ m ih =>
    intro i hm h
    rw [dropD a noSt i (by omega), dropD b noSt i (by omega), W.cons_dec] at h
    refine v84_4 _ _ _ _ _ (condD (fun hc => needJ ⟨by omega, by omega⟩ (needJ ⟨by omega, by omega⟩ ?_)) fun hc => by omega)
    rw [Int.toNat_natCast]
    generalize a.getD i noSt = x at h ⊢
    generalize b.getD i noSt = y at h ⊢
    rw [B_beq, B_beq]
    have e : (x.1 == y.1 && (x.2.1 == y.2.1 && (x.2.2.1 == y.2.2.1 && (x.2.2.2.1 == y.2.2.2.1 && (x.2.2.2.2.1 == y.2.2.2.2.1 && x.2.2.2.2.2 == y.2.2.2.2.2))))) = decide (x = y) := by
      rw [Bool.eq_iff_iff]
      simp only [Bool.and_eq_true, beq_iff_eq, decide_eq_true_eq, Prod.ext_iff]
    refine condBn (fun h1 => pb ?_) fun h1 => ?_
    · have h2 : decide (x = y) = false := by rw [← e]; simpa using h1
      rw [h2] at h; exact h
    · have h2 : decide (x = y) = true := by rw [← e]; simpa using h1
      rw [h2, Bool.true_and] at h
      rw [succ64 (by omega)]
      exact ih (i + 1) (by omega) h

theorem rsame_spec (a b : List St) (hl : a.length ≤ 2000000) (H : List AObj) : ASpec Tryd.prog 84 [slP a, slP b] H (fun r H' => r = .bool (decide (a = b)) ∧ H' = H) := by
  have k : ASpec Tryd.prog 84 [slP a, slP b] [] (fun r H' => r = .bool (decide (a = b)) ∧ H' = []) := by
    refine ASpec.sel (s84 _ _ _ (condNe (fun h => pb ?_) fun h => same4 hl (by omega) a.length 0 (by omega) (by simp)))
    rw [eq_comm, decide_eq_false_iff_not]
    intro e; subst e; exact h rfl
  exact ASpec.pureH H k _ _ rfl rfl

/-! ### how much is looked at -/

def largeF : List St → Bool
  | [] => false
  | x :: r => if 100 < x.2.1.length ∨ 100 < x.2.2.2.1.length then true else largeF r
def largeM (l : List St) : Bool := if (300 < l.length ∧ l.length ≤ 1048576) ∨ 1048586 < l.length then true else largeF l

theorem large4 {l : List St} {c : Bool} (hl : l.length ≤ 1048586) : ∀ (m i : Nat), m + i = l.length → largeF (l.drop i) = c →
    AWP Tryd.prog 39 0 c78_4 [(0, slP l), (3, .int .i64 i)] [] (q78_2 0 (PB c)) := by
  intro m
  induction m with
  | zero =>
    intro i hm h
    refine v78_4 _ _ _ _ (condD (fun hc => by omega) fun _ => pb ?_)
    rw [List.drop_eq_nil_of_le (by omega)] at h
    exact h
  | succ m ih =>
    intro i hm h
    rw [dropD l noSt i (by omega)] at h
    simp only [largeF] at h
    refine v78_4 _ _ _ _ (condD (fun hc => needJ ⟨by omega, by omega⟩ ?_) fun hc => by omega)
    rw [Int.toNat_natCast]
    generalize l.getD i noSt = x at h ⊢
    rw [B_size, B_size]
    refine condD (fun h1 => pb ?_) fun h1 => needJ ⟨by omega, by omega⟩ (condD (fun h2 => pb ?_) fun h2 => ?_)
    · rw [if_pos (.inl (by omega))] at h; exact h
    · rw [if_pos (.inr (by omega))] at h; exact h
    · rw [if_neg (by omega)] at h
      rw [succ64 (by omega)]
      exact ih (i + 1) (by omega) h

theorem large_spec (l : List St) (H : List AObj) : ASpec Tryd.prog 78 [slP l] H (fun r H' => r = .bool (largeM l) ∧ H' = H) := by
  have k : ASpec Tryd.prog 78 [slP l] [] (fun r H' => r = .bool (largeM l) ∧ H' = []) := by
    refine ASpec.sel (s78 _ _ (condD (fun h1 => condD (fun h2 => pb ?_) fun h2 => condD (fun h3 => pb ?_) fun h3 => large4 (by omega) l.length 0 (by omega) ?_) fun h1 => condD (fun h3 => pb ?_) fun h3 => large4 (by omega) l.length 0 (by omega) ?_))
    · rw [largeM, if_pos (by omega)]
    · rw [largeM, if_pos (by omega)]
    · rw [largeM, if_neg (by omega)]; rfl
    · rw [largeM, if_pos (by omega)]
    · rw [largeM, if_neg (by omega)]; rfl
  exact ASpec.pureH H k _ _ rfl rfl

theorem largeF_ok : ∀ (l : List St), largeF l = false → ∀ x ∈ l, x.2.1.length ≤ 100 ∧ x.2.2.2.1.length ≤ 100
  | [], _, n, hn => by simp at hn
  | x :: r, h, n, hn => by
    simp only [largeF] at h
    split at h
    · cases h
    · rcases List.mem_cons.1 hn with rfl | hn
      · omega
      · exact largeF_ok r h n hn

theorem largeM_ok {l : List St} (h : largeM l = false) : (l.length ≤ 300 ∨ 1048576 < l.length) ∧ l.length ≤ 1048586 ∧ ∀ x ∈ l, okS x := by
  unfold largeM at h
  split at h
  · cases h
  · refine ⟨by omega, by omega, fun x hx => ?_⟩
    have := largeF_ok l h x hx
    unfold okS lim; omega

end Pr
end

section
/- PickPuts: what was put is there, what was dropped is not: plain laws. -/

set_option linter.unusedVariables false
set_option linter.unusedSimpArgs false
open Go Go.Ab Go.Proofs V S T C
namespace Dk
theorem chk_fit : ∀ {s : List Pk} {o : Option Nm}, chkF o s = true → ∀ p ∈ s, fitP p = true
  | [], _, _, p, hp => by simp at hp
  | z :: r, o, h, p, hp => by
    cases hz : fitP z with
    | false =>
      simp only [chkF, hz, if_true] at h
      cases h
    | true =>
      rcases List.mem_cons.1 hp with rfl | hp
      · exact hz
      · simp only [chkF, hz, Bool.true_eq_false, if_false] at h
        cases o with
        | none => exact chk_fit h p hp
        | some q =>
          simp only at h
          split at h
          · cases h
          · exact chk_fit h p hp
end Dk
end

section
/- What was put together is taken apart: plain laws of texts of picks. -/

set_option linter.unusedVariables false
set_option linter.unusedSimpArgs false
open Go Go.Lib
namespace Dk
abbrev sepP : List UInt8 := [44, 32]
theorem join_cons (p q : List UInt8) (r : List (List UInt8)) : Lib.join (p :: q :: r) sepP = p ++ 44 :: 32 :: Lib.join (q :: r) sepP := by
  simp [Lib.join, List.intercalate, List.intersperse]
end Dk
end

section
/- Printed: what the code of functions 98, 47, 48, 49, 7 asks for, by the framework's own reading of it; each line is checked against the code. -/

set_option linter.unusedVariables false
set_option maxRecDepth 100000
set_option maxHeartbeats 4000000
open Go Go.Ab Go.Proofs
namespace Nb
noncomputable section

noncomputable def retNb : List (Nat × Ret) := [
  (47, ⟨T.Ans × Int, fun _ _ x => .tup [.agg (T.encAn x.1), .int .i64 x.2], fun _ H _ => H⟩), (48, ⟨T.Ans × Int, fun _ _ x => .tup [.agg (T.encAn x.1), .int .i64 x.2], fun _ H _ => H⟩), (49, ⟨ByteArray, fun _ _ x => .str x, fun _ H _ => H⟩),
  (98, ⟨Int × Int, fun _ _ x => .tup [], fun a H x => V.upd3 a H x.1 x.2⟩)]
noncomputable def rets : FuncId → List Ret := fun f => match lookupR retNb f with
  | [] => (match lookupR An.retAn f with | [] => Pf.rets f | l => l)
  | l => l
abbrev zA : List AV := [.int .i64 0, .sl 0 (.raw []) .nil, .sl 0 (.raw []) .nil]

-- 98
noncomputable def l98 : Nat → List Nat
  | _ => []
noncomputable def u98 : Nat → Bool
  | _ => false
noncomputable def m98 : Nat → Bool
  | _ => false
noncomputable def g98 : Cfg := { N := 17, live := l98, cut := u98, mu := m98, ret := rets }
theorem s98 : ∀ (bs : List UInt8) (p e x : Int) (Post : AV → List AObj → Prop),
  condP (e == (0 : Int)) (Post (AV.tup []) [AObj.cells [AV.sl 1 (Seq.map encB (0 : UInt8) bs) Tip.none, AV.int IntKind.i64 p, AV.int IntKind.i64 x]])
      (Post (AV.tup []) [AObj.cells [AV.sl 1 (Seq.map encB (0 : UInt8) bs) Tip.none, AV.int IntKind.i64 p, AV.int IntKind.i64 e]]) →
    ASpec Tryd.prog 98 [AV.ptr 0 0, AV.int IntKind.i64 x] [V.rd bs p e] Post := fun bs p e x Post h => Go.Ab.ASpec.of_vc g98 Go.Proofs.Tryd.func98 (by kernel_rfl) (by kernel_rfl) (by kernel_rfl) (Go.Ab.kc (by kernel_rfl) h)

-- 47
noncomputable def l47 : Nat → List Nat
  | 6 => [2, 4, 5, 6]
  | 18 => [2, 4, 5]
  | _ => []
noncomputable def u47 : Nat → Bool
  | 18 => true
  | _ => false
noncomputable def m47 : Nat → Bool
  | _ => false
noncomputable def g47 : Cfg := { N := 78, live := l47, cut := u47, mu := m47, ret := rets }
noncomputable def c47 : Go.Code := Go.Ab.bodyOf Go.Proofs.Tryd.f47
noncomputable def q47_0 : Nat → (AV → List AObj → Prop) → AQ := fun (n : Nat) (Post : AV → List AObj → Prop) => endQ Tryd.prog (resultsOf Tryd.f47) Post
noncomputable def c47_18 : Go.Code := codeSnd (codeSnd (codeSnd (codeSnd c47)))
noncomputable def q47_1 : Nat → (AV → List AObj → Prop) → AQ := fun (n : Nat) (Post : AV → List AObj → Prop) => seqQ (fun (s' : Slots) (H' : List AObj) => AWP Tryd.prog (Cfg.N g47) n c47_18 (restrict s' (Cfg.live g47 18)) H' (q47_0 n Post)) (q47_0 n Post)
noncomputable def q47_2 : Nat → (AV → List AObj → Prop) → AQ := fun (n : Nat) (Post : AV → List AObj → Prop) => blockQ 0 (q47_1 n Post)
noncomputable def q47_3 : Nat → (AV → List AObj → Prop) → AQ := fun (n : Nat) (Post : AV → List AObj → Prop) => blockQ 1 (q47_2 n Post)
noncomputable def c47_6 : Go.Code := codeFst (codeSnd (codeFst (codeSnd (codeFst (codeSnd (codeFst (codeSnd (codeSnd (codeSnd c47)))))))))
theorem s47 : ∀ (bs : List UInt8) (Post : AV → List AObj → Prop),
  (ASpec Tryd.prog 93 [AV.sl 1 (Seq.map encB (0 : UInt8) bs) Tip.none]
      [AObj.cells [AV.int IntKind.i64 (0 : Int), AV.sl 0 (Seq.raw []) Tip.nil, AV.sl 0 (Seq.raw []) Tip.nil]] fun (r : AV) (H' : List AObj) =>
      ∃ (x : List UInt8),
        r = AV.ptr 1 0 ∧
         H' =
         [AObj.cells [AV.int IntKind.i64 (0 : Int), AV.sl 0 (Seq.raw []) Tip.nil, AV.sl 0 (Seq.raw []) Tip.nil],
         AObj.cells [AV.sl 1 (Seq.map encB (0 : UInt8) x) Tip.none, AV.int IntKind.i64 (0 : Int), AV.int IntKind.i64 (0 : Int)]] ∧
         ASpec Tryd.prog 94 [AV.ptr 1 0, AV.int IntKind.i64 (5 : Int)]
         [AObj.cells [AV.int IntKind.i64 (0 : Int), AV.sl 0 (Seq.raw []) Tip.nil, AV.sl 0 (Seq.raw []) Tip.nil],
         AObj.cells [AV.sl 1 (Seq.map encB (0 : UInt8) x) Tip.none, AV.int IntKind.i64 (0 : Int), AV.int IntKind.i64 (0 : Int)]]
         fun (r : AV) (H' : List AObj) =>
         ∃ (x_1 : Int × Int × Int),
         r = AV.int IntKind.i64 (Prod.fst x_1) ∧
         H' =
         [AObj.cells [AV.int IntKind.i64 (0 : Int), AV.sl 0 (Seq.raw []) Tip.nil, AV.sl 0 (Seq.raw []) Tip.nil],
         AObj.cells [AV.sl 1 (Seq.map encB (0 : UInt8) x) Tip.none, AV.int IntKind.i64 (Prod.fst (Prod.snd x_1)), AV.int IntKind.i64 (Prod.snd (Prod.snd x_1))]] ∧
         condP (Prod.fst x_1 == (1 : Int))
         (ASpec Tryd.prog 94 [AV.ptr 1 0, AV.int IntKind.i64 (1000 : Int)]
         [AObj.cells [AV.int IntKind.i64 (0 : Int), AV.sl 0 (Seq.raw []) Tip.nil, AV.sl 0 (Seq.raw []) Tip.nil],
         AObj.cells [AV.sl 1 (Seq.map encB (0 : UInt8) x) Tip.none, AV.int IntKind.i64 (Prod.fst (Prod.snd x_1)), AV.int IntKind.i64 (Prod.snd (Prod.snd x_1))],
         AObj.cells [AV.int IntKind.i64 (Prod.fst x_1), AV.sl 0 (Seq.raw []) Tip.nil, AV.sl 0 (Seq.raw []) Tip.nil]]
         fun (r : AV) (H' : List AObj) =>
         ∃ (x_2 : Int × Int × Int),
         r = AV.int IntKind.i64 (Prod.fst x_2) ∧
         H' =
         [AObj.cells [AV.int IntKind.i64 (0 : Int), AV.sl 0 (Seq.raw []) Tip.nil, AV.sl 0 (Seq.raw []) Tip.nil],
         AObj.cells [AV.sl 1 (Seq.map encB (0 : UInt8) x) Tip.none, AV.int IntKind.i64 (Prod.fst (Prod.snd x_2)), AV.int IntKind.i64 (Prod.snd (Prod.snd x_2))],
         AObj.cells [AV.int IntKind.i64 (Prod.fst x_1), AV.sl 0 (Seq.raw []) Tip.nil, AV.sl 0 (Seq.raw []) Tip.nil]] ∧
         AWP Tryd.prog 78 0 c47_6
         [(2, AV.ptr 0 0), (4, AV.ptr 1 0), (5, AV.ptr 2 0),
         (6, AV.int IntKind.i64 (Prod.fst x_2))]
         [AObj.cells [AV.int IntKind.i64 (0 : Int), AV.sl 0 (Seq.raw []) Tip.nil, AV.sl 0 (Seq.raw []) Tip.nil],
         AObj.cells [AV.sl 1 (Seq.map encB (0 : UInt8) x) Tip.none, AV.int IntKind.i64 (Prod.fst (Prod.snd x_2)), AV.int IntKind.i64 (Prod.snd (Prod.snd x_2))],
         AObj.cells [AV.int IntKind.i64 (Prod.fst x_1), AV.sl 0 (Seq.raw []) Tip.nil, AV.sl 0 (Seq.raw []) Tip.nil]]
         (q47_3 0 Post))
         (condP (Prod.fst x_1 == (2 : Int))
         (ASpec Tryd.prog 96 [AV.ptr 1 0, AV.int IntKind.i64 (1099511627776 : Int)]
         [AObj.cells [AV.int IntKind.i64 (0 : Int), AV.sl 0 (Seq.raw []) Tip.nil, AV.sl 0 (Seq.raw []) Tip.nil],
         AObj.cells [AV.sl 1 (Seq.map encB (0 : UInt8) x) Tip.none, AV.int IntKind.i64 (Prod.fst (Prod.snd x_1)), AV.int IntKind.i64 (Prod.snd (Prod.snd x_1))],
         AObj.cells [AV.int IntKind.i64 (Prod.fst x_1), AV.sl 0 (Seq.raw []) Tip.nil, AV.sl 0 (Seq.raw []) Tip.nil]]
         fun (r : AV) (H' : List AObj) =>
         ∃ (x_2 : ByteArray × Int × Int),
         r = AV.str (Prod.fst x_2) ∧
         H' =
         [AObj.cells [AV.int IntKind.i64 (0 : Int), AV.sl 0 (Seq.raw []) Tip.nil, AV.sl 0 (Seq.raw []) Tip.nil],
         AObj.cells [AV.sl 1 (Seq.map encB (0 : UInt8) x) Tip.none, AV.int IntKind.i64 (Prod.fst (Prod.snd x_2)), AV.int IntKind.i64 (Prod.snd (Prod.snd x_2))],
         AObj.cells [AV.int IntKind.i64 (Prod.fst x_1), AV.sl 0 (Seq.raw []) Tip.nil, AV.sl 0 (Seq.raw []) Tip.nil]] ∧
         ASpec Tryd.prog 95 [AV.ptr 1 0]
         [AObj.cells [AV.int IntKind.i64 (0 : Int), AV.sl 0 (Seq.raw []) Tip.nil, AV.sl 0 (Seq.raw []) Tip.nil],
         AObj.cells [AV.sl 1 (Seq.map encB (0 : UInt8) x) Tip.none, AV.int IntKind.i64 (Prod.fst (Prod.snd x_2)), AV.int IntKind.i64 (Prod.snd (Prod.snd x_2))],
         AObj.cells [AV.int IntKind.i64 (Prod.fst x_1), AV.sl 0 (Seq.raw []) Tip.nil, AV.sl 0 (Seq.raw []) Tip.nil]]
         fun (r : AV) (H' : List AObj) =>
         ∃ (x_3 : Int),
         r = AV.int IntKind.i64 x_3 ∧
         H' =
         [AObj.cells [AV.int IntKind.i64 (0 : Int), AV.sl 0 (Seq.raw []) Tip.nil, AV.sl 0 (Seq.raw []) Tip.nil],
         AObj.cells
         [AV.sl 1 (Seq.map encB (0 : UInt8) x) Tip.none, AV.int IntKind.i64 (Prod.fst (Prod.snd x_2)), AV.int IntKind.i64 (Prod.snd (Prod.snd x_2))],
         AObj.cells [AV.int IntKind.i64 (Prod.fst x_1), AV.sl 0 (Seq.raw []) Tip.nil, AV.sl 0 (Seq.raw []) Tip.nil]] ∧
         condP (x_3 == (0 : Int))
         (ASpec Tryd.prog 97 [AV.sl 1 (bytesSeq (Prod.fst x_2)) Tip.none]
         [AObj.cells [AV.int IntKind.i64 (0 : Int), AV.sl 0 (Seq.raw []) Tip.nil, AV.sl 0 (Seq.raw []) Tip.nil],
         AObj.cells
         [AV.sl 1 (Seq.map encB (0 : UInt8) x) Tip.none, AV.int IntKind.i64 (Prod.fst (Prod.snd x_2)), AV.int IntKind.i64 (Prod.snd (Prod.snd x_2))],
         AObj.cells [AV.int IntKind.i64 (Prod.fst x_1), AV.sl 0 (Seq.raw []) Tip.nil, AV.sl 0 (Seq.raw []) Tip.nil]]
         fun (r : AV) (H' : List AObj) =>
         ∃ (x_4 : List T.St × Int),
         r = AV.tup [AV.sl 6 (Seq.map T.encSt T.noSt (Prod.fst x_4)) Tip.none, AV.int IntKind.i64 (Prod.snd x_4)] ∧
         H' =
         [AObj.cells [AV.int IntKind.i64 (0 : Int), AV.sl 0 (Seq.raw []) Tip.nil, AV.sl 0 (Seq.raw []) Tip.nil],
         AObj.cells
         [AV.sl 1 (Seq.map encB (0 : UInt8) x) Tip.none, AV.int IntKind.i64 (Prod.fst (Prod.snd x_2)),
         AV.int IntKind.i64 (Prod.snd (Prod.snd x_2))],
         AObj.cells [AV.int IntKind.i64 (Prod.fst x_1), AV.sl 0 (Seq.raw []) Tip.nil, AV.sl 0 (Seq.raw []) Tip.nil]] ∧
         condP (Prod.snd x_4 != (0 : Int))
         (ASpec Tryd.prog 98 [AV.ptr 1 0, AV.int IntKind.i64 (Prod.snd x_4)]
         [AObj.cells [AV.int IntKind.i64 (0 : Int), AV.sl 0 (Seq.raw []) Tip.nil, AV.sl 0 (Seq.raw []) Tip.nil],
         AObj.cells
         [AV.sl 1 (Seq.map encB (0 : UInt8) x) Tip.none, AV.int IntKind.i64 (Prod.fst (Prod.snd x_2)),
         AV.int IntKind.i64 (Prod.snd (Prod.snd x_2))],
         AObj.cells [AV.int IntKind.i64 (Prod.fst x_1), AV.sl 0 (Seq.raw []) Tip.nil, AV.sl 0 (Seq.raw []) Tip.nil]]
         fun (r : AV) (H' : List AObj) =>
         ∃ (x_5 : Int × Int),
         r = AV.tup [] ∧
         H' =
         [AObj.cells [AV.int IntKind.i64 (0 : Int), AV.sl 0 (Seq.raw []) Tip.nil, AV.sl 0 (Seq.raw []) Tip.nil],
         AObj.cells
         [AV.sl 1 (Seq.map encB (0 : UInt8) x) Tip.none, AV.int IntKind.i64 (Prod.fst x_5), AV.int IntKind.i64 (Prod.snd x_5)],
         AObj.cells [AV.int IntKind.i64 (Prod.fst x_1), AV.sl 0 (Seq.raw []) Tip.nil, AV.sl 0 (Seq.raw []) Tip.nil]] ∧
         AWP Tryd.prog 78 0 c47_18
         [(2, AV.ptr 0 0), (4, AV.ptr 1 0), (5, AV.ptr 2 0)]
         [AObj.cells [AV.int IntKind.i64 (0 : Int), AV.sl 0 (Seq.raw []) Tip.nil, AV.sl 0 (Seq.raw []) Tip.nil],
         AObj.cells
         [AV.sl 1 (Seq.map encB (0 : UInt8) x) Tip.none, AV.int IntKind.i64 (Prod.fst x_5), AV.int IntKind.i64 (Prod.snd x_5)],
         AObj.cells
         [AV.int IntKind.i64 (Prod.fst x_1), AV.sl 0 (Seq.raw []) Tip.nil,
         AV.sl 6 (Seq.map T.encSt T.noSt (Prod.fst x_4)) Tip.none]]
         (q47_0 0 Post))
         (AWP Tryd.prog 78 0 c47_18
         [(2, AV.ptr 0 0), (4, AV.ptr 1 0), (5, AV.ptr 2 0)]
         [AObj.cells [AV.int IntKind.i64 (0 : Int), AV.sl 0 (Seq.raw []) Tip.nil, AV.sl 0 (Seq.raw []) Tip.nil],
         AObj.cells
         [AV.sl 1 (Seq.map encB (0 : UInt8) x) Tip.none, AV.int IntKind.i64 (Prod.fst (Prod.snd x_2)),
         AV.int IntKind.i64 (Prod.snd (Prod.snd x_2))],
         AObj.cells
         [AV.int IntKind.i64 (Prod.fst x_1), AV.sl 0 (Seq.raw []) Tip.nil, AV.sl 6 (Seq.map T.encSt T.noSt (Prod.fst x_4)) Tip.none]]
         (q47_0 0 Post)))
         (AWP Tryd.prog 78 0 c47_18
         [(2, AV.ptr 0 0), (4, AV.ptr 1 0), (5, AV.ptr 2 0)]
         [AObj.cells [AV.int IntKind.i64 (0 : Int), AV.sl 0 (Seq.raw []) Tip.nil, AV.sl 0 (Seq.raw []) Tip.nil],
         AObj.cells
         [AV.sl 1 (Seq.map encB (0 : UInt8) x) Tip.none, AV.int IntKind.i64 (Prod.fst (Prod.snd x_2)), AV.int IntKind.i64 (Prod.snd (Prod.snd x_2))],
         AObj.cells [AV.int IntKind.i64 (Prod.fst x_1), AV.sl 0 (Seq.raw []) Tip.nil, AV.sl 0 (Seq.raw []) Tip.nil]]
         (q47_0 0 Post)))
         (AWP Tryd.prog 78 0 c47_18 [(2, AV.ptr 0 0), (4, AV.ptr 1 0), (5, AV.ptr 2 0)]
         [AObj.cells [AV.int IntKind.i64 (0 : Int), AV.sl 0 (Seq.raw []) Tip.nil, AV.sl 0 (Seq.raw []) Tip.nil],
         AObj.cells [AV.sl 1 (Seq.map encB (0 : UInt8) x) Tip.none, AV.int IntKind.i64 (Prod.fst (Prod.snd x_1)), AV.int IntKind.i64 (Prod.snd (Prod.snd x_1))],
         AObj.cells [AV.int IntKind.i64 (Prod.fst x_1), AV.sl 0 (Seq.raw []) Tip.nil, AV.sl 0 (Seq.raw []) Tip.nil]]
         (q47_0 0 Post)))) →
    ASpec Tryd.prog 47 [AV.sl 1 (Seq.map encB (0 : UInt8) bs) Tip.none] [] Post := fun bs Post h => Go.Ab.ASpec.of_vc g47 Go.Proofs.Tryd.func47 (by kernel_rfl) (by kernel_rfl) (by kernel_rfl) (Go.Ab.kc (by kernel_rfl) h)
theorem v47_6 : ∀ (bs : List UInt8) (p e k : Int) (acc : List T.Pk) (n : Int) (n_1 : Nat) (Post : AV → List AObj → Prop),
  condP (decide (n > (0 : Int)))
      (ASpec Tryd.prog 95 [AV.ptr 1 0]
        [AObj.cells [AV.int IntKind.i64 (0 : Int), AV.sl 0 (Seq.raw []) Tip.nil, AV.sl 0 (Seq.raw []) Tip.nil],
         AObj.cells [AV.sl 1 (Seq.map encB (0 : UInt8) bs) Tip.none, AV.int IntKind.i64 p, AV.int IntKind.i64 e],
         AObj.cells [AV.int IntKind.i64 k, AV.sl 2 (Seq.map T.encPk T.noPk acc) (Tip.tok 3), AV.sl 0 (Seq.raw []) Tip.nil], AObj.tok]
        fun (r : AV) (H' : List AObj) =>
        ∃ (x : Int),
         r = AV.int IntKind.i64 x ∧
         H' =
         [AObj.cells [AV.int IntKind.i64 (0 : Int), AV.sl 0 (Seq.raw []) Tip.nil, AV.sl 0 (Seq.raw []) Tip.nil],
         AObj.cells [AV.sl 1 (Seq.map encB (0 : UInt8) bs) Tip.none, AV.int IntKind.i64 p, AV.int IntKind.i64 e],
         AObj.cells [AV.int IntKind.i64 k, AV.sl 2 (Seq.map T.encPk T.noPk acc) (Tip.tok 3), AV.sl 0 (Seq.raw []) Tip.nil], AObj.tok] ∧
         condP (x == (0 : Int))
         (ASpec Tryd.prog 96 [AV.ptr 1 0, AV.int IntKind.i64 (24 : Int)]
         [AObj.cells [AV.int IntKind.i64 (0 : Int), AV.sl 0 (Seq.raw []) Tip.nil, AV.sl 0 (Seq.raw []) Tip.nil],
         AObj.cells [AV.sl 1 (Seq.map encB (0 : UInt8) bs) Tip.none, AV.int IntKind.i64 p, AV.int IntKind.i64 e],
         AObj.cells [AV.int IntKind.i64 k, AV.sl 2 (Seq.map T.encPk T.noPk acc) (Tip.tok 3), AV.sl 0 (Seq.raw []) Tip.nil], AObj.tok]
         fun (r : AV) (H' : List AObj) =>
         ∃ (x : ByteArray × Int × Int),
         r = AV.str (Prod.fst x) ∧
         H' =
         [AObj.cells [AV.int IntKind.i64 (0 : Int), AV.sl 0 (Seq.raw []) Tip.nil, AV.sl 0 (Seq.raw []) Tip.nil],
         AObj.cells [AV.sl 1 (Seq.map encB (0 : UInt8) bs) Tip.none, AV.int IntKind.i64 (Prod.fst (Prod.snd x)), AV.int IntKind.i64 (Prod.snd (Prod.snd x))],
         AObj.cells [AV.int IntKind.i64 k, AV.sl 2 (Seq.map T.encPk T.noPk acc) (Tip.tok 3), AV.sl 0 (Seq.raw []) Tip.nil], AObj.tok] ∧
         ASpec Tryd.prog 94 [AV.ptr 1 0, AV.int IntKind.i64 (1000000000 : Int)]
         [AObj.cells [AV.int IntKind.i64 (0 : Int), AV.sl 0 (Seq.raw []) Tip.nil, AV.sl 0 (Seq.raw []) Tip.nil],
         AObj.cells [AV.sl 1 (Seq.map encB (0 : UInt8) bs) Tip.none, AV.int IntKind.i64 (Prod.fst (Prod.snd x)), AV.int IntKind.i64 (Prod.snd (Prod.snd x))],
         AObj.cells [AV.int IntKind.i64 k, AV.sl 2 (Seq.map T.encPk T.noPk acc) (Tip.tok 3), AV.sl 0 (Seq.raw []) Tip.nil], AObj.tok,
         AObj.cells [AV.str (Prod.fst x), AV.int IntKind.i64 (0 : Int)]]
         fun (r : AV) (H' : List AObj) =>
         ∃ (x_1 : Int × Int × Int),
         r = AV.int IntKind.i64 (Prod.fst x_1) ∧
         H' =
         [AObj.cells [AV.int IntKind.i64 (0 : Int), AV.sl 0 (Seq.raw []) Tip.nil, AV.sl 0 (Seq.raw []) Tip.nil],
         AObj.cells [AV.sl 1 (Seq.map encB (0 : UInt8) bs) Tip.none, AV.int IntKind.i64 (Prod.fst (Prod.snd x_1)), AV.int IntKind.i64 (Prod.snd (Prod.snd x_1))],
         AObj.cells [AV.int IntKind.i64 k, AV.sl 2 (Seq.map T.encPk T.noPk acc) (Tip.tok 3), AV.sl 0 (Seq.raw []) Tip.nil], AObj.tok,
         AObj.cells [AV.str (Prod.fst x), AV.int IntKind.i64 (0 : Int)]] ∧
         needP ((List.length acc + 1) * 24 ≤ 140737488351232)
         (AWP Tryd.prog 78 n_1 c47_6
         [(2, AV.ptr 0 0), (4, AV.ptr 1 0), (5, AV.ptr 2 0),
         (6, AV.int IntKind.i64 (IntKind.wrap IntKind.i64 (n - (1 : Int))))]
         [AObj.cells [AV.int IntKind.i64 (0 : Int), AV.sl 0 (Seq.raw []) Tip.nil, AV.sl 0 (Seq.raw []) Tip.nil],
         AObj.cells [AV.sl 1 (Seq.map encB (0 : UInt8) bs) Tip.none, AV.int IntKind.i64 (Prod.fst (Prod.snd x_1)), AV.int IntKind.i64 (Prod.snd (Prod.snd x_1))],
         AObj.cells
         [AV.int IntKind.i64 k,
         AV.sl 2 (Seq.app (Seq.map T.encPk T.noPk acc) (Seq.raw [[AV.str (Prod.fst x), AV.int IntKind.i64 (Prod.fst x_1)]])) (Tip.tok 5),
         AV.sl 0 (Seq.raw []) Tip.nil],
         AObj.gone, AObj.cells [AV.str (Prod.fst x), AV.int IntKind.i64 (Prod.fst x_1)], AObj.tok]
         (q47_3 n_1 Post)))
         (AWP Tryd.prog 78 n_1 c47_18 [(2, AV.ptr 0 0), (4, AV.ptr 1 0), (5, AV.ptr 2 0)]
         [AObj.cells [AV.int IntKind.i64 (0 : Int), AV.sl 0 (Seq.raw []) Tip.nil, AV.sl 0 (Seq.raw []) Tip.nil],
         AObj.cells [AV.sl 1 (Seq.map encB (0 : UInt8) bs) Tip.none, AV.int IntKind.i64 p, AV.int IntKind.i64 e],
         AObj.cells [AV.int IntKind.i64 k, AV.sl 2 (Seq.map T.encPk T.noPk acc) (Tip.tok 3), AV.sl 0 (Seq.raw []) Tip.nil], AObj.tok]
         (q47_0 n_1 Post)))
      (AWP Tryd.prog 78 n_1 c47_18 [(2, AV.ptr 0 0), (4, AV.ptr 1 0), (5, AV.ptr 2 0)]
        [AObj.cells [AV.int IntKind.i64 (0 : Int), AV.sl 0 (Seq.raw []) Tip.nil, AV.sl 0 (Seq.raw []) Tip.nil],
         AObj.cells [AV.sl 1 (Seq.map encB (0 : UInt8) bs) Tip.none, AV.int IntKind.i64 p, AV.int IntKind.i64 e],
         AObj.cells [AV.int IntKind.i64 k, AV.sl 2 (Seq.map T.encPk T.noPk acc) (Tip.tok 3), AV.sl 0 (Seq.raw []) Tip.nil], AObj.tok]
        (q47_0 n_1 Post)) →
    AWP Tryd.prog 78 n_1 c47_6 [(2, AV.ptr 0 0), (4, AV.ptr 1 0), (5, AV.ptr 2 0), (6, AV.int IntKind.i64 n)]
      [AObj.cells zA, V.rd bs p e, AObj.cells [AV.int IntKind.i64 k, AV.sl 2 (Seq.map T.encPk T.noPk acc) (Tip.tok 3), AV.sl 0 (Seq.raw []) Tip.nil], AObj.tok] (q47_3 n_1 Post) := fun bs p e k acc n n Post h => Go.Ab.AWP.loop' g47 (Cfg.live g47) c47_6 (by kernel_rfl) (by kernel_rfl) (Go.Ab.kc (by kernel_rfl) h)
theorem v47_18 : ∀ (bs : List UInt8) (p e : Int) (a : T.Ans) (n : Nat) (Post : AV → List AObj → Prop),
  (ASpec Tryd.prog 99 [AV.ptr 1 0]
      [AObj.cells [AV.int IntKind.i64 (0 : Int), AV.sl 0 (Seq.raw []) Tip.nil, AV.sl 0 (Seq.raw []) Tip.nil],
        AObj.cells [AV.sl 1 (Seq.map encB (0 : UInt8) bs) Tip.none, AV.int IntKind.i64 p, AV.int IntKind.i64 e],
        AObj.cells
         [AV.int IntKind.i64 (Prod.fst a), AV.sl 2 (Seq.map T.encPk T.noPk (Prod.fst (Prod.snd a))) Tip.none, AV.sl 6 (Seq.map T.encSt T.noSt (Prod.snd (Prod.snd a))) Tip.none]]
      fun (r : AV) (H' : List AObj) =>
      ∃ (x : Int),
        r = AV.int IntKind.i64 x ∧
         H' =
         [AObj.cells [AV.int IntKind.i64 (0 : Int), AV.sl 0 (Seq.raw []) Tip.nil, AV.sl 0 (Seq.raw []) Tip.nil],
         AObj.cells [AV.sl 1 (Seq.map encB (0 : UInt8) bs) Tip.none, AV.int IntKind.i64 p, AV.int IntKind.i64 e],
         AObj.cells
         [AV.int IntKind.i64 (Prod.fst a), AV.sl 2 (Seq.map T.encPk T.noPk (Prod.fst (Prod.snd a))) Tip.none,
         AV.sl 6 (Seq.map T.encSt T.noSt (Prod.snd (Prod.snd a))) Tip.none]] ∧
         condP (x == (0 : Int))
         (ASpec Tryd.prog 40
         [AV.agg
         [AV.int IntKind.i64 (Prod.fst a), AV.sl 2 (Seq.map T.encPk T.noPk (Prod.fst (Prod.snd a))) Tip.none,
         AV.sl 6 (Seq.map T.encSt T.noSt (Prod.snd (Prod.snd a))) Tip.none]]
         [AObj.cells [AV.int IntKind.i64 (0 : Int), AV.sl 0 (Seq.raw []) Tip.nil, AV.sl 0 (Seq.raw []) Tip.nil],
         AObj.cells [AV.sl 1 (Seq.map encB (0 : UInt8) bs) Tip.none, AV.int IntKind.i64 p, AV.int IntKind.i64 e],
         AObj.cells
         [AV.int IntKind.i64 (Prod.fst a), AV.sl 2 (Seq.map T.encPk T.noPk (Prod.fst (Prod.snd a))) Tip.none,
         AV.sl 6 (Seq.map T.encSt T.noSt (Prod.snd (Prod.snd a))) Tip.none]]
         fun (r : AV) (H' : List AObj) =>
         ∃ (x_1 : Bool),
         r = AV.bool x_1 ∧
         H' =
         [AObj.cells [AV.int IntKind.i64 (0 : Int), AV.sl 0 (Seq.raw []) Tip.nil, AV.sl 0 (Seq.raw []) Tip.nil],
         AObj.cells [AV.sl 1 (Seq.map encB (0 : UInt8) bs) Tip.none, AV.int IntKind.i64 p, AV.int IntKind.i64 e],
         AObj.cells
         [AV.int IntKind.i64 (Prod.fst a), AV.sl 2 (Seq.map T.encPk T.noPk (Prod.fst (Prod.snd a))) Tip.none,
         AV.sl 6 (Seq.map T.encSt T.noSt (Prod.snd (Prod.snd a))) Tip.none]] ∧
         condP (!x_1)
         (Post (AV.tup [AV.agg [AV.int IntKind.i64 (0 : Int), AV.sl 0 (Seq.raw []) Tip.nil, AV.sl 0 (Seq.raw []) Tip.nil], AV.int IntKind.i64 (3 : Int)])
         [AObj.cells [AV.int IntKind.i64 (0 : Int), AV.sl 0 (Seq.raw []) Tip.nil, AV.sl 0 (Seq.raw []) Tip.nil],
         AObj.cells [AV.sl 1 (Seq.map encB (0 : UInt8) bs) Tip.none, AV.int IntKind.i64 p, AV.int IntKind.i64 e],
         AObj.cells
         [AV.int IntKind.i64 (Prod.fst a), AV.sl 2 (Seq.map T.encPk T.noPk (Prod.fst (Prod.snd a))) Tip.none,
         AV.sl 6 (Seq.map T.encSt T.noSt (Prod.snd (Prod.snd a))) Tip.none]])
         (condP (x != (0 : Int))
         (Post (AV.tup [AV.agg [AV.int IntKind.i64 (0 : Int), AV.sl 0 (Seq.raw []) Tip.nil, AV.sl 0 (Seq.raw []) Tip.nil], AV.int IntKind.i64 x])
         [AObj.cells [AV.int IntKind.i64 (0 : Int), AV.sl 0 (Seq.raw []) Tip.nil, AV.sl 0 (Seq.raw []) Tip.nil],
         AObj.cells [AV.sl 1 (Seq.map encB (0 : UInt8) bs) Tip.none, AV.int IntKind.i64 p, AV.int IntKind.i64 e],
         AObj.cells
         [AV.int IntKind.i64 (Prod.fst a), AV.sl 2 (Seq.map T.encPk T.noPk (Prod.fst (Prod.snd a))) Tip.none,
         AV.sl 6 (Seq.map T.encSt T.noSt (Prod.snd (Prod.snd a))) Tip.none]])
         (Post
         (AV.tup
         [AV.agg
         [AV.int IntKind.i64 (Prod.fst a), AV.sl 2 (Seq.map T.encPk T.noPk (Prod.fst (Prod.snd a))) Tip.none,
         AV.sl 6 (Seq.map T.encSt T.noSt (Prod.snd (Prod.snd a))) Tip.none],
         AV.int IntKind.i64 (0 : Int)])
         [AObj.cells
         [AV.int IntKind.i64 (Prod.fst a), AV.sl 2 (Seq.map T.encPk T.noPk (Prod.fst (Prod.snd a))) Tip.none,
         AV.sl 6 (Seq.map T.encSt T.noSt (Prod.snd (Prod.snd a))) Tip.none],
         AObj.cells [AV.sl 1 (Seq.map encB (0 : UInt8) bs) Tip.none, AV.int IntKind.i64 p, AV.int IntKind.i64 e],
         AObj.cells
         [AV.int IntKind.i64 (Prod.fst a), AV.sl 2 (Seq.map T.encPk T.noPk (Prod.fst (Prod.snd a))) Tip.none,
         AV.sl 6 (Seq.map T.encSt T.noSt (Prod.snd (Prod.snd a))) Tip.none]])))
         (condP (x != (0 : Int))
         (Post (AV.tup [AV.agg [AV.int IntKind.i64 (0 : Int), AV.sl 0 (Seq.raw []) Tip.nil, AV.sl 0 (Seq.raw []) Tip.nil], AV.int IntKind.i64 x])
         [AObj.cells [AV.int IntKind.i64 (0 : Int), AV.sl 0 (Seq.raw []) Tip.nil, AV.sl 0 (Seq.raw []) Tip.nil],
         AObj.cells [AV.sl 1 (Seq.map encB (0 : UInt8) bs) Tip.none, AV.int IntKind.i64 p, AV.int IntKind.i64 e],
         AObj.cells
         [AV.int IntKind.i64 (Prod.fst a), AV.sl 2 (Seq.map T.encPk T.noPk (Prod.fst (Prod.snd a))) Tip.none,
         AV.sl 6 (Seq.map T.encSt T.noSt (Prod.snd (Prod.snd a))) Tip.none]])
         (Post
         (AV.tup
         [AV.agg
         [AV.int IntKind.i64 (Prod.fst a), AV.sl 2 (Seq.map T.encPk T.noPk (Prod.fst (Prod.snd a))) Tip.none,
         AV.sl 6 (Seq.map T.encSt T.noSt (Prod.snd (Prod.snd a))) Tip.none],
         AV.int IntKind.i64 (0 : Int)])
         [AObj.cells
         [AV.int IntKind.i64 (Prod.fst a), AV.sl 2 (Seq.map T.encPk T.noPk (Prod.fst (Prod.snd a))) Tip.none,
         AV.sl 6 (Seq.map T.encSt T.noSt (Prod.snd (Prod.snd a))) Tip.none],
         AObj.cells [AV.sl 1 (Seq.map encB (0 : UInt8) bs) Tip.none, AV.int IntKind.i64 p, AV.int IntKind.i64 e],
         AObj.cells
         [AV.int IntKind.i64 (Prod.fst a), AV.sl 2 (Seq.map T.encPk T.noPk (Prod.fst (Prod.snd a))) Tip.none,
         AV.sl 6 (Seq.map T.encSt T.noSt (Prod.snd (Prod.snd a))) Tip.none]]))) →
    AWP Tryd.prog 78 n c47_18 [(2, AV.ptr 0 0), (4, AV.ptr 1 0), (5, AV.ptr 2 0)]
      [AObj.cells zA, V.rd bs p e, AObj.cells (T.encAn a)] (q47_0 n Post) := fun bs p e a n Post h => Go.Ab.awp_sound g47 n _ _ _ _ (Go.Ab.kc (by kernel_rfl) h)

-- 48
noncomputable def l48 : Nat → List Nat
  | 6 => [2, 4, 5, 6, 7]
  | 11 => [2, 4, 5]
  | 17 => [2, 4, 5]
  | _ => []
noncomputable def u48 : Nat → Bool
  | 11 => true
  | 17 => true
  | _ => false
noncomputable def m48 : Nat → Bool
  | _ => false
noncomputable def g48 : Cfg := { N := 83, live := l48, cut := u48, mu := m48, ret := rets }
noncomputable def c48 : Go.Code := Go.Ab.bodyOf Go.Proofs.Tryd.f48
noncomputable def q48_0 : Nat → (AV → List AObj → Prop) → AQ := fun (n : Nat) (Post : AV → List AObj → Prop) => endQ Tryd.prog (resultsOf Tryd.f48) Post
noncomputable def c48_11 : Go.Code := codeSnd (codeSnd (codeSnd (codeSnd c48)))
noncomputable def q48_1 : Nat → (AV → List AObj → Prop) → AQ := fun (n : Nat) (Post : AV → List AObj → Prop) => seqQ (fun (s' : Slots) (H' : List AObj) => AWP Tryd.prog (Cfg.N g48) n c48_11 (restrict s' (Cfg.live g48 11)) H' (q48_0 n Post)) (q48_0 n Post)
noncomputable def q48_2 : Nat → (AV → List AObj → Prop) → AQ := fun (n : Nat) (Post : AV → List AObj → Prop) => blockQ 0 (q48_1 n Post)
noncomputable def c48_6 : Go.Code := codeFst (codeSnd (codeSnd (codeFst (codeSnd (codeFst (codeSnd (codeSnd (codeSnd c48))))))))
theorem s48 : ∀ (s : ByteArray) (Post : AV → List AObj → Prop),
  (ASpec Tryd.prog 100 [AV.ptr 1 0, AV.int IntKind.i64 (5 : Int)]
      [AObj.cells [AV.int IntKind.i64 (0 : Int), AV.sl 0 (Seq.raw []) Tip.nil, AV.sl 0 (Seq.raw []) Tip.nil], AObj.cells [AV.str s, AV.int IntKind.i64 (0 : Int)]]
      fun (r : AV) (H' : List AObj) =>
      ∃ (x : Int × ByteArray × Int),
        r = AV.int IntKind.i64 (Prod.fst x) ∧
         H' =
         [AObj.cells [AV.int IntKind.i64 (0 : Int), AV.sl 0 (Seq.raw []) Tip.nil, AV.sl 0 (Seq.raw []) Tip.nil],
         AObj.cells [AV.str (Prod.fst (Prod.snd x)), AV.int IntKind.i64 (Prod.snd (Prod.snd x))]] ∧
         condP (Prod.fst x == (1 : Int))
         (ASpec Tryd.prog 100 [AV.ptr 1 0, AV.int IntKind.i64 (1000 : Int)]
         [AObj.cells [AV.int IntKind.i64 (0 : Int), AV.sl 0 (Seq.raw []) Tip.nil, AV.sl 0 (Seq.raw []) Tip.nil],
         AObj.cells [AV.str (Prod.fst (Prod.snd x)), AV.int IntKind.i64 (Prod.snd (Prod.snd x))],
         AObj.cells [AV.int IntKind.i64 (Prod.fst x), AV.sl 0 (Seq.raw []) Tip.nil, AV.sl 0 (Seq.raw []) Tip.nil]]
         fun (r : AV) (H' : List AObj) =>
         ∃ (x_1 : Int × ByteArray × Int),
         r = AV.int IntKind.i64 (Prod.fst x_1) ∧
         H' =
         [AObj.cells [AV.int IntKind.i64 (0 : Int), AV.sl 0 (Seq.raw []) Tip.nil, AV.sl 0 (Seq.raw []) Tip.nil],
         AObj.cells [AV.str (Prod.fst (Prod.snd x_1)), AV.int IntKind.i64 (Prod.snd (Prod.snd x_1))],
         AObj.cells [AV.int IntKind.i64 (Prod.fst x), AV.sl 0 (Seq.raw []) Tip.nil, AV.sl 0 (Seq.raw []) Tip.nil]] ∧
         AWP Tryd.prog 83 0 c48_6
         [(2, AV.ptr 0 0), (4, AV.ptr 1 0), (5, AV.ptr 2 0), (6, AV.int IntKind.i64 (Prod.fst x_1)),
         (7, AV.int IntKind.i64 (0 : Int))]
         [AObj.cells [AV.int IntKind.i64 (0 : Int), AV.sl 0 (Seq.raw []) Tip.nil, AV.sl 0 (Seq.raw []) Tip.nil],
         AObj.cells [AV.str (Prod.fst (Prod.snd x_1)), AV.int IntKind.i64 (Prod.snd (Prod.snd x_1))],
         AObj.cells [AV.int IntKind.i64 (Prod.fst x), AV.sl 0 (Seq.raw []) Tip.nil, AV.sl 0 (Seq.raw []) Tip.nil]]
         (q48_2 0 Post))
         (AWP Tryd.prog 83 0 c48_11 [(2, AV.ptr 0 0), (4, AV.ptr 1 0), (5, AV.ptr 2 0)]
         [AObj.cells [AV.int IntKind.i64 (0 : Int), AV.sl 0 (Seq.raw []) Tip.nil, AV.sl 0 (Seq.raw []) Tip.nil],
         AObj.cells [AV.str (Prod.fst (Prod.snd x)), AV.int IntKind.i64 (Prod.snd (Prod.snd x))],
         AObj.cells [AV.int IntKind.i64 (Prod.fst x), AV.sl 0 (Seq.raw []) Tip.nil, AV.sl 0 (Seq.raw []) Tip.nil]]
         (q48_0 0 Post))) →
    ASpec Tryd.prog 48 [AV.str s] [] Post := fun s Post h => Go.Ab.ASpec.of_vc g48 Go.Proofs.Tryd.func48 (by kernel_rfl) (by kernel_rfl) (by kernel_rfl) (Go.Ab.kc (by kernel_rfl) h)
theorem v48_6 : ∀ (s : ByteArray) (e k n : Int) (acc : List T.Pk) (i : Int) (n_1 : Nat) (Post : AV → List AObj → Prop),
  condP (decide (i < n))
      (condP (e == (0 : Int))
        (ASpec Tryd.prog 101 [AV.ptr 1 0, AV.int IntKind.i64 (24 : Int)]
         [AObj.cells [AV.int IntKind.i64 (0 : Int), AV.sl 0 (Seq.raw []) Tip.nil, AV.sl 0 (Seq.raw []) Tip.nil], AObj.cells [AV.str s, AV.int IntKind.i64 e],
         AObj.cells [AV.int IntKind.i64 k, AV.sl 2 (Seq.map T.encPk T.noPk acc) (Tip.tok 3), AV.sl 0 (Seq.raw []) Tip.nil], AObj.tok]
         fun (r : AV) (H' : List AObj) =>
         ∃ (x : ByteArray × ByteArray × Int),
         r = AV.str (Prod.fst x) ∧
         H' =
         [AObj.cells [AV.int IntKind.i64 (0 : Int), AV.sl 0 (Seq.raw []) Tip.nil, AV.sl 0 (Seq.raw []) Tip.nil],
         AObj.cells [AV.str (Prod.fst (Prod.snd x)), AV.int IntKind.i64 (Prod.snd (Prod.snd x))],
         AObj.cells [AV.int IntKind.i64 k, AV.sl 2 (Seq.map T.encPk T.noPk acc) (Tip.tok 3), AV.sl 0 (Seq.raw []) Tip.nil], AObj.tok] ∧
         ASpec Tryd.prog 100 [AV.ptr 1 0, AV.int IntKind.i64 (1000000000 : Int)]
         [AObj.cells [AV.int IntKind.i64 (0 : Int), AV.sl 0 (Seq.raw []) Tip.nil, AV.sl 0 (Seq.raw []) Tip.nil],
         AObj.cells [AV.str (Prod.fst (Prod.snd x)), AV.int IntKind.i64 (Prod.snd (Prod.snd x))],
         AObj.cells [AV.int IntKind.i64 k, AV.sl 2 (Seq.map T.encPk T.noPk acc) (Tip.tok 3), AV.sl 0 (Seq.raw []) Tip.nil], AObj.tok,
         AObj.cells [AV.str (Prod.fst x), AV.int IntKind.i64 (0 : Int)]]
         fun (r : AV) (H' : List AObj) =>
         ∃ (x_1 : Int × ByteArray × Int),
         r = AV.int IntKind.i64 (Prod.fst x_1) ∧
         H' =
         [AObj.cells [AV.int IntKind.i64 (0 : Int), AV.sl 0 (Seq.raw []) Tip.nil, AV.sl 0 (Seq.raw []) Tip.nil],
         AObj.cells [AV.str (Prod.fst (Prod.snd x_1)), AV.int IntKind.i64 (Prod.snd (Prod.snd x_1))],
         AObj.cells [AV.int IntKind.i64 k, AV.sl 2 (Seq.map T.encPk T.noPk acc) (Tip.tok 3), AV.sl 0 (Seq.raw []) Tip.nil], AObj.tok,
         AObj.cells [AV.str (Prod.fst x), AV.int IntKind.i64 (0 : Int)]] ∧
         needP ((List.length acc + 1) * 24 ≤ 140737488351232)
         (AWP Tryd.prog 83 n_1 c48_6
         [(2, AV.ptr 0 0), (4, AV.ptr 1 0), (5, AV.ptr 2 0), (6, AV.int IntKind.i64 n),
         (7, AV.int IntKind.i64 (IntKind.wrap IntKind.i64 (i + (1 : Int))))]
         [AObj.cells [AV.int IntKind.i64 (0 : Int), AV.sl 0 (Seq.raw []) Tip.nil, AV.sl 0 (Seq.raw []) Tip.nil],
         AObj.cells [AV.str (Prod.fst (Prod.snd x_1)), AV.int IntKind.i64 (Prod.snd (Prod.snd x_1))],
         AObj.cells
         [AV.int IntKind.i64 k, AV.sl 2 (Seq.app (Seq.map T.encPk T.noPk acc) (Seq.raw [[AV.str (Prod.fst x), AV.int IntKind.i64 (Prod.fst x_1)]])) (Tip.tok 5),
         AV.sl 0 (Seq.raw []) Tip.nil],
         AObj.gone, AObj.cells [AV.str (Prod.fst x), AV.int IntKind.i64 (Prod.fst x_1)], AObj.tok]
         (q48_2 n_1 Post)))
        (AWP Tryd.prog 83 n_1 c48_11 [(2, AV.ptr 0 0), (4, AV.ptr 1 0), (5, AV.ptr 2 0)]
         [AObj.cells [AV.int IntKind.i64 (0 : Int), AV.sl 0 (Seq.raw []) Tip.nil, AV.sl 0 (Seq.raw []) Tip.nil], AObj.cells [AV.str s, AV.int IntKind.i64 e],
         AObj.cells [AV.int IntKind.i64 k, AV.sl 2 (Seq.map T.encPk T.noPk acc) (Tip.tok 3), AV.sl 0 (Seq.raw []) Tip.nil], AObj.tok]
         (q48_0 n_1 Post)))
      (AWP Tryd.prog 83 n_1 c48_11 [(2, AV.ptr 0 0), (4, AV.ptr 1 0), (5, AV.ptr 2 0)]
        [AObj.cells [AV.int IntKind.i64 (0 : Int), AV.sl 0 (Seq.raw []) Tip.nil, AV.sl 0 (Seq.raw []) Tip.nil], AObj.cells [AV.str s, AV.int IntKind.i64 e],
         AObj.cells [AV.int IntKind.i64 k, AV.sl 2 (Seq.map T.encPk T.noPk acc) (Tip.tok 3), AV.sl 0 (Seq.raw []) Tip.nil], AObj.tok]
        (q48_0 n_1 Post)) →
    AWP Tryd.prog 83 n_1 c48_6
      [(2, AV.ptr 0 0), (4, AV.ptr 1 0), (5, AV.ptr 2 0), (6, AV.int IntKind.i64 n), (7, AV.int IntKind.i64 i)]
      [AObj.cells zA, AObj.cells [AV.str s, AV.int IntKind.i64 e],
        AObj.cells [AV.int IntKind.i64 k, AV.sl 2 (Seq.map T.encPk T.noPk acc) (Tip.tok 3), AV.sl 0 (Seq.raw []) Tip.nil], AObj.tok]
      (q48_2 n_1 Post) := fun s e k n acc i n Post h => Go.Ab.AWP.loop' g48 (Cfg.live g48) c48_6 (by kernel_rfl) (by kernel_rfl) (Go.Ab.kc (by kernel_rfl) h)
noncomputable def c48_17 : Go.Code := codeSnd c48_11
theorem v48_11 : ∀ (s : ByteArray) (e : Int) (a : T.Ans) (n : Nat) (Post : AV → List AObj → Prop),
  condP (Prod.fst a == (2 : Int))
      (ASpec Tryd.prog 101 [AV.ptr 1 0, AV.int IntKind.i64 (1099511627776 : Int)]
        [AObj.cells [AV.int IntKind.i64 (0 : Int), AV.sl 0 (Seq.raw []) Tip.nil, AV.sl 0 (Seq.raw []) Tip.nil], AObj.cells [AV.str s, AV.int IntKind.i64 e],
         AObj.cells
         [AV.int IntKind.i64 (Prod.fst a), AV.sl 2 (Seq.map T.encPk T.noPk (Prod.fst (Prod.snd a))) Tip.none, AV.sl 6 (Seq.map T.encSt T.noSt (Prod.snd (Prod.snd a))) Tip.none]]
        fun (r : AV) (H' : List AObj) =>
        ∃ (x : ByteArray × ByteArray × Int),
         r = AV.str (Prod.fst x) ∧
         H' =
         [AObj.cells [AV.int IntKind.i64 (0 : Int), AV.sl 0 (Seq.raw []) Tip.nil, AV.sl 0 (Seq.raw []) Tip.nil],
         AObj.cells [AV.str (Prod.fst (Prod.snd x)), AV.int IntKind.i64 (Prod.snd (Prod.snd x))],
         AObj.cells
         [AV.int IntKind.i64 (Prod.fst a), AV.sl 2 (Seq.map T.encPk T.noPk (Prod.fst (Prod.snd a))) Tip.none,
         AV.sl 6 (Seq.map T.encSt T.noSt (Prod.snd (Prod.snd a))) Tip.none]] ∧
         condP (Prod.snd (Prod.snd x) == (0 : Int))
         (ASpec Tryd.prog 102 [AV.str (Prod.fst x)]
         [AObj.cells [AV.int IntKind.i64 (0 : Int), AV.sl 0 (Seq.raw []) Tip.nil, AV.sl 0 (Seq.raw []) Tip.nil],
         AObj.cells [AV.str (Prod.fst (Prod.snd x)), AV.int IntKind.i64 (Prod.snd (Prod.snd x))],
         AObj.cells
         [AV.int IntKind.i64 (Prod.fst a), AV.sl 2 (Seq.map T.encPk T.noPk (Prod.fst (Prod.snd a))) Tip.none,
         AV.sl 6 (Seq.map T.encSt T.noSt (Prod.snd (Prod.snd a))) Tip.none]]
         fun (r : AV) (H' : List AObj) =>
         ∃ (x_1 : List T.St × Int),
         r = AV.tup [AV.sl 6 (Seq.map T.encSt T.noSt (Prod.fst x_1)) Tip.none, AV.int IntKind.i64 (Prod.snd x_1)] ∧
         H' =
         [AObj.cells [AV.int IntKind.i64 (0 : Int), AV.sl 0 (Seq.raw []) Tip.nil, AV.sl 0 (Seq.raw []) Tip.nil],
         AObj.cells [AV.str (Prod.fst (Prod.snd x)), AV.int IntKind.i64 (Prod.snd (Prod.snd x))],
         AObj.cells
         [AV.int IntKind.i64 (Prod.fst a), AV.sl 2 (Seq.map T.encPk T.noPk (Prod.fst (Prod.snd a))) Tip.none,
         AV.sl 6 (Seq.map T.encSt T.noSt (Prod.snd (Prod.snd a))) Tip.none]] ∧
         AWP Tryd.prog 83 n c48_17 [(2, AV.ptr 0 0), (4, AV.ptr 1 0), (5, AV.ptr 2 0)]
         [AObj.cells [AV.int IntKind.i64 (0 : Int), AV.sl 0 (Seq.raw []) Tip.nil, AV.sl 0 (Seq.raw []) Tip.nil],
         AObj.cells [AV.str (Prod.fst (Prod.snd x)), AV.int IntKind.i64 (Prod.snd x_1)],
         AObj.cells
         [AV.int IntKind.i64 (Prod.fst a), AV.sl 2 (Seq.map T.encPk T.noPk (Prod.fst (Prod.snd a))) Tip.none,
         AV.sl 6 (Seq.map T.encSt T.noSt (Prod.fst x_1)) Tip.none]]
         (q48_0 n Post))
         (AWP Tryd.prog 83 n c48_17 [(2, AV.ptr 0 0), (4, AV.ptr 1 0), (5, AV.ptr 2 0)]
         [AObj.cells [AV.int IntKind.i64 (0 : Int), AV.sl 0 (Seq.raw []) Tip.nil, AV.sl 0 (Seq.raw []) Tip.nil],
         AObj.cells [AV.str (Prod.fst (Prod.snd x)), AV.int IntKind.i64 (Prod.snd (Prod.snd x))],
         AObj.cells
         [AV.int IntKind.i64 (Prod.fst a), AV.sl 2 (Seq.map T.encPk T.noPk (Prod.fst (Prod.snd a))) Tip.none,
         AV.sl 6 (Seq.map T.encSt T.noSt (Prod.snd (Prod.snd a))) Tip.none]]
         (q48_0 n Post)))
      (AWP Tryd.prog 83 n c48_17 [(2, AV.ptr 0 0), (4, AV.ptr 1 0), (5, AV.ptr 2 0)]
        [AObj.cells [AV.int IntKind.i64 (0 : Int), AV.sl 0 (Seq.raw []) Tip.nil, AV.sl 0 (Seq.raw []) Tip.nil], AObj.cells [AV.str s, AV.int IntKind.i64 e],
         AObj.cells
         [AV.int IntKind.i64 (Prod.fst a), AV.sl 2 (Seq.map T.encPk T.noPk (Prod.fst (Prod.snd a))) Tip.none, AV.sl 6 (Seq.map T.encSt T.noSt (Prod.snd (Prod.snd a))) Tip.none]]
        (q48_0 n Post)) →
    AWP Tryd.prog 83 n c48_11 [(2, AV.ptr 0 0), (4, AV.ptr 1 0), (5, AV.ptr 2 0)]
      [AObj.cells zA, AObj.cells [AV.str s, AV.int IntKind.i64 e], AObj.cells (T.encAn a)] (q48_0 n Post) := fun s e a n Post h => Go.Ab.awp_sound g48 n _ _ _ _ (Go.Ab.kc (by kernel_rfl) h)
theorem v48_17 : ∀ (s : ByteArray) (e : Int) (a : T.Ans) (n : Nat) (Post : AV → List AObj → Prop),
  (ASpec Tryd.prog 103 [AV.ptr 1 0]
      [AObj.cells [AV.int IntKind.i64 (0 : Int), AV.sl 0 (Seq.raw []) Tip.nil, AV.sl 0 (Seq.raw []) Tip.nil], AObj.cells [AV.str s, AV.int IntKind.i64 e],
        AObj.cells
         [AV.int IntKind.i64 (Prod.fst a), AV.sl 2 (Seq.map T.encPk T.noPk (Prod.fst (Prod.snd a))) Tip.none, AV.sl 6 (Seq.map T.encSt T.noSt (Prod.snd (Prod.snd a))) Tip.none]]
      fun (r : AV) (H' : List AObj) =>
      ∃ (x : Int),
        r = AV.int IntKind.i64 x ∧
         H' =
         [AObj.cells [AV.int IntKind.i64 (0 : Int), AV.sl 0 (Seq.raw []) Tip.nil, AV.sl 0 (Seq.raw []) Tip.nil], AObj.cells [AV.str s, AV.int IntKind.i64 e],
         AObj.cells
         [AV.int IntKind.i64 (Prod.fst a), AV.sl 2 (Seq.map T.encPk T.noPk (Prod.fst (Prod.snd a))) Tip.none,
         AV.sl 6 (Seq.map T.encSt T.noSt (Prod.snd (Prod.snd a))) Tip.none]] ∧
         condP (x == (0 : Int))
         (ASpec Tryd.prog 41
         [AV.agg
         [AV.int IntKind.i64 (Prod.fst a), AV.sl 2 (Seq.map T.encPk T.noPk (Prod.fst (Prod.snd a))) Tip.none,
         AV.sl 6 (Seq.map T.encSt T.noSt (Prod.snd (Prod.snd a))) Tip.none]]
         [AObj.cells [AV.int IntKind.i64 (0 : Int), AV.sl 0 (Seq.raw []) Tip.nil, AV.sl 0 (Seq.raw []) Tip.nil], AObj.cells [AV.str s, AV.int IntKind.i64 e],
         AObj.cells
         [AV.int IntKind.i64 (Prod.fst a), AV.sl 2 (Seq.map T.encPk T.noPk (Prod.fst (Prod.snd a))) Tip.none,
         AV.sl 6 (Seq.map T.encSt T.noSt (Prod.snd (Prod.snd a))) Tip.none]]
         fun (r : AV) (H' : List AObj) =>
         ∃ (x_1 : Bool),
         r = AV.bool x_1 ∧
         H' =
         [AObj.cells [AV.int IntKind.i64 (0 : Int), AV.sl 0 (Seq.raw []) Tip.nil, AV.sl 0 (Seq.raw []) Tip.nil], AObj.cells [AV.str s, AV.int IntKind.i64 e],
         AObj.cells
         [AV.int IntKind.i64 (Prod.fst a), AV.sl 2 (Seq.map T.encPk T.noPk (Prod.fst (Prod.snd a))) Tip.none,
         AV.sl 6 (Seq.map T.encSt T.noSt (Prod.snd (Prod.snd a))) Tip.none]] ∧
         condP (!x_1)
         (Post (AV.tup [AV.agg [AV.int IntKind.i64 (0 : Int), AV.sl 0 (Seq.raw []) Tip.nil, AV.sl 0 (Seq.raw []) Tip.nil], AV.int IntKind.i64 (3 : Int)])
         [AObj.cells [AV.int IntKind.i64 (0 : Int), AV.sl 0 (Seq.raw []) Tip.nil, AV.sl 0 (Seq.raw []) Tip.nil], AObj.cells [AV.str s, AV.int IntKind.i64 e],
         AObj.cells
         [AV.int IntKind.i64 (Prod.fst a), AV.sl 2 (Seq.map T.encPk T.noPk (Prod.fst (Prod.snd a))) Tip.none,
         AV.sl 6 (Seq.map T.encSt T.noSt (Prod.snd (Prod.snd a))) Tip.none]])
         (condP (x != (0 : Int))
         (Post (AV.tup [AV.agg [AV.int IntKind.i64 (0 : Int), AV.sl 0 (Seq.raw []) Tip.nil, AV.sl 0 (Seq.raw []) Tip.nil], AV.int IntKind.i64 x])
         [AObj.cells [AV.int IntKind.i64 (0 : Int), AV.sl 0 (Seq.raw []) Tip.nil, AV.sl 0 (Seq.raw []) Tip.nil], AObj.cells [AV.str s, AV.int IntKind.i64 e],
         AObj.cells
         [AV.int IntKind.i64 (Prod.fst a), AV.sl 2 (Seq.map T.encPk T.noPk (Prod.fst (Prod.snd a))) Tip.none,
         AV.sl 6 (Seq.map T.encSt T.noSt (Prod.snd (Prod.snd a))) Tip.none]])
         (Post
         (AV.tup
         [AV.agg
         [AV.int IntKind.i64 (Prod.fst a), AV.sl 2 (Seq.map T.encPk T.noPk (Prod.fst (Prod.snd a))) Tip.none,
         AV.sl 6 (Seq.map T.encSt T.noSt (Prod.snd (Prod.snd a))) Tip.none],
         AV.int IntKind.i64 (0 : Int)])
         [AObj.cells
         [AV.int IntKind.i64 (Prod.fst a), AV.sl 2 (Seq.map T.encPk T.noPk (Prod.fst (Prod.snd a))) Tip.none,
         AV.sl 6 (Seq.map T.encSt T.noSt (Prod.snd (Prod.snd a))) Tip.none],
         AObj.cells [AV.str s, AV.int IntKind.i64 e],
         AObj.cells
         [AV.int IntKind.i64 (Prod.fst a), AV.sl 2 (Seq.map T.encPk T.noPk (Prod.fst (Prod.snd a))) Tip.none,
         AV.sl 6 (Seq.map T.encSt T.noSt (Prod.snd (Prod.snd a))) Tip.none]])))
         (condP (x != (0 : Int))
         (Post (AV.tup [AV.agg [AV.int IntKind.i64 (0 : Int), AV.sl 0 (Seq.raw []) Tip.nil, AV.sl 0 (Seq.raw []) Tip.nil], AV.int IntKind.i64 x])
         [AObj.cells [AV.int IntKind.i64 (0 : Int), AV.sl 0 (Seq.raw []) Tip.nil, AV.sl 0 (Seq.raw []) Tip.nil], AObj.cells [AV.str s, AV.int IntKind.i64 e],
         AObj.cells
         [AV.int IntKind.i64 (Prod.fst a), AV.sl 2 (Seq.map T.encPk T.noPk (Prod.fst (Prod.snd a))) Tip.none,
         AV.sl 6 (Seq.map T.encSt T.noSt (Prod.snd (Prod.snd a))) Tip.none]])
         (Post
         (AV.tup
         [AV.agg
         [AV.int IntKind.i64 (Prod.fst a), AV.sl 2 (Seq.map T.encPk T.noPk (Prod.fst (Prod.snd a))) Tip.none,
         AV.sl 6 (Seq.map T.encSt T.noSt (Prod.snd (Prod.snd a))) Tip.none],
         AV.int IntKind.i64 (0 : Int)])
         [AObj.cells
         [AV.int IntKind.i64 (Prod.fst a), AV.sl 2 (Seq.map T.encPk T.noPk (Prod.fst (Prod.snd a))) Tip.none,
         AV.sl 6 (Seq.map T.encSt T.noSt (Prod.snd (Prod.snd a))) Tip.none],
         AObj.cells [AV.str s, AV.int IntKind.i64 e],
         AObj.cells
         [AV.int IntKind.i64 (Prod.fst a), AV.sl 2 (Seq.map T.encPk T.noPk (Prod.fst (Prod.snd a))) Tip.none,
         AV.sl 6 (Seq.map T.encSt T.noSt (Prod.snd (Prod.snd a))) Tip.none]]))) →
    AWP Tryd.prog 83 n c48_17 [(2, AV.ptr 0 0), (4, AV.ptr 1 0), (5, AV.ptr 2 0)]
      [AObj.cells zA, AObj.cells [AV.str s, AV.int IntKind.i64 e], AObj.cells (T.encAn a)] (q48_0 n Post) := fun s e a n Post h => Go.Ab.awp_sound g48 n _ _ _ _ (Go.Ab.kc (by kernel_rfl) h)

-- 49
noncomputable def l49 : Nat → List Nat
  | 7 => [1, 3, 4]
  | 10 => [1, 3]
  | _ => []
noncomputable def u49 : Nat → Bool
  | 10 => true
  | _ => false
noncomputable def m49 : Nat → Bool
  | _ => false
noncomputable def g49 : Cfg := { N := 54, live := l49, cut := u49, mu := m49, ret := rets }
noncomputable def c49 : Go.Code := Go.Ab.bodyOf Go.Proofs.Tryd.f49
noncomputable def q49_0 : Nat → (AV → List AObj → Prop) → AQ := fun (n : Nat) (Post : AV → List AObj → Prop) => endQ Tryd.prog (resultsOf Tryd.f49) Post
noncomputable def c49_10 : Go.Code := codeSnd (codeSnd (codeSnd (codeSnd c49)))
noncomputable def q49_1 : Nat → (AV → List AObj → Prop) → AQ := fun (n : Nat) (Post : AV → List AObj → Prop) => seqQ (fun (s' : Slots) (H' : List AObj) => AWP Tryd.prog (Cfg.N g49) n c49_10 (restrict s' (Cfg.live g49 10)) H' (q49_0 n Post)) (q49_0 n Post)
noncomputable def q49_2 : Nat → (AV → List AObj → Prop) → AQ := fun (n : Nat) (Post : AV → List AObj → Prop) => blockQ 0 (q49_1 n Post)
noncomputable def c49_7 : Go.Code := codeFst (codeSnd (codeSnd (codeFst (codeSnd (codeFst (codeSnd (codeSnd (codeSnd c49))))))))
theorem s49 : ∀ (a : T.Ans) (Post : AV → List AObj → Prop),
  (ASpec Tryd.prog 41
      [AV.agg [AV.int IntKind.i64 (Prod.fst a), AV.sl 2 (Seq.map T.encPk T.noPk (Prod.fst (Prod.snd a))) Tip.none, AV.sl 6 (Seq.map T.encSt T.noSt (Prod.snd (Prod.snd a))) Tip.none]]
      [AObj.cells
         [AV.int IntKind.i64 (Prod.fst a), AV.sl 2 (Seq.map T.encPk T.noPk (Prod.fst (Prod.snd a))) Tip.none, AV.sl 6 (Seq.map T.encSt T.noSt (Prod.snd (Prod.snd a))) Tip.none]]
      fun (r : AV) (H' : List AObj) =>
      ∃ (x : Bool),
        r = AV.bool x ∧
         H' =
         [AObj.cells
         [AV.int IntKind.i64 (Prod.fst a), AV.sl 2 (Seq.map T.encPk T.noPk (Prod.fst (Prod.snd a))) Tip.none,
         AV.sl 6 (Seq.map T.encSt T.noSt (Prod.snd (Prod.snd a))) Tip.none]] ∧
         condP (!x)
         (Post (AV.str { data := #[] })
         [AObj.cells
         [AV.int IntKind.i64 (Prod.fst a), AV.sl 2 (Seq.map T.encPk T.noPk (Prod.fst (Prod.snd a))) Tip.none,
         AV.sl 6 (Seq.map T.encSt T.noSt (Prod.snd (Prod.snd a))) Tip.none]])
         (ASpec Tryd.prog 104 [AV.int IntKind.i64 (Prod.fst a)]
         [AObj.cells
         [AV.int IntKind.i64 (Prod.fst a), AV.sl 2 (Seq.map T.encPk T.noPk (Prod.fst (Prod.snd a))) Tip.none,
         AV.sl 6 (Seq.map T.encSt T.noSt (Prod.snd (Prod.snd a))) Tip.none]]
         fun (r : AV) (H' : List AObj) =>
         ∃ (x : ByteArray),
         r = AV.str x ∧
         H' =
         [AObj.cells
         [AV.int IntKind.i64 (Prod.fst a), AV.sl 2 (Seq.map T.encPk T.noPk (Prod.fst (Prod.snd a))) Tip.none,
         AV.sl 6 (Seq.map T.encSt T.noSt (Prod.snd (Prod.snd a))) Tip.none]] ∧
         condP (Prod.fst a == (1 : Int))
         (ASpec Tryd.prog 104 [AV.int IntKind.i64 (↑(List.length (Prod.fst (Prod.snd a))) : Int)]
         [AObj.cells
         [AV.int IntKind.i64 (Prod.fst a), AV.sl 2 (Seq.map T.encPk T.noPk (Prod.fst (Prod.snd a))) Tip.none,
         AV.sl 6 (Seq.map T.encSt T.noSt (Prod.snd (Prod.snd a))) Tip.none]]
         fun (r : AV) (H' : List AObj) =>
         ∃ (x_1 : ByteArray),
         r = AV.str x_1 ∧
         H' =
         [AObj.cells
         [AV.int IntKind.i64 (Prod.fst a), AV.sl 2 (Seq.map T.encPk T.noPk (Prod.fst (Prod.snd a))) Tip.none,
         AV.sl 6 (Seq.map T.encSt T.noSt (Prod.snd (Prod.snd a))) Tip.none]] ∧
         needP ((↑(ByteArray.size x + ByteArray.size x_1) : Int) ≤ (9223372036854775807 : Int))
         (AWP Tryd.prog 54 0 c49_7 [(1, AV.ptr 0 0), (3, AV.str (x ++ x_1)), (4, AV.int IntKind.i64 (0 : Int))]
         [AObj.cells
         [AV.int IntKind.i64 (Prod.fst a), AV.sl 2 (Seq.map T.encPk T.noPk (Prod.fst (Prod.snd a))) Tip.none,
         AV.sl 6 (Seq.map T.encSt T.noSt (Prod.snd (Prod.snd a))) Tip.none]]
         (q49_2 0 Post)))
         (AWP Tryd.prog 54 0 c49_10 [(1, AV.ptr 0 0), (3, AV.str x)]
         [AObj.cells
         [AV.int IntKind.i64 (Prod.fst a), AV.sl 2 (Seq.map T.encPk T.noPk (Prod.fst (Prod.snd a))) Tip.none,
         AV.sl 6 (Seq.map T.encSt T.noSt (Prod.snd (Prod.snd a))) Tip.none]]
         (q49_0 0 Post)))) →
    ASpec Tryd.prog 49 [AV.agg (T.encAn a)] [] Post := fun a Post h => Go.Ab.ASpec.of_vc g49 Go.Proofs.Tryd.func49 (by kernel_rfl) (by kernel_rfl) (by kernel_rfl) (Go.Ab.kc (by kernel_rfl) h)
theorem v49_7 : ∀ (a : T.Ans) (s : ByteArray) (i : Int) (n : Nat) (Post : AV → List AObj → Prop),
  condP (decide (i < (↑(List.length (Prod.fst (Prod.snd a))) : Int)))
      (needP ((0 : Int) ≤ i ∧ i < (↑(List.length (Prod.fst (Prod.snd a))) : Int))
        (needP ((0 : Int) ≤ i ∧ i < (↑(List.length (Prod.fst (Prod.snd a))) : Int))
         (ASpec Tryd.prog 105 [AV.str { data := List.toArray (Prod.fst (List.getD (Prod.fst (Prod.snd a)) (Int.toNat i) T.noPk)) }]
         [AObj.cells
         [AV.int IntKind.i64 (Prod.fst a), AV.sl 2 (Seq.map T.encPk T.noPk (Prod.fst (Prod.snd a))) Tip.none, AV.sl 6 (Seq.map T.encSt T.noSt (Prod.snd (Prod.snd a))) Tip.none]]
         fun (r : AV) (H' : List AObj) =>
         ∃ (x : ByteArray),
         r = AV.str x ∧
         H' =
         [AObj.cells
         [AV.int IntKind.i64 (Prod.fst a), AV.sl 2 (Seq.map T.encPk T.noPk (Prod.fst (Prod.snd a))) Tip.none,
         AV.sl 6 (Seq.map T.encSt T.noSt (Prod.snd (Prod.snd a))) Tip.none]] ∧
         (AV.int IntKind.i64 (Prod.snd (List.getD (Prod.fst (Prod.snd a)) (Int.toNat i) T.noPk)) = AV.int IntKind.i64 (Prod.snd (List.getD (Prod.fst (Prod.snd a)) (Int.toNat i) T.noPk)) ∧
         [AObj.cells
         [AV.int IntKind.i64 (Prod.fst a), AV.sl 2 (Seq.map T.encPk T.noPk (Prod.fst (Prod.snd a))) Tip.none,
         AV.sl 6 (Seq.map T.encSt T.noSt (Prod.snd (Prod.snd a))) Tip.none]] =
         [AObj.cells
         [AV.int IntKind.i64 (Prod.fst a), AV.sl 2 (Seq.map T.encPk T.noPk (Prod.fst (Prod.snd a))) Tip.none,
         AV.sl 6 (Seq.map T.encSt T.noSt (Prod.snd (Prod.snd a))) Tip.none]]) ∧
         (AV.sl 2 (Seq.map T.encPk T.noPk (Prod.fst (Prod.snd a))) Tip.none = AV.sl 2 (Seq.map T.encPk T.noPk (Prod.fst (Prod.snd a))) Tip.none ∧
         [AObj.cells
         [AV.int IntKind.i64 (Prod.fst a), AV.sl 2 (Seq.map T.encPk T.noPk (Prod.fst (Prod.snd a))) Tip.none,
         AV.sl 6 (Seq.map T.encSt T.noSt (Prod.snd (Prod.snd a))) Tip.none]] =
         [AObj.cells
         [AV.int IntKind.i64 (Prod.fst a), AV.sl 2 (Seq.map T.encPk T.noPk (Prod.fst (Prod.snd a))) Tip.none,
         AV.sl 6 (Seq.map T.encSt T.noSt (Prod.snd (Prod.snd a))) Tip.none]]) ∧
         needP ((↑(ByteArray.size s + ByteArray.size x) : Int) ≤ (9223372036854775807 : Int))
         (ASpec Tryd.prog 104 [AV.int IntKind.i64 (Prod.snd (List.getD (Prod.fst (Prod.snd a)) (Int.toNat i) T.noPk))]
         [AObj.cells
         [AV.int IntKind.i64 (Prod.fst a), AV.sl 2 (Seq.map T.encPk T.noPk (Prod.fst (Prod.snd a))) Tip.none,
         AV.sl 6 (Seq.map T.encSt T.noSt (Prod.snd (Prod.snd a))) Tip.none]]
         fun (r : AV) (H' : List AObj) =>
         ∃ (x_1 : ByteArray),
         r = AV.str x_1 ∧
         H' =
         [AObj.cells
         [AV.int IntKind.i64 (Prod.fst a), AV.sl 2 (Seq.map T.encPk T.noPk (Prod.fst (Prod.snd a))) Tip.none,
         AV.sl 6 (Seq.map T.encSt T.noSt (Prod.snd (Prod.snd a))) Tip.none]] ∧
         needP ((↑(ByteArray.size (s ++ x) + ByteArray.size x_1) : Int) ≤ (9223372036854775807 : Int))
         (AWP Tryd.prog 54 n c49_7
         [(1, AV.ptr 0 0), (3, AV.str (s ++ x ++ x_1)), (4, AV.int IntKind.i64 (IntKind.wrap IntKind.i64 (i + (1 : Int))))]
         [AObj.cells
         [AV.int IntKind.i64 (Prod.fst a), AV.sl 2 (Seq.map T.encPk T.noPk (Prod.fst (Prod.snd a))) Tip.none,
         AV.sl 6 (Seq.map T.encSt T.noSt (Prod.snd (Prod.snd a))) Tip.none]]
         (q49_2 n Post))))))
      (AWP Tryd.prog 54 n c49_10 [(1, AV.ptr 0 0), (3, AV.str s)]
        [AObj.cells
         [AV.int IntKind.i64 (Prod.fst a), AV.sl 2 (Seq.map T.encPk T.noPk (Prod.fst (Prod.snd a))) Tip.none, AV.sl 6 (Seq.map T.encSt T.noSt (Prod.snd (Prod.snd a))) Tip.none]]
        (q49_0 n Post)) →
    AWP Tryd.prog 54 n c49_7 [(1, AV.ptr 0 0), (3, AV.str s), (4, AV.int IntKind.i64 i)] [AObj.cells (T.encAn a)] (q49_2 n Post) := fun a s i n Post h => Go.Ab.AWP.loop' g49 (Cfg.live g49) c49_7 (by kernel_rfl) (by kernel_rfl) (Go.Ab.kc (by kernel_rfl) h)
theorem v49_10 : ∀ (a : T.Ans) (s : ByteArray) (n : Nat) (Post : AV → List AObj → Prop),
  condP (Prod.fst a == (2 : Int))
      (ASpec Tryd.prog 106 [AV.sl 6 (Seq.map T.encSt T.noSt (Prod.snd (Prod.snd a))) Tip.none]
        [AObj.cells
         [AV.int IntKind.i64 (Prod.fst a), AV.sl 2 (Seq.map T.encPk T.noPk (Prod.fst (Prod.snd a))) Tip.none, AV.sl 6 (Seq.map T.encSt T.noSt (Prod.snd (Prod.snd a))) Tip.none]]
        fun (r : AV) (H' : List AObj) =>
        ∃ (x : ByteArray),
         r = AV.str x ∧
         H' =
         [AObj.cells
         [AV.int IntKind.i64 (Prod.fst a), AV.sl 2 (Seq.map T.encPk T.noPk (Prod.fst (Prod.snd a))) Tip.none,
         AV.sl 6 (Seq.map T.encSt T.noSt (Prod.snd (Prod.snd a))) Tip.none]] ∧
         ASpec Tryd.prog 105 [AV.str x]
         [AObj.cells
         [AV.int IntKind.i64 (Prod.fst a), AV.sl 2 (Seq.map T.encPk T.noPk (Prod.fst (Prod.snd a))) Tip.none,
         AV.sl 6 (Seq.map T.encSt T.noSt (Prod.snd (Prod.snd a))) Tip.none]]
         fun (r : AV) (H' : List AObj) =>
         ∃ (x : ByteArray),
         r = AV.str x ∧
         H' =
         [AObj.cells
         [AV.int IntKind.i64 (Prod.fst a), AV.sl 2 (Seq.map T.encPk T.noPk (Prod.fst (Prod.snd a))) Tip.none,
         AV.sl 6 (Seq.map T.encSt T.noSt (Prod.snd (Prod.snd a))) Tip.none]] ∧
         needP ((↑(ByteArray.size s + ByteArray.size x) : Int) ≤ (9223372036854775807 : Int))
         (Post (AV.str (s ++ x))
         [AObj.cells
         [AV.int IntKind.i64 (Prod.fst a), AV.sl 2 (Seq.map T.encPk T.noPk (Prod.fst (Prod.snd a))) Tip.none,
         AV.sl 6 (Seq.map T.encSt T.noSt (Prod.snd (Prod.snd a))) Tip.none]]))
      (Post (AV.str s)
        [AObj.cells
         [AV.int IntKind.i64 (Prod.fst a), AV.sl 2 (Seq.map T.encPk T.noPk (Prod.fst (Prod.snd a))) Tip.none, AV.sl 6 (Seq.map T.encSt T.noSt (Prod.snd (Prod.snd a))) Tip.none]]) →
    AWP Tryd.prog 54 n c49_10 [(1, AV.ptr 0 0), (3, AV.str s)] [AObj.cells (T.encAn a)] (q49_0 n Post) := fun a s n Post h => Go.Ab.awp_sound g49 n _ _ _ _ (Go.Ab.kc (by kernel_rfl) h)

-- 7
noncomputable def l7 : Nat → List Nat
  | 3 => [1, 2]
  | 8 => [2, 5]
  | _ => []
noncomputable def u7 : Nat → Bool
  | 3 => true
  | 8 => true
  | _ => false
noncomputable def m7 : Nat → Bool
  | _ => false
noncomputable def g7 : Cfg := { N := 81, live := l7, cut := u7, mu := m7, ret := rets }
noncomputable def c7 : Go.Code := Go.Ab.bodyOf Go.Proofs.Tryd.f7
noncomputable def q7_0 : Nat → (AV → List AObj → Prop) → AQ := fun (n : Nat) (Post : AV → List AObj → Prop) => endQ Tryd.prog (resultsOf Tryd.f7) Post
noncomputable def c7_3 : Go.Code := codeSnd (codeSnd c7)
theorem s7 : ∀ (a : T.Ans) (bs : List UInt8) (Post : AV → List AObj → Prop),
  (ASpec Tryd.prog 38
      [AV.agg [AV.int IntKind.i64 (Prod.fst a), AV.sl 2 (Seq.map T.encPk T.noPk (Prod.fst (Prod.snd a))) Tip.none, AV.sl 6 (Seq.map T.encSt T.noSt (Prod.snd (Prod.snd a))) Tip.none]]
      [AObj.cells
         [AV.int IntKind.i64 (Prod.fst a), AV.sl 2 (Seq.map T.encPk T.noPk (Prod.fst (Prod.snd a))) Tip.none, AV.sl 6 (Seq.map T.encSt T.noSt (Prod.snd (Prod.snd a))) Tip.none]]
      fun (r : AV) (H' : List AObj) =>
      ∃ (x : Bool),
        r = AV.bool x ∧
         H' =
         [AObj.cells
         [AV.int IntKind.i64 (Prod.fst a), AV.sl 2 (Seq.map T.encPk T.noPk (Prod.fst (Prod.snd a))) Tip.none,
         AV.sl 6 (Seq.map T.encSt T.noSt (Prod.snd (Prod.snd a))) Tip.none]] ∧
         condP x
         (ASpec Tryd.prog 39 []
         [AObj.cells
         [AV.int IntKind.i64 (Prod.fst a), AV.sl 2 (Seq.map T.encPk T.noPk (Prod.fst (Prod.snd a))) Tip.none,
         AV.sl 6 (Seq.map T.encSt T.noSt (Prod.snd (Prod.snd a))) Tip.none]]
         fun (r : AV) (H' : List AObj) =>
         ∃ (x : Unit),
         r = AV.bool true ∧
         H' =
         [AObj.cells
         [AV.int IntKind.i64 (Prod.fst a), AV.sl 2 (Seq.map T.encPk T.noPk (Prod.fst (Prod.snd a))) Tip.none,
         AV.sl 6 (Seq.map T.encSt T.noSt (Prod.snd (Prod.snd a))) Tip.none]] ∧
         Post (AV.bool true)
         [AObj.cells
         [AV.int IntKind.i64 (Prod.fst a), AV.sl 2 (Seq.map T.encPk T.noPk (Prod.fst (Prod.snd a))) Tip.none,
         AV.sl 6 (Seq.map T.encSt T.noSt (Prod.snd (Prod.snd a))) Tip.none]])
         (condP (decide ((↑(List.length bs) : Int) > (8000 : Int)))
         (ASpec Tryd.prog 39 []
         [AObj.cells
         [AV.int IntKind.i64 (Prod.fst a), AV.sl 2 (Seq.map T.encPk T.noPk (Prod.fst (Prod.snd a))) Tip.none,
         AV.sl 6 (Seq.map T.encSt T.noSt (Prod.snd (Prod.snd a))) Tip.none]]
         fun (r : AV) (H' : List AObj) =>
         ∃ (x : Unit),
         r = AV.bool true ∧
         H' =
         [AObj.cells
         [AV.int IntKind.i64 (Prod.fst a), AV.sl 2 (Seq.map T.encPk T.noPk (Prod.fst (Prod.snd a))) Tip.none,
         AV.sl 6 (Seq.map T.encSt T.noSt (Prod.snd (Prod.snd a))) Tip.none]] ∧
         Post (AV.bool true)
         [AObj.cells
         [AV.int IntKind.i64 (Prod.fst a), AV.sl 2 (Seq.map T.encPk T.noPk (Prod.fst (Prod.snd a))) Tip.none,
         AV.sl 6 (Seq.map T.encSt T.noSt (Prod.snd (Prod.snd a))) Tip.none]])
         (AWP Tryd.prog 81 0 c7_3 [(1, AV.sl 1 (Seq.map encB (0 : UInt8) bs) Tip.none), (2, AV.ptr 0 0)]
         [AObj.cells
         [AV.int IntKind.i64 (Prod.fst a), AV.sl 2 (Seq.map T.encPk T.noPk (Prod.fst (Prod.snd a))) Tip.none,
         AV.sl 6 (Seq.map T.encSt T.noSt (Prod.snd (Prod.snd a))) Tip.none]]
         (q7_0 0 Post)))) →
    ASpec Tryd.prog 7 [AV.agg (T.encAn a), AV.sl 1 (Seq.map encB (0 : UInt8) bs) Tip.none] [] Post := fun a bs Post h => Go.Ab.ASpec.of_vc g7 Go.Proofs.Tryd.func7 (by kernel_rfl) (by kernel_rfl) (by kernel_rfl) (Go.Ab.kc (by kernel_rfl) h)
noncomputable def c7_8 : Go.Code := codeSnd (codeSnd (codeSnd (codeSnd c7_3)))
theorem v7_3 : ∀ (a : T.Ans) (bs : List UInt8) (n : Nat) (Post : AV → List AObj → Prop),
  (ASpec Tryd.prog 46
      [AV.agg [AV.int IntKind.i64 (Prod.fst a), AV.sl 2 (Seq.map T.encPk T.noPk (Prod.fst (Prod.snd a))) Tip.none, AV.sl 6 (Seq.map T.encSt T.noSt (Prod.snd (Prod.snd a))) Tip.none]]
      [AObj.cells
         [AV.int IntKind.i64 (Prod.fst a), AV.sl 2 (Seq.map T.encPk T.noPk (Prod.fst (Prod.snd a))) Tip.none, AV.sl 6 (Seq.map T.encSt T.noSt (Prod.snd (Prod.snd a))) Tip.none]]
      fun (r : AV) (H' : List AObj) =>
      ∃ (x : List UInt8),
        r = AV.sl 1 (Seq.map encB (0 : UInt8) x) Tip.none ∧
         H' =
         [AObj.cells
         [AV.int IntKind.i64 (Prod.fst a), AV.sl 2 (Seq.map T.encPk T.noPk (Prod.fst (Prod.snd a))) Tip.none,
         AV.sl 6 (Seq.map T.encSt T.noSt (Prod.snd (Prod.snd a))) Tip.none]] ∧
         ASpec Tryd.prog 47 [AV.sl 1 (Seq.map encB (0 : UInt8) bs) Tip.none]
         [AObj.cells
         [AV.int IntKind.i64 (Prod.fst a), AV.sl 2 (Seq.map T.encPk T.noPk (Prod.fst (Prod.snd a))) Tip.none,
         AV.sl 6 (Seq.map T.encSt T.noSt (Prod.snd (Prod.snd a))) Tip.none]]
         fun (r : AV) (H' : List AObj) =>
         ∃ (x_1 : T.Ans × Int),
         r =
         AV.tup
         [AV.agg
         [AV.int IntKind.i64 (Prod.fst (Prod.fst x_1)), AV.sl 2 (Seq.map T.encPk T.noPk (Prod.fst (Prod.snd (Prod.fst x_1)))) Tip.none,
         AV.sl 6 (Seq.map T.encSt T.noSt (Prod.snd (Prod.snd (Prod.fst x_1)))) Tip.none],
         AV.int IntKind.i64 (Prod.snd x_1)] ∧
         H' =
         [AObj.cells
         [AV.int IntKind.i64 (Prod.fst a), AV.sl 2 (Seq.map T.encPk T.noPk (Prod.fst (Prod.snd a))) Tip.none,
         AV.sl 6 (Seq.map T.encSt T.noSt (Prod.snd (Prod.snd a))) Tip.none]] ∧
         needP (allBytes (Seq.map encB (0 : UInt8) bs))
         (ASpec Tryd.prog 48 [AV.str (bytesOf (Seq.map encB (0 : UInt8) bs))]
         [AObj.cells
         [AV.int IntKind.i64 (Prod.fst a), AV.sl 2 (Seq.map T.encPk T.noPk (Prod.fst (Prod.snd a))) Tip.none,
         AV.sl 6 (Seq.map T.encSt T.noSt (Prod.snd (Prod.snd a))) Tip.none],
         AObj.cells
         [AV.int IntKind.i64 (Prod.fst (Prod.fst x_1)), AV.sl 2 (Seq.map T.encPk T.noPk (Prod.fst (Prod.snd (Prod.fst x_1)))) Tip.none,
         AV.sl 6 (Seq.map T.encSt T.noSt (Prod.snd (Prod.snd (Prod.fst x_1)))) Tip.none]]
         fun (r : AV) (H' : List AObj) =>
         ∃ (x_2 : T.Ans × Int),
         r =
         AV.tup
         [AV.agg
         [AV.int IntKind.i64 (Prod.fst (Prod.fst x_2)), AV.sl 2 (Seq.map T.encPk T.noPk (Prod.fst (Prod.snd (Prod.fst x_2)))) Tip.none,
         AV.sl 6 (Seq.map T.encSt T.noSt (Prod.snd (Prod.snd (Prod.fst x_2)))) Tip.none],
         AV.int IntKind.i64 (Prod.snd x_2)] ∧
         H' =
         [AObj.cells
         [AV.int IntKind.i64 (Prod.fst a), AV.sl 2 (Seq.map T.encPk T.noPk (Prod.fst (Prod.snd a))) Tip.none,
         AV.sl 6 (Seq.map T.encSt T.noSt (Prod.snd (Prod.snd a))) Tip.none],
         AObj.cells
         [AV.int IntKind.i64 (Prod.fst (Prod.fst x_1)), AV.sl 2 (Seq.map T.encPk T.noPk (Prod.fst (Prod.snd (Prod.fst x_1)))) Tip.none,
         AV.sl 6 (Seq.map T.encSt T.noSt (Prod.snd (Prod.snd (Prod.fst x_1)))) Tip.none]] ∧
         needP (allBytes (Seq.map encB (0 : UInt8) x))
         (ASpec Tryd.prog 49
         [AV.agg
         [AV.int IntKind.i64 (Prod.fst a), AV.sl 2 (Seq.map T.encPk T.noPk (Prod.fst (Prod.snd a))) Tip.none,
         AV.sl 6 (Seq.map T.encSt T.noSt (Prod.snd (Prod.snd a))) Tip.none]]
         [AObj.cells
         [AV.int IntKind.i64 (Prod.fst a), AV.sl 2 (Seq.map T.encPk T.noPk (Prod.fst (Prod.snd a))) Tip.none,
         AV.sl 6 (Seq.map T.encSt T.noSt (Prod.snd (Prod.snd a))) Tip.none],
         AObj.cells
         [AV.int IntKind.i64 (Prod.fst (Prod.fst x_1)), AV.sl 2 (Seq.map T.encPk T.noPk (Prod.fst (Prod.snd (Prod.fst x_1)))) Tip.none,
         AV.sl 6 (Seq.map T.encSt T.noSt (Prod.snd (Prod.snd (Prod.fst x_1)))) Tip.none],
         AObj.cells
         [AV.int IntKind.i64 (Prod.fst (Prod.fst x_2)), AV.sl 2 (Seq.map T.encPk T.noPk (Prod.fst (Prod.snd (Prod.fst x_2)))) Tip.none,
         AV.sl 6 (Seq.map T.encSt T.noSt (Prod.snd (Prod.snd (Prod.fst x_2)))) Tip.none]]
         fun (r : AV) (H' : List AObj) =>
         ∃ (x_3 : ByteArray),
         r = AV.str x_3 ∧
         H' =
         [AObj.cells
         [AV.int IntKind.i64 (Prod.fst a), AV.sl 2 (Seq.map T.encPk T.noPk (Prod.fst (Prod.snd a))) Tip.none,
         AV.sl 6 (Seq.map T.encSt T.noSt (Prod.snd (Prod.snd a))) Tip.none],
         AObj.cells
         [AV.int IntKind.i64 (Prod.fst (Prod.fst x_1)), AV.sl 2 (Seq.map T.encPk T.noPk (Prod.fst (Prod.snd (Prod.fst x_1)))) Tip.none,
         AV.sl 6 (Seq.map T.encSt T.noSt (Prod.snd (Prod.snd (Prod.fst x_1)))) Tip.none],
         AObj.cells
         [AV.int IntKind.i64 (Prod.fst (Prod.fst x_2)), AV.sl 2 (Seq.map T.encPk T.noPk (Prod.fst (Prod.snd (Prod.fst x_2)))) Tip.none,
         AV.sl 6 (Seq.map T.encSt T.noSt (Prod.snd (Prod.snd (Prod.fst x_2)))) Tip.none]] ∧
         condP (!ByteArray.toList (bytesOf (Seq.map encB (0 : UInt8) x)) == ByteArray.toList x_3)
         (Post (AV.bool false)
         [AObj.cells
         [AV.int IntKind.i64 (Prod.fst a), AV.sl 2 (Seq.map T.encPk T.noPk (Prod.fst (Prod.snd a))) Tip.none,
         AV.sl 6 (Seq.map T.encSt T.noSt (Prod.snd (Prod.snd a))) Tip.none],
         AObj.cells
         [AV.int IntKind.i64 (Prod.fst (Prod.fst x_1)), AV.sl 2 (Seq.map T.encPk T.noPk (Prod.fst (Prod.snd (Prod.fst x_1)))) Tip.none,
         AV.sl 6 (Seq.map T.encSt T.noSt (Prod.snd (Prod.snd (Prod.fst x_1)))) Tip.none],
         AObj.cells
         [AV.int IntKind.i64 (Prod.fst (Prod.fst x_2)), AV.sl 2 (Seq.map T.encPk T.noPk (Prod.fst (Prod.snd (Prod.fst x_2)))) Tip.none,
         AV.sl 6 (Seq.map T.encSt T.noSt (Prod.snd (Prod.snd (Prod.fst x_2)))) Tip.none]])
         (ASpec Tryd.prog 43
         [AV.agg
         [AV.int IntKind.i64 (Prod.fst (Prod.fst x_1)), AV.sl 2 (Seq.map T.encPk T.noPk (Prod.fst (Prod.snd (Prod.fst x_1)))) Tip.none,
         AV.sl 6 (Seq.map T.encSt T.noSt (Prod.snd (Prod.snd (Prod.fst x_1)))) Tip.none],
         AV.agg
         [AV.int IntKind.i64 (Prod.fst (Prod.fst x_2)), AV.sl 2 (Seq.map T.encPk T.noPk (Prod.fst (Prod.snd (Prod.fst x_2)))) Tip.none,
         AV.sl 6 (Seq.map T.encSt T.noSt (Prod.snd (Prod.snd (Prod.fst x_2)))) Tip.none]]
         [AObj.cells
         [AV.int IntKind.i64 (Prod.fst a), AV.sl 2 (Seq.map T.encPk T.noPk (Prod.fst (Prod.snd a))) Tip.none,
         AV.sl 6 (Seq.map T.encSt T.noSt (Prod.snd (Prod.snd a))) Tip.none],
         AObj.cells
         [AV.int IntKind.i64 (Prod.fst (Prod.fst x_1)), AV.sl 2 (Seq.map T.encPk T.noPk (Prod.fst (Prod.snd (Prod.fst x_1)))) Tip.none,
         AV.sl 6 (Seq.map T.encSt T.noSt (Prod.snd (Prod.snd (Prod.fst x_1)))) Tip.none],
         AObj.cells
         [AV.int IntKind.i64 (Prod.fst (Prod.fst x_2)), AV.sl 2 (Seq.map T.encPk T.noPk (Prod.fst (Prod.snd (Prod.fst x_2)))) Tip.none,
         AV.sl 6 (Seq.map T.encSt T.noSt (Prod.snd (Prod.snd (Prod.fst x_2)))) Tip.none]]
         fun (r : AV) (H' : List AObj) =>
         ∃ (x_4 : Bool),
         r = AV.bool x_4 ∧
         H' =
         [AObj.cells
         [AV.int IntKind.i64 (Prod.fst a), AV.sl 2 (Seq.map T.encPk T.noPk (Prod.fst (Prod.snd a))) Tip.none,
         AV.sl 6 (Seq.map T.encSt T.noSt (Prod.snd (Prod.snd a))) Tip.none],
         AObj.cells
         [AV.int IntKind.i64 (Prod.fst (Prod.fst x_1)), AV.sl 2 (Seq.map T.encPk T.noPk (Prod.fst (Prod.snd (Prod.fst x_1)))) Tip.none,
         AV.sl 6 (Seq.map T.encSt T.noSt (Prod.snd (Prod.snd (Prod.fst x_1)))) Tip.none],
         AObj.cells
         [AV.int IntKind.i64 (Prod.fst (Prod.fst x_2)), AV.sl 2 (Seq.map T.encPk T.noPk (Prod.fst (Prod.snd (Prod.fst x_2)))) Tip.none,
         AV.sl 6 (Seq.map T.encSt T.noSt (Prod.snd (Prod.snd (Prod.fst x_2)))) Tip.none]] ∧
         condP (!x_4)
         (Post (AV.bool false)
         [AObj.cells
         [AV.int IntKind.i64 (Prod.fst a), AV.sl 2 (Seq.map T.encPk T.noPk (Prod.fst (Prod.snd a))) Tip.none,
         AV.sl 6 (Seq.map T.encSt T.noSt (Prod.snd (Prod.snd a))) Tip.none],
         AObj.cells
         [AV.int IntKind.i64 (Prod.fst (Prod.fst x_1)), AV.sl 2 (Seq.map T.encPk T.noPk (Prod.fst (Prod.snd (Prod.fst x_1)))) Tip.none,
         AV.sl 6 (Seq.map T.encSt T.noSt (Prod.snd (Prod.snd (Prod.fst x_1)))) Tip.none],
         AObj.cells
         [AV.int IntKind.i64 (Prod.fst (Prod.fst x_2)), AV.sl 2 (Seq.map T.encPk T.noPk (Prod.fst (Prod.snd (Prod.fst x_2)))) Tip.none,
         AV.sl 6 (Seq.map T.encSt T.noSt (Prod.snd (Prod.snd (Prod.fst x_2)))) Tip.none]])
         (condP (Prod.snd x_1 != Prod.snd x_2)
         (Post (AV.bool false)
         [AObj.cells
         [AV.int IntKind.i64 (Prod.fst a), AV.sl 2 (Seq.map T.encPk T.noPk (Prod.fst (Prod.snd a))) Tip.none,
         AV.sl 6 (Seq.map T.encSt T.noSt (Prod.snd (Prod.snd a))) Tip.none],
         AObj.cells
         [AV.int IntKind.i64 (Prod.fst (Prod.fst x_1)), AV.sl 2 (Seq.map T.encPk T.noPk (Prod.fst (Prod.snd (Prod.fst x_1)))) Tip.none,
         AV.sl 6 (Seq.map T.encSt T.noSt (Prod.snd (Prod.snd (Prod.fst x_1)))) Tip.none],
         AObj.cells
         [AV.int IntKind.i64 (Prod.fst (Prod.fst x_2)), AV.sl 2 (Seq.map T.encPk T.noPk (Prod.fst (Prod.snd (Prod.fst x_2)))) Tip.none,
         AV.sl 6 (Seq.map T.encSt T.noSt (Prod.snd (Prod.snd (Prod.fst x_2)))) Tip.none]])
         (condP (Prod.snd x_1 == (0 : Int))
         (needP (allBytes (Seq.map encB (0 : UInt8) bs))
         (ASpec Tryd.prog 46
         [AV.agg
         [AV.int IntKind.i64 (Prod.fst (Prod.fst x_1)), AV.sl 2 (Seq.map T.encPk T.noPk (Prod.fst (Prod.snd (Prod.fst x_1)))) Tip.none,
         AV.sl 6 (Seq.map T.encSt T.noSt (Prod.snd (Prod.snd (Prod.fst x_1)))) Tip.none]]
         [AObj.cells
         [AV.int IntKind.i64 (Prod.fst a), AV.sl 2 (Seq.map T.encPk T.noPk (Prod.fst (Prod.snd a))) Tip.none,
         AV.sl 6 (Seq.map T.encSt T.noSt (Prod.snd (Prod.snd a))) Tip.none],
         AObj.cells
         [AV.int IntKind.i64 (Prod.fst (Prod.fst x_1)), AV.sl 2 (Seq.map T.encPk T.noPk (Prod.fst (Prod.snd (Prod.fst x_1)))) Tip.none,
         AV.sl 6 (Seq.map T.encSt T.noSt (Prod.snd (Prod.snd (Prod.fst x_1)))) Tip.none],
         AObj.cells
         [AV.int IntKind.i64 (Prod.fst (Prod.fst x_2)), AV.sl 2 (Seq.map T.encPk T.noPk (Prod.fst (Prod.snd (Prod.fst x_2)))) Tip.none,
         AV.sl 6 (Seq.map T.encSt T.noSt (Prod.snd (Prod.snd (Prod.fst x_2)))) Tip.none]]
         fun (r : AV) (H' : List AObj) =>
         ∃ (x_5 : List UInt8),
         r = AV.sl 1 (Seq.map encB (0 : UInt8) x_5) Tip.none ∧
         H' =
         [AObj.cells
         [AV.int IntKind.i64 (Prod.fst a), AV.sl 2 (Seq.map T.encPk T.noPk (Prod.fst (Prod.snd a))) Tip.none,
         AV.sl 6 (Seq.map T.encSt T.noSt (Prod.snd (Prod.snd a))) Tip.none],
         AObj.cells
         [AV.int IntKind.i64 (Prod.fst (Prod.fst x_1)),
         AV.sl 2 (Seq.map T.encPk T.noPk (Prod.fst (Prod.snd (Prod.fst x_1)))) Tip.none,
         AV.sl 6 (Seq.map T.encSt T.noSt (Prod.snd (Prod.snd (Prod.fst x_1)))) Tip.none],
         AObj.cells
         [AV.int IntKind.i64 (Prod.fst (Prod.fst x_2)),
         AV.sl 2 (Seq.map T.encPk T.noPk (Prod.fst (Prod.snd (Prod.fst x_2)))) Tip.none,
         AV.sl 6 (Seq.map T.encSt T.noSt (Prod.snd (Prod.snd (Prod.fst x_2)))) Tip.none]] ∧
         needP (allBytes (Seq.map encB (0 : UInt8) x_5))
         (condP (!ByteArray.toList (bytesOf (Seq.map encB (0 : UInt8) x_5)) == ByteArray.toList (bytesOf (Seq.map encB (0 : UInt8) bs)))
         (Post (AV.bool false)
         [AObj.cells
         [AV.int IntKind.i64 (Prod.fst a), AV.sl 2 (Seq.map T.encPk T.noPk (Prod.fst (Prod.snd a))) Tip.none,
         AV.sl 6 (Seq.map T.encSt T.noSt (Prod.snd (Prod.snd a))) Tip.none],
         AObj.cells
         [AV.int IntKind.i64 (Prod.fst (Prod.fst x_1)),
         AV.sl 2 (Seq.map T.encPk T.noPk (Prod.fst (Prod.snd (Prod.fst x_1)))) Tip.none,
         AV.sl 6 (Seq.map T.encSt T.noSt (Prod.snd (Prod.snd (Prod.fst x_1)))) Tip.none],
         AObj.cells
         [AV.int IntKind.i64 (Prod.fst (Prod.fst x_2)),
         AV.sl 2 (Seq.map T.encPk T.noPk (Prod.fst (Prod.snd (Prod.fst x_2)))) Tip.none,
         AV.sl 6 (Seq.map T.encSt T.noSt (Prod.snd (Prod.snd (Prod.fst x_2)))) Tip.none]])
         (AWP Tryd.prog 81 n c7_8
         [(2, AV.ptr 0 0), (5, AV.sl 1 (Seq.map encB (0 : UInt8) x) Tip.none)]
         [AObj.cells
         [AV.int IntKind.i64 (Prod.fst a), AV.sl 2 (Seq.map T.encPk T.noPk (Prod.fst (Prod.snd a))) Tip.none,
         AV.sl 6 (Seq.map T.encSt T.noSt (Prod.snd (Prod.snd a))) Tip.none],
         AObj.cells
         [AV.int IntKind.i64 (Prod.fst (Prod.fst x_1)),
         AV.sl 2 (Seq.map T.encPk T.noPk (Prod.fst (Prod.snd (Prod.fst x_1)))) Tip.none,
         AV.sl 6 (Seq.map T.encSt T.noSt (Prod.snd (Prod.snd (Prod.fst x_1)))) Tip.none],
         AObj.cells
         [AV.int IntKind.i64 (Prod.fst (Prod.fst x_2)),
         AV.sl 2 (Seq.map T.encPk T.noPk (Prod.fst (Prod.snd (Prod.fst x_2)))) Tip.none,
         AV.sl 6 (Seq.map T.encSt T.noSt (Prod.snd (Prod.snd (Prod.fst x_2)))) Tip.none]]
         (q7_0 n Post)))))
         (AWP Tryd.prog 81 n c7_8 [(2, AV.ptr 0 0), (5, AV.sl 1 (Seq.map encB (0 : UInt8) x) Tip.none)]
         [AObj.cells
         [AV.int IntKind.i64 (Prod.fst a), AV.sl 2 (Seq.map T.encPk T.noPk (Prod.fst (Prod.snd a))) Tip.none,
         AV.sl 6 (Seq.map T.encSt T.noSt (Prod.snd (Prod.snd a))) Tip.none],
         AObj.cells
         [AV.int IntKind.i64 (Prod.fst (Prod.fst x_1)), AV.sl 2 (Seq.map T.encPk T.noPk (Prod.fst (Prod.snd (Prod.fst x_1)))) Tip.none,
         AV.sl 6 (Seq.map T.encSt T.noSt (Prod.snd (Prod.snd (Prod.fst x_1)))) Tip.none],
         AObj.cells
         [AV.int IntKind.i64 (Prod.fst (Prod.fst x_2)), AV.sl 2 (Seq.map T.encPk T.noPk (Prod.fst (Prod.snd (Prod.fst x_2)))) Tip.none,
         AV.sl 6 (Seq.map T.encSt T.noSt (Prod.snd (Prod.snd (Prod.fst x_2)))) Tip.none]]
         (q7_0 n Post)))))))) →
    AWP Tryd.prog 81 n c7_3 [(1, AV.sl 1 (Seq.map encB (0 : UInt8) bs) Tip.none), (2, AV.ptr 0 0)] [AObj.cells (T.encAn a)] (q7_0 n Post) := fun a bs n Post h => Go.Ab.awp_sound g7 n _ _ _ _ (Go.Ab.kc (by kernel_rfl) h)
theorem v7_8 : ∀ (a : T.Ans) (w : List UInt8) (n : Nat) (Post : AV → List AObj → Prop),
  (ASpec Tryd.prog 47 [AV.sl 1 (Seq.map encB (0 : UInt8) w) Tip.none]
      [AObj.cells
         [AV.int IntKind.i64 (Prod.fst a), AV.sl 2 (Seq.map T.encPk T.noPk (Prod.fst (Prod.snd a))) Tip.none, AV.sl 6 (Seq.map T.encSt T.noSt (Prod.snd (Prod.snd a))) Tip.none]]
      fun (r : AV) (H' : List AObj) =>
      ∃ (x : T.Ans × Int),
        r =
         AV.tup
         [AV.agg
         [AV.int IntKind.i64 (Prod.fst (Prod.fst x)), AV.sl 2 (Seq.map T.encPk T.noPk (Prod.fst (Prod.snd (Prod.fst x)))) Tip.none,
         AV.sl 6 (Seq.map T.encSt T.noSt (Prod.snd (Prod.snd (Prod.fst x)))) Tip.none],
         AV.int IntKind.i64 (Prod.snd x)] ∧
         H' =
         [AObj.cells
         [AV.int IntKind.i64 (Prod.fst a), AV.sl 2 (Seq.map T.encPk T.noPk (Prod.fst (Prod.snd a))) Tip.none,
         AV.sl 6 (Seq.map T.encSt T.noSt (Prod.snd (Prod.snd a))) Tip.none]] ∧
         ASpec Tryd.prog 41
         [AV.agg
         [AV.int IntKind.i64 (Prod.fst a), AV.sl 2 (Seq.map T.encPk T.noPk (Prod.fst (Prod.snd a))) Tip.none,
         AV.sl 6 (Seq.map T.encSt T.noSt (Prod.snd (Prod.snd a))) Tip.none]]
         [AObj.cells
         [AV.int IntKind.i64 (Prod.fst a), AV.sl 2 (Seq.map T.encPk T.noPk (Prod.fst (Prod.snd a))) Tip.none,
         AV.sl 6 (Seq.map T.encSt T.noSt (Prod.snd (Prod.snd a))) Tip.none],
         AObj.cells
         [AV.int IntKind.i64 (Prod.fst (Prod.fst x)), AV.sl 2 (Seq.map T.encPk T.noPk (Prod.fst (Prod.snd (Prod.fst x)))) Tip.none,
         AV.sl 6 (Seq.map T.encSt T.noSt (Prod.snd (Prod.snd (Prod.fst x)))) Tip.none]]
         fun (r : AV) (H' : List AObj) =>
         ∃ (x_1 : Bool),
         r = AV.bool x_1 ∧
         H' =
         [AObj.cells
         [AV.int IntKind.i64 (Prod.fst a), AV.sl 2 (Seq.map T.encPk T.noPk (Prod.fst (Prod.snd a))) Tip.none,
         AV.sl 6 (Seq.map T.encSt T.noSt (Prod.snd (Prod.snd a))) Tip.none],
         AObj.cells
         [AV.int IntKind.i64 (Prod.fst (Prod.fst x)), AV.sl 2 (Seq.map T.encPk T.noPk (Prod.fst (Prod.snd (Prod.fst x)))) Tip.none,
         AV.sl 6 (Seq.map T.encSt T.noSt (Prod.snd (Prod.snd (Prod.fst x)))) Tip.none]] ∧
         condP (!x_1)
         (ASpec Tryd.prog 39 []
         [AObj.cells
         [AV.int IntKind.i64 (Prod.fst a), AV.sl 2 (Seq.map T.encPk T.noPk (Prod.fst (Prod.snd a))) Tip.none,
         AV.sl 6 (Seq.map T.encSt T.noSt (Prod.snd (Prod.snd a))) Tip.none],
         AObj.cells
         [AV.int IntKind.i64 (Prod.fst (Prod.fst x)), AV.sl 2 (Seq.map T.encPk T.noPk (Prod.fst (Prod.snd (Prod.fst x)))) Tip.none,
         AV.sl 6 (Seq.map T.encSt T.noSt (Prod.snd (Prod.snd (Prod.fst x)))) Tip.none]]
         fun (r : AV) (H' : List AObj) =>
         ∃ (x_2 : Unit),
         r = AV.bool true ∧
         H' =
         [AObj.cells
         [AV.int IntKind.i64 (Prod.fst a), AV.sl 2 (Seq.map T.encPk T.noPk (Prod.fst (Prod.snd a))) Tip.none,
         AV.sl 6 (Seq.map T.encSt T.noSt (Prod.snd (Prod.snd a))) Tip.none],
         AObj.cells
         [AV.int IntKind.i64 (Prod.fst (Prod.fst x)), AV.sl 2 (Seq.map T.encPk T.noPk (Prod.fst (Prod.snd (Prod.fst x)))) Tip.none,
         AV.sl 6 (Seq.map T.encSt T.noSt (Prod.snd (Prod.snd (Prod.fst x)))) Tip.none]] ∧
         Post (AV.bool true)
         [AObj.cells
         [AV.int IntKind.i64 (Prod.fst a), AV.sl 2 (Seq.map T.encPk T.noPk (Prod.fst (Prod.snd a))) Tip.none,
         AV.sl 6 (Seq.map T.encSt T.noSt (Prod.snd (Prod.snd a))) Tip.none],
         AObj.cells
         [AV.int IntKind.i64 (Prod.fst (Prod.fst x)), AV.sl 2 (Seq.map T.encPk T.noPk (Prod.fst (Prod.snd (Prod.fst x)))) Tip.none,
         AV.sl 6 (Seq.map T.encSt T.noSt (Prod.snd (Prod.snd (Prod.fst x)))) Tip.none]])
         (condP (Prod.snd x == (0 : Int))
         (ASpec Tryd.prog 43
         [AV.agg
         [AV.int IntKind.i64 (Prod.fst (Prod.fst x)), AV.sl 2 (Seq.map T.encPk T.noPk (Prod.fst (Prod.snd (Prod.fst x)))) Tip.none,
         AV.sl 6 (Seq.map T.encSt T.noSt (Prod.snd (Prod.snd (Prod.fst x)))) Tip.none],
         AV.agg
         [AV.int IntKind.i64 (Prod.fst a), AV.sl 2 (Seq.map T.encPk T.noPk (Prod.fst (Prod.snd a))) Tip.none,
         AV.sl 6 (Seq.map T.encSt T.noSt (Prod.snd (Prod.snd a))) Tip.none]]
         [AObj.cells
         [AV.int IntKind.i64 (Prod.fst a), AV.sl 2 (Seq.map T.encPk T.noPk (Prod.fst (Prod.snd a))) Tip.none,
         AV.sl 6 (Seq.map T.encSt T.noSt (Prod.snd (Prod.snd a))) Tip.none],
         AObj.cells
         [AV.int IntKind.i64 (Prod.fst (Prod.fst x)), AV.sl 2 (Seq.map T.encPk T.noPk (Prod.fst (Prod.snd (Prod.fst x)))) Tip.none,
         AV.sl 6 (Seq.map T.encSt T.noSt (Prod.snd (Prod.snd (Prod.fst x)))) Tip.none]]
         fun (r : AV) (H' : List AObj) =>
         ∃ (x_2 : Bool),
         r = AV.bool x_2 ∧
         H' =
         [AObj.cells
         [AV.int IntKind.i64 (Prod.fst a), AV.sl 2 (Seq.map T.encPk T.noPk (Prod.fst (Prod.snd a))) Tip.none,
         AV.sl 6 (Seq.map T.encSt T.noSt (Prod.snd (Prod.snd a))) Tip.none],
         AObj.cells
         [AV.int IntKind.i64 (Prod.fst (Prod.fst x)), AV.sl 2 (Seq.map T.encPk T.noPk (Prod.fst (Prod.snd (Prod.fst x)))) Tip.none,
         AV.sl 6 (Seq.map T.encSt T.noSt (Prod.snd (Prod.snd (Prod.fst x)))) Tip.none]] ∧
         condP x_2
         (ASpec Tryd.prog 39 []
         [AObj.cells
         [AV.int IntKind.i64 (Prod.fst a), AV.sl 2 (Seq.map T.encPk T.noPk (Prod.fst (Prod.snd a))) Tip.none,
         AV.sl 6 (Seq.map T.encSt T.noSt (Prod.snd (Prod.snd a))) Tip.none],
         AObj.cells
         [AV.int IntKind.i64 (Prod.fst (Prod.fst x)), AV.sl 2 (Seq.map T.encPk T.noPk (Prod.fst (Prod.snd (Prod.fst x)))) Tip.none,
         AV.sl 6 (Seq.map T.encSt T.noSt (Prod.snd (Prod.snd (Prod.fst x)))) Tip.none]]
         fun (r : AV) (H' : List AObj) =>
         ∃ (x_3 : Unit),
         r = AV.bool true ∧
         H' =
         [AObj.cells
         [AV.int IntKind.i64 (Prod.fst a), AV.sl 2 (Seq.map T.encPk T.noPk (Prod.fst (Prod.snd a))) Tip.none,
         AV.sl 6 (Seq.map T.encSt T.noSt (Prod.snd (Prod.snd a))) Tip.none],
         AObj.cells
         [AV.int IntKind.i64 (Prod.fst (Prod.fst x)), AV.sl 2 (Seq.map T.encPk T.noPk (Prod.fst (Prod.snd (Prod.fst x)))) Tip.none,
         AV.sl 6 (Seq.map T.encSt T.noSt (Prod.snd (Prod.snd (Prod.fst x)))) Tip.none]] ∧
         Post (AV.bool true)
         [AObj.cells
         [AV.int IntKind.i64 (Prod.fst a), AV.sl 2 (Seq.map T.encPk T.noPk (Prod.fst (Prod.snd a))) Tip.none,
         AV.sl 6 (Seq.map T.encSt T.noSt (Prod.snd (Prod.snd a))) Tip.none],
         AObj.cells
         [AV.int IntKind.i64 (Prod.fst (Prod.fst x)), AV.sl 2 (Seq.map T.encPk T.noPk (Prod.fst (Prod.snd (Prod.fst x)))) Tip.none,
         AV.sl 6 (Seq.map T.encSt T.noSt (Prod.snd (Prod.snd (Prod.fst x)))) Tip.none]])
         (Post (AV.bool false)
         [AObj.cells
         [AV.int IntKind.i64 (Prod.fst a), AV.sl 2 (Seq.map T.encPk T.noPk (Prod.fst (Prod.snd a))) Tip.none,
         AV.sl 6 (Seq.map T.encSt T.noSt (Prod.snd (Prod.snd a))) Tip.none],
         AObj.cells
         [AV.int IntKind.i64 (Prod.fst (Prod.fst x)), AV.sl 2 (Seq.map T.encPk T.noPk (Prod.fst (Prod.snd (Prod.fst x)))) Tip.none,
         AV.sl 6 (Seq.map T.encSt T.noSt (Prod.snd (Prod.snd (Prod.fst x)))) Tip.none]]))
         (Post (AV.bool false)
         [AObj.cells
         [AV.int IntKind.i64 (Prod.fst a), AV.sl 2 (Seq.map T.encPk T.noPk (Prod.fst (Prod.snd a))) Tip.none,
         AV.sl 6 (Seq.map T.encSt T.noSt (Prod.snd (Prod.snd a))) Tip.none],
         AObj.cells
         [AV.int IntKind.i64 (Prod.fst (Prod.fst x)), AV.sl 2 (Seq.map T.encPk T.noPk (Prod.fst (Prod.snd (Prod.fst x)))) Tip.none,
         AV.sl 6 (Seq.map T.encSt T.noSt (Prod.snd (Prod.snd (Prod.fst x)))) Tip.none]]))) →
    AWP Tryd.prog 81 n c7_8 [(2, AV.ptr 0 0), (5, AV.sl 1 (Seq.map encB (0 : UInt8) w) Tip.none)] [AObj.cells (T.encAn a)] (q7_0 n Post) := fun a w n Post h => Go.Ab.awp_sound g7 n _ _ _ _ (Go.Ab.kc (by kernel_rfl) h)

end
end Nb
end
