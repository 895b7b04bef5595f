/- Q6: several of this proof's own texts, one behind the other: what each proves stands at its head. -/
import Derived.Test.YtkmolhmdikjmpaaGreatQ5
import Derived.Test.YtkmolhmdikjmpaaGreatQ4
import Derived.Test.YtkmolhmdikjmpaaGreatA3
import Derived.RecoverIn
import Derived.Test.YtkmolhmdikjmpaaGreatProg
import Derived.Test.YtkmolhmdikjmpaaGreatChecked
import Derived.KernelRfl
import Derived.JoinedOf
set_option linter.unusedVariables false
set_option linter.unusedSimpArgs false
set_option linter.unusedSectionVars false
set_option maxRecDepth 100000
set_option maxHeartbeats 4000000
noncomputable section
open Go Go.Ab Go.Proofs V S T C
namespace Sp
def inS (s : Span) (p : Int) : Bool := decide (s.1 ≤ p ∧ p < s.2)
def hasS (l : List Span) (p : Int) : Bool := l.any (fun s => inS s p)
theorem hasS_nil (p : Int) : hasS [] p = false := rfl
theorem hasS_cons (x : Span) (l : List Span) (p : Int) : hasS (x :: l) p = (inS x p || hasS l p) := rfl
theorem hasS_append (a b : List Span) (p : Int) : hasS (a ++ b) p = (hasS a p || hasS b p) := by simp [hasS]
theorem inS_iff {s : Span} {p : Int} : inS s p = true ↔ s.1 ≤ p ∧ p < s.2 := by simp [inS]
theorem inS_false {s : Span} {p : Int} : inS s p = false ↔ ¬ (s.1 ≤ p ∧ p < s.2) := by simp [inS]
theorem chkS_cons {e : Int} {x : Span} {r : List Span} (h : chkS e (x :: r) = true) : e < x.1 ∧ x.1 < x.2 ∧ x.2 ≤ 1000000000 ∧ chkS x.2 r = true := by
 simp only [chkS] at h
 split at h
 ·cases h
 ·exact ⟨by omega, by omega, by omega, h⟩
theorem chkS_mk {e : Int} {x : Span} {r : List Span} (h1 : e < x.1) (h2 : x.1 < x.2) (h3 : x.2 ≤ 1000000000) (h4 : chkS x.2 r = true) : chkS e (x :: r) = true := by
 simp only [chkS]
 rw [if_neg (by omega)]; exact h4
theorem chkS_low : ∀ {e : Int} {l : List Span} {p : Int}, chkS e l = true → p ≤ e → hasS l p = false
 | _, [], _, _, _ => rfl
 | e, x :: r, p, h, hp => by
  obtain ⟨h1, h2, h3, h4⟩ := chkS_cons h
  rw [hasS_cons, chkS_low h4 (by omega), inS_false.2 (by omega)]; rfl
theorem ext : ∀ {a b : List Span} {e e' : Int}, chkS e a = true → chkS e' b = true → (∀ p, hasS a p = hasS b p) → a = b
 | [], [], _, _, _, _, _ => rfl
 | [], y :: t, _, _, _, hb, h => by
  obtain ⟨h1, h2, h3, h4⟩ := chkS_cons hb
  have := h y.1
  rw [hasS_cons, inS_iff.2 (by omega)] at this
  cases this
 | x :: r, [], _, _, ha, _, h => by
  obtain ⟨h1, h2, h3, h4⟩ := chkS_cons ha
  have := h x.1
  rw [hasS_cons, inS_iff.2 (by omega)] at this
  cases this
 | x :: r, y :: t, e, e', ha, hb, h => by
  obtain ⟨a1, a2, a3, a4⟩ := chkS_cons ha
  obtain ⟨b1, b2, b3, b4⟩ := chkS_cons hb
  have key : ∀ p, p ≤ x.2 → p ≤ y.2 → inS x p = inS y p := by
   intro p h1 h2
   have := h p
   rw [hasS_cons, hasS_cons, chkS_low a4 h1, chkS_low b4 h2, Bool.or_false, Bool.or_false] at this
   exact this
  have f1 : x.1 = y.1 := by
   by_cases h1 : x.1 < y.1
   ·have := key x.1 (by omega) (by omega)
    rw [inS_iff.2 (by omega), eq_comm, inS_iff] at this; omega
   ·by_cases h2 : y.1 < x.1
    ·have := key y.1 (by omega) (by omega)
     rw [eq_comm, inS_iff.2 (by omega), eq_comm, inS_iff] at this; omega
    ·omega
  have f2 : x.2 = y.2 := by
   by_cases h1 : x.2 < y.2
   ·have := key x.2 (by omega) (by omega)
    rw [eq_comm, inS_iff.2 (by omega), eq_comm, inS_iff] at this; omega
   ·by_cases h2 : y.2 < x.2
    ·have := key y.2 (by omega) (by omega)
     rw [inS_iff.2 (by omega), eq_comm, inS_iff] at this; omega
    ·omega
  have hxy : x = y := Prod.ext f1 f2
  subst hxy
  rw [ext a4 b4 (fun p => ?_)]
  by_cases hp : p ≤ x.2
  ·rw [chkS_low a4 hp, chkS_low b4 hp]
  ·have := h p
   rw [hasS_cons, hasS_cons, inS_false.2 (by omega), Bool.false_or, Bool.false_or] at this
   exact this
def lastS (e : Int) : List Span → Int
 | [] => e
 | x :: r => lastS x.2 r
theorem lastS_append (e : Int) (x : Span) : ∀ (l : List Span) (e : Int), lastS e (l ++ [x]) = x.2
 | [], e => rfl
 | y :: r, e => lastS_append e x r y.2
theorem chkS_append : ∀ {l : List Span} {e : Int} {x : Span}, chkS e l = true → lastS e l < x.1 → x.1 < x.2 → x.2 ≤ 1000000000 → chkS e (l ++ [x]) = true
 | [], e, x, _, h1, h2, h3 => chkS_mk h1 h2 h3 rfl
 | y :: r, e, x, h, h1, h2, h3 => by
  obtain ⟨a1, a2, a3, a4⟩ := chkS_cons h
  exact chkS_mk a1 a2 a3 (chkS_append a4 h1 h2 h3)
theorem chkS_front : ∀ {l : List Span} {e : Int} {x : Span}, chkS e (l ++ [x]) = true → chkS e l = true ∧ lastS e l < x.1 ∧ x.1 < x.2 ∧ x.2 ≤ 1000000000
 | [], e, x, h => by
  obtain ⟨a1, a2, a3, a4⟩ := chkS_cons h
  exact ⟨rfl, a1, a2, a3⟩
 | y :: r, e, x, h => by
  obtain ⟨a1, a2, a3, a4⟩ := chkS_cons h
  obtain ⟨b1, b2, b3, b4⟩ := chkS_front a4
  exact ⟨chkS_mk a1 a2 a3 b1, b2, b3, b4⟩
def addS (l : List Span) (s : Span) : List Span :=
 if 0 < l.length ∧ s.1 ≤ (l.getD (l.length - 1) (0, 0)).2 then l.take (l.length - 1) ++ [((l.getD (l.length - 1) (0, 0)).1, max (l.getD (l.length - 1) (0, 0)).2 s.2)] else l ++ [s]
theorem split_last (l : List Span) (h : 0 < l.length) : l = l.take (l.length - 1) ++ [l.getD (l.length - 1) (0, 0)] := by
 have h1 := List.take_append_drop (l.length - 1) l
 rw [dropD l (0, 0) (l.length - 1) (by omega), List.drop_eq_nil_of_le (by omega)] at h1
 exact h1.symm
theorem addS_ok {l : List Span} {at_ to : Int} (h : chkS (-1) l = true) (he : lastS (-1) l ≤ at_) (h0 : 0 ≤ at_) (h1 : at_ < to) (h2 : to ≤ 1000000000) :
  chkS (-1) (addS l (at_, to)) = true ∧ lastS (-1) (addS l (at_, to)) = to ∧ ∀ p, hasS (addS l (at_, to)) p = (hasS l p || inS (at_, to) p) := by
 unfold addS
 split
 ·rename_i hc
  have hl := split_last l hc.1
  generalize l.take (l.length - 1) = r at hl ⊢
  generalize l.getD (l.length - 1) (0, 0) = x at hl hc ⊢
  subst hl
  rw [lastS_append (-1)] at he
  obtain ⟨a1, a2, a3, a4⟩ := chkS_front h
  have hx : max x.2 to = to := by omega
  have hxa : x.2 = at_ := by have := hc.2; simp only at this; omega
  simp only [hx]
  refine ⟨chkS_append a1 a2 (by simp only; omega) h2, lastS_append (-1) _ _ _, fun p => ?_⟩
  rw [hasS_append, hasS_append, hasS_cons, hasS_cons, hasS_nil, Bool.or_false, Bool.or_false, Bool.or_assoc]
  congr 1
  rw [Bool.eq_iff_iff, Bool.or_eq_true, inS_iff, inS_iff, inS_iff]
  simp only; omega
 ·rename_i hc
  refine ⟨chkS_append h ?_ h1 h2, lastS_append (-1) _ _ _, fun p => ?_⟩
  ·cases hz : l with
   | nil => simp only [lastS]; omega
   | cons y t =>
    have hpos : 0 < l.length := by rw [hz]; simp
    have hl := split_last l hpos
    have : lastS (-1) l = (l.getD (l.length - 1) (0, 0)).2 := by
     conv => lhs; rw [hl]
     exact lastS_append (-1) _ _ _
    rw [← hz, this]
    simp only [hpos, true_and, Int.not_le] at hc
    exact hc
  ·rw [hasS_append, hasS_cons, hasS_nil, Bool.or_false]
def aftS (p : Int) : List Span → Nat
 | [] => 0
 | x :: r => if x.2 ≤ p then aftS p r + 1 else 0
theorem aftS_le (p : Int) : ∀ l : List Span, aftS p l ≤ l.length
 | [] => Nat.le_refl _
 | x :: r => by
  simp only [aftS]
  split
  ·have := aftS_le p r; simp; omega
  ·simp
theorem aftS_lt (p : Int) : ∀ (l : List Span) (i : Nat), i < aftS p l → (l.getD i (0, 0)).2 ≤ p
 | [], i, h => by simp [aftS] at h
 | x :: r, i, h => by
  simp only [aftS] at h
  split at h
  ·rename_i hx
   match i, h with
   | 0, _ => exact hx
   | i + 1, h => exact aftS_lt p r i (by omega)
  ·omega
theorem chkS_rise : ∀ {l : List Span} {e : Int}, chkS e l = true → ∀ i, i < l.length → e < (l.getD i (0, 0)).1 ∧ (l.getD i (0, 0)).1 < (l.getD i (0, 0)).2 ∧ (l.getD i (0, 0)).2 ≤ 1000000000 ∧ ∀ j, j < i → (l.getD j (0, 0)).2 < (l.getD i (0, 0)).1
 | [], e, _, i, hi => by simp at hi
 | x :: r, e, h, i, hi => by
  obtain ⟨a1, a2, a3, a4⟩ := chkS_cons h
  match i, hi with
  | 0, _ => exact ⟨a1, a2, a3, fun j hj => by omega⟩
  | i + 1, hi =>
   obtain ⟨b1, b2, b3, b4⟩ := chkS_rise a4 i (by simpa using hi)
   simp only [List.getD_cons_succ]
   refine ⟨by omega, b2, b3, fun j hj => ?_⟩
   match j, hj with
   | 0, _ => exact b1
   | j + 1, hj => exact b4 j (by omega)
theorem aftS_at (p : Int) : ∀ (l : List Span), aftS p l < l.length → p < (l.getD (aftS p l) (0, 0)).2
 | [], h => by simp at h
 | x :: r, h => by
  simp only [aftS] at h ⊢
  split
  ·rename_i hx
   rw [if_pos hx] at h
   exact aftS_at p r (by simpa using h)
  ·rename_i hx
   simp only [List.getD_cons_zero]; omega
theorem aftS_ge {l : List Span} {e p : Int} (hs : chkS e l = true) {i : Nat} (h : aftS p l ≤ i) (hi : i < l.length) : p < (l.getD i (0, 0)).2 := by
 have h0 := aftS_at p l (by omega)
 rcases Nat.eq_or_lt_of_le h with e1 | e1
 ·rw [← e1]; exact h0
 ·obtain ⟨_, h2, _, h4⟩ := chkS_rise hs i hi
  have := h4 _ e1
  omega
theorem hasS_aft : ∀ {l : List Span} {e : Int} {p : Int}, chkS e l = true → (hasS l p = true ↔ aftS p l < l.length ∧ (l.getD (aftS p l) (0, 0)).1 ≤ p)
 | [], e, p, _ => by simp [hasS]
 | x :: r, e, p, h => by
  obtain ⟨a1, a2, a3, a4⟩ := chkS_cons h
  rw [hasS_cons, Bool.or_eq_true]
  by_cases hx : x.2 ≤ p
  ·have e1 : aftS p (x :: r) = aftS p r + 1 := by simp only [aftS, if_pos hx]
   rw [e1, hasS_aft a4, inS_iff]
   simp only [List.length_cons, List.getD_cons_succ, Nat.add_lt_add_iff_right]
   constructor
   ·rintro (h | h)
    ·omega
    ·exact h
   ·exact .inr
  ·have e1 : aftS p (x :: r) = 0 := by simp only [aftS, if_neg hx]
   rw [e1, inS_iff]
   simp only [List.length_cons, List.getD_cons_zero]
   constructor
   ·rintro (h | h)
    ·exact ⟨by omega, h.1⟩
    ·by_cases h1 : x.1 ≤ p
     ·exact ⟨by omega, h1⟩
     ·rw [chkS_low a4 (by omega)] at h; cases h
   ·rintro ⟨_, h1⟩; exact .inl ⟨h1, by omega⟩
def nextS (l : List Span) (p : Int) : Int :=
 if aftS p l = l.length then 1000000000 else if p < (l.getD (aftS p l) (0, 0)).1 then (l.getD (aftS p l) (0, 0)).1 else (l.getD (aftS p l) (0, 0)).2
theorem nextS_gt {l : List Span} {e p : Int} (hs : chkS e l = true) (hp : p < 1000000000) : p < nextS l p ∧ nextS l p ≤ 1000000000 := by
 unfold nextS
 split
 ·exact ⟨hp, Int.le_refl _⟩
 ·rename_i h
  have := aftS_le p l
  obtain ⟨h1, h2, h3, _⟩ := chkS_rise hs (aftS p l) (by omega)
  have h0 := aftS_at p l (by omega)
  split
  ·omega
  ·omega
theorem nextS_same : ∀ {l : List Span} {e p q : Int}, chkS e l = true → p ≤ q → q < nextS l p → hasS l q = hasS l p
 | [], e, p, q, _, _, _ => rfl
 | x :: r, e, p, q, h, h1, h2 => by
  obtain ⟨a1, a2, a3, a4⟩ := chkS_cons h
  rw [hasS_cons, hasS_cons]
  by_cases hx : x.2 ≤ p
  ·have e2 : nextS (x :: r) p = nextS r p := by
    simp only [nextS, aftS, if_pos hx, List.length_cons, List.getD_cons_succ, Nat.add_right_cancel_iff]
   rw [e2] at h2
   rw [nextS_same a4 h1 h2, inS_false.2 (by omega), inS_false.2 (by omega)]
  ·have e2 : nextS (x :: r) p = if p < x.1 then x.1 else x.2 := by
    simp only [nextS, aftS, if_neg hx, List.length_cons, List.getD_cons_zero]
    rw [if_neg (by omega)]
   rw [e2] at h2
   rw [chkS_low a4 (show p ≤ x.2 by omega)]
   split at h2
   ·rw [chkS_low a4 (show q ≤ x.2 by omega), inS_false.2 (by omega), inS_false.2 (by omega)]
   ·rw [chkS_low a4 (show q ≤ x.2 by omega), inS_iff.2 (by omega), inS_iff.2 (by omega)]
def Kept (f : Int → Bool) (at_ : Int) (l : List Span) : Prop := chkS (-1) l = true ∧ lastS (-1) l ≤ at_ ∧ ∀ p, hasS l p = (decide (0 ≤ p ∧ p < at_) && f p)
theorem kept_nil (f : Int → Bool) : Kept f 0 [] := ⟨rfl, by simp [lastS], fun p => by
 rw [hasS_nil, decide_eq_false (by omega)]; rfl⟩
theorem kept_put {f : Int → Bool} {at_ to : Int} {l : List Span} (h : Kept f at_ l) (h0 : 0 ≤ at_) (h1 : at_ < to) (h2 : to ≤ 1000000000) (hf : ∀ q, at_ ≤ q → q < to → f q = true) : Kept f to (addS l (at_, to)) := by
 obtain ⟨a, b, c⟩ := h
 obtain ⟨x, y, z⟩ := addS_ok a b h0 h1 h2
 refine ⟨x, by omega, fun p => ?_⟩
 rw [z, c]
 by_cases hp : at_ ≤ p ∧ p < to
 ·rw [inS_iff.2 hp, Bool.or_true, hf p hp.1 hp.2, decide_eq_true (by omega)]; rfl
 ·rw [inS_false.2 hp, Bool.or_false]
  congr 1
  rw [Bool.eq_iff_iff, decide_eq_true_iff, decide_eq_true_iff]; omega
theorem kept_skip {f : Int → Bool} {at_ to : Int} {l : List Span} (h : Kept f at_ l) (h1 : at_ ≤ to) (hf : ∀ q, at_ ≤ q → q < to → f q = false) : Kept f to l := by
 obtain ⟨a, b, c⟩ := h
 refine ⟨a, by omega, fun p => ?_⟩
 rw [c]
 by_cases hp : at_ ≤ p ∧ p < to
 ·rw [hf p hp.1 hp.2]; simp
 ·congr 1
  rw [Bool.eq_iff_iff, decide_eq_true_iff, decide_eq_true_iff]; omega
theorem kept_one {f : Int → Bool} {l l' : List Span} (h : Kept f 1000000000 l) (h' : Kept f 1000000000 l') : l = l' := ext h.1 h'.1 (fun p => by rw [h.2.2, h'.2.2])
end Sp
end

noncomputable section
open Go Go.Ab Go.Proofs V S T C
open W (sl1 slS slN slR leNone cons_dec renS)
open Sp
namespace Sg
abbrev PA (r0 : AV) : AV → List AObj → Prop := fun r H' => ∃ l H2 r2, Sel 0 l H' H2 ∧ Le r (AV.ren (selR l H'.length) r2) ∧ (r2 = r0 ∧ H2 = [])
theorem pa {r r0 : AV} {H' : List AObj} (h : Le r (AV.ren (selR [] H'.length) r0)) : PA r0 r H' := ⟨[], [], r0, Sel.none, h, rfl, rfl⟩
abbrev ok (l : List Span) : Prop := chkS (-1) l = true
theorem chkS_len : ∀ {l : List Span} {e : Int}, chkS e l = true → (l.length : Int) ≤ lastS e l - e
 | [], e, _ => by simp [lastS]
 | x :: r, e, h => by
  obtain ⟨h1, h2, h3, h4⟩ := chkS_cons h
  have := chkS_len h4
  simp only [lastS, List.length_cons]; omega
theorem lastS_top : ∀ {l : List Span} {e : Int}, chkS e l = true → e ≤ 1000000000 → lastS e l ≤ 1000000000
 | [], e, _, h => h
 | x :: r, e, h, _ => by
  obtain ⟨h1, h2, h3, h4⟩ := chkS_cons h
  simp only [lastS]
  exact lastS_top h4 h3
theorem ok_len {l : List Span} (h : ok l) : l.length ≤ 1000000001 := by
 have h1 := chkS_len h
 have h2 := lastS_top h (by omega)
 omega
theorem suc64 {i : Nat} (h : i ≤ 100000000000) : IntKind.wrap .i64 ((i : Int) + 1) = ((i + 1 : Nat) : Int) := by rw [wrap64 (by omega) (by omega)]; simp
theorem pre64 {i : Nat} (h : i ≤ 100000000000) (h1 : 0 < i) : IntKind.wrap .i64 ((i : Int) - 1) = ((i - 1 : Nat) : Int) := by rw [wrap64 (by omega) (by omega)]; omega
theorem mid64 {i j : Nat} (h : i + j ≤ 100000000000) : IntKind.wrap .i64 (Int.fdiv (IntKind.wrap .u64 (IntKind.wrap .i64 ((i : Int) + j))) 2) = (((i + j) / 2 : Nat) : Int) := by
 rw [wrap64 (x := (i : Int) + j) (by omega) (by omega)]
 have e : IntKind.wrap .u64 ((i : Int) + j) = ((i + j : Nat) : Int) := by
  simp only [IntKind.wrap, IntKind.bits, IntKind.signed]
  have e : (2 : Int) ^ 64 = 18446744073709551616 := by decide
  simp only [e, Bool.false_and]
  rw [if_neg (by simp)]
  omega
 rw [e, show Int.fdiv ((i + j : Nat) : Int) 2 = (((i + j) / 2 : Nat) : Int) by rw [Int.fdiv_eq_ediv_of_nonneg _ (by omega)]; omega]
 rw [wrap64 (by omega) (by omega)]
theorem aftf_spec (x : Span) (p : Int) (H : List AObj) : ASpec Tryz.prog 186 [.agg (encS x), .int .i64 p] H (fun r H' => r = .int .i64 (if x.2 ≤ p then -1 else 1) ∧ H' = H) := by
 have k : ASpec Tryz.prog 186 [.agg (encS x), .int .i64 p] [] (fun r H' => r = .int .i64 (if x.2 ≤ p then -1 else 1) ∧ H' = []) :=
  ASpec.sel (s186 _ _ _ (condD (fun h => pa (by rw [if_pos h]; exact Le.refl _)) fun h => pa (by rw [if_neg h]; exact Le.refl _)))
 exact ASpec.pureH H k _ _ rfl rfl
theorem bsf3 {l : List Span} {p : Int} (hs : ok l) : ∀ (m i j : Nat), j - i ≤ m → i ≤ aftS p l → aftS p l ≤ j → j ≤ l.length →
  AWP Tryz.prog 49 0 c185_3 [(0, slS l), (1, .int .i64 p), (2, .fn 186 []), (8, .int .i64 l.length), (9, .int .i64 i), (10, .int .i64 j)] []
   (q185_2 0 (PA (.tup [.int .i64 (aftS p l : Nat), .bool false]))) := by
 have hl := ok_len hs
 have done : ∀ i : Nat, i = aftS p l → condP (decide ((i : Int) < (l.length : Int))) (needP (0 ≤ (i : Int) ∧ (i : Int) < (l.length : Int)) (ASpec Tryz.prog 186 [.agg (encS (l.getD (i : Int).toNat (0, 0))), .int .i64 p] []
   (fun r H' => ∃ x : Int, r = .int .i64 x ∧ H' = [] ∧ PA (.tup [.int .i64 (aftS p l : Nat), .bool false]) (.tup [.int .i64 i, .bool (x == 0)]) [])))
   (PA (.tup [.int .i64 (aftS p l : Nat), .bool false]) (.tup [.int .i64 i, .bool false]) []) := by
  rintro i rfl
  refine condD (fun h => needJ ⟨by omega, h⟩ ?_) fun h => pa (Le.refl _)
  refine ASpec.call (aftf_spec _ p _) (Les.refl _) ⟨_, rfl, rfl, pa ?_⟩
  have e : ((if (l.getD ((aftS p l : Nat) : Int).toNat (0, 0)).2 ≤ p then (-1 : Int) else 1) == 0) = false := by split <;> rfl
  rw [e]; exact Le.refl _
 intro m
 induction m with
 | zero =>
  intro i j h1 h2 h3 h4
  exact v185_3 _ _ _ _ _ _ _ (condD (fun hc => by omega) fun _ => done i (by omega))
 | succ m ih =>
  intro i j h1 h2 h3 h4
  refine v185_3 _ _ _ _ _ _ _ (condD (fun hc => needJ (by omega) ?_) fun _ => done i (by omega))
  rw [mid64 (by omega)]
  have hm1 : i ≤ (i + j) / 2 := by omega
  have hm2 : (i + j) / 2 < j := by omega
  refine needJ ⟨by omega, by omega⟩ ?_
  generalize (i + j) / 2 = h at hm1 hm2 ⊢
  rw [Int.toNat_natCast]
  refine ASpec.call (aftf_spec _ p _) (Les.refl _) ⟨_, rfl, rfl, ?_⟩
  by_cases hc : (l.getD h (0, 0)).2 ≤ p
  ·rw [if_pos hc]
   refine condD (fun _ => ?_) fun hc => by omega
   rw [suc64 (by omega)]
   refine ih (h + 1) j (by omega) ?_ h3 h4
   rcases Nat.lt_or_ge h (aftS p l) with hk | hk
   ·omega
   ·have := aftS_ge hs hk (by omega); omega
  ·rw [if_neg hc]
   refine condD (fun hc => by omega) fun _ => ?_
   refine ih i h (by omega) h2 ?_ (by omega)
   rcases Nat.lt_or_ge h (aftS p l) with hk | hk
   ·exact (hc (aftS_lt p l h hk)).elim
   ·exact hk
theorem after_spec (l : List Span) (p : Int) (hs : ok l) (H : List AObj) : ASpec Tryz.prog 144 [slS l, .int .i64 p] H (fun r H' => r = .int .i64 (aftS p l : Nat) ∧ H' = H) := by
 have k : ASpec Tryz.prog 144 [slS l, .int .i64 p] [] (fun r H' => r = .int .i64 (aftS p l : Nat) ∧ H' = []) := by
  have k2 : ASpec Tryz.prog 185 [slS l, .int .i64 p, .fn 186 []] [] (fun r H' => r = .tup [.int .i64 (aftS p l : Nat), .bool false] ∧ H' = []) :=
   ASpec.sel (s185 _ _ _ (bsf3 hs l.length 0 l.length (by omega) (by omega) (aftS_le p l) (by omega)))
  exact s144 _ _ _ (ASpec.call k2 (Les.refl _) ⟨(((aftS p l : Nat) : Int), false), rfl, rfl, rfl, rfl⟩)
 exact ASpec.pureH H k _ _ rfl rfl
theorem has_spec (l : List Span) (p : Int) (hs : ok l) (H : List AObj) : ASpec Tryz.prog 101 [slS l, .int .i64 p] H (fun r H' => r = .bool (hasS l p) ∧ H' = H) := by
 have k : ASpec Tryz.prog 101 [slS l, .int .i64 p] [] (fun r H' => r = .bool (hasS l p) ∧ H' = []) := by
  have e := hasS_aft (p := p) hs
  refine s101 _ _ _ (ASpec.call (after_spec l p hs _) (Les.refl _) ⟨_, rfl, rfl, condD (fun h => needJ ⟨by omega, h⟩ ⟨?_, rfl⟩) fun h => ⟨?_, rfl⟩⟩)
  ·rw [Int.toNat_natCast]
   congr 1
   rw [Bool.eq_iff_iff, e, decide_eq_true_iff]
   exact ⟨fun h2 => ⟨by omega, h2⟩, fun h2 => h2.2⟩
  ·congr 1
   symm
   cases hx : hasS l p with
   | false => rfl
   | true => have := (e.1 hx).1; omega
 exact ASpec.pureH H k _ _ rfl rfl
theorem next_spec (l : List Span) (p : Int) (hs : ok l) (H : List AObj) : ASpec Tryz.prog 150 [slS l, .int .i64 p] H (fun r H' => r = .int .i64 (nextS l p) ∧ H' = H) := by
 have k : ASpec Tryz.prog 150 [slS l, .int .i64 p] [] (fun r H' => r = .int .i64 (nextS l p) ∧ H' = []) := by
  have hle := aftS_le p l
  refine s150 _ _ _ (ASpec.call (after_spec l p hs _) (Les.refl _) ⟨_, rfl, rfl, condE (fun h => ⟨?_, rfl⟩) fun h => needJ ⟨by omega, by omega⟩ ?_⟩)
  ·rw [nextS, if_pos (by omega)]
  ·rw [Int.toNat_natCast]
   refine condD (fun h2 => needJ ⟨by omega, by omega⟩ ⟨?_, rfl⟩) fun h2 => needJ ⟨by omega, by omega⟩ ⟨?_, rfl⟩
   ·rw [nextS, if_neg (by omega), if_pos (by omega)]
   ·rw [nextS, if_neg (by omega), if_neg (by omega)]
 exact ASpec.pureH H k _ _ rfl rfl
abbrev arS (o : List Span) : AObj := .arr 2 (.map encS (0, 0) o)
theorem add_nil (s : Span) (H : List AObj) : ASpec Tryz.prog 151 [.sl 0 (.raw []) .nil, .agg (encS s)] H (fun r H' => r = .msl 2 H.length 0 1 ∧ H' = H ++ [arS [s]]) := by
 have k : ASpec Tryz.prog 151 [.sl 0 (.raw []) .nil, .agg (encS s)] [] (fun r H' => r = .msl 2 0 0 1 ∧ H' = [arS [s]]) := by
  refine ASpec.arrEnd (ASpec.sel (s151n _ _ (needJ (by omega) (needJ (by omega) ?_))))
  refine ⟨[1], [.arr 2 (.raw [encS s])], .msl 2 0 0 1, Sel.one 1 rfl rfl, Le.refl _, 0, 2, .raw [encS s], .map encS (0, 0) [s], rfl, rfl, rfl, rfl⟩
 exact ASpec.anyH H k _ _ _ rfl rfl rfl
theorem sel01 {a b : AObj} (h : AObj.ren (selR [0] 2) a = a := by rfl) : Sel 1 [0] [a, b] [a] := by
 refine ⟨by decide, rfl, Nat.le_refl _, fun i hi => ?_, fun i hi => .inl ?_⟩
 ·match i, hi with
  | 0, _ => rfl
 ·match i, hi with
  | 0, _ => simp [h]
theorem add_mem (o : List Span) (s : Span) (ho : o.length ≤ 2000000000) :
  ASpec Tryz.prog 151 [.msl 2 0 0 o.length, .agg (encS s)] [arS o] (fun r H' => (r = .msl 2 0 0 (addS o s).length ∧ H' = [arS (addS o s)] ∧ (addS o s).length = o.length) ∨ (r = .msl 2 1 0 (addS o s).length ∧ H' = [.gone, arS (addS o s)])) := by
 refine ASpec.sel (ASpec.arrEnd (s151m _ _ _ _ ?_))
 have app : ¬ (0 < o.length ∧ s.1 ≤ (o.getD (o.length - 1) (0, 0)).2) → ∃ id sz q q', ([.gone, .cells (encS s), .arr 2 (.app (.map encS (0, 0) o) (.raw [encS s]))] : List AObj)[id]? = some (.arr sz q) ∧ Seq.toList q' = q.toList ∧
   ∃ l H2 r2, Sel 1 l (([.gone, .cells (encS s), .arr 2 (.app (.map encS (0, 0) o) (.raw [encS s]))] : List AObj).set id (.arr sz q')) H2 ∧ Le (.msl 2 2 0 (o.length + 1)) (AV.ren (selR l (([.gone, .cells (encS s), .arr 2 (.app (.map encS (0, 0) o) (.raw [encS s]))] : List AObj).set id (.arr sz q')).length) r2) ∧
   ((r2 = .msl 2 0 0 (addS o s).length ∧ H2 = [arS (addS o s)] ∧ (addS o s).length = o.length) ∨ (r2 = .msl 2 1 0 (addS o s).length ∧ H2 = [.gone, arS (addS o s)])) := by
  intro hc
  have e : addS o s = o ++ [s] := by rw [addS, if_neg hc]
  refine ⟨2, 2, _, .map encS (0, 0) (o ++ [s]), rfl, by simp [Seq.toList], [0, 2], [.gone, arS (o ++ [s])], .msl 2 1 0 (o.length + 1), ?_, Le.refl _, .inr ⟨?_, ?_⟩⟩
  ·refine ⟨by decide, rfl, by decide, fun i hi => ?_, fun i hi => ?_⟩
   ·match i, hi with
    | 0, _ => rfl
   ·match i, hi with
    | 0, _ => exact .inl rfl
    | 1, _ => exact .inl rfl
  ·rw [e]; simp
  ·rw [e]
 refine condD (fun h => ?_) fun h => ?_
 ·by_cases hz : o.length = 0
  ·rw [hz] at h
   have : IntKind.wrap .i64 (((0 : Nat) : Int) - 1) = -1 := by rw [wrap64 (by omega) (by omega)]; rfl
   rw [this] at h; omega
  rw [pre64 (by omega) (by omega), Int.toNat_natCast, Nat.zero_add]
  refine needJ ⟨by omega, by omega⟩ (needJ (by omega) (condD (fun h2 => needJ ⟨by omega, by omega⟩ (needJ (by omega) (needJ ⟨by omega, by omega⟩ (needJ (by omega) ?_)))) fun h2 => needJ ⟨rfl, by omega⟩ (app ?_)))
  ·have e : addS o s = o.take (o.length - 1) ++ [((o.getD (o.length - 1) (0, 0)).1, max (o.getD (o.length - 1) (0, 0)).2 s.2)] := by rw [addS, if_pos ⟨by omega, h2⟩]
   have el : (addS o s).length = o.length := by rw [e]; simp; omega
   have em : (max (o.getD (o.length - 1) (0, 0)).2 s.2) = if s.2 > (o.getD (o.length - 1) (0, 0)).2 then s.2 else (o.getD (o.length - 1) (0, 0)).2 := by
    rw [Int.max_def]
    by_cases hx : s.2 > (o.getD (o.length - 1) (0, 0)).2
    ·rw [if_pos hx, if_pos (by omega)]
    ·rw [if_neg hx]
     by_cases hy : (o.getD (o.length - 1) (0, 0)).2 ≤ s.2
     ·rw [if_pos hy]; omega
     ·rw [if_neg hy]
   have es : o.set (o.length - 1) ((o.getD (o.length - 1) (0, 0)).1, max (o.getD (o.length - 1) (0, 0)).2 s.2) = addS o s := by
    rw [e, List.set_eq_take_append_cons_drop, if_pos (by omega), show o.length - 1 + 1 = o.length by omega, List.drop_length]
   refine ⟨0, 2, _, .map encS (0, 0) (addS o s), rfl, ?_, [0], [arS (addS o s)], .msl 2 0 0 o.length, sel01, Le.refl _, .inl ⟨by rw [el], rfl, el⟩⟩
   rw [← es, em]
   simp only [Seq.toList, List.map_set]
   rfl
  ·rintro ⟨_, h3⟩; exact h2 h3
 ·have hz : o.length = 0 := by
   by_cases hz : o.length = 0
   ·exact hz
   ·rw [pre64 (by omega) (by omega)] at h; omega
  exact needJ ⟨rfl, by omega⟩ (app (by omega))
abbrev andF (a b : List Span) (p : Int) : Bool := hasS a p && hasS b p
theorem and_next {a b : List Span} (ha : ok a) (hb : ok b) {p : Int} (hp : p < 1000000000) {to : Int} (ht : to = if nextS b p < nextS a p then nextS b p else nextS a p) :
  p < to ∧ to ≤ 1000000000 ∧ ∀ q, p ≤ q → q < to → andF a b q = andF a b p := by
 have h1 := nextS_gt ha hp
 have h2 := nextS_gt hb hp
 refine ⟨by rw [ht]; split <;> omega, by rw [ht]; split <;> omega, fun q hq1 hq2 => ?_⟩
 have hqa : q < nextS a p := by rw [ht] at hq2; split at hq2 <;> omega
 have hqb : q < nextS b p := by rw [ht] at hq2; split at hq2 <;> omega
 simp only [andF]
 rw [nextS_same ha hq1 hqa, nextS_same hb hq1 hqb]
theorem meet_ex {a b : List Span} (ha : ok a) (hb : ok b) : ∀ (m : Nat) (p : Int) (o : List Span), (1000000000 - p).toNat ≤ m → 0 ≤ p → p ≤ 1000000000 → Kept (andF a b) p o → ∃ o', Kept (andF a b) 1000000000 o'
 | 0, p, o, hm, h0, h1, hk => by
  have : p = 1000000000 := by omega
  subst this; exact ⟨o, hk⟩
 | m + 1, p, o, hm, h0, h1, hk => by
  by_cases hp : p < 1000000000
  ·obtain ⟨n1, n2, n3⟩ := and_next ha hb hp rfl
   by_cases hf : andF a b p = true
   ·exact meet_ex ha hb m _ _ (by omega) (by omega) n2 (kept_put hk h0 n1 n2 (fun q hq1 hq2 => by rw [n3 q hq1 hq2]; exact hf))
   ·exact meet_ex ha hb m _ _ (by omega) (by omega) n2 (kept_skip hk (by omega) (fun q hq1 hq2 => by rw [n3 q hq1 hq2]; simpa using hf))
  ·have : p = 1000000000 := by omega
   subst this; exact ⟨o, hk⟩
open Classical in
def meetS (a b : List Span) : List Span := if h : ∃ o, Kept (andF a b) 1000000000 o then choose h else []
theorem meet_eq {a b o : List Span} (h : Kept (andF a b) 1000000000 o) : meetS a b = o := by
 have hex : ∃ o, Kept (andF a b) 1000000000 o := ⟨o, h⟩
 rw [meetS, dif_pos hex]
 exact kept_one (Classical.choose_spec hex) h
theorem meet_kept {a b : List Span} (ha : ok a) (hb : ok b) : Kept (andF a b) 1000000000 (meetS a b) := by
 obtain ⟨o, h⟩ := meet_ex ha hb 1000000000 0 [] (by omega) (by omega) (by omega) (kept_nil _)
 rw [meet_eq h]; exact h
theorem meet_ok {a b : List Span} (ha : ok a) (hb : ok b) : ok (meetS a b) := (meet_kept ha hb).1
theorem freezeS {n : Nat} {k : Nat} {o : List Span} (hn : n ≤ 1) : ReSt n [(k, .msl 2 0 0 o.length)] [arS o] [(k, slS o)] [.gone] := by
 refine ReSt.freeze (H := [arS o]) (id := 0) (sz := 2) (q := .map encS (0, 0) o) rfl hn (fun d => ?_)
 by_cases hd : d = k
 ·subst hd
  refine .inr (.inr ⟨0, o.length, .map encS (0, 0) o, ?_, by simp [Seq.toList], ?_, by simp [Seq.toList, ← List.map_take]⟩)
  ·simp [Ab.get]
  ·simp [Ab.get]
 ·left
  simp only [Ab.get]
  have e : Nat.beq k d = false := by
   cases hx : Nat.beq k d with
   | false => rfl
   | true => exact absurd (Nat.eq_of_beq_eq_true hx).symm hd
  rw [e]; rfl
theorem leS0 {ρ : Nat → Nat} : Le (.sl 0 (.raw []) .nil) (AV.ren ρ (slS [])) := Le.sl (s' := Seq.ren ρ (.map encS (0, 0) [])) rfl (.inr ⟨rfl, fun _ h => by cases h⟩) (.inr rfl)
theorem and_spec (x y : Bool) (H : List AObj) : ASpec Tryz.prog 118 [.bool x, .bool y] H (fun r H' => r = .bool (x && y) ∧ H' = H) :=
 ASpec.pureH (r0 := .bool (x && y)) H (s118 x y _ (condB (fun h => by rw [h]; exact ⟨rfl, rfl⟩) fun h => by rw [h]; exact ⟨rfl, rfl⟩)) _ _ rfl rfl
section
variable {a b : List Span} (ha : ok a) (hb : ok b)
include ha hb
theorem kept3m : ∀ (m : Nat) (p : Int) (o : List Span), (1000000000 - p).toNat ≤ m → 0 ≤ p → p ≤ 1000000000 → Kept (andF a b) p o →
  AWP Tryz.prog 34 0 c117_3 [(0, slS a), (1, slS b), (2, .fn 118 []), (7, .msl 2 0 0 o.length), (8, .int .i64 p)] [arS o] (q117_2 0 (PA (slS (meetS a b)))) := by
 have done : ∀ (p : Int) (o : List Span), ¬ p < 1000000000 → p ≤ 1000000000 → Kept (andF a b) p o → AWP Tryz.prog 34 0 c117_8 [(7, .msl 2 0 0 o.length)] [arS o] (q117_0 0 (PA (slS (meetS a b)))) := by
  intro p o h1 h2 hk
  have : p = 1000000000 := by omega
  subst this
  refine AWP.re (freezeS (by omega)) (AWP.shape [] [(7, slS o)] [] Sel.none ⟨rfl, Le.refl _, trivial⟩ (v117_8s _ _ _ (pa ?_)))
  rw [meet_eq hk]; exact Le.refl _
 intro m
 induction m with
 | zero =>
  intro p o hm h0 h1 hk
  exact v117_3m _ _ _ _ _ _ _ (condD (fun h => by omega) fun h => done p o h h1 hk)
 | succ m ih =>
  intro p o hm h0 h1 hk
  have hol := ok_len hk.1
  refine v117_3m _ _ _ _ _ _ _ (condD (fun hp => ?_) fun h => done p o h h1 hk)
  obtain ⟨n1, n2, n3⟩ := and_next ha hb hp rfl
  refine ASpec.call (next_spec a p ha _) (Les.refl _) ⟨_, rfl, rfl, ?_⟩
  refine ASpec.call (next_spec b p hb _) (Les.refl _) ⟨_, rfl, rfl, ?_⟩
  refine ASpec.call (has_spec a p ha _) (Les.refl _) ⟨_, rfl, rfl, ?_⟩
  refine ASpec.call (has_spec b p hb _) (Les.refl _) ⟨_, rfl, rfl, ?_⟩
  refine ASpec.call (and_spec _ _ _) (Les.refl _) ⟨_, rfl, rfl, ?_⟩
  generalize (if nextS b p < nextS a p then nextS b p else nextS a p) = to at n1 n2 n3 ⊢
  refine condB (fun hf => ?_) fun hf => ?_
  ·have hk' := kept_put hk h0 n1 n2 (fun q hq1 hq2 => by rw [n3 q hq1 hq2]; exact hf)
   have nxt := ih to (addS o (p, to)) (by omega) (by omega) n2 hk'
   refine (add_mem o (p, to) (by omega)).mono fun r H' hh => .inr ?_
   rcases hh with ⟨e1, e2, e3⟩ | ⟨e1, e2⟩
   ·subst e1 e2
    refine .inl ⟨addS o (p, to), by rw [e3], rfl, ?_⟩
    rw [e3] at nxt; exact nxt
   ·subst e1 e2
    refine .inr ⟨addS o (p, to), rfl, rfl, ?_⟩
    exact AWP.shape [1] [(0, slS a), (1, slS b), (2, .fn 118 []), (7, .msl 2 0 0 (addS o (p, to)).length), (8, .int .i64 to)] [arS (addS o (p, to))] (Sel.one 1 rfl rfl)
     ⟨rfl, Le.refl _, rfl, Le.refl _, rfl, Le.refl _, rfl, Le.refl _, rfl, Le.refl _, trivial⟩ nxt
  ·exact ih to o (by omega) (by omega) n2 (kept_skip hk (by omega) (fun q hq1 hq2 => by rw [n3 q hq1 hq2]; exact hf))
theorem kept3n : ∀ (m : Nat) (p : Int), (1000000000 - p).toNat ≤ m → 0 ≤ p → p ≤ 1000000000 → Kept (andF a b) p [] →
  AWP Tryz.prog 34 0 c117_3 [(0, slS a), (1, slS b), (2, .fn 118 []), (7, .sl 0 (.raw []) .nil), (8, .int .i64 p)] [] (q117_2 0 (PA (slS (meetS a b)))) := by
 have done : ∀ (p : Int), ¬ p < 1000000000 → p ≤ 1000000000 → Kept (andF a b) p [] → AWP Tryz.prog 34 0 c117_8 [(7, .sl 0 (.raw []) .nil)] [] (q117_0 0 (PA (slS (meetS a b)))) := by
  intro p h1 h2 hk
  have : p = 1000000000 := by omega
  subst this
  refine v117_8n _ _ (pa ?_)
  rw [meet_eq hk]; exact leS0
 intro m
 induction m with
 | zero =>
  intro p hm h0 h1 hk
  exact v117_3n _ _ _ _ _ (condD (fun h => by omega) fun h => done p h h1 hk)
 | succ m ih =>
  intro p hm h0 h1 hk
  refine v117_3n _ _ _ _ _ (condD (fun hp => ?_) fun h => done p h h1 hk)
  obtain ⟨n1, n2, n3⟩ := and_next ha hb hp rfl
  refine ASpec.call (next_spec a p ha _) (Les.refl _) ⟨_, rfl, rfl, ?_⟩
  refine ASpec.call (next_spec b p hb _) (Les.refl _) ⟨_, rfl, rfl, ?_⟩
  refine ASpec.call (has_spec a p ha _) (Les.refl _) ⟨_, rfl, rfl, ?_⟩
  refine ASpec.call (has_spec b p hb _) (Les.refl _) ⟨_, rfl, rfl, ?_⟩
  refine ASpec.call (and_spec _ _ _) (Les.refl _) ⟨_, rfl, rfl, ?_⟩
  generalize (if nextS b p < nextS a p then nextS b p else nextS a p) = to at n1 n2 n3 ⊢
  refine condB (fun hf => ?_) fun hf => ?_
  ·have hk' := kept_put hk h0 n1 n2 (fun q hq1 hq2 => by rw [n3 q hq1 hq2]; exact hf)
   have nxt := kept3m ha hb m to (addS [] (p, to)) (by omega) (by omega) n2 hk'
   exact ASpec.call (add_nil (p, to) []) (Les.refl _) (.inl ⟨(p, to), rfl, rfl, nxt⟩)
  ·exact ih to (by omega) (by omega) n2 (kept_skip hk (by omega) (fun q hq1 hq2 => by rw [n3 q hq1 hq2]; exact hf))
theorem meet_spec (H : List AObj) : ASpec Tryz.prog 65 [slS a, slS b] H (fun r H' => r = slS (meetS a b) ∧ H' = H) := by
 have k : ASpec Tryz.prog 65 [slS a, slS b] [] (fun r H' => r = slS (meetS a b) ∧ H' = []) := by
  have k2 : ASpec Tryz.prog 117 [slS a, slS b, .fn 118 []] [] (fun r H' => r = slS (meetS a b) ∧ H' = []) :=
   ASpec.sel (s117 _ _ _ (kept3n ha hb 1000000000 0 (by omega) (by omega) (by omega) (kept_nil _)))
  exact s65 _ _ _ (ASpec.call k2 (Les.refl _) ⟨_, rfl, rfl, rfl, rfl⟩)
 exact ASpec.pureH H k _ _ rfl rfl
end
end Sg
end

noncomputable section
open Go Go.Ab Go.Proofs V S T C
open W (sl1 slS slN slR leNone renN renR readM)
namespace X
abbrev PA (r0 : AV) : AV → List AObj → Prop := fun r H' => ∃ l H2 r2, Sel 0 l H' H2 ∧ Le r (AV.ren (selR l H'.length) r2) ∧ (r2 = r0 ∧ H2 = [])
theorem pa {r r0 : AV} {H' : List AObj} (h : Le r (AV.ren (selR [] H'.length) r0)) : PA r0 r H' := ⟨[], [], r0, Sel.none, h, rfl, rfl⟩
theorem leS0 {ρ : Nat → Nat} : Le (.sl 0 (.raw []) .nil) (AV.ren ρ (slS [])) := Le.sl (s' := Seq.ren ρ (.map encS (0, 0) [])) rfl (.inr ⟨rfl, fun _ h => by cases h⟩) (.inr rfl)
theorem cloneS_spec (l : List Span) (hl : l.length ≤ lim) (H : List AObj) : ASpec Tryz.prog 104 [slS l] H (fun r H' => r = slS l ∧ H' = H) := by
 unfold lim at hl
 have k : ASpec Tryz.prog 104 [slS l] [] (fun r H' => r = slS l ∧ H' = []) := by
  refine ASpec.sel (s104 _ _ fun b hb => condB (fun h => pa ?_) fun h => needJ (fun x => rfl) (needJ (by omega) (pa ?_)))
  ·have := hb h
   simp only [Ab.Seq.toList, List.map_eq_nil_iff] at this
   subst this
   exact leS0
  ·exact Le.sl (s' := Seq.ren _ (.map encS (0, 0) l)) (by simp [Ab.Seq.toList, Seq.ren, W.renS]) (.inl rfl) (.inr rfl)
 exact ASpec.pureH H k _ _ rfl rfl
theorem cloneR3 {v : Int} {l : List Need} {R : List Need} (hl : okN l) : ∀ (m i : Nat) (acc : List Need), m + i = l.length → acc.length + m ≤ lim → acc ++ l.drop i = R →
  AWP Tryz.prog 29 0 c99_3 [(2, .ptr 0 0), (3, .ptr 1 0), (10, slN l), (11, .int .i64 l.length), (12, .int .i64 i)]
   [.cells [.int .i64 0, .sl 0 (.raw []) .nil], .cells [.int .i64 v, .sl 2 (.map encN ([], []) acc) (.tok 2)], .tok] (q99_2 0 (PA (.agg (T.encR (v, R))))) := by
 obtain ⟨hl1, hl2⟩ := hl
 unfold lim at hl1
 intro m
 induction m with
 | zero =>
  intro i acc hm ha h
  refine v99_3 _ _ _ _ _ _ _ (condD (fun hc => by omega) fun _ => pa ?_)
  rw [List.drop_eq_nil_of_le (by omega), List.append_nil] at h
  subst h
  exact Le.agg ⟨Le.refl _, leNone renN, trivial⟩
 | succ m ih =>
  intro i acc hm ha h
  unfold lim at ha
  have hx := hl2 _ (memD l ([], []) i (by omega))
  rw [dropD l ([], []) i (by omega)] at h
  refine v99_3 _ _ _ _ _ _ _ (condD (fun hc => needJ ⟨by omega, by omega⟩ ?_) fun hc => by omega)
  rw [Int.toNat_natCast]
  generalize l.getD i ([], []) = x at h hx ⊢
  refine ASpec.call (cloneS_spec x.2 hx.2 _) (Les.refl _) ⟨x.2, rfl, rfl, ⟨rfl, rfl⟩, ⟨rfl, rfl⟩, needJ (by omega) ?_⟩
  refine AWP.re (ReSt.leCell (id := 1) (cs' := [.int .i64 v, .sl 2 (.map encN ([], []) (acc ++ [x])) (.tok 4)]) rfl ⟨Le.refl _, leAppE (Les.refl _), trivial⟩) ?_
  rw [succ64 (by omega)]
  refine AWP.shape [0, 1, 4] [(2, .ptr 0 0), (3, .ptr 1 0), (10, slN l), (11, .int .i64 l.length), (12, .int .i64 (i + 1 : Nat))]
   [.cells [.int .i64 0, .sl 0 (.raw []) .nil], .cells [.int .i64 v, .sl 2 (.map encN ([], []) (acc ++ [x])) (.tok 2)], .tok] ?_
   ⟨rfl, Le.refl _, rfl, Le.refl _, rfl, Le.refl _, rfl, Le.refl _, rfl, Le.refl _, trivial⟩ (ih (i + 1) _ (by omega) (by simp; unfold lim; omega) ?_)
  ·refine ⟨by decide, rfl, by decide, fun i hi => by omega, fun i hi => .inl ?_⟩
   match i, hi with
   | 0, _ | 1, _ | 2, _ => rfl
  ·rw [← h]; simp
theorem cloneR_spec (x : Rel) (hl : okN x.2) (H : List AObj) : ASpec Tryz.prog 99 [.agg (T.encR x)] H (fun r H' => r = .agg (T.encR x) ∧ H' = H) := by
 have k : ASpec Tryz.prog 99 [.agg (T.encR x)] [] (fun r H' => r = .agg (T.encR x) ∧ H' = []) := by
  refine ASpec.sel (s99 _ _ ?_)
  refine AWP.re (ReSt.tokCell (id := 2) (j := 1) (q' := .map encN ([], []) []) (sz' := 2) rfl rfl (.inl rfl) rfl (.inr rfl)) ?_
  refine AWP.shape [1, 2, 3] [(2, .ptr 0 0), (3, .ptr 1 0), (10, slN x.2), (11, .int .i64 x.2.length), (12, .int .i64 (0 : Nat))]
   [.cells [.int .i64 0, .sl 0 (.raw []) .nil], .cells [.int .i64 x.1, .sl 2 (.map encN ([], []) []) (.tok 2)], .tok] ?_
   ⟨rfl, Le.refl _, rfl, Le.refl _, rfl, Le.refl _, rfl, Le.refl _, rfl, Le.refl _, trivial⟩ (cloneR3 hl x.2.length 0 [] (by omega) (by have := hl.1; simp; omega) rfl)
  refine ⟨by decide, rfl, by decide, fun i hi => by omega, fun i hi => .inl ?_⟩
  match i, hi with
  | 0, _ | 1, _ | 2, _ => rfl
 exact ASpec.pureH H k _ _ rfl rfl
theorem cloneM3 {s : List UInt8} {l : List Rel} {R : List Rel} (hl1 : l.length ≤ lim) (hl2 : ∀ r ∈ l, okN r.2) : ∀ (m i : Nat) (acc : List Rel), m + i = l.length → acc.length + m ≤ lim → acc ++ l.drop i = R →
  AWP Tryz.prog 25 0 c50_3 [(2, .ptr 0 0), (3, .ptr 1 0), (10, slR l), (11, .int .i64 l.length), (12, .int .i64 i)]
   [.cells [.str ⟨#[]⟩, .sl 0 (.raw []) .nil], .cells [.str (B s), .sl 2 (.map T.encR (0, []) acc) (.tok 2)], .tok] (q50_2 0 (PA (.agg (encM (s, R))))) := by
 unfold lim at hl1
 intro m
 induction m with
 | zero =>
  intro i acc hm ha h
  refine v50_3 _ _ _ _ _ _ _ (condD (fun hc => by omega) fun _ => pa ?_)
  rw [List.drop_eq_nil_of_le (by omega), List.append_nil] at h
  subst h
  exact Le.agg ⟨Le.refl _, leNone renR, trivial⟩
 | succ m ih =>
  intro i acc hm ha h
  unfold lim at ha
  have hx := hl2 _ (memD l (0, []) i (by omega))
  rw [dropD l (0, []) i (by omega)] at h
  refine v50_3 _ _ _ _ _ _ _ (condD (fun hc => needJ ⟨by omega, by omega⟩ ?_) fun hc => by omega)
  rw [Int.toNat_natCast]
  generalize l.getD i (0, []) = x at h hx ⊢
  refine ASpec.call (cloneR_spec x hx _) (Les.refl _) ⟨x, rfl, rfl, ⟨rfl, rfl⟩, needJ (by omega) ?_⟩
  refine AWP.re (ReSt.leCell (id := 1) (cs' := [.str (B s), .sl 2 (.map T.encR (0, []) (acc ++ [x])) (.tok 4)]) rfl ⟨Le.refl _, leAppE (Les.refl _), trivial⟩) ?_
  rw [succ64 (by omega)]
  refine AWP.shape [0, 1, 4] [(2, .ptr 0 0), (3, .ptr 1 0), (10, slR l), (11, .int .i64 l.length), (12, .int .i64 (i + 1 : Nat))]
   [.cells [.str ⟨#[]⟩, .sl 0 (.raw []) .nil], .cells [.str (B s), .sl 2 (.map T.encR (0, []) (acc ++ [x])) (.tok 2)], .tok] ?_
   ⟨rfl, Le.refl _, rfl, Le.refl _, rfl, Le.refl _, rfl, Le.refl _, rfl, Le.refl _, trivial⟩ (ih (i + 1) _ (by omega) (by simp; unfold lim; omega) ?_)
  ·refine ⟨by decide, rfl, by decide, fun i hi => by omega, fun i hi => .inl ?_⟩
   match i, hi with
   | 0, _ | 1, _ | 2, _ => rfl
  ·rw [← h]; simp
theorem cloneM_spec (x : Mani) (hl : okM x) (H : List AObj) : ASpec Tryz.prog 50 [.agg (encM x)] H (fun r H' => r = .agg (encM x) ∧ H' = H) := by
 have k : ASpec Tryz.prog 50 [.agg (encM x)] [] (fun r H' => r = .agg (encM x) ∧ H' = []) := by
  refine ASpec.sel (s50 _ _ ?_)
  refine AWP.re (ReSt.tokCell (id := 2) (j := 1) (q' := .map T.encR (0, []) []) (sz' := 2) rfl rfl (.inl rfl) rfl (.inr rfl)) ?_
  refine AWP.shape [1, 2, 3] [(2, .ptr 0 0), (3, .ptr 1 0), (10, slR x.2), (11, .int .i64 x.2.length), (12, .int .i64 (0 : Nat))]
   [.cells [.str ⟨#[]⟩, .sl 0 (.raw []) .nil], .cells [.str (B x.1), .sl 2 (.map T.encR (0, []) []) (.tok 2)], .tok] ?_
   ⟨rfl, Le.refl _, rfl, Le.refl _, rfl, Le.refl _, rfl, Le.refl _, rfl, Le.refl _, trivial⟩ (cloneM3 hl.2.1 hl.2.2 x.2.length 0 [] (by omega) (by have := hl.2.1; simp; omega) rfl)
  refine ⟨by decide, rfl, by decide, fun i hi => by omega, fun i hi => .inl ?_⟩
  match i, hi with
  | 0, _ | 1, _ | 2, _ => rfl
 exact ASpec.pureH H k _ _ rfl rfl
theorem EK_ren (ρ : Nat → Nat) : Enc.ren ρ EK = EK := by
 have e1 : (fun a => AV.ren ρ (EK.enc a)) = EK.enc := by funext a; cases a <;> rfl
 have e2 : (fun (a : Known) (K : AV → Prop) => EK.spl a (fun v => K (AV.ren ρ v))) = EK.spl := by funext a K; cases a <;> rfl
 unfold Enc.ren
 cases hE : EK with
 | mk enc spl ok =>
  rw [hE] at e1 e2
  simp only at e1 e2 ⊢
  simp only [e1, e2]
theorem mp_ren (ρ : Nat → Nat) (es : Kn) : AObj.ren ρ (.mp (.typed EK es)) = .mp (.typed EK es) := by
 simp only [AObj.ren, MM.ren, EK_ren]
theorem liftX {f : FuncId} {args args' : List AV} {r0 r' : AV} {es es' : Kn} (H : List AObj) (q p : Nat) (hqp : q ≠ p) (hq : H[q]? = some (.mp (.typed EK es))) (hp : H[p]? = some (.cells [.map q]))
  (k : ASpec Tryz.prog f args (HX es) (fun r H' => r = r0 ∧ H' = HX es')) (ha : args.map (AV.ren (callR [q, p] H.length)) = args') (hr : AV.ren (callR [q, p] H.length) r0 = r') :
  ASpec Tryz.prog f args' H (fun r H' => r = r' ∧ H' = H.set q (.mp (.typed EK es'))) := by
 refine ASpec.subH [q, p] H _ k args' r' (by simpa using hqp) rfl ha hr (fun i hi => ?_) ?_
 ·match i, hi with
  | 0, _ => show H[q]? = some (AObj.ren _ (.mp (.typed EK es))); rw [mp_ren]; try exact hq
  | 1, _ => exact hp
 ·have e : (H.set q (.mp (.typed EK es')))[p]? = some (.cells [.map q]) := by rw [List.getElem?_set_ne hqp]; exact hp
  have h2 : graftH (callR [q, p] H.length) [q, p] H (HX es') = (H.set q (AObj.ren (callR [q, p] H.length) (.mp (.typed EK es')))).set p (AObj.ren (callR [q, p] H.length) (.cells [.map 0])) := by
   simp [graftH, grafted, HX]
  rw [h2, mp_ren]
  exact set_same e
abbrev PX (es : Kn) (r0 : AV) : AV → List AObj → Prop := fun r H' => ∃ l H2 r2, Sel 2 l H' H2 ∧ Le r (AV.ren (selR l H'.length) r2) ∧ (r2 = r0 ∧ H2 = HX es)
theorem selX (es : Kn) (q : List AObj) : Sel 2 [0, 1] (HX es ++ q) (HX es) := by
 refine ⟨by decide, rfl, by decide, fun i hi => ?_, fun i hi => .inl ?_⟩
 ·match i, hi with
  | 0, _ | 1, _ => rfl
 ·match i, hi with
  | 0, _ => show some _ = some (AObj.ren _ (.mp (.typed EK es))); rw [mp_ren]
  | 1, _ => rfl
theorem px {es : Kn} {r r0 : AV} (q : List AObj) (h : Le r (AV.ren (selR [0, 1] (HX es ++ q).length) r0)) : PX es r0 r (HX es ++ q) := ⟨_, _, _, selX es q, h, rfl, rfl⟩
theorem new_spec (H : List AObj) : ASpec Tryz.prog 43 [] H (fun r H' => r = .ptr (H.length + 1) 0 ∧ H' = H ++ [.mp (.typed EK []), .cells [.map H.length]]) := by
 have k : ASpec Tryz.prog 43 [] [] (fun r H' => r = .ptr 1 0 ∧ H' = HX []) :=
  ASpec.outMap (s43 _ ⟨0, .nil, .typed EK [], rfl, mle_nil, rfl, rfl⟩)
 refine (ASpec.subH [] H (H ++ [.mp (.typed EK []), .cells [.map H.length]]) k [] (.ptr (H.length + 1) 0) (by simp) rfl rfl (by simp [AV.ren, callR]) (fun i hi => by cases hi) ?_)
 simp [graftH, grafted, HX, mp_ren]
 simp [AObj.ren, renL, AV.ren, callR]
def hasI (es : Kn) (k : List UInt8) : Bool := (findM es (B k)).isSome
def getM (es : Kn) (k : List UInt8) : Mani × Bool := match findM es (B k) with
 | some (some m) => (m, true)
 | _ => ((k, []), false)
def readK (k bs : List UInt8) : Known := if (readM bs).2 ≠ 0 ∨ (readM bs).1.1 ≠ k then none else some (readM bs).1
def putI (es : Kn) (k bs : List UInt8) : Int × Kn :=
 if fitM k = false ∨ 8192 < bs.length then (1, es) else if hasI es k = true then (6, es) else (0, setM es (B k) (readK k bs))
def OkX (es : Kn) : Prop := ∀ k m, findM es k = some (some m) → okM m
theorem optI {α : Type} {o : Option α} {A : α → Prop} {Z : Prop} (h1 : ∀ a, o = some a → A a) (h2 : o = none → Z) : optionP o A Z := by
 cases o with
 | none => exact h2 rfl
 | some a => exact h1 a rfl
theorem has0 (es : Kn) (k : List UInt8) : ASpec Tryz.prog 15 [.ptr 1 0, .str (B k)] (HX es) (fun r H' => r = .bool (hasI es k) ∧ H' = HX es) := by
 refine s15 _ _ _ (optI (fun a h => optI (fun m h2 => ⟨?_, rfl⟩) fun h2 => ⟨?_, rfl⟩) fun h => ⟨?_, rfl⟩) <;> (unfold hasI; rw [h]; rfl)
theorem has_spec (es : Kn) (k : List UInt8) (H : List AObj) (q p : Nat) (hqp : q ≠ p) (hq : H[q]? = some (.mp (.typed EK es))) (hp : H[p]? = some (.cells [.map q])) :
  ASpec Tryz.prog 15 [.ptr p 0, .str (B k)] H (fun r H' => r = .bool (hasI es k) ∧ H' = H) := by
 have := liftX H q p hqp hq hp (has0 es k) (args' := [.ptr p 0, .str (B k)]) rfl rfl
 rwa [set_same hq] at this
theorem good_spec (m : Mani) (H : List AObj) : ASpec Tryz.prog 240 [.agg (encM m)] H (fun r H' => r = .bool true ∧ H' = H) :=
 ASpec.pureH H (ASpec.sel (s240 _ _ (pb rfl))) _ _ rfl rfl
theorem bad_spec (H : List AObj) : ASpec Tryz.prog 241 [.agg []] H (fun r H' => r = .bool false ∧ H' = H) :=
 ASpec.pureH H (ASpec.sel (s241 _ (pb rfl))) _ _ rfl rfl
theorem get0 (es : Kn) (k : List UInt8) (hes : OkX es) : ASpec Tryz.prog 16 [.ptr 1 0, .str (B k)] (HX es) (fun r H' => r = .tup [.agg (encM (getM es k).1), .bool (getM es k).2] ∧ H' = HX es) := by
 have none : ∀ q : List AObj, getM es k = ((k, []), false) → PX es (.tup [.agg (encM (getM es k).1), .bool (getM es k).2]) (.tup [.agg [.str (B k), .sl 0 (.raw []) .nil], .bool false]) (HX es ++ q) := by
  intro q h
  rw [h]
  exact px q (Le.tup ⟨Le.agg ⟨Le.refl _, Le.sl (s' := Seq.ren _ (.map T.encR (0, []) [])) rfl (.inr ⟨rfl, fun _ h => by cases h⟩) (.inr rfl), trivial⟩, Le.refl _, trivial⟩)
 refine ASpec.sel (s16 _ _ _ (ASpec.call (has_spec es k _ 0 1 (by omega) rfl rfl) (Les.refl _) ⟨_, rfl, rfl, condBn (fun h => ?_) fun h => ?_⟩))
 ·refine none [_, _] ?_
  unfold hasI at h
  unfold getM
  cases hf : findM es (B k) with
  | none => rfl
  | some a => rw [hf] at h; cases h
 ·refine optI (fun a ha => optI (fun m hm => ?_) fun hm => ?_) fun hn => ?_
  ·subst hm
   refine ASpec.call (good_spec m _) (Les.refl _) ⟨(), rfl, rfl, optI (fun a' ha' => optI (fun m' hm' => ?_) fun hm' => ?_) fun hn => ?_⟩
   ·rw [ha] at ha'; cases ha'; cases hm'
    refine ASpec.call (cloneM_spec m (hes _ _ ha) _) (Les.refl _) ⟨m, rfl, rfl, ?_⟩
    have e : getM es k = (m, true) := by unfold getM; rw [ha]
    rw [e]
    exact px [_, _, _] (Le.refl _)
   ·rw [ha] at ha'; cases ha'; cases hm'
   ·rw [ha] at hn; cases hn
  ·subst hm
   refine ASpec.call (bad_spec _) (Les.refl _) ⟨(), rfl, rfl, none [_, _] ?_⟩
   unfold getM; rw [ha]
  ·unfold hasI at h; rw [hn] at h; cases h
theorem get_spec (es : Kn) (k : List UInt8) (hes : OkX es) (H : List AObj) (q p : Nat) (hqp : q ≠ p) (hq : H[q]? = some (.mp (.typed EK es))) (hp : H[p]? = some (.cells [.map q])) :
  ASpec Tryz.prog 16 [.ptr p 0, .str (B k)] H (fun r H' => r = .tup [.agg (encM (getM es k).1), .bool (getM es k).2] ∧ H' = H) := by
 have := liftX H q p hqp hq hp (get0 es k hes) (args' := [.ptr p 0, .str (B k)]) (r' := .tup [.agg (encM (getM es k).1), .bool (getM es k).2]) rfl rfl
 rwa [set_same hq] at this
theorem read_found {k bs : List UInt8} {m : Mani} (hb : bs.length ≤ 1000000) (h : readK k bs = some m) (H : List AObj) : ASpec Tryz.prog 90 [.str (B k), sl1 bs] H (fun r H' => r = .iface 121 (.agg (encM m)) ∧ H' = H) := by
 have hk : ASpec Tryz.prog 90 [.str (B k), sl1 bs] [] (fun r H' => r = .iface 121 (.agg (encM m)) ∧ H' = []) := by
  unfold readK at h
  split at h
  ·cases h
  ·rename_i hh
   cases h
   refine ASpec.sel (s90 _ _ _ (ASpec.call (W.read_spec bs hb _) (Les.refl _) ⟨readM bs, rfl, rfl, condNe (fun h => (hh (.inl h)).elim) fun _ => condSn (fun h => (hh (.inr h)).elim) fun _ => pa (Le.refl _)⟩))
 exact ASpec.pureH H hk _ _ rfl rfl
theorem read_broken {k bs : List UInt8} (hb : bs.length ≤ 1000000) (h : readK k bs = none) (H : List AObj) : ASpec Tryz.prog 90 [.str (B k), sl1 bs] H (fun r H' => r = .iface 203 (.agg []) ∧ H' = H) := by
 have hk : ASpec Tryz.prog 90 [.str (B k), sl1 bs] [] (fun r H' => r = .iface 203 (.agg []) ∧ H' = []) := by
  unfold readK at h
  split at h
  ·rename_i hh
   refine ASpec.sel (s90 _ _ _ (ASpec.call (W.read_spec bs hb _) (Les.refl _) ⟨readM bs, rfl, rfl, condNe (fun h => pa (Le.refl _)) fun h1 => condSn (fun h => pa (Le.refl _)) fun h2 => ?_⟩))
   rcases hh with h | h
   ·exact (h h1).elim
   ·exact (h h2).elim
  ·cases h
 exact ASpec.pureH H hk _ _ rfl rfl
theorem put0 (es : Kn) (k bs : List UInt8) (hk : k.length ≤ lim) : ASpec Tryz.prog 40 [.ptr 1 0, .str (B k), sl1 bs] (HX es) (fun r H' => r = .int .i64 (putI es k bs).1 ∧ H' = HX (putI es k bs).2) := by
 have same : ∀ e : Int, putI es k bs = (e, es) → (∃ (id : Nat) (m m' : MM), (HX es)[id]? = some (.mp m) ∧ MLe m.toList m'.toList ∧ (AV.int .i64 e = .int .i64 (putI es k bs).1 ∧ (HX es).set id (.mp m') = HX (putI es k bs).2)) := by
  intro e h
  rw [h]
  exact ⟨0, .typed EK es, .typed EK es, rfl, MLe.of_eq rfl, rfl, rfl⟩
 refine ASpec.outMap (s40 _ _ _ _ ?_)
 refine ASpec.call (fit_spec (l := k) (by unfold big; unfold lim at hk; omega) _) (Les.refl _) ⟨_, rfl, rfl, condBn (fun h1 => same 1 ?_) fun h1 => condD (fun h2 => same 1 ?_) fun h2 => ?_⟩
 ·rw [putI, if_pos (.inl h1)]
 ·rw [putI, if_pos (.inr (by omega))]
 refine ASpec.call (has_spec es k _ 0 1 (by omega) rfl rfl) (Les.refl _) ⟨_, rfl, rfl, condB (fun h3 => same 6 ?_) fun h3 => ?_⟩
 ·rw [putI, if_neg (by rw [h1]; simp; omega), if_pos h3]
 have hp : putI es k bs = (0, setM es (B k) (readK k bs)) := by rw [putI, if_neg (by rw [h1]; simp; omega), if_neg (by rw [h3]; simp)]
 rw [hp]
 cases hr : readK k bs with
 | some m =>
  refine ASpec.call (read_found (by omega) hr _) (Les.refl _) (.inl ⟨m, rfl, rfl, ⟨rfl, rfl⟩, ?_⟩)
  exact ⟨0, _, .typed EK (setM es (B k) (some m)), rfl, mle_put rfl, rfl, rfl⟩
 | none =>
  refine ASpec.call (read_broken (by omega) hr _) (Les.refl _) (.inr ⟨(), rfl, rfl, ⟨rfl, rfl⟩, ?_⟩)
  exact ⟨0, _, .typed EK (setM es (B k) none), rfl, mle_put rfl, rfl, rfl⟩
theorem put_spec (es : Kn) (k bs : List UInt8) (hk : k.length ≤ lim) (H : List AObj) (q p : Nat) (hqp : q ≠ p) (hq : H[q]? = some (.mp (.typed EK es))) (hp : H[p]? = some (.cells [.map q])) :
  ASpec Tryz.prog 40 [.ptr p 0, .str (B k), sl1 bs] H (fun r H' => r = .int .i64 (putI es k bs).1 ∧ H' = H.set q (.mp (.typed EK (putI es k bs).2))) :=
 liftX H q p hqp hq hp (put0 es k bs hk) rfl rfl
theorem okX_nil : OkX [] := fun k m h => by cases h
theorem okX_put {es : Kn} {k bs : List UInt8} (h : OkX es) : OkX (putI es k bs).2 := by
 unfold putI
 split
 ·exact h
 ·split
  ·exact h
  ·intro k' m hm
   simp only [findM_set] at hm
   split at hm
   ·have hm := Option.some.inj hm
    unfold readK at hm
    split at hm
    ·cases hm
    ·cases hm
     exact W.readM_ok bs
   ·exact h k' m hm
theorem find_none {es : Kn} {k : List UInt8} (h : hasI es k = false) : findM es (B k) = none := by
 unfold hasI at h
 cases hf : findM es (B k) with
 | none => rfl
 | some a => rw [hf] at h; cases h
abbrev slEn (l : List Ent) : AV := .sl 2 (.map encEn ([], []) l) .none
def largeF : List Ent → Bool
 | [] => false
 | x :: r => if 200 < x.1.length ∨ 9000 < x.2.length then true else largeF r
def largeD (l : List Ent) : Bool := if 30 < l.length then true else largeF l
theorem large4 {l : List Ent} {c : Bool} (hl : l.length ≤ 30) : ∀ (m i : Nat), m + i = l.length → largeF (l.drop i) = c →
  AWP Tryz.prog 29 0 c8_4 [(0, slEn l), (3, .int .i64 i)] [] (q8_2 0 (PB c)) := by
 intro m
 induction m with
 | zero =>
  intro i hm h
  refine v8_4 _ _ _ _ (condD (fun hc => by omega) fun _ => pb ?_)
  rw [List.drop_eq_nil_of_le (by omega)] at h
  exact h
 | succ m ih =>
  intro i hm h
  have hin : (0 : Int) ≤ (i : Int) ∧ (i : Int) < (l.length : Int) := ⟨by omega, by omega⟩
  rw [dropD l ([], []) i (by omega)] at h
  simp only [largeF] at h
  refine v8_4 _ _ _ _ (condD (fun hc => needJ hin ?_) fun hc => by omega)
  rw [Int.toNat_natCast]
  generalize l.getD i ([], []) = x at h ⊢
  rw [B_size]
  refine condD (fun h1 => pb ?_) fun h1 => needJ hin (condD (fun h2 => pb ?_) fun h2 => ?_)
  ·rw [if_pos (by omega)] at h; exact h
  ·rw [if_pos (by omega)] at h; exact h
  ·rw [if_neg (by omega)] at h
   rw [succ64 (by omega)]
   exact ih (i + 1) (by omega) h
theorem largeD_spec (l : List Ent) (H : List AObj) : ASpec Tryz.prog 8 [slEn l] H (fun r H' => r = .bool (largeD l) ∧ H' = H) := by
 have k : ASpec Tryz.prog 8 [slEn l] [] (fun r H' => r = .bool (largeD l) ∧ H' = []) := by
  refine ASpec.sel (s8 _ _ (condD (fun h => pb ?_) fun h => large4 (by omega) l.length 0 (by omega) ?_))
  ·rw [largeD, if_pos (by omega)]
  ·rw [largeD, if_neg (by omega)]; rfl
 exact ASpec.pureH H k _ _ rfl rfl
theorem largeF_ok : ∀ (l : List Ent), largeF l = false → ∀ x ∈ l, x.1.length ≤ 200 ∧ x.2.length ≤ 9000
 | [], _, n, hn => by simp at hn
 | x :: r, h, n, hn => by
  simp only [largeF] at h
  split at h
  ·cases h
  ·rcases List.mem_cons.1 hn with rfl | hn
   ·omega
   ·exact largeF_ok r h n hn
theorem largeD_ok {l : List Ent} (h : largeD l = false) : l.length ≤ 30 ∧ ∀ x ∈ l, x.1.length ≤ 200 ∧ x.2.length ≤ 9000 := by
 unfold largeD at h
 split at h
 ·cases h
 ·exact ⟨by omega, largeF_ok l h⟩
section
variable {l : List Ent}
end
end X
end

noncomputable section
open Go Go.Ab Go.Proofs V S T C
namespace W
section
variable {Post : AV → List AObj → Prop}
end
end W
end

noncomputable section
open Go Go.Ab Go.Proofs V S T C
open W (sl1 slS slN slR leNone cons_dec renS)
open Sp
namespace Sg
abbrev slI (l : List Int) : AV := .sl 1 (.map encI 0 l) .none
theorem rhas2 {l : List Span} (hs : ok l) {p : Int} {c : Bool} : ∀ (m i : Nat), m + i = l.length → hasS (l.drop i) p = c →
  AWP Tryz.prog 34 0 c119_2 [(0, slS l), (1, .int .i64 p), (5, .int .i64 i)] [] (q119_2 0 (PB c)) := by
 have hl := ok_len hs
 intro m
 induction m with
 | zero =>
  intro i hm h
  refine v119_2 _ _ _ _ _ (condD (fun hc => by omega) fun _ => pb ?_)
  rw [List.drop_eq_nil_of_le (by omega)] at h
  exact h
 | succ m ih =>
  intro i hm h
  have hin : (0 : Int) ≤ (i : Int) ∧ (i : Int) < (l.length : Int) := ⟨by omega, by omega⟩
  obtain ⟨r1, r2, r3, _⟩ := chkS_rise hs i (by omega)
  rw [dropD l (0, 0) i (by omega), hasS_cons] at h
  refine v119_2 _ _ _ _ _ (condD (fun hc => needJ hin ?_) fun hc => by omega)
  rw [Int.toNat_natCast]
  generalize l.getD i (0, 0) = x at h r1 r2 r3 ⊢
  refine condD (fun h1 => needJ hin (condD (fun h2 => condD (fun h3 => pb ?_) fun h3 => by omega) fun h2 => ?_)) fun h1 => ?_
  ·rw [inS_iff.2 ⟨h1, h2⟩, Bool.true_or] at h
   rw [← h, decide_eq_true (by omega)]
  ·rw [inS_false.2 (by omega), Bool.false_or] at h
   rw [suc64 (by omega)]
   exact ih (i + 1) (by omega) h
  ·rw [inS_false.2 (by omega), Bool.false_or] at h
   rw [suc64 (by omega)]
   exact ih (i + 1) (by omega) h
theorem rhas_spec (l : List Span) (p : Int) (hs : ok l) (H : List AObj) : ASpec Tryz.prog 119 [slS l, .int .i64 p] H (fun r H' => r = .bool (hasS l p) ∧ H' = H) :=
 ASpec.pureH (r0 := .bool (hasS l p)) H (ASpec.sel (s119 _ _ _ (rhas2 hs l.length 0 (by omega) rfl))) _ _ rfl rfl
def clip (p : Int) : Int := min (max p 0) 1000000000
def insS (p : Int) : List Int → List Int
 | [] => [p]
 | x :: r => if p ≤ x then (if p = x then p :: r else p :: x :: r) else x :: insS p r
theorem insS_len (p : Int) : ∀ l : List Int, (insS p l).length ≤ l.length + 1
 | [] => Nat.le_refl _
 | x :: r => by
  simp only [insS]
  repeat' split
  ·simp
  ·simp
  ·have := insS_len p r; simp; omega
theorem insS_mem (p q : Int) : ∀ l : List Int, q ∈ insS p l ↔ q = p ∨ q ∈ l
 | [] => by simp [insS]
 | x :: r => by
  simp only [insS]
  repeat' split
  ·rename_i h; subst h; simp
  ·simp
  ·simp only [List.mem_cons, insS_mem p q r]
   constructor
   ·rintro (h | h | h)
    ·exact .inr (.inl h)
    ·exact .inl h
    ·exact .inr (.inr h)
   ·rintro (h | h | h)
    ·exact .inr (.inl h)
    ·exact .inl h
    ·exact .inr (.inr h)
theorem insS_rise (p : Int) : ∀ l : List Int, l.Pairwise (· < ·) → (insS p l).Pairwise (· < ·)
 | [], _ => by simp [insS]
 | x :: r, h => by
  rw [List.pairwise_cons] at h
  simp only [insS]
  repeat' split
  ·rename_i h1 h2; subst h2
   rw [List.pairwise_cons]; exact h
  ·rename_i h1 h2
   rw [List.pairwise_cons, List.pairwise_cons]
   refine ⟨fun y hy => ?_, h⟩
   rcases List.mem_cons.1 hy with rfl | hy
   ·omega
   ·have := h.1 y hy; omega
  ·rename_i h1
   rw [List.pairwise_cons]
   refine ⟨fun y hy => ?_, insS_rise p r h.2⟩
   rcases (insS_mem p y r).1 hy with rfl | hy
   ·omega
   ·exact h.1 y hy
abbrev PI (R : List Int) : AV → List AObj → Prop := PA (slI R)
theorem renI (ρ : Nat → Nat) (x : Int) : renL ρ (encI x) = encI x := rfl
def restS (z : Bool) (p : Int) (l : List Int) : List Int := if z = true then l else insS p l
theorem put12 {p : Int} {o R : List Int} {z : Bool} (ho : o.length ≤ 100000000000) (h : o ++ restS z p [] = R) :
  AWP Tryz.prog 51 0 c192_12 [(1, .int .i64 p), (5, .sl 1 (.map encI 0 o) (.tok 0)), (6, .bool z)] [.tok] (q192_0 0 (PI R)) := by
 refine v192_12 _ _ _ _ _ (condBn (fun hz => needJ (by omega) ?_) fun hz => ?_)
 ·subst hz
  simp only [restS, Bool.false_eq_true, if_false, insS] at h
  subst h
  refine pa ?_
  exact Le.trans (leAppE (x := p) (Les.refl _)) (leNone renI)
 ·subst hz
  simp only [restS, if_true, List.append_nil] at h
  subst h
  exact pa (leNone renI)
theorem put5 {l : List Int} {p : Int} (hl : l.length ≤ 20000000000) {R : List Int} : ∀ (m i : Nat) (o : List Int) (z : Bool), m + i = l.length → o.length ≤ i + z.toNat → o ++ restS z p (l.drop i) = R →
  AWP Tryz.prog 51 0 c192_5 [(0, slI l), (1, .int .i64 p), (5, .sl 1 (.map encI 0 o) (.tok 0)), (6, .bool z), (7, .int .i64 i)] [.tok] (q192_2 0 (PI R)) := by
 intro m
 induction m with
 | zero =>
  intro i o z hm ho h
  have : z.toNat ≤ 1 := by cases z <;> simp
  rw [List.drop_eq_nil_of_le (by omega)] at h
  exact v192_5 _ _ _ _ _ _ _ (condD (fun hc => by omega) fun _ => put12 (by omega) h)
 | succ m ih =>
  intro i o z hm ho h
  have hz1 : z.toNat ≤ 1 := by cases z <;> simp
  have hin : (0 : Int) ≤ (i : Int) ∧ (i : Int) < (l.length : Int) := ⟨by omega, by omega⟩
  have eleven : ∀ (o : List Int) (z : Bool), o.length ≤ i + z.toNat → o ++ (l.getD i 0 :: restS z p (l.drop (i + 1))) = R → AWP Tryz.prog 51 0 c192_11 [(0, slI l), (1, .int .i64 p), (5, .sl 1 (.map encI 0 o) (.tok 0)), (6, .bool z), (7, .int .i64 i)] [.tok] (q192_5 0 (PI R)) := by
   intro o z ho h
   have hz1 : z.toNat ≤ 1 := by cases z <;> simp
   refine v192_11 _ _ _ _ _ _ _ (needJ hin (needJ (by omega) ?_))
   rw [suc64 (by omega), Int.toNat_natCast]
   refine AWP.shape [1] [(0, slI l), (1, .int .i64 p), (5, .sl 1 (.map encI 0 (o ++ [l.getD i 0])) (.tok 0)), (6, .bool z), (7, .int .i64 (i + 1 : Nat))] [.tok] (Sel.one 1 rfl rfl)
    ⟨rfl, Le.refl _, rfl, Le.refl _, rfl, ?_, rfl, Le.refl _, rfl, Le.refl _, trivial⟩ (ih (i + 1) _ z (by omega) (by simp; omega) (by rw [← h]; simp))
   exact W.leAppT renI rfl rfl
  rw [dropD l 0 i (by omega)] at h
  refine v192_5 _ _ _ _ _ _ _ (condD (fun _ => condBn (fun hz => needJ hin ?_) fun hz => ?_) fun hc => by omega)
  ·subst hz
   simp only [Bool.toNat_false, Nat.add_zero] at ho
   rw [Int.toNat_natCast]
   simp only [restS, Bool.false_eq_true, if_false, insS] at h
   refine condD (fun h1 => needJ (by omega) (needJ hin (condE (fun h2 => ?_) fun h2 => ?_))) fun h1 => ?_
   ·rw [if_pos h1, if_pos h2] at h
    rw [suc64 (by omega)]
    refine AWP.shape [1] [(0, slI l), (1, .int .i64 p), (5, .sl 1 (.map encI 0 (o ++ [p])) (.tok 0)), (6, .bool true), (7, .int .i64 (i + 1 : Nat))] [.tok] (Sel.one 1 rfl rfl)
     ⟨rfl, Le.refl _, rfl, Le.refl _, rfl, ?_, rfl, Le.refl _, rfl, Le.refl _, trivial⟩ (ih (i + 1) _ true (by omega) (by simp; omega) (by rw [← h]; simp [restS]))
    exact W.leAppT renI rfl rfl
   ·rw [if_pos h1, if_neg h2] at h
    refine AWP.shape [1] [(0, slI l), (1, .int .i64 p), (5, .sl 1 (.map encI 0 (o ++ [p])) (.tok 0)), (6, .bool true), (7, .int .i64 i)] [.tok] (Sel.one 1 rfl rfl)
     ⟨rfl, Le.refl _, rfl, Le.refl _, rfl, ?_, rfl, Le.refl _, rfl, Le.refl _, trivial⟩ (eleven _ true (by simp; omega) (by rw [← h]; simp [restS]))
    exact W.leAppT renI rfl rfl
   ·rw [if_neg h1] at h
    exact eleven o false (by simp; omega) (by rw [← h]; simp [restS])
  ·subst hz
   exact eleven o true ho (by rw [← h]; simp [restS])
theorem put_spec (l : List Int) (p : Int) (hl : l.length ≤ 20000000000) (H : List AObj) : ASpec Tryz.prog 192 [slI l, .int .i64 p] H (fun r H' => r = slI (insS (clip p) l) ∧ H' = H) := by
 have k : ASpec Tryz.prog 192 [slI l, .int .i64 p] [] (fun r H' => r = slI (insS (clip p) l) ∧ H' = []) := by
  have e : (if 1000000000 < (if 0 > p then 0 else p) then 1000000000 else if 0 > p then 0 else p) = clip p := by
   unfold clip
   rw [Int.max_def, Int.min_def]
   repeat' split
   all_goals omega
  refine ASpec.sel (s192 _ _ _ ?_)
  rw [e]
  refine AWP.re (ReSt.tok (H := []) (k := 5) (q' := .map encI 0 []) (sz' := 1) (s2 := [(0, slI l), (1, .int .i64 (clip p)), (5, .sl 1 (.map encI 0 []) (.tok 0)), (6, .bool false), (7, .int .i64 (0 : Nat))]) rfl (.inl rfl) rfl (.inr rfl) (fun d hd => ?_) rfl) ?_
  ·simp only [Ab.get]
   have e : Nat.beq 5 d = false := by
    cases hx : Nat.beq 5 d with
    | false => rfl
    | true => exact absurd (Nat.eq_of_beq_eq_true hx).symm hd
   rw [e]; rfl
  ·exact put5 hl l.length 0 [] false (by omega) (by simp) rfl
 exact ASpec.pureH H k _ _ rfl rfl
def cutF (l : List Int) : List Span → List Int
 | [] => l
 | s :: r => cutF (insS (clip s.2) (insS (clip s.1) l)) r
def cutsS (a b : List Span) : List Int := cutF (cutF [0, 1000000000] a) b
theorem cutF_len : ∀ (a : List Span) (l : List Int), (cutF l a).length ≤ l.length + 2 * a.length
 | [], l => by simp [cutF]
 | s :: r, l => by
  have h1 := cutF_len r (insS (clip s.2) (insS (clip s.1) l))
  have h2 := insS_len (clip s.2) (insS (clip s.1) l)
  have h3 := insS_len (clip s.1) l
  simp only [cutF, List.length_cons]; omega
theorem cuts7 {b : List Span} (hb : b.length ≤ 2000000000) {R : List Int} : ∀ (m i : Nat) (l : List Int), m + i = b.length → l.length ≤ 10000000000 + 2 * i → cutF l (b.drop i) = R →
  AWP Tryz.prog 48 0 c152_7 [(1, slS b), (5, slI l), (7, .int .i64 i)] [] (q152_4 0 (PI R)) := by
 intro m
 induction m with
 | zero =>
  intro i l hm hl h
  refine v152_7 _ _ _ _ _ (condD (fun hc => by omega) fun _ => pa ?_)
  rw [List.drop_eq_nil_of_le (by omega)] at h
  have h : l = R := h
  rw [h]; exact Le.refl _
 | succ m ih =>
  intro i l hm hl h
  have hin : (0 : Int) ≤ (i : Int) ∧ (i : Int) < (b.length : Int) := ⟨by omega, by omega⟩
  rw [dropD b (0, 0) i (by omega)] at h
  refine v152_7 _ _ _ _ _ (condD (fun _ => needJ hin (needJ hin ?_)) fun hc => by omega)
  rw [Int.toNat_natCast]
  generalize b.getD i (0, 0) = x at h ⊢
  have l1 := insS_len (clip x.1) l
  have l2 := insS_len (clip x.2) (insS (clip x.1) l)
  refine ASpec.call (put_spec l x.1 (by omega) _) (Les.refl _) ⟨_, rfl, rfl, ⟨rfl, rfl⟩, ?_⟩
  refine ASpec.call (put_spec _ x.2 (by omega) _) (Les.refl _) ⟨_, rfl, rfl, ?_⟩
  rw [suc64 (by omega)]
  exact ih (i + 1) _ (by omega) (by omega) h
theorem cuts3 {a b : List Span} (ha : a.length ≤ 2000000000) (hb : b.length ≤ 2000000000) {R : List Int} : ∀ (m i : Nat) (l : List Int), m + i = a.length → l.length ≤ 2 + 2 * i → cutF (cutF l (a.drop i)) b = R →
  AWP Tryz.prog 48 0 c152_3 [(0, slS a), (1, slS b), (5, slI l), (6, .int .i64 i)] [] (q152_2 0 (PI R)) := by
 intro m
 induction m with
 | zero =>
  intro i l hm hl h
  refine v152_3 _ _ _ _ _ _ (condD (fun hc => by omega) fun _ => v152_6 _ _ _ _ ?_)
  rw [List.drop_eq_nil_of_le (by omega)] at h
  exact cuts7 hb b.length 0 l (by omega) (by omega) h
 | succ m ih =>
  intro i l hm hl h
  have hin : (0 : Int) ≤ (i : Int) ∧ (i : Int) < (a.length : Int) := ⟨by omega, by omega⟩
  rw [dropD a (0, 0) i (by omega)] at h
  refine v152_3 _ _ _ _ _ _ (condD (fun _ => needJ hin (needJ hin ?_)) fun hc => by omega)
  rw [Int.toNat_natCast]
  generalize a.getD i (0, 0) = x at h ⊢
  have l1 := insS_len (clip x.1) l
  have l2 := insS_len (clip x.2) (insS (clip x.1) l)
  refine ASpec.call (put_spec l x.1 (by omega) _) (Les.refl _) ⟨_, rfl, rfl, ⟨rfl, rfl⟩, ?_⟩
  refine ASpec.call (put_spec _ x.2 (by omega) _) (Les.refl _) ⟨_, rfl, rfl, ?_⟩
  rw [suc64 (by omega)]
  exact ih (i + 1) _ (by omega) (by omega) h
theorem cuts_spec (a b : List Span) (ha : a.length ≤ 2000000000) (hb : b.length ≤ 2000000000) (H : List AObj) : ASpec Tryz.prog 152 [slS a, slS b] H (fun r H' => r = slI (cutsS a b) ∧ H' = H) := by
 have k : ASpec Tryz.prog 152 [slS a, slS b] [] (fun r H' => r = slI (cutsS a b) ∧ H' = []) := by
  refine ASpec.sel (s152 _ _ _ ?_)
  refine AWP.spell [(0, slS a), (1, slS b), (5, slI [0, 1000000000]), (6, .int .i64 (0 : Nat))] ⟨rfl, Le.refl _, rfl, Le.refl _, rfl, Le.sl rfl (.inl rfl) (.inr rfl), rfl, Le.refl _, trivial⟩ ?_
  exact cuts3 ha hb a.length 0 _ (by omega) (by simp) rfl
 exact ASpec.pureH H k _ _ rfl rfl
structure Good (l : List Int) : Prop where
 rise : l.Pairwise (· < ·)
 low : ∀ q ∈ l, 0 ≤ q ∧ q ≤ 1000000000
 zero : (0 : Int) ∈ l
 top : (1000000000 : Int) ∈ l
def Ends (a : List Span) (l : List Int) : Prop := ∀ s ∈ a, s.1 ∈ l ∧ s.2 ∈ l
theorem good0 : Good [0, 1000000000] := ⟨by simp, by simp, by simp, by simp⟩
theorem clip_in (p : Int) : 0 ≤ clip p ∧ clip p ≤ 1000000000 := by unfold clip; omega
theorem clip_id {p : Int} (h0 : 0 ≤ p) (h1 : p ≤ 1000000000) : clip p = p := by unfold clip; omega
theorem Good.ins {l : List Int} (h : Good l) (p : Int) : Good (insS (clip p) l) := by
 refine ⟨insS_rise _ _ h.rise, fun q hq => ?_, (insS_mem _ _ _).2 (.inr h.zero), (insS_mem _ _ _).2 (.inr h.top)⟩
 rcases (insS_mem _ _ _).1 hq with rfl | hq
 ·exact clip_in p
 ·exact h.low q hq
theorem cutF_good : ∀ (a : List Span) (l : List Int), Good l → Good (cutF l a)
 | [], l, h => h
 | s :: r, l, h => cutF_good r _ ((h.ins s.1).ins s.2)
theorem cutF_mem : ∀ (a : List Span) (l : List Int) (q : Int), q ∈ l → q ∈ cutF l a
 | [], l, q, h => h
 | s :: r, l, q, h => cutF_mem r _ q ((insS_mem _ _ _).2 (.inr ((insS_mem _ _ _).2 (.inr h))))
theorem cutF_ends : ∀ (a : List Span) (l : List Int) (e : Int), -1 ≤ e → chkS e a = true → Ends a (cutF l a)
 | [], l, e, _, _, s, hs => by simp at hs
 | x :: r, l, e, he, h, s, hs => by
  obtain ⟨h1, h2, h3, h4⟩ := chkS_cons h
  rcases List.mem_cons.1 hs with rfl | hs
  ·refine ⟨cutF_mem r _ _ ?_, cutF_mem r _ _ ?_⟩
   ·rw [clip_id (p := s.1) (by omega) (by omega)]
    exact (insS_mem _ _ _).2 (.inr ((insS_mem _ _ _).2 (.inl rfl)))
   ·rw [clip_id (p := s.2) (by omega) (by omega)]
    exact (insS_mem _ _ _).2 (.inl rfl)
  ·exact cutF_ends r _ x.2 (by omega) h4 s hs
theorem cuts_ends {a b : List Span} (ha : ok a) (hb : ok b) : Ends a (cutsS a b) ∧ Ends b (cutsS a b) := by
 refine ⟨fun s hs => ?_, cutF_ends b _ (-1) (by omega) hb⟩
 obtain ⟨h1, h2⟩ := cutF_ends a [0, 1000000000] (-1) (by omega) ha s hs
 exact ⟨cutF_mem b _ _ h1, cutF_mem b _ _ h2⟩
theorem cuts_good (a b : List Span) : Good (cutsS a b) := cutF_good b _ (cutF_good a _ good0)
theorem Good.lt {l : List Int} (h : Good l) {i j : Nat} (hi : i < j) (hj : j < l.length) : l.getD i 0 < l.getD j 0 := by
 have := List.pairwise_iff_getElem.1 h.rise i j (by omega) hj hi
 simpa [List.getD_eq_getElem?_getD, List.getElem?_eq_getElem (show i < l.length by omega), List.getElem?_eq_getElem hj] using this
theorem Good.mem {l : List Int} (h : Good l) {q : Int} (hq : q ∈ l) : ∃ i, i < l.length ∧ l.getD i 0 = q := by
 obtain ⟨i, hi, e⟩ := List.getElem_of_mem hq
 exact ⟨i, hi, by simp [List.getD_eq_getElem?_getD, List.getElem?_eq_getElem hi, e]⟩
theorem Good.first {l : List Int} (h : Good l) : 0 < l.length ∧ l.getD 0 0 = 0 := by
 obtain ⟨i, hi, e⟩ := h.mem h.zero
 have h0 := (h.low _ (memD l 0 0 (by omega))).1
 refine ⟨by omega, ?_⟩
 rcases Nat.eq_zero_or_pos i with rfl | hp
 ·exact e
 ·have := h.lt hp hi; omega
theorem Good.last {l : List Int} (h : Good l) : l.getD (l.length - 1) 0 = 1000000000 := by
 obtain ⟨i, hi, e⟩ := h.mem h.top
 have h0 := (h.low _ (memD l 0 (l.length - 1) (by omega))).2
 rcases Nat.lt_or_ge i (l.length - 1) with hp | hp
 ·have := h.lt hp (by omega); omega
 ·have : i = l.length - 1 := by omega
  rw [← this]; exact e
theorem ends_same {a : List Span} {l : List Int} (h : Good l) (he : Ends a l) {i : Nat} (hi : i + 1 < l.length) {q : Int} (h1 : l.getD i 0 ≤ q) (h2 : q < l.getD (i + 1) 0) : hasS a q = hasS a (l.getD i 0) := by
 have no : ∀ x ∈ l, x ≤ l.getD i 0 ∨ l.getD (i + 1) 0 ≤ x := by
  intro x hx
  obtain ⟨j, hj, e⟩ := h.mem hx
  rcases Nat.lt_trichotomy j i with hji | hji | hji
  ·have := h.lt hji (by omega); omega
  ·subst hji; omega
  ·rcases Nat.lt_or_ge (i + 1) j with hk | hk
   ·have := h.lt hk hj; omega
   ·have : j = i + 1 := by omega
    subst this; omega
 simp only [hasS]
 rw [Bool.eq_iff_iff, List.any_eq_true, List.any_eq_true]
 constructor
 ·rintro ⟨s, hs, hsq⟩
  rw [inS_iff] at hsq
  obtain ⟨e1, e2⟩ := he s hs
  have n1 := no _ e1
  have n2 := no _ e2
  exact ⟨s, hs, inS_iff.2 ⟨by omega, by omega⟩⟩
 ·rintro ⟨s, hs, hsq⟩
  rw [inS_iff] at hsq
  obtain ⟨e1, e2⟩ := he s hs
  have n1 := no _ e1
  have n2 := no _ e2
  exact ⟨s, hs, inS_iff.2 ⟨by omega, by omega⟩⟩
theorem told_spec (op : Int) (x y : Bool) (H : List AObj) : ASpec Tryz.prog 153 [.int .i64 op, .bool x, .bool y] H (fun r H' => r = .bool (if op = 0 then x || y else if op = 1 then x && y else !x) ∧ H' = H) := by
 have k : ASpec Tryz.prog 153 [.int .i64 op, .bool x, .bool y] [] (fun r H' => r = .bool (if op = 0 then x || y else if op = 1 then x && y else !x) ∧ H' = []) := by
  refine s153 _ _ _ _ (condE (fun h => ?_) fun h => condE (fun h1 => ?_) fun h1 => ?_)
  ·rw [if_pos h]; exact condB (fun h => by rw [h]; exact ⟨rfl, rfl⟩) fun h => by rw [h]; exact ⟨rfl, rfl⟩
  ·rw [if_neg h, if_pos h1]; exact condB (fun h => by rw [h]; exact ⟨rfl, rfl⟩) fun h => by rw [h]; exact ⟨rfl, rfl⟩
  ·rw [if_neg h, if_neg h1]; exact ⟨rfl, rfl⟩
 exact ASpec.pureH H k _ _ rfl rfl
def opF (op : Int) (a b : List Span) (p : Int) : Bool := if op = 0 then hasS a p || hasS b p else if op = 1 then hasS a p && hasS b p else !hasS a p
theorem op_same {op : Int} {a b : List Span} {l : List Int} (hg : Good l) (he : Ends a l ∧ Ends b l) {i : Nat} (hi : i + 1 < l.length) {q : Int} (h1 : l.getD i 0 ≤ q) (h2 : q < l.getD (i + 1) 0) : opF op a b q = opF op a b (l.getD i 0) := by
 simp only [opF]
 rw [ends_same hg he.1 hi h1 h2, ends_same hg he.2 hi h1 h2]
section
variable {op : Int} {a b : List Span} (ha : ok a) (hb : ok b) {l : List Int} (hg : Good l) (he : Ends a l ∧ Ends b l) (hl : l.length ≤ 10000000000)
include ha hb hg he hl
theorem do4m {R : List Span} (hR : ∀ o, Kept (opF op a b) 1000000000 o → o = R) : ∀ (m i : Nat) (o : List Span), m + i = l.length → i < l.length → Kept (opF op a b) (l.getD i 0) o →
  AWP Tryz.prog 81 0 c120_4 [(0, .int .i64 op), (1, slS a), (2, slS b), (7, .msl 2 0 0 o.length), (8, slI l), (9, .int .i64 i)] [arS o] (q120_2 0 (PA (slS R))) := by
 intro m
 induction m with
 | zero => intro i o hm hi hk; omega
 | succ m ih =>
  intro i o hm hi hk
  have hin : (0 : Int) ≤ (i : Int) ∧ (i : Int) < (l.length : Int) := ⟨by omega, by omega⟩
  have hol := ok_len hk.1
  refine v120_4m _ _ _ _ _ _ _ _ _ ?_
  rw [suc64 (by omega)]
  refine condD (fun hc => needJ hin (needJ hin ?_)) fun hc => ?_
  ·rw [Int.toNat_natCast]
   have hi2 : i + 1 < l.length := by omega
   have hlt : l.getD i 0 < l.getD (i + 1) 0 := hg.lt (Nat.lt_succ_self i) hi2
   have l0 := (hg.low _ (memD l 0 i (by omega))).1
   have l1 := (hg.low _ (memD l 0 (i + 1) hi2)).2
   refine ASpec.call (rhas_spec a _ ha _) (Les.refl _) ⟨_, rfl, rfl, ⟨rfl, rfl⟩, ?_⟩
   refine ASpec.call (rhas_spec b _ hb _) (Les.refl _) ⟨_, rfl, rfl, ?_⟩
   refine ASpec.call (told_spec op _ _ _) (Les.refl _) ⟨_, rfl, rfl, ?_⟩
   have hsame : ∀ q, l.getD i 0 ≤ q → q < l.getD (i + 1) 0 → opF op a b q = opF op a b (l.getD i 0) := fun q h1 h2 => op_same hg he hi2 h1 h2
   refine condBn (fun hf => ?_) fun hf => ?_
   ·have hf : opF op a b (l.getD i 0) = false := hf
    exact ih (i + 1) o (by omega) hi2 (kept_skip hk (by omega) (fun q h1 h2 => by rw [hsame q h1 h2]; exact hf))
   ·have hf : opF op a b (l.getD i 0) = true := hf
    have hk' := kept_put hk l0 hlt l1 (fun q h1 h2 => by rw [hsame q h1 h2]; exact hf)
    have nxt := ih (i + 1) (addS o (l.getD i 0, l.getD (i + 1) 0)) (by omega) hi2 hk'
    have hin2 : (0 : Int) ≤ ((i + 1 : Nat) : Int) ∧ ((i + 1 : Nat) : Int) < (l.length : Int) := ⟨by omega, by omega⟩
    have app : ¬ (0 < o.length ∧ l.getD i 0 ≤ (o.getD (o.length - 1) (0, 0)).2) → AWP Tryz.prog 81 0 c120_4 [(0, .int .i64 op), (1, slS a), (2, slS b), (7, .msl 2 1 0 (o.length + 1)), (8, slI l), (9, .int .i64 (i + 1 : Nat))]
      [.gone, .arr 2 (.app (.map encS (0, 0) o) (.raw [[.int .i64 (l.getD i 0), .int .i64 (l.getD (i + 1) 0)]]))] (q120_2 0 (PA (slS R))) := by
     intro hc
     have e : addS o (l.getD i 0, l.getD (i + 1) 0) = o ++ [(l.getD i 0, l.getD (i + 1) 0)] := by rw [addS, if_neg hc]
     rw [e] at nxt
     refine AWP.re (ReSt.arr (id := 1) (q' := .map encS (0, 0) (o ++ [(l.getD i 0, l.getD (i + 1) 0)])) rfl (by simp [Seq.toList]; rfl)) ?_
     refine AWP.shape [1] [(0, .int .i64 op), (1, slS a), (2, slS b), (7, .msl 2 0 0 (o ++ [(l.getD i 0, l.getD (i + 1) 0)]).length), (8, slI l), (9, .int .i64 (i + 1 : Nat))] [arS (o ++ [(l.getD i 0, l.getD (i + 1) 0)])] (Sel.one 1 rfl rfl)
      ⟨rfl, Le.refl _, rfl, Le.refl _, rfl, Le.refl _, rfl, ?_, rfl, Le.refl _, rfl, Le.refl _, trivial⟩ nxt
     rw [List.length_append]; exact Le.refl _
    refine v120_7m _ _ _ _ _ _ _ _ _ ?_
    rw [suc64 (by omega), Int.toNat_natCast, Int.toNat_natCast]
    refine condD (fun h => ?_) fun h => needJ hin (needJ hin2 (needJ ⟨rfl, by omega⟩ (app ?_)))
    ·by_cases hz : o.length = 0
     ·rw [hz] at h
      have : IntKind.wrap .i64 (((0 : Nat) : Int) - 1) = -1 := by rw [wrap64 (by omega) (by omega)]; rfl
      rw [this] at h; omega
     rw [pre64 (by omega) (by omega), Int.toNat_natCast, Nat.zero_add]
     have hlast : lastS (-1) o = (o.getD (o.length - 1) (0, 0)).2 := by
      conv => lhs; rw [split_last o (by omega)]
      exact lastS_append (-1) _ _ _
     have hle := hk.2.1
     refine needJ ⟨by omega, by omega⟩ (needJ (by omega) (needJ hin (condE (fun h2 => needJ ⟨by omega, by omega⟩ (needJ (by omega) (needJ hin2 (needJ ⟨by omega, by omega⟩ (needJ (by omega) ?_))))) fun h2 => needJ hin (needJ hin2 (needJ ⟨rfl, by omega⟩ (app ?_))))))
     ·have e : addS o (l.getD i 0, l.getD (i + 1) 0) = o.take (o.length - 1) ++ [((o.getD (o.length - 1) (0, 0)).1, l.getD (i + 1) 0)] := by
       rw [addS, if_pos ⟨by omega, by simp only; omega⟩]
       simp only
       rw [Int.max_eq_right (show (o.getD (o.length - 1) (0, 0)).2 ≤ l.getD (i + 1) 0 by omega)]
      have el : (addS o (l.getD i 0, l.getD (i + 1) 0)).length = o.length := by rw [e]; simp; omega
      have es : o.set (o.length - 1) ((o.getD (o.length - 1) (0, 0)).1, l.getD (i + 1) 0) = addS o (l.getD i 0, l.getD (i + 1) 0) := by
       rw [e, List.set_eq_take_append_cons_drop, if_pos (by omega), show o.length - 1 + 1 = o.length by omega, List.drop_length]
      rw [el] at nxt
      refine AWP.re (ReSt.arr (id := 0) (q' := .map encS (0, 0) (addS o (l.getD i 0, l.getD (i + 1) 0))) rfl ?_) nxt
      rw [← es]
      simp only [Seq.toList, List.map_set]
      rfl
     ·rintro ⟨_, h3⟩; omega
    ·rintro ⟨h3, _⟩
     rw [pre64 (by omega) (by omega)] at h; omega
  ·have hlast := hg.last
   have : i = l.length - 1 := by omega
   rw [this, hlast] at hk
   refine AWP.re (freezeS (by omega)) (AWP.shape [] [(7, slS o)] [] Sel.none ⟨rfl, Le.refl _, trivial⟩ (v120_11s _ _ _ (pa ?_)))
   rw [hR o hk]; exact Le.refl _
theorem do4n {R : List Span} (hR : ∀ o, Kept (opF op a b) 1000000000 o → o = R) : ∀ (m i : Nat), m + i = l.length → i < l.length → Kept (opF op a b) (l.getD i 0) [] →
  AWP Tryz.prog 81 0 c120_4 [(0, .int .i64 op), (1, slS a), (2, slS b), (7, .sl 0 (.raw []) .nil), (8, slI l), (9, .int .i64 i)] [] (q120_2 0 (PA (slS R))) := by
 intro m
 induction m with
 | zero => intro i hm hi hk; omega
 | succ m ih =>
  intro i hm hi hk
  have hin : (0 : Int) ≤ (i : Int) ∧ (i : Int) < (l.length : Int) := ⟨by omega, by omega⟩
  refine v120_4n _ _ _ _ _ _ _ ?_
  rw [suc64 (by omega)]
  refine condD (fun hc => needJ hin (needJ hin ?_)) fun hc => ?_
  ·rw [Int.toNat_natCast]
   have hi2 : i + 1 < l.length := by omega
   have hlt : l.getD i 0 < l.getD (i + 1) 0 := hg.lt (Nat.lt_succ_self i) hi2
   have l0 := (hg.low _ (memD l 0 i (by omega))).1
   have l1 := (hg.low _ (memD l 0 (i + 1) hi2)).2
   refine ASpec.call (rhas_spec a _ ha _) (Les.refl _) ⟨_, rfl, rfl, ⟨rfl, rfl⟩, ?_⟩
   refine ASpec.call (rhas_spec b _ hb _) (Les.refl _) ⟨_, rfl, rfl, ?_⟩
   refine ASpec.call (told_spec op _ _ _) (Les.refl _) ⟨_, rfl, rfl, ?_⟩
   have hsame : ∀ q, l.getD i 0 ≤ q → q < l.getD (i + 1) 0 → opF op a b q = opF op a b (l.getD i 0) := fun q h1 h2 => op_same hg he hi2 h1 h2
   refine condBn (fun hf => ?_) fun hf => ?_
   ·have hf : opF op a b (l.getD i 0) = false := hf
    exact ih (i + 1) (by omega) hi2 (kept_skip hk (by omega) (fun q h1 h2 => by rw [hsame q h1 h2]; exact hf))
   ·have hf : opF op a b (l.getD i 0) = true := hf
    have hk' := kept_put hk l0 hlt l1 (fun q h1 h2 => by rw [hsame q h1 h2]; exact hf)
    have nxt := do4m ha hb hg he hl hR m (i + 1) (addS [] (l.getD i 0, l.getD (i + 1) 0)) (by omega) hi2 hk'
    refine v120_7n _ _ _ _ _ _ _ ?_
    rw [suc64 (by omega), Int.toNat_natCast, Int.toNat_natCast]
    exact needJ hin (needJ ⟨by omega, by omega⟩ (needJ (by omega) (needJ (by omega) (AWP.re (ReSt.arr (id := 0) (q' := .map encS (0, 0) [(l.getD i 0, l.getD (i + 1) 0)]) rfl rfl) nxt))))
  ·have hlast := hg.last
   have : i = l.length - 1 := by omega
   rw [this, hlast] at hk
   refine v120_11n _ _ (pa ?_)
   rw [← hR [] hk]; exact leS0
end
theorem rdo_spec {op : Int} (a b : List Span) (ha : ok a) (hb : ok b) {R : List Span} (hR : ∀ o, Kept (opF op a b) 1000000000 o → o = R) (H : List AObj) : ASpec Tryz.prog 120 [.int .i64 op, slS a, slS b] H (fun r H' => r = slS R ∧ H' = H) := by
 have k : ASpec Tryz.prog 120 [.int .i64 op, slS a, slS b] [] (fun r H' => r = slS R ∧ H' = []) := by
  have h1 := ok_len ha
  have h2 := ok_len hb
  have h3 := cutF_len a [0, 1000000000]
  have h4 := cutF_len b (cutF [0, 1000000000] a)
  refine ASpec.sel (s120 _ _ _ _ (ASpec.call (cuts_spec a b (by omega) (by omega) _) (Les.refl _) ⟨_, rfl, rfl, ?_⟩))
  have hg := cuts_good a b
  refine do4n ha hb hg (cuts_ends ha hb) ?_ hR (cutsS a b).length 0 (by omega) hg.first.1 ?_
  ·unfold cutsS; simp only [List.length_cons, List.length_nil] at h3; omega
  ·rw [hg.first.2]; exact kept_nil _
 exact ASpec.pureH H k _ _ rfl rfl
theorem rmeet_spec (a b : List Span) (ha : ok a) (hb : ok b) (H : List AObj) : ASpec Tryz.prog 68 [slS a, slS b] H (fun r H' => r = slS (meetS a b) ∧ H' = H) := by
 have k : ASpec Tryz.prog 68 [slS a, slS b] [] (fun r H' => r = slS (meetS a b) ∧ H' = []) :=
  s68 _ _ _ (ASpec.call (rdo_spec (op := 1) a b ha hb (fun o ho => (meet_eq (a := a) (b := b) ho).symm) _) (Les.refl _) ⟨_, rfl, rfl, rfl, rfl⟩)
 exact ASpec.pureH H k _ _ rfl rfl
theorem same4 {a b : List Span} {c : Bool} (hl : a.length ≤ 2000000000) (he : a.length = b.length) : ∀ (m i : Nat), m + i = a.length → decide (a.drop i = b.drop i) = c →
  AWP Tryz.prog 26 0 C.c34_4 [(0, slS a), (1, slS b), (5, .int .i64 i)] [] (C.q34_2 0 (PB c)) := by
 intro m
 induction m with
 | zero =>
  intro i hm h
  refine C.v34_4 _ _ _ _ _ (condD (fun hc => by omega) fun _ => pb ?_)
  rw [List.drop_eq_nil_of_le (by omega), List.drop_eq_nil_of_le (by omega)] at h
  rw [← h]; simp
 | succ m ih =>
  intro i hm h
  rw [dropD a (0, 0) i (by omega), dropD b (0, 0) i (by omega), cons_dec] at h
  refine C.v34_4 _ _ _ _ _ (condD (fun hc => needJ ⟨by omega, by omega⟩ (needJ ⟨by omega, by omega⟩ ?_)) fun hc => by omega)
  rw [Int.toNat_natCast]
  generalize a.getD i (0, 0) = x at h ⊢
  generalize b.getD i (0, 0) = y at h ⊢
  have e : (x.1 == y.1 && (x.2 == y.2 && true)) = decide (x = y) := by
   obtain ⟨x1, x2⟩ := x
   obtain ⟨y1, y2⟩ := y
   rw [Bool.eq_iff_iff]; simp
  rw [e]
  refine condBn (fun h1 => pb ?_) fun h1 => ?_
  ·rw [h1, Bool.false_and] at h; exact h
  ·rw [h1, Bool.true_and] at h
   rw [suc64 (by omega)]
   exact ih (i + 1) (by omega) h
theorem same_spec (a b : List Span) (hl : a.length ≤ 2000000000) (H : List AObj) : ASpec Tryz.prog 34 [slS a, slS b] H (fun r H' => r = .bool (decide (a = b)) ∧ H' = H) := by
 have k : ASpec Tryz.prog 34 [slS a, slS b] [] (fun r H' => r = .bool (decide (a = b)) ∧ H' = []) := by
  refine ASpec.sel (C.s34 _ _ _ (condNe (fun h => pb ?_) fun h => same4 hl (by omega) a.length 0 (by omega) rfl))
  symm
  rw [decide_eq_false]
  rintro rfl; exact h rfl
 exact ASpec.pureH H k _ _ rfl rfl
end Sg
end

noncomputable section
namespace Go.Ab
def opsOf : Code → Array Oper
 | .region _ ops _ => ops
 | _ => #[]
def areg (P : Program) (cfg : Cfg) (c : Code) (s : Slots) (H : List AObj) (K : Slots → List AObj → Prop) : Prop := match c with
 | .region _ ops false => aops P cfg ops (List.range ops.size) s H K
 | .region _ ops true => adraw P cfg ops s H K
 | _ => False
section
variable {P : Program} {M : Mem} {loc : Locs} {H : List AObj} {w : World}
structure Kept (cfg : Cfg) (M : Mem) (loc : Locs) (H : List AObj) (w : World) (a a' : Act) (w' : World) (s' : Slots) (H' : List AObj) (M' : Mem) (loc' : Locs) : Prop where
 rel : Rel M' loc' H' w'
 srel : SRel M' w' loc' s' a'.tmps
 size : a'.tmps.size = cfg.N
 defers : a'.defers = a.defers
 step : Step M loc H w M' loc' H' w'
theorem areg_sound {cfg : Cfg} {c : Code} {s : Slots} {a : Act} {K : Slots → List AObj → Prop} {Q : Exit → Act → World → Prop} (h : areg P cfg c s H K) (ht : Tabs P M w) (hr : Rel M loc H w) (hs : SRel M w loc s a.tmps) (hN : a.tmps.size = cfg.N)
  (hq : ∀ a' w' s' H' M' loc', K s' H' → Kept cfg M loc H w a a' w' s' H' M' loc' → Q .normal a' w') : c.wpIn (FW none) 0 P Q a w := by
 unfold areg at h
 split at h
 case h_3 => exact h.elim
 case h_1 id ops => exact wpIn_region (aops_sound _ s a _ h ht hr hs hN fun a' s' H' M' loc' w' k1 k2 k3 k4 k5 k6 => hq a' w' s' H' M' loc' k1 ⟨k2, k3, k4, k5, k6⟩)
 case h_2 id ops => exact adraw_sound (cfg := cfg) h ht hr hs hN fun a' s' H' M' loc' w' k1 k2 k3 k4 k5 k6 => hq a' w' s' H' M' loc' k1 ⟨k2, k3, k4, k5, k6⟩
end
section
variable {P : Program}
theorem wpOpsIn_value {ops : Array Oper} {Q : Exit → Act → World → Prop} {i : Nat} {rest : List Nat} {a : Act} {w : World} {o : Oper} {v : Value} (ho : ops[i]? = some o) (hg : o.guard = none)
  (he : (execOp a.eval o).run P w = .ok (.value v) w) (h : wpOpsIn (FW none) 0 P ops Q rest (a.put o.dst v) w) : wpOpsIn (FW none) 0 P ops Q (i :: rest) a w := by
 rw [wpOpsIn_cons]
 unfold wpOpIn
 rw [ho]
 have hw : Region.wanted o (yielded ops a.tmps) = true := by simp [Region.wanted, hg]
 simp only
 rw [if_pos hw]
 refine ⟨fun _ _ => trivial, ?_⟩
 rw [show (FW none).round = none from rfl, Oper.semAt_none, he]
 exact h
theorem wpOpsIn_defer {ops : Array Oper} {Q : Exit → Act → World → Prop} {i : Nat} {rest : List Nat} {a : Act} {w : World} {o : Oper} {d : Deferred} (ho : ops[i]? = some o) (hg : o.guard = none)
  (he : (execOp a.eval o).run P w = .ok (.defer d) w) (h : wpOpsIn (FW none) 0 P ops Q rest ({ a with defers := d :: a.defers }.put o.dst undef) w) : wpOpsIn (FW none) 0 P ops Q (i :: rest) a w := by
 rw [wpOpsIn_cons]
 unfold wpOpIn
 rw [ho]
 have hw : Region.wanted o (yielded ops a.tmps) = true := by simp [Region.wanted, hg]
 simp only
 rw [if_pos hw]
 refine ⟨fun _ _ => trivial, ?_⟩
 rw [show (FW none).round = none from rfl, Oper.semAt_none, he]
 exact h
theorem wpOpsSIn_value {ops : Array Oper} {n : Nat} {Q : Exit → Act → List Frame → World → Prop} {i : Nat} {rest : List Nat} {a : Act} {cs : List Frame} {w : World} {o : Oper} {v : Value} (ho : ops[i]? = some o) (hg : o.guard = none)
  (he : (execOp a.eval o).run P w = .ok (.value v) w) (h : wpOpsSIn (FW none) n P ops Q rest (a.put o.dst v) cs w) : wpOpsSIn (FW none) n P ops Q (i :: rest) a cs w := by
 simp only [wpOpsSIn, ho]
 have hw : Region.wanted o (yielded ops a.tmps) = true := by simp [Region.wanted, hg]
 rw [if_pos hw, he]
 exact ⟨fun _ _ => trivial, h⟩
def recV (u : FrameMode) : Value := match u with
 | .panicking ({ v, recovered := false, goexit := false } :: _) => v
 | _ => .nilIface
def recU (u : FrameMode) : FrameMode := match u with
 | .panicking ({ v, recovered := false, goexit := false } :: older) => .panicking ({ v, recovered := true } :: older)
 | u => u
theorem wpOpsSIn_recover {ops : Array Oper} {n : Nat} {Q : Exit → Act → List Frame → World → Prop} {i : Nat} {rest : List Nat} {a : Act} {c : Frame} {cs : List Frame} {w : World} {o : Oper} (ho : ops[i]? = some o) (hg : o.guard = none)
  (hop : o.op = .call { callee := .builtin .recover, args := #[], argTypes := #[] }) (h : wpOpsSIn (FW none) n P ops Q rest (a.put o.dst (recV c.mode)) ({ c with mode := recU c.mode } :: cs) w) : wpOpsSIn (FW none) n P ops Q (i :: rest) a (c :: cs) w := by
 have he : (execOp a.eval o).run P w = .ok .recover w := by
  simp only [execOp, hop, resolve, pure_bind, invoke, builtin, Sem.run_bind, Sem.run_pure, Result.andThen_ok]
 simp only [wpOpsSIn, ho]
 have hw : Region.wanted o (yielded ops a.tmps) = true := by simp [Region.wanted, hg]
 rw [if_pos hw, he]
 refine ⟨fun _ _ => trivial, ?_⟩
 unfold recV recU at h
 simp only [recoverD]
 split
 ·rename_i v cs' hrec
  split at hrec
  ·rename_i vv older hm
   simp only [Option.some.injEq, Prod.mk.injEq] at hrec
   obtain ⟨rfl, rfl⟩ := hrec
   simp only [hm] at h
   exact h
  ·cases hrec
 ·rename_i hrec
  split at hrec
  ·cases hrec
  ·rename_i hne
   have e1 : (match c.mode with | .panicking ({ v, recovered := false, goexit := false } :: _) => v | _ => Value.nilIface) = .nilIface := by
    split
    ·rename_i vv older hm; exact (hne _ _ hm).elim
    ·rfl
   have e2 : ({ c with mode := (match c.mode with | .panicking ({ v, recovered := false, goexit := false } :: older) => FrameMode.panicking ({ v, recovered := true } :: older) | u => u) } : Frame) = c := by
    split
    ·rename_i vv older hm; exact (hne _ _ hm).elim
    ·rfl
   rw [e1, e2] at h
   exact h
theorem wpOpsIn_callX {ops : Array Oper} {Q : Exit → Act → World → Prop} {i : Nat} {rest : List Nat} {a : Act} {M : Mem} {loc : Locs} {H : List AObj} {w : World} {s : Slots} {dst : Option Tmp} {f : Operand} {args : Array Operand} {ts : Array TypeId} {type : TypeId} {pos : String} {after : Array Edge}
  {g : FuncId} {cap : List AV} {Post PX : AV → List AObj → Prop} (ho : ops[i]? = some ⟨dst, .call ⟨.value f, args, ts⟩, type, pos, after, none⟩) (hgf : ev s f = .fn g cap) (hp : plainFn P g = true)
  (hspec : ASpecX P g (args.toList.map (ev s) ++ cap) H Post PX) (ht : Tabs P M w) (hr : Rel M loc H w) (hs : SRel M w loc s a.tmps)
  (hret : ∀ v r H' M' loc' w', Post r H' → Rel M' loc' H' w' → VRel M' w' loc' r v → Step M loc H w M' loc' H' w' → wpOpsIn (FW none) 0 P ops Q rest (a.put dst v) w')
  (hpan : ∀ v r H' M' loc' w', PX r H' → Rel M' loc' H' w' → VRel M' w' loc' r v → Step M loc H w M' loc' H' w' → Q (.panic [{ v, recovered := false }]) a w') : wpOpsIn (FW none) 0 P ops Q (i :: rest) a w := by
 rw [wpOpsIn_cons]
 unfold wpOpIn
 rw [ho]
 have hw : Region.wanted ⟨dst, .call ⟨.value f, args, ts⟩, type, pos, after, none⟩ (yielded ops a.tmps) = true := by simp [Region.wanted]
 simp only
 rw [if_pos hw]
 have hf := vrel_ev hs f
 rw [hgf] at hf
 generalize hq : a.eval f = q at hf
 cases hf with
 | fn _ _ vs hvs hvr =>
 have hall := VRels.append (vrels_ev hs args) ⟨hvs, hvr⟩
 have hcalls := hspec M loc w _ ht hr hall
 unfold plainFn at hp
 split at hp
 case h_2 => cases hp
 case h_1 fnf hfn =>
 rw [Bool.and_eq_true] at hp
 have hname : (fnf.name == "runtime.NumGoroutine") = false := by simpa using hp.2
 have hbody : fnf.body.isNone = false := by
  cases hb : fnf.body with
  | none => rw [hb] at hp; simp at hp
  | some c => rfl
 have he : (execOp a.eval ⟨dst, .call ⟨.value f, args, ts⟩, type, pos, after, none⟩).run P w = .ok (.enter g (args.map a.eval ++ vs)) w := by
  simp only [execOp, resolve, hq, Deferred.ofValue, pure_bind, invoke, callFunc, Sem.run_bind, run_program, Result.andThen_ok, hfn, hname, hbody, Bool.false_eq_true, if_false, Sem.run_pure, Array.empty_append]
 refine ⟨fun _ _ => trivial, ?_⟩
 rw [show (FW none).round = none from rfl, Oper.semAt_none, he]
 refine ⟨fun h => by simp [FW] at h, (callsW hcalls).mono fun e w2 hh => ?_⟩
 rcases hh with ⟨v, r, H2, M2, loc2, rfl, hK, r1, r2, r3⟩ | ⟨v, r, H2, M2, loc2, rfl, hK, r1, r2, r3⟩
 ·exact hret v r H2 M2 loc2 w2 hK r1 r2 r3
 ·exact hpan v r H2 M2 loc2 w2 hK r1 r2 r3
end
end Go.Ab
end

noncomputable section
open Go Go.Ab Go.Proofs
namespace Go.Ab
def cInt : Codec Tryz.prog 3 Int := Codec.int .i64 Tryz.underlying3
def cStr : Codec Tryz.prog 9 ByteArray := Codec.str Tryz.underlying9
def cInts : Codec Tryz.prog 66 (List Int) := Codec.slice (sz := 1) cInt Tryz.underlying66 (by kernel_rfl) (by omega) (fun _ => rfl)
def cByte : Codec Tryz.prog 5 UInt8 where
 enc b := encB b
 ok _ := True
 dflt := 0
 opens := by
  intro H e w fuel cs x h
  obtain ⟨n, h1, h2⟩ := (Codec.int .u8 Tryz.underlying5).opens e w fuel cs x h
  have hn : 0 ≤ n ∧ n ≤ 255 := by simpa [Codec.int, Lit.wf, IntKind.min, IntKind.max, IntKind.signed, IntKind.bits] using h1
  refine ⟨UInt8.ofNat n.toNat, trivial, ?_⟩
  rw [← encB_ofNat hn.1 (by omega)]
  exact h2
def cBytes : Codec Tryz.prog 91 (List UInt8) := Codec.slice (sz := 1) cByte Tryz.underlying91 (by kernel_rfl) (by omega) (fun _ => rfl)
end Go.Ab
end

noncomputable section
open Go Go.Ab Go.Proofs
namespace Go.Ab
def cName : Codec Tryz.prog 9 (List UInt8) := cStr.iso (fun s => s.data.toList) (fun l => [.str ⟨l.toArray⟩]) (fun _ => True) (fun _ => rfl) (fun _ _ => trivial)
def cSpan : Codec Tryz.prog 100 T.Span :=
 (Codec.struct (n := 2) Tryz.underlying100 (FC.cons (k := 1) (n := 1) cInt rfl (by kernel_rfl) (FC.cons (k := 1) (n := 0) cInt rfl (by kernel_rfl) FC.nil)) (by kernel_rfl)).iso (fun x => (x.1, x.2.1)) T.encS (fun _ => True) (fun _ => rfl) (fun _ _ => trivial)
def cSpans : Codec Tryz.prog 59 (List T.Span) := Codec.slice (sz := 2) cSpan Tryz.underlying59 (by kernel_rfl) (by omega) (fun _ => rfl)
def cNeed : Codec Tryz.prog 96 T.Need :=
 (Codec.struct (n := 2) Tryz.underlying96 (FC.cons (k := 1) (n := 1) cName rfl (by kernel_rfl) (FC.cons (k := 1) (n := 0) cSpans rfl (by kernel_rfl) FC.nil)) (by kernel_rfl)).iso (fun x => (x.1, x.2.1)) T.encN (fun _ => True) (fun _ => rfl) (fun _ _ => trivial)
def cNeeds : Codec Tryz.prog 23 (List T.Need) := Codec.slice (sz := 2) cNeed Tryz.underlying23 (by kernel_rfl) (by omega) (fun _ => rfl)
end Go.Ab
end

noncomputable section
open Go Go.Ab Go.Proofs
namespace Go.Ab
def cEnt : Codec Tryz.prog 93 T.Ent :=
 (Codec.struct (n := 2) Tryz.underlying93 (FC.cons (k := 1) (n := 1) cName rfl (by kernel_rfl) (FC.cons (k := 1) (n := 0) cBytes rfl (by kernel_rfl) FC.nil)) (by kernel_rfl)).iso (fun x => (x.1, x.2.1)) T.encEn (fun _ => True) (fun _ => rfl) (fun _ _ => trivial)
def cEnts : Codec Tryz.prog 22 (List T.Ent) := Codec.slice (sz := 2) cEnt Tryz.underlying22 (by kernel_rfl) (by omega) (fun _ => rfl)
end Go.Ab
end

noncomputable section
open Go Go.Ab Go.Proofs
namespace Go.Ab
def cPk : Codec Tryz.prog 133 T.Pk :=
 (Codec.struct (n := 2) Tryz.underlying133 (FC.cons (k := 1) (n := 1) cName rfl (by kernel_rfl) (FC.cons (k := 1) (n := 0) cInt rfl (by kernel_rfl) FC.nil)) (by kernel_rfl)).iso (fun x => (x.1, x.2.1)) T.encPk (fun _ => True) (fun _ => rfl) (fun _ _ => trivial)
def cPks : Codec Tryz.prog 70 (List T.Pk) := Codec.slice (sz := 2) cPk Tryz.underlying70 (by kernel_rfl) (by omega) (fun _ => rfl)
def cCh : Codec Tryz.prog 77 T.Ch :=
 (Codec.struct (n := 2) Tryz.underlying77 (FC.cons (k := 1) (n := 1) cNeeds rfl (by kernel_rfl) (FC.cons (k := 1) (n := 0) cPks rfl (by kernel_rfl) FC.nil)) (by kernel_rfl)).iso (fun x => (x.1, x.2.1)) T.encCh (fun _ => True) (fun _ => rfl) (fun _ _ => trivial)
end Go.Ab
end

noncomputable section
namespace Go.Proofs.Facts
open Go Go.Proofs
theorem andT {a b : Bool} (h : a = true) (k : b = true) : (a && b) = true := by rw [h, k]; rfl
theorem laid : laidOutB Tryz.prog = true := by kernel_rfl
theorem mapsRowed : Go.mapsRowed Tryz.prog = true := by kernel_rfl
theorem stops : (Tryz.prog.stops == []) = true := by kernel_rfl
theorem stopKnobs : (Tryz.prog.stopKnobs == []) = true := by kernel_rfl
theorem heard : Tryz.prog.stopsHeard = true := by kernel_rfl
theorem may : Tryz.prog.mayEnter = true := by kernel_rfl
theorem lifted : (false == Tryz.prog.liftsFinal) = true := by kernel_rfl
theorem plain : (true == Tryz.prog.plainKeys) = true := by kernel_rfl
theorem made : (Tryz.prog.make == some .cut) = true := by kernel_rfl
theorem own : ownKnob Tryz.prog.godebug = none := by kernel_rfl
end Go.Proofs.Facts
end
