/- Q6: several of this proof's own texts, one behind the other: what each proves stands at its head. -/
import Derived.Test.YtbjcdgepclmmjaaQ5
import Derived.Test.YtbjcdgepclmmjaaQ4
import Derived.Test.YtbjcdgepclmmjaaA3
import Derived.Test.YtbjcdgepclmmjaaProg
import Derived.Test.YtbjcdgepclmmjaaChecked
import Derived.KernelRfl
import Derived.JoinedOf
section
/- Events out of bytes: the document's reader. -/

set_option linter.unusedVariables false
set_option linter.unusedSimpArgs false
set_option maxRecDepth 100000
open Go Go.Ab Go.Proofs V S T C
open W (sl1 slS slN dNeed dSpan dL dF dnumM_len dstrM_len dnumM_most dSpan_len dNeed_len dL_len Alike Sticks alikeL alikeNeed needR_p spanR_p dNeed_sticks dnumM_err dstrM_err listR listM listR_err leNone renN Inside)
open EB (s193 v193_4 v193_9 c193_4 c193_9 q193_2 q193_7 s74 v74_5 v74_11 v74_13 v74_15 v74_16 v74_18 c74_5 c74_11 c74_13 c74_15 c74_16 c74_18 q74_0 q74_2 q74_5 q74_7)
namespace E

/-! ### the document's model -/

def dG {α : Type} (one : List UInt8 → Int → α × List UInt8 × Int) : Nat → List UInt8 → Int → List α × List UInt8 × Int
  | 0, l, e => ([], l, e)
  | k + 1, l, e => if e = 0 then ((one l e).1 :: (dG one k (one l e).2.1 (one l e).2.2).1, (dG one k (one l e).2.1 (one l e).2.2).2) else ([], l, e)

theorem alikeG {α : Type} {bs : List UInt8} {one : Nat → Int → α × Nat × Int} {done : List UInt8 → Int → α × List UInt8 × Int} (h1 : ∀ p e, p ≤ bs.length → Alike bs (one p e) (done (bs.drop p) e)) (hin : Inside bs one) :
    ∀ (k p : Nat) (e : Int), p ≤ bs.length → Alike bs (listR one k p e) (dG done k (bs.drop p) e)
  | 0, p, e, hp => ⟨rfl, rfl, fun _ => rfl⟩
  | k + 1, p, e, hp => by
    by_cases he : e = 0
    · obtain ⟨a1, a2, a3⟩ := h1 p e hp
      obtain ⟨b1, b2, b3⟩ := alikeG h1 hin k (one p e).2.1 (one p e).2.2 (hin p e hp)
      simp only [listR, if_pos he, dG, a1, a2]
      refine ⟨b1, b2, fun h0 => ?_⟩
      have hz : (one p e).2.2 = 0 := by
        by_cases hz : (one p e).2.2 = 0
        · exact hz
        · simp only [listR_err hz] at h0
          exact h0
      show _ :: _ = _ :: _
      rw [a3 hz, b3 h0]
    · rw [listR_err he]
      simp only [dG, if_neg he]
      exact ⟨rfl, rfl, fun h => (he h).elim⟩

/-! ### the walk -/

section
variable {Post : AV → List AObj → Prop}

end
end E
end

section
/- Steps of a proof: which may be. -/

set_option linter.unusedVariables false
set_option linter.unusedSimpArgs false
set_option maxRecDepth 100000
open Go Go.Ab Go.Proofs V S T C
open Pf (s226 v226_2 v226_3 c226_2 c226_3 q226_0 s152 v152_3 v152_5 c152_3 c152_5 q152_0 s123 v123_4 c123_4 q123_2 s25 v25_4 c25_4 q25_2 s24 v24_4 c24_4 q24_2 s18 v18_4 c18_4 q18_2)
namespace Pr

instance decSt : DecidableEq St := fun a b => instDecidableEqProd a b
noncomputable abbrev agS (x : St) : AV := .agg (encSt x)
noncomputable abbrev slP (l : List St) : AV := .sl 6 (.map encSt noSt l) .none

/-- may a step be, of a number? -/
def mayM (x : St) (i : Int) : Bool := fitM x.2.1 &&
  (if x.1 = 1 ∨ x.1 = 2 then decide (x.2.2.2.1 = [] ∧ x.2.2.1 = 0 ∧ x.2.2.2.2.1 = 0 ∧ x.2.2.2.2.2 = 0)
   else if x.1 = 3 then fitM x.2.2.2.1 && decide (0 ≤ x.2.2.1 ∧ x.2.2.1 < 1000000000 ∧ x.2.2.2.2.1 = 0 ∧ x.2.2.2.2.2 = 0)
   else if x.1 = 4 then decide (x.2.2.2.1 = [] ∧ x.2.2.1 = 0 ∧ 0 ≤ x.2.2.2.2.1 ∧ x.2.2.2.2.1 < i ∧ 0 ≤ x.2.2.2.2.2 ∧ x.2.2.2.2.2 < i) else false)

def okS (x : St) : Prop := x.2.1.length ≤ lim ∧ x.2.2.2.1.length ≤ lim

theorem may3 {x : St} (hx : okS x) {i : Int} {p q : Bool} (hp : p = decide (x.2.2.2.1 = [] ∧ x.2.2.1 = 0)) (hq : q = decide (x.2.2.2.2.1 = 0 ∧ x.2.2.2.2.2 = 0)) :
    AWP Try.prog 85 0 c226_3 [(1, .int .i64 i), (2, .ptr 0 0), (5, .bool p), (6, .bool q)] [.cells (encSt x)] (q226_0 0 (PB (mayM x i))) := by
  obtain ⟨h1, h2⟩ := hx
  unfold lim at h1 h2
  obtain ⟨k, nm, v, to, a, b⟩ := x
  simp only at h1 h2 hp hq
  refine v226_3 _ _ _ _ _ _ ?_
  simp only
  repeat' (first
    | refine condE (fun _ => ?_) fun _ => ?_
    | refine condD (fun _ => ?_) fun _ => ?_
    | refine ASpec.call (fit_spec (l := nm) (by unfold big; omega) _) (Les.refl _) ⟨_, rfl, rfl, ?_⟩
    | refine ASpec.call (fit_spec (l := to) (by unfold big; omega) _) (Les.refl _) ⟨_, rfl, rfl, ?_⟩
    | refine condB (fun _ => ?_) fun _ => ?_)
  all_goals (refine pb ?_; simp_all [mayM])
  all_goals first | (intros; omega) | skip
  rename_i h
  rw [Bool.eq_iff_iff]
  simp only [Bool.and_eq_true, decide_eq_true_eq]
  by_cases hab : a < b
  · rw [if_pos hab]; rw [if_neg (by omega)] at h; omega
  · rw [if_neg hab]
    by_cases hba : b < a
    · rw [if_pos hba] at h; omega
    · rw [if_neg hba] at h; omega

theorem may_spec (x : St) (hx : okS x) (i : Int) (H : List AObj) : ASpec Try.prog 226 [agS x, .int .i64 i] H (fun r H' => r = .bool (mayM x i) ∧ H' = H) := by
  have k : ASpec Try.prog 226 [agS x, .int .i64 i] [] (fun r H' => r = .bool (mayM x i) ∧ H' = []) := by
    have m2 : ∀ p, p = decide (x.2.2.2.1 = [] ∧ x.2.2.1 = 0) → AWP Try.prog 85 0 c226_2 [(1, .int .i64 i), (2, .ptr 0 0), (5, .bool p)] [.cells (encSt x)] (q226_0 0 (PB (mayM x i))) := fun p hp =>
      v226_2 _ _ _ _ _ (condE (fun h => may3 hx hp (by rw [Bool.eq_iff_iff]; simp [h])) fun h => may3 hx hp (by simp [h]))
    exact ASpec.sel (s226 _ _ _ (condS (b := []) (fun h => m2 _ (by rw [Bool.eq_iff_iff]; simp [h])) fun h => m2 _ (by simp [h])))
  exact ASpec.pureH H k _ _ rfl rfl

theorem rmay5 {x : St} {i : Int} {c : Bool} (hc : c = (if x.1 = 4 then decide (0 ≤ x.2.2.2.2.1 ∧ x.2.2.2.2.1 < i ∧ 0 ≤ x.2.2.2.2.2 ∧ x.2.2.2.2.2 < i) else decide (x.2.2.2.2.1 = 0 ∧ x.2.2.2.2.2 = 0))) :
    AWP Try.prog 80 0 c152_5 [(1, .int .i64 i), (2, .ptr 0 0)] [.cells (encSt x)] (q152_0 0 (PB c)) := by
  obtain ⟨k, nm, v, to, a, b⟩ := x
  simp only at hc
  refine v152_5 _ _ _ _ ?_
  simp only
  repeat' (first
    | refine condE (fun _ => ?_) fun _ => ?_
    | refine condD (fun _ => ?_) fun _ => ?_)
  all_goals (refine pb ?_; subst hc; simp_all)
  all_goals first | (intros; omega) | (rw [Bool.eq_iff_iff]; simp)

theorem rmay3 {x : St} (hx : okS x) {i : Int} (h4 : 1 ≤ x.1 ∧ x.1 ≤ 4) (hf : fitM x.2.1 = true) :
    AWP Try.prog 80 0 c152_3 [(1, .int .i64 i), (2, .ptr 0 0)] [.cells (encSt x)] (q152_0 0 (PB (mayM x i))) := by
  obtain ⟨h1, h2⟩ := hx
  unfold lim at h1 h2
  obtain ⟨k, nm, v, to, a, b⟩ := x
  simp only at h1 h2 h4 hf
  refine v152_3 _ _ _ _ ?_
  simp only
  repeat' (first
    | refine condE (fun _ => ?_) fun _ => ?_
    | refine condNe (fun _ => ?_) fun _ => ?_
    | refine condSn (b := []) (fun _ => ?_) fun _ => ?_
    | refine ASpec.call (rfit_spec (l := to) (by unfold big; omega) _) (Les.refl _) ⟨_, rfl, rfl, ?_⟩
    | refine ASpec.call (verFit_spec v _) (Les.refl _) ⟨_, rfl, rfl, ?_⟩
    | refine condBn (fun _ => ?_) fun _ => ?_
    | (refine pb ?_; simp_all [mayM]; done)
    | refine rmay5 (x := (k, nm, v, to, a, b)) ?_)
  all_goals (simp_all [mayM])
  · refine pb ?_
    rename_i h
    by_cases h0 : 0 ≤ v
    · have := h h0
      simp [show ¬ v < 1000000000 by omega]
    · simp [h0]
  · rename_i h3 _ _
    rcases (show k = 1 ∨ k = 2 ∨ k = 4 by omega) with rfl | rfl | rfl <;> simp

theorem rmay_spec (x : St) (hx : okS x) (i : Int) (H : List AObj) : ASpec Try.prog 152 [agS x, .int .i64 i] H (fun r H' => r = .bool (mayM x i) ∧ H' = H) := by
  have hx' := hx
  obtain ⟨h1, h2⟩ := hx'
  unfold lim at h1 h2
  have k : ASpec Try.prog 152 [agS x, .int .i64 i] [] (fun r H' => r = .bool (mayM x i) ∧ H' = []) := by
    refine ASpec.sel (s152 _ _ _ (condD (fun h => pb ?_) fun h => condD (fun h' => pb ?_) fun h' => ASpec.call (rfit_spec (l := x.2.1) (by unfold big; omega) _) (Les.refl _) ⟨_, rfl, rfl, condBn (fun hf => pb ?_) fun hf => rmay3 hx (by omega) hf⟩))
    · simp [mayM, show ¬ (x.1 = 1 ∨ x.1 = 2) by omega, show ¬ x.1 = 3 by omega, show ¬ x.1 = 4 by omega]
    · simp [mayM, show ¬ (x.1 = 1 ∨ x.1 = 2) by omega, show ¬ x.1 = 3 by omega, show ¬ x.1 = 4 by omega]
    · simp [mayM, hf]
  exact ASpec.pureH H k _ _ rfl rfl

/-- may each step be, of its number? -/
def chkF (i : Nat) : List St → Bool
  | [] => true
  | x :: r => mayM x i && chkF (i + 1) r
def checkM (l : List St) : Bool := decide (1 ≤ l.length ∧ l.length ≤ 1048576) && chkF 0 l

theorem check4 {l : List St} {c : Bool} (hl : l.length ≤ 1048576) (hk : ∀ x ∈ l, okS x) : ∀ (m i : Nat), m + i = l.length → chkF i (l.drop i) = c →
    AWP Try.prog 25 0 c123_4 [(13, slP l), (14, .int .i64 l.length), (15, .int .i64 i)] [] (q123_2 0 (PB c)) := by
  intro m
  induction m with
  | zero =>
    intro i hm h
    refine v123_4 _ _ _ _ _ (condD (fun hc => by omega) fun _ => pb ?_)
    rw [List.drop_eq_nil_of_le (by omega)] at h
    exact h
  | succ m ih =>
    intro i hm h
    have hx := hk _ (memD l noSt i (by omega))
    rw [dropD l noSt i (by omega)] at h
    simp only [chkF] at h
    refine v123_4 _ _ _ _ _ (condD (fun hc => needJ ⟨by omega, by omega⟩ ?_) fun hc => by omega)
    rw [Int.toNat_natCast]
    generalize l.getD i noSt = x at h hx ⊢
    refine ASpec.call (may_spec x hx i _) (Les.refl _) ⟨_, rfl, rfl, condBn (fun h1 => pb ?_) fun h1 => ?_⟩
    · rw [h1] at h; exact h
    · rw [h1, Bool.true_and] at h
      rw [succ64 (by omega)]
      exact AWP.shape [] [(13, slP l), (14, .int .i64 l.length), (15, .int .i64 (i + 1 : Nat))] [] Sel.none ⟨rfl, Le.refl _, rfl, Le.refl _, rfl, Le.refl _, trivial⟩ (ih (i + 1) (by omega) h)

theorem check_spec (l : List St) (hl : l.length ≤ maxLen) (hk : ∀ x ∈ l, okS x) (H : List AObj) : ASpec Try.prog 123 [slP l] H (fun r H' => r = .bool (checkM l) ∧ H' = H) := by
  have k : ASpec Try.prog 123 [slP l] [] (fun r H' => r = .bool (checkM l) ∧ H' = []) := by
    refine ASpec.sel (s123 _ _ (condE (fun h => pb ?_) fun h => condD (fun h1 => pb ?_) fun h1 => check4 (by omega) hk l.length 0 (by omega) ?_))
    · simp [checkM, show ¬ 1 ≤ l.length by omega]
    · simp [checkM, show ¬ l.length ≤ 1048576 by omega]
    · simp [checkM, show 1 ≤ l.length by omega, show l.length ≤ 1048576 by omega]
  exact ASpec.pureH H k _ _ rfl rfl

theorem rcheck4 {l : List St} {c : Bool} (hl : l.length ≤ 1048576) (hk : ∀ x ∈ l, okS x) : ∀ (m i : Nat), m + i = l.length → (chkF i (l.drop i) && decide (1 ≤ l.length)) = c →
    AWP Try.prog 23 0 c25_4 [(0, slP l), (3, .int .i64 i)] [] (q25_2 0 (PB c)) := by
  intro m
  induction m with
  | zero =>
    intro i hm h
    refine v25_4 _ _ _ _ (condD (fun hc => by omega) fun _ => pb ?_)
    rw [List.drop_eq_nil_of_le (by omega)] at h
    rw [← h, Bool.eq_iff_iff]
    simp only [chkF, Bool.true_and, decide_eq_true_eq]; omega
  | succ m ih =>
    intro i hm h
    have hx := hk _ (memD l noSt i (by omega))
    rw [dropD l noSt i (by omega)] at h
    simp only [chkF] at h
    refine v25_4 _ _ _ _ (condD (fun hc => needJ ⟨by omega, by omega⟩ ?_) fun hc => by omega)
    rw [Int.toNat_natCast]
    generalize l.getD i noSt = x at h hx ⊢
    refine ASpec.call (rmay_spec x hx i _) (Les.refl _) ⟨_, rfl, rfl, condBn (fun h1 => pb ?_) fun h1 => ?_⟩
    · rw [h1] at h; exact h
    · rw [h1, Bool.true_and] at h
      rw [succ64 (by omega)]
      exact ih (i + 1) (by omega) h

theorem rcheck_spec (l : List St) (hl : l.length ≤ maxLen) (hk : ∀ x ∈ l, okS x) (H : List AObj) : ASpec Try.prog 25 [slP l] H (fun r H' => r = .bool (checkM l) ∧ H' = H) := by
  have k : ASpec Try.prog 25 [slP l] [] (fun r H' => r = .bool (checkM l) ∧ H' = []) := by
    refine ASpec.sel (s25 _ _ (condD (fun h1 => pb ?_) fun h1 => rcheck4 (by omega) hk l.length 0 (by omega) ?_))
    · simp [checkM, show ¬ l.length ≤ 1048576 by omega]
    · simp only [checkM, List.drop_zero]
      rw [Bool.eq_iff_iff]
      simp only [Bool.and_eq_true, decide_eq_true_eq]
      constructor
      · rintro ⟨a, b⟩; exact ⟨⟨b, by omega⟩, a⟩
      · rintro ⟨a, b⟩; exact ⟨b, a.1⟩
  exact ASpec.pureH H k _ _ rfl rfl

theorem same4 {a b : List St} {c : Bool} (hl : a.length ≤ 2000000) (he : a.length = b.length) : ∀ (m i : Nat), m + i = a.length → decide (a.drop i = b.drop i) = c →
    AWP Try.prog 26 0 c24_4 [(0, slP a), (1, slP b), (5, .int .i64 i)] [] (q24_2 0 (PB c)) := by
  intro m
  induction m with
  | zero =>
    intro i hm h
    refine v24_4 _ _ _ _ _ (condD (fun hc => by omega) fun _ => pb ?_)
    rw [List.drop_eq_nil_of_le (by omega), List.drop_eq_nil_of_le (by omega)] at h
    rw [← h]; rfl
  | succ m ih =>
    intro i hm h
    rw [dropD a noSt i (by omega), dropD b noSt i (by omega), W.cons_dec] at h
    refine v24_4 _ _ _ _ _ (condD (fun hc => needJ ⟨by omega, by omega⟩ (needJ ⟨by omega, by omega⟩ ?_)) fun hc => by omega)
    rw [Int.toNat_natCast]
    generalize a.getD i noSt = x at h ⊢
    generalize b.getD i noSt = y at h ⊢
    rw [B_beq, B_beq]
    have e : (x.1 == y.1 && (x.2.1 == y.2.1 && (x.2.2.1 == y.2.2.1 && (x.2.2.2.1 == y.2.2.2.1 && (x.2.2.2.2.1 == y.2.2.2.2.1 && x.2.2.2.2.2 == y.2.2.2.2.2))))) = decide (x = y) := by
      rw [Bool.eq_iff_iff]
      simp only [Bool.and_eq_true, beq_iff_eq, decide_eq_true_eq, Prod.ext_iff]
    refine condBn (fun h1 => pb ?_) fun h1 => ?_
    · have h2 : decide (x = y) = false := by rw [← e]; simpa using h1
      rw [h2] at h; exact h
    · have h2 : decide (x = y) = true := by rw [← e]; simpa using h1
      rw [h2, Bool.true_and] at h
      rw [succ64 (by omega)]
      exact ih (i + 1) (by omega) h

theorem rsame_spec (a b : List St) (hl : a.length ≤ 2000000) (H : List AObj) : ASpec Try.prog 24 [slP a, slP b] H (fun r H' => r = .bool (decide (a = b)) ∧ H' = H) := by
  have k : ASpec Try.prog 24 [slP a, slP b] [] (fun r H' => r = .bool (decide (a = b)) ∧ H' = []) := by
    refine ASpec.sel (s24 _ _ _ (condNe (fun h => pb ?_) fun h => same4 hl (by omega) a.length 0 (by omega) (by simp)))
    rw [eq_comm, decide_eq_false_iff_not]
    intro e; subst e; exact h rfl
  exact ASpec.pureH H k _ _ rfl rfl

/-! ### how much is looked at -/

def largeF : List St → Bool
  | [] => false
  | x :: r => if 100 < x.2.1.length ∨ 100 < x.2.2.2.1.length then true else largeF r
def largeM (l : List St) : Bool := if (300 < l.length ∧ l.length ≤ 1048576) ∨ 1048586 < l.length then true else largeF l

theorem large4 {l : List St} {c : Bool} (hl : l.length ≤ 1048586) : ∀ (m i : Nat), m + i = l.length → largeF (l.drop i) = c →
    AWP Try.prog 39 0 c18_4 [(0, slP l), (3, .int .i64 i)] [] (q18_2 0 (PB c)) := by
  intro m
  induction m with
  | zero =>
    intro i hm h
    refine v18_4 _ _ _ _ (condD (fun hc => by omega) fun _ => pb ?_)
    rw [List.drop_eq_nil_of_le (by omega)] at h
    exact h
  | succ m ih =>
    intro i hm h
    rw [dropD l noSt i (by omega)] at h
    simp only [largeF] at h
    refine v18_4 _ _ _ _ (condD (fun hc => needJ ⟨by omega, by omega⟩ ?_) fun hc => by omega)
    rw [Int.toNat_natCast]
    generalize l.getD i noSt = x at h ⊢
    rw [B_size, B_size]
    refine condD (fun h1 => pb ?_) fun h1 => needJ ⟨by omega, by omega⟩ (condD (fun h2 => pb ?_) fun h2 => ?_)
    · rw [if_pos (.inl (by omega))] at h; exact h
    · rw [if_pos (.inr (by omega))] at h; exact h
    · rw [if_neg (by omega)] at h
      rw [succ64 (by omega)]
      exact ih (i + 1) (by omega) h

theorem large_spec (l : List St) (H : List AObj) : ASpec Try.prog 18 [slP l] H (fun r H' => r = .bool (largeM l) ∧ H' = H) := by
  have k : ASpec Try.prog 18 [slP l] [] (fun r H' => r = .bool (largeM l) ∧ H' = []) := by
    refine ASpec.sel (s18 _ _ (condD (fun h1 => condD (fun h2 => pb ?_) fun h2 => condD (fun h3 => pb ?_) fun h3 => large4 (by omega) l.length 0 (by omega) ?_) fun h1 => condD (fun h3 => pb ?_) fun h3 => large4 (by omega) l.length 0 (by omega) ?_))
    · rw [largeM, if_pos (by omega)]
    · rw [largeM, if_pos (by omega)]
    · rw [largeM, if_neg (by omega)]; rfl
    · rw [largeM, if_pos (by omega)]
    · rw [largeM, if_neg (by omega)]; rfl
  exact ASpec.pureH H k _ _ rfl rfl

theorem largeF_ok : ∀ (l : List St), largeF l = false → ∀ x ∈ l, x.2.1.length ≤ 100 ∧ x.2.2.2.1.length ≤ 100
  | [], _, n, hn => by simp at hn
  | x :: r, h, n, hn => by
    simp only [largeF] at h
    split at h
    · cases h
    · rcases List.mem_cons.1 hn with rfl | hn
      · omega
      · exact largeF_ok r h n hn

theorem largeM_ok {l : List St} (h : largeM l = false) : (l.length ≤ 300 ∨ 1048576 < l.length) ∧ l.length ≤ 1048586 ∧ ∀ x ∈ l, okS x := by
  unfold largeM at h
  split at h
  · cases h
  · refine ⟨by omega, by omega, fun x hx => ?_⟩
    have := largeF_ok l h x hx
    unfold okS lim; omega

end Pr
end

section
/- EventBytes: the bytes of any events, and the events of any bytes, or what is wrong first, are the document's: the law's function returns true. -/

set_option linter.unusedVariables false
set_option linter.unusedSimpArgs false
set_option maxRecDepth 100000
open Go Go.Ab Go.Proofs V S T C
open W (sl1 slS slN numB text spanB needB lenL leTwo leTok put1M put2M numB_len text_len flat_len cons_dec leNone)
open EB (s416 v416_3 v416_7 c416_3 c416_7 q416_2 q416_6 s417 s418 s195 v195_5 v195_10 v195_13 v195_15 c195_5 c195_10 c195_13 c195_15 q195_0 q195_2 q195_6 s75 v75_5 c75_5 q75_2 s76 v76_4 c76_4 q76_2 s9 v9_8 c9_8 q9_0 s73 v73_4 v73_7 c73_4 c73_7 q73_0 q73_2 s192)
namespace E

section
variable {Post : AV → List AObj → Prop}

/-! ### what is put -/

/-! ### what is read -/

end
end E
end

section
/- Steps of a proof: what is read of bytes, and the bytes of what may be. -/

set_option linter.unusedVariables false
set_option linter.unusedSimpArgs false
set_option maxRecDepth 100000
open Go Go.Ab Go.Proofs V S T C
open W (sl1 slS slN numB text spanB needB lenL leTwo leTok put1M put2M numB_len text_len flat_len cons_dec leNone listR listM Inside listR_p listM_p listR_len listM_len listR_all numM_p strM_p numM_most strM_len Back Canon num_back text_back listM_back listM_canon num_canon text_canon closeM_zero Alike dnumM_err dstrM_err dnumM_len dstrM_len dnumM_most)
open E (dG alikeG)
open Pf (s21 v21_4 v21_12 v21_13 c21_4 c21_12 c21_13 q21_0 q21_2 q21_5 s22 v22_5 v22_11 v22_14 v22_15 c22_5 c22_11 c22_14 c22_15 q22_0 q22_2 q22_5)
namespace Pr

/-! ### the model -/

def stK (bs : List UInt8) (k : Int) (nm : List UInt8) (p : Nat) (e : Int) : St × Nat × Int :=
  if k = 3 then ((k, nm, (numM bs p e 1000000000).1, (strM bs (numM bs p e 1000000000).2.1 (numM bs p e 1000000000).2.2 24).1, 0, 0), (strM bs (numM bs p e 1000000000).2.1 (numM bs p e 1000000000).2.2 24).2)
  else if k = 4 then ((k, nm, 0, [], (numM bs p e 1048576).1, (numM bs (numM bs p e 1048576).2.1 (numM bs p e 1048576).2.2 1048576).1), (numM bs (numM bs p e 1048576).2.1 (numM bs p e 1048576).2.2 1048576).2)
  else ((k, nm, 0, [], 0, 0), p, e)

def stN (bs : List UInt8) (k : Int) (p : Nat) (e : Int) : St × Nat × Int := stK bs k (strM bs p e 24).1 (strM bs p e 24).2.1 (strM bs p e 24).2.2
def stR (bs : List UInt8) (p : Nat) (e : Int) : St × Nat × Int := stN bs (numM bs p e 4).1 (numM bs p e 4).2.1 (numM bs p e 4).2.2

def endP (l : List St) (c : Int) : List St × Int := if c ≠ 0 then ([], c) else if checkM l = true then (l, 0) else ([], 3)
def stsR (bs : List UInt8) : List St × Nat × Int := listM (stR bs) bs 0 0 1048576
def readP (bs : List UInt8) : List St × Int := endP (stsR bs).1 (closeM (stsR bs).2.2 (bs.length - (stsR bs).2.1))

theorem stK_p {bs : List UInt8} {k : Int} {nm : List UInt8} {p : Nat} {e : Int} (hp : p ≤ bs.length) : (stK bs k nm p e).2.1 ≤ bs.length := by
  unfold stK
  split
  · exact strM_p (numM_p hp)
  · split
    · exact numM_p (numM_p hp)
    · exact hp
theorem stR_p (bs : List UInt8) : Inside bs (stR bs) := fun p e hp => stK_p (strM_p (numM_p hp))
theorem stsR_p (bs : List UInt8) : (stsR bs).2.1 ≤ bs.length := listM_p (stR_p bs) (Nat.zero_le _)

theorem stK_ok (bs : List UInt8) (k : Int) (nm : List UInt8) (p : Nat) (e : Int) (hn : nm.length ≤ 24) : okS (stK bs k nm p e).1 := by
  unfold okS stK lim
  split
  · have := strM_len bs (numM bs p e 1000000000).2.1 (numM bs p e 1000000000).2.2 24 (by omega)
    simp only; omega
  · split <;> (simp; omega)
theorem stR_ok (bs : List UInt8) (p : Nat) (e : Int) : okS (stR bs p e).1 := by
  have := strM_len bs (numM bs p e 4).2.1 (numM bs p e 4).2.2 24 (by omega)
  exact stK_ok bs _ _ _ _ (by omega)
theorem stsR_len (bs : List UInt8) : (stsR bs).1.length ≤ 1048576 := by
  have := listM_len (stR bs) bs 0 0 1048576 (by omega)
  unfold stsR; omega
theorem stsR_ok (bs : List UInt8) : ∀ x ∈ (stsR bs).1, okS x := fun x hx => listR_all (Q := okS) (stR_ok bs) _ _ _ x hx
theorem readP_ok (bs : List UInt8) : (readP bs).1.length ≤ 1048576 ∧ ∀ x ∈ (readP bs).1, okS x := by
  unfold readP endP
  split
  · exact ⟨by simp, fun x hx => by simp at hx⟩
  · split
    · exact ⟨stsR_len bs, stsR_ok bs⟩
    · exact ⟨by simp, fun x hx => by simp at hx⟩

theorem renSt (ρ : Nat → Nat) (x : St) : renL ρ (encSt x) = encSt x := rfl

abbrev PR (v : List St × Int) : AV → List AObj → Prop := fun r H' => ∃ l H2 r2, Sel 0 l H' H2 ∧ Le r (AV.ren (selR l H'.length) r2) ∧ (r2 = .tup [slP v.1, .int .i64 v.2] ∧ H2 = [])
theorem prNil {v : List St × Int} {c : Int} {H' : List AObj} (h : v = ([], c)) : PR v (.tup [.sl 0 (.raw []) .nil, .int .i64 c]) H' := by
  subst h
  exact ⟨[], [], .tup [slP [], .int .i64 c], Sel.none, Le.tup (r := [AV.ren _ (slP []), .int .i64 c]) ⟨Le.sl (s' := Seq.ren _ (.map encSt noSt [])) rfl (.inr ⟨rfl, fun _ h => by cases h⟩) (.inr rfl), Le.refl _, trivial⟩, rfl, rfl⟩
theorem prVal {v : List St × Int} {l : List St} {tip : Tip} {H' : List AObj} (h : v = (l, 0)) : PR v (.tup [.sl 6 (.map encSt noSt l) tip, .int .i64 0]) H' := by
  subst h
  exact ⟨[], [], .tup [slP l, .int .i64 0], Sel.none, Le.tup (r := [AV.ren _ (slP l), .int .i64 0]) ⟨Le.sl (s' := Seq.ren _ (.map encSt noSt l)) (by simp [Ab.Seq.toList, Seq.ren, renSt]) (.inl rfl) (.inr rfl), Le.refl _, trivial⟩, rfl, rfl⟩

/-! ### the program's -/

theorem g13 {bs : List UInt8} {p : Nat} {e : Int} {acc : List St} (hb : bs.length ≤ big) (hp : p ≤ bs.length) (ha : acc.length ≤ 2000000) (hok : ∀ x ∈ acc, okS x) {v : List St × Int} (hv : v = endP acc (closeM e (bs.length - p))) :
    AWP Try.prog 62 0 c21_13 [(4, .ptr 0 0), (5, .sl 6 (.map encSt noSt acc) (.tok 1))] [rd bs p e, .tok] (q21_0 0 (PR v)) := by
  refine v21_13 _ _ _ _ _ _ (ASpec.call (close_spec (id := 0) (bs := bs) (p := p) (e := e) hb hp rfl) (Les.refl _) ⟨_, rfl, rfl, ?_⟩)
  generalize closeM e (bs.length - p) = c at hv
  refine condE (fun h0 => ?_) fun h0 => condNe (fun _ => prNil (by rw [hv, endP, if_pos h0])) fun h => (h0 h).elim
  refine ASpec.call (check_spec acc (by unfold maxLen; omega) hok _) ⟨Le.sl rfl (.inl rfl) (.inr rfl), trivial⟩ ⟨_, rfl, rfl, condBn (fun h => prNil ?_) fun h => condNe (fun h1 => (h1 h0).elim) fun _ => prVal ?_⟩
  · rw [hv, endP, if_neg (by simpa using h0), if_neg (by simp [h])]
  · rw [hv, endP, if_neg (by simpa using h0), if_pos h]

theorem g12 {v : List St × Int} {bs : List UInt8} {p : Nat} {e n : Int} {acc : List St} (ha : acc.length ≤ 2000000) {x : St} {k : Nat} (hk : k ≤ 2000000) (hn : n = (k + 1 : Nat))
    (h : AWP Try.prog 62 0 c21_4 [(4, .ptr 0 0), (5, .sl 6 (.map encSt noSt (acc ++ [x])) (.tok 1)), (6, .int .i64 k)] [rd bs p e, .tok] (q21_2 0 (PR v))) :
    AWP Try.prog 62 0 c21_12 [(4, .ptr 0 0), (5, .sl 6 (.map encSt noSt acc) (.tok 1)), (6, .int .i64 n), (7, .ptr 2 0)] [rd bs p e, .tok, .cells (encSt x)] (q21_5 0 (PR v)) := by
  subst hn
  refine v21_12 _ _ _ _ _ _ _ _ (needJ (by omega) ?_)
  rw [show IntKind.wrap .i64 (((k + 1 : Nat) : Int) - 1) = (k : Int) by rw [wrap64 (by omega) (by omega)]; omega]
  refine AWP.shape [0, 3] [(4, .ptr 0 0), (5, .sl 6 (.map encSt noSt (acc ++ [x])) (.tok 1)), (6, .int .i64 k)] [rd bs p e, .tok] ?_ ⟨rfl, Le.refl _, rfl, ?_, rfl, Le.refl _, trivial⟩ h
  · refine ⟨by decide, rfl, by decide, fun i hi => by omega, fun i hi => .inl ?_⟩
    match i, hi with
    | 0, _ | 1, _ => rfl
  · exact leAppE (x := x) (Les.refl _)

theorem g4 {bs : List UInt8} (hb : bs.length ≤ big) {v : List St × Int} {R : List St × Nat × Int} (hR : v = endP R.1 (closeM R.2.2 (bs.length - R.2.1))) (hok : ∀ x ∈ R.1, okS x) (hRp : R.2.1 ≤ bs.length) (hRl : R.1.length ≤ 1048576) :
    ∀ (k p : Nat) (e : Int) (acc : List St), p ≤ bs.length → acc.length + k ≤ 1048576 → R = (acc ++ (listR (stR bs) k p e).1, (listR (stR bs) k p e).2) →
    AWP Try.prog 62 0 c21_4 [(4, .ptr 0 0), (5, .sl 6 (.map encSt noSt acc) (.tok 1)), (6, .int .i64 k)] [rd bs p e, .tok] (q21_2 0 (PR v)) := by
  intro k
  induction k with
  | zero =>
    intro p e acc hp ha h
    simp only [listR, List.append_nil] at h
    subst h
    exact v21_4 _ _ _ _ _ _ _ (condD (fun hc => by omega) fun _ => g13 hb hp (by omega) hok hR)
  | succ k ih =>
    intro p e acc hp ha h
    refine v21_4 _ _ _ _ _ _ _ (condD (fun _ => ?_) fun hc => by omega)
    refine ASpec.call (err_spec (id := 0) (bs := bs) (p := p) (e := e) rfl) (Les.refl _) ⟨e, rfl, rfl, condE (fun he => ?_) fun he => ?_⟩
    · simp only [listR, if_pos he] at h
      have hnext := ih (stR bs p e).2.1 (stR bs p e).2.2 (acc ++ [(stR bs p e).1]) (stR_p bs p e hp) (by simp; omega) (by rw [h]; simp)
      have hs1 : stR bs p e = stN bs (numM bs p e 4).1 (numM bs p e 4).2.1 (numM bs p e 4).2.2 := rfl
      have p1 := numM_p (e := e) (most := 4) hp
      rw [hs1] at hnext
      refine ASpec.call (num_spec (id := 0) (bs := bs) (p := p) (e := e) 4 hb hp rfl) (Les.refl _) ⟨(_, ((numM bs p e 4).2.1 : Nat), _), rfl, rfl, ?_⟩
      generalize (numM bs p e 4).1 = kd at hnext ⊢
      generalize (numM bs p e 4).2.1 = q at hnext p1 ⊢
      generalize (numM bs p e 4).2.2 = e1 at hnext ⊢
      have p2 := strM_p (e := e1) (most := 24) p1
      unfold stN at hnext
      refine ASpec.call (str_spec (id := 0) (bs := bs) (p := q) (e := e1) 24 hb p1 rfl) (Les.refl _) ⟨(_, ((strM bs q e1 24).2.1 : Nat), _), rfl, rfl, ?_⟩
      generalize (strM bs q e1 24).1 = nm at hnext ⊢
      generalize (strM bs q e1 24).2.1 = q2 at hnext p2 ⊢
      generalize (strM bs q e1 24).2.2 = e2 at hnext ⊢
      unfold stK at hnext
      refine condE (fun k3 => ?_) fun k3 => ?_
      · simp only [if_pos k3] at hnext
        have p3 := numM_p (e := e2) (most := 1000000000) p2
        refine ASpec.call (num_spec (id := 0) (bs := bs) (p := q2) (e := e2) 1000000000 hb p2 rfl) (Les.refl _) ⟨(_, ((numM bs q2 e2 1000000000).2.1 : Nat), _), rfl, rfl, ?_⟩
        refine ASpec.call (str_spec (id := 0) (bs := bs) (p := (numM bs q2 e2 1000000000).2.1) (e := (numM bs q2 e2 1000000000).2.2) 24 hb p3 rfl) (Les.refl _) ⟨(_, ((strM bs (numM bs q2 e2 1000000000).2.1 (numM bs q2 e2 1000000000).2.2 24).2.1 : Nat), _), rfl, rfl, ?_⟩
        exact g12 (x := (kd, nm, _, _, 0, 0)) (by omega) (k := k) (by omega) rfl hnext
      · simp only [if_neg k3] at hnext
        refine condE (fun k4 => ?_) fun k4 => ?_
        · simp only [if_pos k4] at hnext
          have p3 := numM_p (e := e2) (most := 1048576) p2
          refine ASpec.call (num_spec (id := 0) (bs := bs) (p := q2) (e := e2) 1048576 hb p2 rfl) (Les.refl _) ⟨(_, ((numM bs q2 e2 1048576).2.1 : Nat), _), rfl, rfl, ?_⟩
          refine ASpec.call (num_spec (id := 0) (bs := bs) (p := (numM bs q2 e2 1048576).2.1) (e := (numM bs q2 e2 1048576).2.2) 1048576 hb p3 rfl) (Les.refl _) ⟨(_, ((numM bs (numM bs q2 e2 1048576).2.1 (numM bs q2 e2 1048576).2.2 1048576).2.1 : Nat), _), rfl, rfl, ?_⟩
          exact g12 (x := (kd, nm, 0, [], _, _)) (by omega) (k := k) (by omega) rfl hnext
        · simp only [if_neg k4] at hnext
          exact g12 (x := (kd, nm, 0, [], 0, 0)) (by omega) (k := k) (by omega) rfl hnext
    · simp only [listR, if_neg he, List.append_nil] at h
      subst h
      exact g13 hb hp (by omega) hok hR

theorem read_specP (bs : List UInt8) (hb : bs.length ≤ 1000000000) (H : List AObj) : ASpec Try.prog 21 [sl1 bs] H (fun r H' => r = .tup [slP (readP bs).1, .int .i64 (readP bs).2] ∧ H' = H) := by
  have k : ASpec Try.prog 21 [sl1 bs] [] (fun r H' => r = .tup [slP (readP bs).1, .int .i64 (readP bs).2] ∧ H' = []) := by
    have hb' : bs.length ≤ big := by unfold big; omega
    have h2 := numM_most bs 0 0 1048576 (by omega)
    refine ASpec.sel (s21 _ _ (ASpec.call (V.open_spec bs hb' []) (Les.refl _) ⟨bs, rfl, rfl, ?_⟩))
    refine ASpec.call (num_spec (id := 0) (bs := bs) (p := 0) (e := 0) 1048576 hb' (by omega) rfl) (Les.refl _) ⟨((numM bs 0 0 1048576).1, ((numM bs 0 0 1048576).2.1 : Nat), (numM bs 0 0 1048576).2.2), rfl, rfl, ?_⟩
    refine AWP.re (ReSt.tok (H := [rd bs (numM bs 0 0 1048576).2.1 (numM bs 0 0 1048576).2.2]) (k := 5) (q' := .map encSt noSt []) (sz' := 6) (s2 := [(4, .ptr 0 0), (5, .sl 6 (.map encSt noSt []) (.tok 1)), (6, .int .i64 (numM bs 0 0 1048576).1)]) rfl (.inl rfl) rfl (.inr rfl) (fun d hd => ?_) rfl) ?_
    · simp only [Ab.get]
      have e : Nat.beq 5 d = false := by
        cases hx : Nat.beq 5 d with
        | false => rfl
        | true => exact absurd (Nat.eq_of_beq_eq_true hx).symm hd
      rw [e]; rfl
    · obtain ⟨c, hc⟩ := Int.eq_ofNat_of_zero_le h2.1
      rw [hc]
      refine g4 hb' (R := stsR bs) rfl (stsR_ok bs) (stsR_p bs) (stsR_len bs) c _ _ [] (numM_p (by omega)) (by simp; omega) ?_
      simp only [stsR, listM, hc]; rfl
  exact ASpec.pureH H k _ _ rfl rfl

/-! ### the document's -/

def dStK (l : List UInt8) (k : Int) (nm : List UInt8) (e : Int) : St × List UInt8 × Int :=
  if k = 3 then ((k, nm, (dnumM l e 1000000000).1, (dstrM (dnumM l e 1000000000).2.1 (dnumM l e 1000000000).2.2 24).1, 0, 0), (dstrM (dnumM l e 1000000000).2.1 (dnumM l e 1000000000).2.2 24).2)
  else if k = 4 then ((k, nm, 0, [], (dnumM l e 1048576).1, (dnumM (dnumM l e 1048576).2.1 (dnumM l e 1048576).2.2 1048576).1), (dnumM (dnumM l e 1048576).2.1 (dnumM l e 1048576).2.2 1048576).2)
  else ((k, nm, 0, [], 0, 0), l, e)
def dStN (l : List UInt8) (k : Int) (e : Int) : St × List UInt8 × Int := dStK (dstrM l e 24).2.1 k (dstrM l e 24).1 (dstrM l e 24).2.2
def dSt (l : List UInt8) (e : Int) : St × List UInt8 × Int := dStN (dnumM l e 4).2.1 (dnumM l e 4).1 (dnumM l e 4).2.2
def dSts (l : List UInt8) : List St × List UInt8 × Int := dG dSt (dnumM l 0 1048576).1.toNat (dnumM l 0 1048576).2.1 (dnumM l 0 1048576).2.2

theorem dStK_len (l : List UInt8) (k : Int) (nm : List UInt8) (e : Int) : (dStK l k nm e).2.1.length ≤ l.length := by
  unfold dStK
  split
  · exact Nat.le_trans (dstrM_len _ _ _) (dnumM_len _ _ _)
  · split
    · exact Nat.le_trans (dnumM_len _ _ _) (dnumM_len _ _ _)
    · exact Nat.le_refl _
theorem dSt_len (l : List UInt8) (e : Int) : (dSt l e).2.1.length ≤ l.length := Nat.le_trans (dStK_len _ _ _ _) (Nat.le_trans (dstrM_len _ _ _) (dnumM_len _ _ _))

theorem alikeSt (bs : List UInt8) (p : Nat) (e : Int) (hp : p ≤ bs.length) : Alike bs (stR bs p e) (dSt (bs.drop p) e) := by
  obtain ⟨hd, hq⟩ := num_doc bs p e 4 hp
  have key : ∀ (k : Int) (nm : List UInt8) (p : Nat) (e : Int), p ≤ bs.length → Alike bs (stK bs k nm p e) (dStK (bs.drop p) k nm e) := by
    intro k nm p e hp
    unfold stK dStK
    by_cases k3 : k = 3
    · obtain ⟨hd1, hq1⟩ := num_doc bs p e 1000000000 hp
      obtain ⟨hd2, hq2⟩ := str_doc bs (numM bs p e 1000000000).2.1 (numM bs p e 1000000000).2.2 24 hq1
      rw [if_pos k3, if_pos k3, hd1, hd2]
      exact ⟨rfl, rfl, fun _ => rfl⟩
    · rw [if_neg k3, if_neg k3]
      by_cases k4 : k = 4
      · obtain ⟨hd1, hq1⟩ := num_doc bs p e 1048576 hp
        obtain ⟨hd2, hq2⟩ := num_doc bs (numM bs p e 1048576).2.1 (numM bs p e 1048576).2.2 1048576 hq1
        rw [if_pos k4, if_pos k4, hd1, hd2]
        exact ⟨rfl, rfl, fun _ => rfl⟩
      · rw [if_neg k4, if_neg k4]
        exact ⟨rfl, rfl, fun _ => rfl⟩
  obtain ⟨hd2, hq2⟩ := str_doc bs (numM bs p e 4).2.1 (numM bs p e 4).2.2 24 hq
  unfold dSt stR stN dStN
  rw [hd, hd2]
  exact key _ _ _ _ hq2

theorem alikeSts (bs : List UInt8) : Alike bs (stsR bs) (dSts bs) := by
  obtain ⟨hd, hq⟩ := num_doc bs 0 0 1048576 (Nat.zero_le _)
  rw [List.drop_zero] at hd
  unfold stsR dSts listM
  rw [hd]
  exact alikeG (alikeSt bs) (stR_p bs) _ _ _ hq

theorem dReadP_eq (bs : List UInt8) : endP (dSts bs).1 (closeM (dSts bs).2.2 (dSts bs).2.1.length) = readP bs := by
  obtain ⟨a1, a2, a3⟩ := alikeSts bs
  unfold readP
  rw [a1, a2, List.length_drop]
  by_cases h : (stsR bs).2.2 = 0
  · rw [a3 h]
  · have hc : ∀ n, closeM (stsR bs).2.2 n = (stsR bs).2.2 := fun n => by simp only [closeM, if_pos h]
    rw [hc]
    unfold endP
    rw [if_pos h, if_pos h]

theorem e15 {acc : List St} (ha : acc.length ≤ 2000000) {s : List UInt8} {e : Int} (hok : closeM e s.length = 0 → ∀ x ∈ acc, okS x) {v : List St × Int} (hv : v = endP acc (closeM e s.length)) :
    AWP Try.prog 67 0 c22_15 [(4, .ptr 0 0), (6, .sl 6 (.map encSt noSt acc) (.tok 1))] [dr s e, .tok] (q22_0 0 (PR v)) := by
  refine v22_15 _ _ _ _ _ (ASpec.call (dclose_spec (id := 0) (l := s) (e := e) rfl) (Les.refl _) ⟨_, rfl, rfl, ?_⟩)
  generalize closeM e s.length = c at hv hok
  refine condE (fun h0 => ?_) fun h0 => condNe (fun _ => prNil (by rw [hv, endP, if_pos h0])) fun h => (h0 h).elim
  refine ASpec.call (rcheck_spec acc (by unfold maxLen; omega) (hok h0) _) ⟨Le.sl rfl (.inl rfl) (.inr rfl), trivial⟩ ⟨_, rfl, rfl, condBn (fun h => prNil ?_) fun h => condNe (fun h1 => (h1 h0).elim) fun _ => prVal ?_⟩
  · rw [hv, endP, if_neg (by simpa using h0), if_neg (by simp [h])]
  · rw [hv, endP, if_neg (by simpa using h0), if_pos h]

theorem e14 {v : List St × Int} {s : List UInt8} {e n : Int} {acc : List St} (ha : acc.length ≤ 2000000) {x : St} {i : Nat} (hi : i ≤ 2000000)
    (h : AWP Try.prog 67 0 c22_5 [(4, .ptr 0 0), (5, .int .i64 n), (6, .sl 6 (.map encSt noSt (acc ++ [x])) (.tok 1)), (7, .int .i64 (i + 1 : Nat))] [dr s e, .tok] (q22_2 0 (PR v))) :
    AWP Try.prog 67 0 c22_14 [(4, .ptr 0 0), (5, .int .i64 n), (6, .sl 6 (.map encSt noSt acc) (.tok 1)), (7, .int .i64 i), (8, .ptr 2 0)] [dr s e, .tok, .cells (encSt x)] (q22_5 0 (PR v)) := by
  refine v22_14 _ _ _ _ _ _ _ _ (needJ (by omega) ?_)
  rw [succ64 (by omega)]
  refine AWP.shape [0, 3] [(4, .ptr 0 0), (5, .int .i64 n), (6, .sl 6 (.map encSt noSt (acc ++ [x])) (.tok 1)), (7, .int .i64 (i + 1 : Nat))] [dr s e, .tok] ?_ ⟨rfl, Le.refl _, rfl, Le.refl _, rfl, ?_, rfl, Le.refl _, trivial⟩ h
  · refine ⟨by decide, rfl, by decide, fun i hi => by omega, fun i hi => .inl ?_⟩
    match i, hi with
    | 0, _ | 1, _ => rfl
  · exact leAppE (x := x) (Les.refl _)

theorem e5 {n : Nat} (hn : n ≤ 1048576) {v : List St × Int} {R : List St × List UInt8 × Int} (hR : v = endP R.1 (closeM R.2.2 R.2.1.length)) (hok : closeM R.2.2 R.2.1.length = 0 → ∀ x ∈ R.1, okS x) :
    ∀ (m i : Nat) (l : List UInt8) (e : Int) (acc : List St), m + i = n → l.length ≤ 10 * big → acc.length + m ≤ 1048576 → R = (acc ++ (dG dSt m l e).1, (dG dSt m l e).2) →
    AWP Try.prog 67 0 c22_5 [(4, .ptr 0 0), (5, .int .i64 n), (6, .sl 6 (.map encSt noSt acc) (.tok 1)), (7, .int .i64 i)] [dr l e, .tok] (q22_2 0 (PR v)) := by
  intro m
  induction m with
  | zero =>
    intro i l e acc hm hl ha h
    simp only [dG, List.append_nil] at h
    subst h
    exact v22_5 _ _ _ _ _ _ _ (condD (fun hc => by omega) fun _ => e15 (by show acc.length ≤ 2000000; omega) hok hR)
  | succ m ih =>
    intro i l e acc hm hl ha h
    refine v22_5 _ _ _ _ _ _ _ (condD (fun _ => condE (fun he => ?_) fun he => ?_) fun hc => by omega)
    · simp only [dG, if_pos he] at h
      have hnext := ih (i + 1) (dSt l e).2.1 (dSt l e).2.2 (acc ++ [(dSt l e).1]) (by omega) (Nat.le_trans (dSt_len l e) hl) (by simp; omega) (by rw [h]; simp)
      have h1 := dnumM_len l e 4
      refine ASpec.call (dnum_spec (id := 0) (l := l) (e := e) 4 hl rfl) (Les.refl _) ⟨((dnumM l e 4).1, B (dnumM l e 4).2.1, (dnumM l e 4).2.2), rfl, rfl, ?_⟩
      have hE : dSt l e = dStN (dnumM l e 4).2.1 (dnumM l e 4).1 (dnumM l e 4).2.2 := rfl
      rw [hE] at hnext
      generalize (dnumM l e 4).1 = k at hnext ⊢
      generalize (dnumM l e 4).2.1 = l1 at hnext h1 ⊢
      generalize (dnumM l e 4).2.2 = e1 at hnext ⊢
      have h2 := dstrM_len l1 e1 24
      unfold dStN at hnext
      refine ASpec.call (dstr_spec (id := 0) (l := l1) (e := e1) 24 (by omega) rfl) (Les.refl _) ⟨(B (dstrM l1 e1 24).1, B (dstrM l1 e1 24).2.1, (dstrM l1 e1 24).2.2), rfl, rfl, ?_⟩
      generalize (dstrM l1 e1 24).1 = nm at hnext ⊢
      generalize (dstrM l1 e1 24).2.1 = l2 at hnext h2 ⊢
      generalize (dstrM l1 e1 24).2.2 = e2 at hnext ⊢
      unfold dStK at hnext
      refine condE (fun k3 => ?_) fun k3 => ?_
      · simp only [if_pos k3] at hnext
        have h3 := dnumM_len l2 e2 1000000000
        refine ASpec.call (dnum_spec (id := 0) (l := l2) (e := e2) 1000000000 (by omega) rfl) (Les.refl _) ⟨(_, B (dnumM l2 e2 1000000000).2.1, _), rfl, rfl, ?_⟩
        refine ASpec.call (dstr_spec (id := 0) (l := (dnumM l2 e2 1000000000).2.1) (e := (dnumM l2 e2 1000000000).2.2) 24 (by omega) rfl) (Les.refl _) ⟨(B _, B (dstrM (dnumM l2 e2 1000000000).2.1 (dnumM l2 e2 1000000000).2.2 24).2.1, _), rfl, rfl, ?_⟩
        refine v22_11 _ _ _ _ _ (k, nm, _, _, 0, 0) _ _ (condE (fun h => by omega) fun _ => ?_)
        exact e14 (x := (k, nm, _, _, 0, 0)) (by omega) (by omega) hnext
      · simp only [if_neg k3] at hnext
        refine v22_11 _ _ _ _ _ (k, nm, 0, [], 0, 0) _ _ (condE (fun k4 => ?_) fun k4 => ?_)
        · replace k4 : k = 4 := k4
          simp only [if_pos k4] at hnext
          have h3 := dnumM_len l2 e2 1048576
          refine ASpec.call (dnum_spec (id := 0) (l := l2) (e := e2) 1048576 (by omega) rfl) (Les.refl _) ⟨(_, B (dnumM l2 e2 1048576).2.1, _), rfl, rfl, ?_⟩
          refine ASpec.call (dnum_spec (id := 0) (l := (dnumM l2 e2 1048576).2.1) (e := (dnumM l2 e2 1048576).2.2) 1048576 (by omega) rfl) (Les.refl _) ⟨(_, B (dnumM (dnumM l2 e2 1048576).2.1 (dnumM l2 e2 1048576).2.2 1048576).2.1, _), rfl, rfl, ?_⟩
          exact e14 (x := (k, nm, 0, [], _, _)) (by omega) (by omega) hnext
        · replace k4 : k ≠ 4 := k4
          simp only [if_neg k4] at hnext
          exact e14 (x := (k, nm, 0, [], 0, 0)) (by omega) (by omega) hnext
    · simp only [dG, if_neg he, List.append_nil] at h
      subst h
      exact e15 (by show acc.length ≤ 2000000; omega) hok hR

theorem rread_specP (bs : List UInt8) (hb : bs.length ≤ 1000000) (H : List AObj) : ASpec Try.prog 22 [.str (B bs)] H (fun r H' => r = .tup [slP (readP bs).1, .int .i64 (readP bs).2] ∧ H' = H) := by
  have k : ASpec Try.prog 22 [.str (B bs)] [] (fun r H' => r = .tup [slP (readP bs).1, .int .i64 (readP bs).2] ∧ H' = []) := by
    have hl : bs.length ≤ 10 * big := by unfold big; omega
    have h2 := dnumM_most bs 0 1048576 (by omega)
    have h3 := dnumM_len bs 0 1048576
    refine ASpec.sel (s22 _ _ (ASpec.call (dnum_spec (id := 0) (l := bs) (e := 0) 1048576 hl rfl) (Les.refl _) ⟨((dnumM bs 0 1048576).1, B (dnumM bs 0 1048576).2.1, (dnumM bs 0 1048576).2.2), rfl, rfl, ?_⟩))
    refine AWP.re (ReSt.tok (H := [dr (dnumM bs 0 1048576).2.1 (dnumM bs 0 1048576).2.2]) (k := 6) (q' := .map encSt noSt []) (sz' := 6) (s2 := [(4, .ptr 0 0), (5, .int .i64 (dnumM bs 0 1048576).1), (6, .sl 6 (.map encSt noSt []) (.tok 1)), (7, .int .i64 0)]) rfl (.inl rfl) rfl (.inr rfl) (fun d hd => ?_) rfl) ?_
    · simp only [Ab.get]
      have e : Nat.beq 6 d = false := by
        cases hx : Nat.beq 6 d with
        | false => rfl
        | true => exact absurd (Nat.eq_of_beq_eq_true hx).symm hd
      rw [e]; rfl
    · obtain ⟨k, hk⟩ := Int.eq_ofNat_of_zero_le h2.1
      rw [hk]
      obtain ⟨a1, a2, a3⟩ := alikeSts bs
      have hD : dSts bs = dG dSt k (dnumM bs 0 1048576).2.1 (dnumM bs 0 1048576).2.2 := by rw [dSts, hk]; rfl
      refine e5 (n := k) (by omega) (R := dSts bs) (dReadP_eq bs).symm ?_ k 0 _ _ [] (by omega) (by omega) (by simp; omega) ?_
      · intro h0
        have he : (stsR bs).2.2 = 0 := by
          by_cases he : (stsR bs).2.2 = 0
          · exact he
          · rw [a2] at h0
            simp only [closeM, if_pos he] at h0
            exact h0
        rw [a3 he]
        exact stsR_ok bs
      · rw [hD]; rfl
  exact ASpec.pureH H k _ _ rfl rfl

/-! ### the bytes -/

def stT (x : St) : List UInt8 := if x.1 = 3 then numB x.2.2.1 ++ text x.2.2.2.1 else if x.1 = 4 then numB x.2.2.2.2.1 ++ numB x.2.2.2.2.2 else []
def stB (x : St) : List UInt8 := numB x.1 ++ (text x.2.1 ++ stT x)
def proofB (l : List St) : List UInt8 := numB l.length ++ l.flatMap stB
def putP (l : List St) : List UInt8 := if checkM l = true then proofB l else []

theorem may_short {x : St} {i : Int} (h : mayM x i = true) : x.2.1.length ≤ 24 ∧ (x.1 = 3 → x.2.2.2.1.length ≤ 24) ∧ 1 ≤ x.1 ∧ x.1 ≤ 4 := by
  unfold mayM at h
  rw [Bool.and_eq_true] at h
  refine ⟨fitM_short h.1, fun h3 => ?_, ?_⟩
  · have := h.2
    rw [if_neg (by omega), if_pos h3, Bool.and_eq_true] at this
    exact fitM_short this.1
  · have := h.2
    split at this
    · omega
    · split at this
      · omega
      · split at this
        · omega
        · cases this

theorem stB_len {x : St} {i : Int} (h : mayM x i = true) : (stB x).length ≤ 80 := by
  obtain ⟨h1, h2, h3, h4⟩ := may_short h
  have n1 := numB_len x.1
  have n2 := text_len x.2.1
  have : (stT x).length ≤ 40 := by
    unfold stT
    have n3 := numB_len x.2.2.1
    have n4 := text_len x.2.2.2.1
    have n5 := numB_len x.2.2.2.2.1
    have n6 := numB_len x.2.2.2.2.2
    split
    · have := h2 (by assumption)
      simp only [List.length_append]; omega
    · split <;> simp <;> omega
  unfold stB
  simp only [List.length_append]; omega

theorem st_back {x : St} {i : Int} (h : mayM x i = true) (hi : i ≤ 1048576) : Back stB stR x := by
  intro pre rest
  obtain ⟨h1, h2, h3, h4⟩ := may_short h
  obtain ⟨k, nm, v, to, a, b⟩ := x
  unfold mayM at h
  simp only [Bool.and_eq_true] at h h1 h2 h3 h4
  have hm := h.2
  have e1 := num_back (x := k) (most := 4) (by omega) (by omega) (by omega) pre (text nm ++ stT (k, nm, v, to, a, b) ++ rest)
  have e2 := text_back (s := nm) (most := 24) (by omega) (by omega) (pre ++ numB k) (stT (k, nm, v, to, a, b) ++ rest)
  simp only [List.append_assoc, List.length_append] at e1 e2
  simp only [stR, stN, stB, List.append_assoc, e1, e2, List.length_append]
  by_cases k3 : k = 3
  · subst k3
    rw [if_neg (by omega), if_pos rfl, Bool.and_eq_true] at hm
    obtain ⟨hf, hd⟩ := hm
    have hd := of_decide_eq_true hd
    obtain ⟨d1, d2, rfl, rfl⟩ := hd
    have e3 := num_back (x := v) (most := 1000000000) (by omega) (by omega) (by omega) (pre ++ numB 3 ++ text nm) (text to ++ rest)
    have e4 := text_back (s := to) (most := 24) (by have := h2 rfl; omega) (by have := h2 rfl; omega) (pre ++ numB 3 ++ text nm ++ numB v) rest
    simp only [List.append_assoc, List.length_append, Nat.add_assoc] at e3 e4 ⊢
    simp only [stK, stT, if_pos rfl, List.append_assoc, e3, e4, List.length_append, Nat.add_assoc]
    simp only [if_true, List.append_assoc, e3, e4, List.length_append]
  · by_cases k4 : k = 4
    · subst k4
      rw [if_neg (by omega), if_neg (by omega), if_pos rfl] at hm
      have hd := of_decide_eq_true hm
      obtain ⟨rfl, rfl, d1, d2, d3, d4⟩ := hd
      have e3 := num_back (x := a) (most := 1048576) (by omega) (by omega) (by omega) (pre ++ numB 4 ++ text nm) (numB b ++ rest)
      have e4 := num_back (x := b) (most := 1048576) (by omega) (by omega) (by omega) (pre ++ numB 4 ++ text nm ++ numB a) rest
      simp only [List.append_assoc, List.length_append, Nat.add_assoc] at e3 e4 ⊢
      simp only [stK, stT, if_neg k3, if_true, List.append_assoc, e3, e4, List.length_append, Nat.add_assoc]
    · rw [if_pos (by omega)] at hm
      have hd := of_decide_eq_true hm
      obtain ⟨rfl, rfl, rfl, rfl⟩ := hd
      simp only [stK, stT, if_neg k3, if_neg k4, List.nil_append, List.length_nil, Nat.add_zero, Nat.add_assoc]

theorem chkF_may : ∀ (l : List St) (i : Nat), chkF i l = true → ∀ x ∈ l, ∃ j : Nat, j < i + l.length ∧ mayM x j = true
  | [], _, _, x, hx => by simp at hx
  | y :: r, i, h, x, hx => by
    simp only [chkF, Bool.and_eq_true] at h
    rcases List.mem_cons.1 hx with rfl | hx
    · exact ⟨i, by simp, h.1⟩
    · obtain ⟨j, h1, h2⟩ := chkF_may r (i + 1) h.2 x hx
      exact ⟨j, by simp; omega, h2⟩

theorem checkM_may {l : List St} (h : checkM l = true) : 1 ≤ l.length ∧ l.length ≤ 1048576 ∧ ∀ x ∈ l, ∃ j : Nat, j < l.length ∧ mayM x j = true := by
  unfold checkM at h
  rw [Bool.and_eq_true] at h
  have h1 := of_decide_eq_true h.1
  refine ⟨h1.1, h1.2, fun x hx => ?_⟩
  obtain ⟨j, a, b⟩ := chkF_may l 0 h.2 x hx
  exact ⟨j, by omega, b⟩

theorem checkM_okS {l : List St} (h : checkM l = true) : ∀ x ∈ l, (stB x).length ≤ 80 := fun x hx => by
  obtain ⟨_, _, h3⟩ := checkM_may h
  obtain ⟨j, _, hj⟩ := h3 x hx
  exact stB_len hj

theorem sts_back {l : List St} (h : checkM l = true) : stsR (proofB l) = (l, (proofB l).length, 0) := by
  obtain ⟨h1, h2, h3⟩ := checkM_may h
  have hs : ∀ x ∈ l, Back stB stR x := fun x hx => by
    obtain ⟨j, hj, hm⟩ := h3 x hx
    exact st_back hm (by omega)
  have := listM_back (most := 1048576) l hs (by omega) (by omega) [] []
  simpa [stsR, proofB] using this

theorem read_putP {l : List St} (h : checkM l = true) : readP (proofB l) = (l, 0) := by
  unfold readP
  rw [sts_back h]
  simp only [Nat.sub_self]
  show endP l (closeM 0 0) = _
  simp [endP, closeM, h]

theorem st_canon : Canon stB stR := by
  intro bs p e h
  simp only [stR] at h ⊢
  generalize hk : (numM bs p e 4).1 = k at h ⊢
  have key : (numM bs p e 4).2.2 = 0 ∧ (stN bs k (numM bs p e 4).2.1 (numM bs p e 4).2.2).1.1 = k ∧ bs.drop (numM bs p e 4).2.1 = text (stN bs k (numM bs p e 4).2.1 (numM bs p e 4).2.2).1.2.1 ++ stT (stN bs k (numM bs p e 4).2.1 (numM bs p e 4).2.2).1 ++ bs.drop (stN bs k (numM bs p e 4).2.1 (numM bs p e 4).2.2).2.1 := by
    generalize (numM bs p e 4).2.1 = p1 at h ⊢
    generalize (numM bs p e 4).2.2 = e1 at h ⊢
    simp only [stN] at h ⊢
    have key2 : ∀ nm, (strM bs p1 e1 24).1 = nm → (strM bs p1 e1 24).2.2 = 0 ∧ (stK bs k nm (strM bs p1 e1 24).2.1 (strM bs p1 e1 24).2.2).1.1 = k ∧ (stK bs k nm (strM bs p1 e1 24).2.1 (strM bs p1 e1 24).2.2).1.2.1 = nm ∧
        bs.drop (strM bs p1 e1 24).2.1 = stT (stK bs k nm (strM bs p1 e1 24).2.1 (strM bs p1 e1 24).2.2).1 ++ bs.drop (stK bs k nm (strM bs p1 e1 24).2.1 (strM bs p1 e1 24).2.2).2.1 := by
      intro nm hnm
      rw [hnm] at h
      generalize (strM bs p1 e1 24).2.1 = p2 at h ⊢
      generalize (strM bs p1 e1 24).2.2 = e2 at h ⊢
      unfold stK at h ⊢
      by_cases k3 : k = 3
      · simp only [if_pos k3] at h ⊢
        obtain ⟨a, b⟩ := text_canon 24 bs _ _ h
        obtain ⟨c, d⟩ := num_canon 1000000000 bs _ _ a
        simp only at b d
        refine ⟨c, trivial, trivial, ?_⟩
        simp only [stT, if_pos k3, List.append_assoc]
        rw [d, b]
      · simp only [if_neg k3] at h ⊢
        by_cases k4 : k = 4
        · simp only [if_pos k4] at h ⊢
          obtain ⟨a, b⟩ := num_canon 1048576 bs _ _ h
          obtain ⟨c, d⟩ := num_canon 1048576 bs _ _ a
          simp only at b d
          refine ⟨c, trivial, trivial, ?_⟩
          simp only [stT, if_neg k3, if_pos k4, List.append_assoc]
          rw [d, b]
        · simp only [if_neg k4] at h ⊢
          refine ⟨h, trivial, trivial, ?_⟩
          simp [stT, k3, k4]
    obtain ⟨a, b, c, d⟩ := key2 _ rfl
    obtain ⟨f, g⟩ := text_canon 24 bs _ _ a
    simp only at g
    refine ⟨f, b, ?_⟩
    rw [c, g, d, List.append_assoc]
  obtain ⟨a, hb, c⟩ := key
  obtain ⟨d, f⟩ := num_canon 4 bs p e a
  simp only at f
  refine ⟨d, ?_⟩
  rw [f, c, stB, hb, hk]
  simp only [List.append_assoc]

theorem put_readP {bs : List UInt8} (h : (readP bs).2 = 0) : proofB (readP bs).1 = bs ∧ checkM (readP bs).1 = true := by
  refine ⟨?_, ?_⟩
  · unfold readP endP at h ⊢
    split at h
    · rename_i hc; exact absurd h hc
    · rename_i hc
      rw [if_neg hc]
      split at h
      · rename_i hm
        rw [if_pos hm]
        obtain ⟨h1, h2⟩ := closeM_zero (e := (stsR bs).2.2) (n := bs.length - (stsR bs).2.1) (by simpa using hc)
        obtain ⟨-, c⟩ := listM_canon st_canon (by omega) bs 0 0 h1
        simp only [List.drop_zero] at c
        have hd : bs.drop (listM (stR bs) bs 0 0 1048576).2.1 = [] := List.drop_eq_nil_of_le (by unfold stsR at h2; omega)
        rw [hd, List.append_nil] at c
        unfold proofB stsR
        exact c.symm
      · simp at h
  · unfold readP endP at h ⊢
    split at h
    · rename_i hc; exact absurd h hc
    · rename_i hc
      rw [if_neg hc]
      split at h
      · rename_i hm
        rw [if_pos hm]; exact hm
      · simp at h

end Pr
end

section
/- Steps of a proof: what is put, the program's and the document's. -/

set_option linter.unusedVariables false
set_option linter.unusedSimpArgs false
set_option maxRecDepth 100000
open Go Go.Ab Go.Proofs V S T C
open W (sl1 slS slN numB text lenL leTwo leTok put1M put2M numB_len text_len flat_len)
open E (PA pa)
open Pf (s20 v20_5 c20_5 q20_2 s23 v23_5 v23_10 c23_5 c23_10 q23_2 q23_5)
namespace Pr

abbrev PW (x : List UInt8) : AV → List AObj → Prop := PA (sl1 x)
theorem pw {l x : List UInt8} {tip : Tip} {H' : List AObj} (h : l = x) : PW x (.sl 1 (.map encB 0 l) tip) H' := h ▸ pa (sealLe _ rfl)

theorem put5 {l : List St} (hl : l.length ≤ 1048576) (hk : ∀ x ∈ l, okS x ∧ (stB x).length ≤ 80) {P : List UInt8} (hP : P.length ≤ 100000000) :
    ∀ (m i : Nat) (b : List UInt8), m + i = l.length → b ++ (l.drop i).flatMap stB = P →
    AWP Try.prog 50 0 c20_5 [(3, sl1 b), (13, slP l), (14, .int .i64 l.length), (15, .int .i64 i)] [] (q20_2 0 (PW P)) := by
  intro m
  induction m with
  | zero =>
    intro i b hm hb
    refine v20_5 _ _ _ _ _ _ (condD (fun hc => by omega) fun _ => pw ?_)
    rw [List.drop_eq_nil_of_le (by omega)] at hb
    simpa using hb
  | succ m ih =>
    intro i b hm hb
    have hbl : b.length ≤ P.length := lenL hb
    obtain ⟨⟨o1, o2⟩, hs⟩ := hk _ (memD l noSt i (by omega))
    rw [dropD l noSt i (by omega), List.flatMap_cons, ← List.append_assoc] at hb
    refine v20_5 _ _ _ _ _ _ (condD (fun _ => needJ ⟨by omega, by omega⟩ ?_) fun h => by omega)
    rw [Int.toNat_natCast]
    generalize l.getD i noSt = x at hb hs o1 o2 ⊢
    unfold lim at o1 o2
    have hb2 : (b ++ stB x).length ≤ P.length := lenL hb
    have n1 := numB_len x.1
    have n2 := text_len x.2.1
    have nxt : ∀ (H' : List AObj) (tip : Tip), AWP Try.prog 50 0 c20_5 [(3, .sl 1 (.map encB 0 (b ++ stB x)) tip), (13, slP l), (14, .int .i64 l.length), (15, .int .i64 (IntKind.wrap .i64 ((i : Int) + 1)))] H' (q20_2 0 (PW P)) := by
      intro H' tip
      rw [succ64 (by omega)]
      exact AWP.shape [] [(3, sl1 (b ++ stB x)), (13, slP l), (14, .int .i64 l.length), (15, .int .i64 (i + 1 : Nat))] [] Sel.none ⟨rfl, sealLe _ rfl, rfl, Le.refl _, rfl, Le.refl _, rfl, Le.refl _, trivial⟩ (ih (i + 1) _ (by omega) hb)
    have etx : b ++ numB x.1 ++ V.enc (held x.2.1.length) ++ x.2.1 = b ++ numB x.1 ++ text x.2.1 := by simp [text]
    refine put_spec' (bs := b) (ns := [x.1]) ⟨Le.refl _, leOne _, trivial⟩ (by unfold big; simp; omega) ⟨_, rfl, rfl, ⟨rfl, rfl⟩, ?_⟩
    rw [put1M]
    refine ASpec.call (text_spec (b ++ numB x.1) x.2.1 (by unfold big; simp only [List.length_append]; omega) _) ⟨leTok, Le.refl _, trivial⟩ ⟨b ++ numB x.1 ++ text x.2.1, by rw [etx]; rfl, rfl, ?_⟩
    refine condE (fun k3 => ?_) fun k3 => condE (fun k4 => ?_) fun k4 => ?_
    · have n3 := numB_len x.2.2.1
      have n4 := text_len x.2.2.2.1
      have e2 : b ++ numB x.1 ++ text x.2.1 ++ numB x.2.2.1 ++ V.enc (held x.2.2.2.1.length) ++ x.2.2.2.1 = b ++ stB x := by simp [stB, stT, k3, text]
      refine put_spec' (bs := b ++ numB x.1 ++ text x.2.1) (ns := [x.2.2.1]) ⟨leTok, leOne _, trivial⟩ (by unfold big; simp; omega) ⟨_, rfl, rfl, ⟨rfl, rfl⟩, ?_⟩
      rw [put1M]
      refine ASpec.call (text_spec (b ++ numB x.1 ++ text x.2.1 ++ numB x.2.2.1) x.2.2.2.1 (by unfold big; simp only [List.length_append]; omega) _) ⟨leTok, Le.refl _, trivial⟩ ⟨b ++ stB x, by rw [e2]; rfl, rfl, nxt _ _⟩
    · have e2 : b ++ numB x.1 ++ text x.2.1 ++ (numB x.2.2.2.2.1 ++ numB x.2.2.2.2.2) = b ++ stB x := by simp [stB, stT, k4]
      refine put_spec' (bs := b ++ numB x.1 ++ text x.2.1) (ns := [x.2.2.2.2.1, x.2.2.2.2.2]) ⟨leTok, leTwo _ _, trivial⟩ (by unfold big; simp; omega) ⟨_, rfl, rfl, ?_⟩
      rw [put2M, e2]
      exact nxt _ _
    · have e2 : b ++ numB x.1 ++ text x.2.1 = b ++ stB x := by simp [stB, stT, k3, k4]
      rw [e2]
      exact nxt _ _

theorem proofB_len {l : List St} (h : checkM l = true) : (proofB l).length ≤ 100000000 := by
  obtain ⟨h1, h2, _⟩ := checkM_may h
  have n1 := numB_len l.length
  have := flat_len stB 80 l (checkM_okS h)
  unfold proofB
  simp only [List.length_append]
  have := Nat.mul_le_mul_right 80 h2
  omega

theorem put_specP (l : List St) (hl : l.length ≤ maxLen) (hk : ∀ x ∈ l, okS x) (H : List AObj) : ASpec Try.prog 20 [slP l] H (fun r H' => r = sl1 (putP l) ∧ H' = H) := by
  have k : ASpec Try.prog 20 [slP l] [] (fun r H' => r = sl1 (putP l) ∧ H' = []) := by
    refine ASpec.sel (s20 _ _ (ASpec.call (check_spec l hl hk _) (Les.refl _) ⟨_, rfl, rfl, condBn (fun h => ?_) fun h => ?_⟩))
    · rw [putP, if_neg (by simp [h])]
      exact pa (Le.sl (s' := Seq.ren _ (.map encB 0 [])) rfl (.inr ⟨rfl, fun _ h => by cases h⟩) (.inr rfl))
    · obtain ⟨h1, h2, _⟩ := checkM_may h
      rw [putP, if_pos h]
      refine put_spec' (bs := []) (ns := [(l.length : Int)]) ⟨leNil, leOne _, trivial⟩ (by unfold big; simp) ⟨_, rfl, rfl, ?_⟩
      rw [put1M, List.nil_append]
      refine AWP.shape [] [(3, sl1 (numB l.length)), (13, slP l), (14, .int .i64 l.length), (15, .int .i64 (0 : Nat))] [] Sel.none ⟨rfl, sealLe _ rfl, rfl, Le.refl _, rfl, Le.refl _, rfl, Le.refl _, trivial⟩ ?_
      exact put5 h2 (fun x hx => ⟨hk x hx, checkM_okS h x hx⟩) (proofB_len h) l.length 0 _ (by omega) rfl
  exact ASpec.pureH H k _ _ rfl rfl

abbrev PS (x : List UInt8) : AV → List AObj → Prop := PA (.str (B x))

theorem rput10 {l : List St} {i : Nat} {x : St} (hl : l.length ≤ 1048576) (hi : i < l.length) (hx : l.getD i noSt = x) {s : List UInt8} (hs : s.length ≤ 100000000) {Post : AV → List AObj → Prop}
    (k : AWP Try.prog 75 0 c23_5 [(0, slP l), (3, .str (B (s ++ if x.1 = 4 then numB x.2.2.2.2.1 ++ numB x.2.2.2.2.2 else []))), (4, .int .i64 (i + 1 : Nat))] [] (q23_2 0 Post)) :
    AWP Try.prog 75 0 c23_10 [(0, slP l), (3, .str (B s)), (4, .int .i64 i)] [] (q23_5 0 Post) := by
  refine v23_10 _ _ _ _ _ (needJ ⟨by omega, by omega⟩ ?_)
  rw [Int.toNat_natCast, hx, succ64 (by omega)]
  have n1 := numB_len x.2.2.2.2.1
  have n2 := numB_len x.2.2.2.2.2
  refine condE (fun k4 => needJ ⟨by omega, by omega⟩ (needJ ⟨by omega, by omega⟩ ?_)) fun k4 => ?_
  · rw [if_pos k4] at k
    refine ASpec.call (rnum_spec _ _) (Les.refl _) ⟨B (numB x.2.2.2.2.1), rfl, rfl, ⟨rfl, rfl⟩, needJ (by rw [B_size, B_size]; omega) ?_⟩
    rw [B_append]
    refine ASpec.call (rnum_spec _ _) (Les.refl _) ⟨B (numB x.2.2.2.2.2), rfl, rfl, needJ (by rw [B_size, B_size, List.length_append]; omega) ?_⟩
    rw [B_append, List.append_assoc]; exact k
  · rw [if_neg k4, List.append_nil] at k; exact k

theorem rput5 {l : List St} (hl : l.length ≤ 1048576) (hk : ∀ x ∈ l, okS x ∧ (stB x).length ≤ 80) {P : List UInt8} (hP : P.length ≤ 100000000) :
    ∀ (m i : Nat) (b : List UInt8), m + i = l.length → b ++ (l.drop i).flatMap stB = P →
    AWP Try.prog 75 0 c23_5 [(0, slP l), (3, .str (B b)), (4, .int .i64 i)] [] (q23_2 0 (PS P)) := by
  intro m
  induction m with
  | zero =>
    intro i b hm hb
    refine v23_5 _ _ _ _ _ (condD (fun hc => by omega) fun _ => ?_)
    rw [List.drop_eq_nil_of_le (by omega)] at hb
    simp only [List.flatMap_nil, List.append_nil] at hb
    subst hb; exact pa (Le.refl _)
  | succ m ih =>
    intro i b hm hb
    have hbl : b.length ≤ P.length := lenL hb
    obtain ⟨⟨o1, o2⟩, hs⟩ := hk _ (memD l noSt i (by omega))
    rw [dropD l noSt i (by omega), List.flatMap_cons, ← List.append_assoc] at hb
    refine v23_5 _ _ _ _ _ (condD (fun _ => needJ ⟨by omega, by omega⟩ (needJ ⟨by omega, by omega⟩ ?_)) fun h => by omega)
    rw [Int.toNat_natCast]
    generalize hx : l.getD i noSt = x at hb hs o1 o2 ⊢
    unfold lim at o1 o2
    have hb2 : (b ++ stB x).length ≤ P.length := lenL hb
    have n1 := numB_len x.1
    have n2 := text_len x.2.1
    have hb3 : b.length + (stB x).length ≤ P.length := by rw [← List.length_append]; exact hb2
    have hst : (stB x).length = (numB x.1).length + ((text x.2.1).length + (stT x).length) := by simp [stB]
    refine ASpec.call (rnum_spec _ _) (Les.refl _) ⟨B (numB x.1), rfl, rfl, ⟨rfl, rfl⟩, needJ (by rw [B_size, B_size]; omega) ?_⟩
    rw [B_append]
    refine ASpec.call (rtext_spec x.2.1 (by unfold big; omega) _) (Les.refl _) ⟨B (text x.2.1), rfl, rfl, needJ (by rw [B_size, B_size, List.length_append]; omega) (needJ ⟨by omega, by omega⟩ ?_)⟩
    rw [B_append]
    refine condE (fun k3 => needJ ⟨by omega, by omega⟩ (needJ ⟨by omega, by omega⟩ ?_)) fun k3 => ?_
    · have n3 := numB_len x.2.2.1
      have n4 := text_len x.2.2.2.1
      refine ASpec.call (rnum_spec _ _) (Les.refl _) ⟨B (numB x.2.2.1), rfl, rfl, ⟨rfl, rfl⟩, needJ (by rw [B_size, B_size]; simp only [List.length_append]; omega) ?_⟩
      rw [B_append]
      refine ASpec.call (rtext_spec x.2.2.2.1 (by unfold big; omega) _) (Les.refl _) ⟨B (text x.2.2.2.1), rfl, rfl, needJ (by rw [B_size, B_size]; simp only [List.length_append]; omega) ?_⟩
      rw [B_append]
      have e : b ++ numB x.1 ++ text x.2.1 ++ numB x.2.2.1 ++ text x.2.2.2.1 = b ++ stB x := by simp [stB, stT, k3]
      rw [e]
      refine rput10 hl (by omega) hx (by omega) ?_
      rw [if_neg (by omega), List.append_nil]
      exact ih (i + 1) _ (by omega) hb
    · refine rput10 hl (by omega) hx (by simp only [List.length_append]; omega) ?_
      have e : b ++ numB x.1 ++ text x.2.1 ++ (if x.1 = 4 then numB x.2.2.2.2.1 ++ numB x.2.2.2.2.2 else []) = b ++ stB x := by simp [stB, stT, k3]
      rw [e]
      exact ih (i + 1) _ (by omega) hb

theorem rput_specP (l : List St) (hl : l.length ≤ maxLen) (hk : ∀ x ∈ l, okS x) (H : List AObj) : ASpec Try.prog 23 [slP l] H (fun r H' => r = .str (B (putP l)) ∧ H' = H) := by
  have k : ASpec Try.prog 23 [slP l] [] (fun r H' => r = .str (B (putP l)) ∧ H' = []) := by
    refine ASpec.sel (s23 _ _ (ASpec.call (rcheck_spec l hl hk _) (Les.refl _) ⟨_, rfl, rfl, condBn (fun h => ?_) fun h => ?_⟩))
    · rw [putP, if_neg (by simp [h])]; exact pa (Le.refl _)
    · obtain ⟨h1, h2, _⟩ := checkM_may h
      rw [putP, if_pos h]
      refine ASpec.call (rnum_spec _ _) (Les.refl _) ⟨B (numB l.length), rfl, rfl, ?_⟩
      exact rput5 h2 (fun x hx => ⟨hk x hx, checkM_okS h x hx⟩) (proofB_len h) l.length 0 _ (by omega) rfl
  exact ASpec.pureH H k _ _ rfl rfl

end Pr
end

section
/- Rounds: what stands at their ends, spelled otherwise. -/

set_option linter.unusedVariables false
set_option linter.unusedSimpArgs false
namespace Go.Ab
section
variable {P : Program} {H : List AObj}

theorem AYield.sel {id : Nat} {args : List AV} {Post : AV → List AObj → Prop}
    (h : AYield P id args H (fun r H' => ∃ l H2 r2, Sel H.length l H' H2 ∧ Le r (AV.ren (selR l H'.length) r2) ∧ Post r2 H2)) : AYield P id args H Post := by
  intro M loc w vs b ht hr hv hl
  obtain ⟨f, tmps, asg, body, h1, h2⟩ := h M loc w vs b ht hr hv hl
  refine ⟨f, tmps, asg, body, h1, h2.mono fun e w' hh => ?_⟩
  obtain ⟨v, r, H', M', loc', he, ⟨l, H2, r2, hs, hle, hP⟩, r1, r2', r3⟩ := hh
  obtain ⟨k1, k2⟩ := r1.select hs
  exact ⟨v, _, _, _, _, he, hP, k1, (hle _ _ _ _ r2').ren_from (fun i l' h => h) _ rfl, StepN.trans r3 k2 (Nat.le_refl _)⟩

theorem AYield.arrEnd {id : Nat} {args : List AV} {Post : AV → List AObj → Prop}
    (h : AYield P id args H (fun r H' => ∃ id sz q q', H'[id]? = some (.arr sz q) ∧ q'.toList = q.toList ∧ Post r (H'.set id (.arr sz q')))) : AYield P id args H Post := by
  intro M loc w vs b ht hr hv hl
  obtain ⟨f, tmps, asg, body, h1, h2⟩ := h M loc w vs b ht hr hv hl
  refine ⟨f, tmps, asg, body, h1, h2.mono fun e w' hh => ?_⟩
  obtain ⟨v, r, H', M', loc', he, ⟨id, sz, q, q', ho, hq, hP⟩, r1, r2, r3⟩ := hh
  obtain ⟨k1, k2⟩ := r1.respell id (.arr sz q) (.arr sz q') ho (by intro h; cases h) (by intro h; cases h) (oarr_eq hq)
  exact ⟨v, r, _, M', loc', he, hP, k1, r2.keeps (k2.keeps r1), StepN.trans r3 k2 r3.len⟩

theorem ARound.mono {N n id : Nat} {o o' : AObj} {asg body : Code} {s : Slots} {Q Q' : AQ} (h : ARound P N n id o o' asg body s H Q) (hq : ∀ e s H, Q e s H → Q' e s H) : ARound P N n id o o' asg body s H Q' := by
  intro ro
  refine AWP.mono (h ro) fun e s' H' hh => ?_
  cases e with
  | normal => exact ⟨hh.1, fun ro => AWP.mono (hh.2 ro) hq⟩
  | _ => exact hh.elim

end

/-- a choice of objects, each one shown by itself -/
def SelL (H : List AObj) (ρ : Nat → Nat) : List Nat → List AObj → Prop
  | [], [] => True
  | i :: l, o :: H2 => H[i]? = some (AObj.ren ρ o) ∧ SelL H ρ l H2
  | _, _ => False
theorem SelL.at {H : List AObj} {ρ : Nat → Nat} : ∀ {l : List Nat} {H2 : List AObj}, SelL H ρ l H2 → l.length = H2.length ∧ ∀ (d i : Nat) (h : i < H2.length), H[l.getD i d]? = some (AObj.ren ρ H2[i])
  | [], [], _ => ⟨rfl, fun _ i h => absurd h (Nat.not_lt_zero _)⟩
  | i :: l, o :: H2, h => by
    obtain ⟨a, b⟩ := SelL.at h.2
    refine ⟨by simp [a], fun d j hj => ?_⟩
    cases j with
    | zero => exact h.1
    | succ j => exact b d j (by simpa using hj)
theorem Sel.mk0 {l : List Nat} {H H2 : List AObj} (hn : l.Nodup) (h : SelL H (selR l H.length) l H2) : Sel 0 l H H2 :=
  ⟨hn, h.at.1, Nat.zero_le _, fun _ h => absurd h (Nat.not_lt_zero _), fun i hi => .inl (h.at.2 _ i hi)⟩
end Go.Ab
end

section
/- Steps of a proof: what is left of one that is trimmed (the program's). -/

set_option linter.unusedVariables false
set_option linter.unusedSimpArgs false
set_option maxRecDepth 100000
open Go Go.Ab Go.Proofs V S T C
open W (sl1 numB text lenL)
open E (PA pa)
open Pf (s228 s309 v309_1 c309_1 q309_1 s125 v125_2 v125_3 v125_6 v125_8 v125_11 v125_16 c125_2 c125_3 c125_6 c125_6a c125_8 c125_11 c125_16 q125_0 q125_2 q125_4 q125_7 s19)
namespace Pr

/-! ### the model -/

def markS (x : St) (u : List Bool) : List Bool := (u.set x.2.2.2.2.1.toNat true).set x.2.2.2.2.2.toNat true
/-- what is used, of the first i steps, by what is used already -/
def markF (l : List St) : Nat → List Bool → List Bool
  | 0, u => u
  | i + 1, u => markF l i (if u.getD i false = true ∧ (l.getD i noSt).1 = 4 then markS (l.getD i noSt) u else u)
def usedM (l : List St) : List Bool := markF l l.length ((List.replicate l.length false).set (l.length - 1) true)
def reSt (x : St) (t : List Int) : St := if x.1 = 4 then (x.1, x.2.1, x.2.2.1, x.2.2.2.1, t.getD x.2.2.2.2.1.toNat 0, t.getD x.2.2.2.2.2.toNat 0) else x
def trF (u : List Bool) : Nat → List St → List Int → List St → List St
  | _, [], _, out => out
  | i, x :: r, t, out => if u.getD i false = true then trF u (i + 1) r (t.set i out.length) (out ++ [reSt x t]) else trF u (i + 1) r t out
def trimM (l : List St) : List St := trF (usedM l) 0 l (List.replicate l.length 0) []

theorem markS_len (x : St) (u : List Bool) : (markS x u).length = u.length := by simp [markS]
theorem markF_len (l : List St) : ∀ (i : Nat) (u : List Bool), (markF l i u).length = u.length
  | 0, u => rfl
  | i + 1, u => by
    simp only [markF]
    rw [markF_len l i]
    split
    · exact markS_len _ _
    · rfl
theorem usedM_len (l : List St) : (usedM l).length = l.length := by unfold usedM; rw [markF_len]; simp

/-- joined steps name steps ahead of them -/
def okJ (l : List St) : Prop := ∀ i, i < l.length → (l.getD i noSt).1 = 4 → 0 ≤ (l.getD i noSt).2.2.2.2.1 ∧ (l.getD i noSt).2.2.2.2.1 < i ∧ 0 ≤ (l.getD i noSt).2.2.2.2.2 ∧ (l.getD i noSt).2.2.2.2.2 < i

theorem chkF_at : ∀ (l : List St) (k : Nat), chkF k l = true → ∀ i, i < l.length → mayM (l.getD i noSt) ((k + i : Nat) : Int) = true
  | [], _, _, i, hi => by simp at hi
  | x :: r, k, h, i, hi => by
    simp only [chkF, Bool.and_eq_true] at h
    cases i with
    | zero => exact h.1
    | succ i =>
      have := chkF_at r (k + 1) h.2 i (by simpa using hi)
      rw [show k + 1 + i = k + (i + 1) by omega] at this
      exact this

theorem okJ_of {l : List St} (h : checkM l = true) : okJ l := by
  intro i hi k4
  unfold checkM at h
  rw [Bool.and_eq_true] at h
  have hm := chkF_at l 0 h.2 i hi
  rw [Nat.zero_add] at hm
  unfold mayM at hm
  rw [Bool.and_eq_true] at hm
  have := hm.2
  rw [if_neg (by omega), if_neg (by omega), if_pos k4] at this
  have := of_decide_eq_true this
  omega

/-! ### the rounds -/

noncomputable abbrev LP : AObj := .lp 80 [(3, .ptr 1 0), (20, .bad), (21, .bad)] [20, 21] c125_6a c125_6 .ready
noncomputable abbrev LPB : AObj := .lp 80 [(3, .ptr 1 0), (20, .bad), (21, .bad)] [20, 21] c125_6a c125_6 .busy
noncomputable abbrev HB (l : List St) (u : List Bool) : List AObj := [.arr 1 (.map encBo false u), .cells [.msl 1 0 0 u.length], .cells [slP l], LP]

theorem encBo_set (u : List Bool) (k : Nat) (b : Bool) : (u.set k b).map encBo = (u.map encBo).set k [.bool b] := by
  rw [List.map_set]; rfl

theorem drop1 (u : List Bool) (k : Nat) : List.drop 1 ((u.map encBo).getD k []) = [] := by
  rw [List.getD_eq_getElem?_getD, List.getElem?_map]
  cases u[k]? <;> rfl

theorem round_spec {l : List St} {u : List Bool} {i : Nat} {x : St} (hi : i < u.length) (hl : u.length ≤ 1048576) (hj : x.1 = 4 → 0 ≤ x.2.2.2.2.1 ∧ x.2.2.2.2.1 < u.length ∧ 0 ≤ x.2.2.2.2.2 ∧ x.2.2.2.2.2 < u.length) {Post : AV → List AObj → Prop}
    (h : Post (.bool true) (HB l (if u.getD i false = true ∧ x.1 = 4 then markS x u else u))) : AYield Try.prog 3 [.int .i64 i, agS x] (HB l u) Post := by
  refine AYield.sel (AYield.arrEnd (AYield.of (N := 80) [3, 20, 21] rfl rfl rfl ?_))
  have fin : ∀ (s : Slots) (q : Seq) (u' : List Bool), q.toList = u'.map encBo → u'.length = u.length → u' = (if u.getD i false = true ∧ x.1 = 4 then markS x u else u) →
      ∃ id sz q1 q', ([.arr 1 q, .cells [.msl 1 0 0 u.length], .cells [slP l], LP, .cells (encSt x)] : List AObj)[id]? = some (.arr sz q1) ∧ q'.toList = q1.toList ∧
        ∃ l1 H2 r2, Sel (HB l u).length l1 (([.arr 1 q, .cells [.msl 1 0 0 u.length], .cells [slP l], LP, .cells (encSt x)] : List AObj).set id (.arr sz q')) H2 ∧ Le (.bool true) (AV.ren (selR l1 (([.arr 1 q, .cells [.msl 1 0 0 u.length], .cells [slP l], LP, .cells (encSt x)] : List AObj).set id (.arr sz q')).length) r2) ∧ Post r2 H2 := by
    intro s q u' hq hlen hu
    refine ⟨0, 1, q, .map encBo false u', rfl, hq.symm, [0, 1, 2, 3], HB l u', .bool true, ⟨by decide, rfl, by show 4 ≤ 4; omega, fun j hj => ?_, fun j hj => ?_⟩, Le.refl _, by rw [hu]; exact h⟩
    · match j, hj with
      | 0, _ | 1, _ | 2, _ | 3, _ => rfl
    · match j, hj with
      | 0, _ | 2, _ | 3, _ => exact .inl rfl
      | 1, _ => left; show some (AObj.cells [.msl 1 0 0 u.length]) = some (AObj.cells [.msl 1 0 0 u'.length]); rw [hlen]
  refine v125_6 l u i x LP LPB 4 (fun _ _ => True) _ (needJ rfl (needJ ⟨by omega, by omega⟩ (needJ (by rw [Int.toNat_natCast, Nat.zero_add]; exact hi) ?_)))
  rw [Int.toNat_natCast, Nat.zero_add]
  refine condB (fun hu => condE (fun k4 => ?_) fun k4 => ?_) fun hu => ?_
  · obtain ⟨j1, j2, j3, j4⟩ := hj k4
    refine needJ ⟨j1, j2⟩ (needJ (by omega) ⟨⟨rfl, rfl⟩, ⟨rfl, rfl⟩, needJ ⟨j3, j4⟩ (needJ (by simp [Ab.Seq.toList]; omega) ?_)⟩)
    refine ⟨rfl, ?_⟩
    refine fin [] _ (markS x u) ?_ (markS_len x u) (by rw [if_pos ⟨hu, k4⟩])
    show ((u.map encBo).set (0 + x.2.2.2.2.1.toNat) [.bool true]).set (0 + x.2.2.2.2.2.toNat) (.bool true :: List.drop 1 (((u.map encBo).set (0 + x.2.2.2.2.1.toNat) [.bool true]).getD (0 + x.2.2.2.2.2.toNat) [])) = _
    rw [show List.drop 1 (((u.map encBo).set (0 + x.2.2.2.2.1.toNat) [.bool true]).getD (0 + x.2.2.2.2.2.toNat) []) = [] from ?_]
    rotate_left
    · rw [show ([AV.bool true] : List AV) = encBo true from rfl, ← List.map_set]
      exact drop1 _ _
    rw [markS, encBo_set, encBo_set, Nat.zero_add, Nat.zero_add]
  · exact ⟨rfl, fin [] (.map encBo false u) u rfl rfl (by rw [if_neg (fun h => k4 h.2)])⟩
  · exact ⟨rfl, fin [] (.map encBo false u) u rfl rfl (by rw [if_neg (fun h => by rw [hu] at h; simp at h)])⟩

theorem slLe {ρ : Nat → Nat} (l : List St) (tip : Tip) : Le (.sl 6 (.map encSt noSt l) tip) (AV.ren ρ (slP l)) := Le.sl (s' := Seq.ren _ (.map encSt noSt l)) (by simp [Ab.Seq.toList, Seq.ren, renSt]) (.inl rfl) (.inr rfl)

theorem loop309 {l : List St} (hl : l.length ≤ 1048576) (hj : okJ l) {n : Nat} {R : List Bool} {Post : AV → List AObj → Prop} (hp : Post (.tup []) (HB l R)) :
    ∀ (i : Nat) (u : List Bool), i ≤ l.length → u.length = l.length → markF l i u = R →
    AWP Try.prog 19 n c309_1 [(0, .yld 3), (1, .ptr 2 0), (3, .int .i64 ((i : Int) - 1))] (HB l u) (q309_1 n Post) := by
  intro i
  induction i with
  | zero =>
    intro u hi hu hR
    simp only [markF] at hR
    subst hR
    exact v309_1 _ _ _ _ _ _ _ (condD (fun h => by omega) fun _ => hp)
  | succ i ih =>
    intro u hi hu hR
    rw [show (((i + 1 : Nat) : Int) - 1) = (i : Int) by omega]
    refine v309_1 _ _ _ _ _ _ _ (condD (fun _ => needJ ⟨by omega, by omega⟩ ?_) fun h => by omega)
    rw [Int.toNat_natCast]
    have hji := hj i (by omega)
    simp only [markF] at hR
    generalize l.getD i noSt = x at hR hji ⊢
    refine round_spec (u := u) (i := i) (x := x) (by omega) (by omega) (fun h => by have := hji h; omega) ?_
    rw [wrap64 (by omega) (by omega)]
    have hl2 : (if u.getD i false = true ∧ x.1 = 4 then markS x u else u).length = u.length := by split <;> simp [markS_len]
    refine ⟨(if u.getD i false = true ∧ x.1 = 4 then markS x u else u), rfl, ?_, ?_⟩
    · show HB l _ = _
      unfold HB; rw [hl2]
    · have := ih _ (by omega) (by rw [hl2, hu]) hR
      unfold HB at this; rw [hl2] at this
      exact this

theorem trim11 {l : List St} (hl : l.length ≤ 1048576) (hj : okJ l) {u : List Bool} (hu : u.length = l.length) {R : List St} :
    ∀ (m i : Nat) (t : List Int) (out : List St), m + i = l.length → t.length = l.length → out.length ≤ i → trF u i (l.drop i) t out = R →
    AWP Try.prog 80 0 c125_11 [(3, .ptr 1 0), (6, .msl 1 2 0 t.length), (7, .sl 6 (.map encSt noSt out) (.tok 3)), (42, slP l), (43, .int .i64 l.length), (44, .int .i64 i)]
      [.arr 1 (.map encBo false u), .cells [.msl 1 0 0 u.length], .arr 1 (.map encI 0 t), .tok] (q125_4 0 (PA (slP R))) := by
  intro m
  induction m with
  | zero =>
    intro i t out hm ht ho hR
    rw [List.drop_eq_nil_of_le (by omega)] at hR
    simp only [trF] at hR
    subst hR
    exact v125_11 _ _ _ _ _ _ _ (condD (fun h => by omega) fun _ => pa (slLe _ _))
  | succ m ih =>
    intro i t out hm ht ho hR
    rw [dropD l noSt i (by omega)] at hR
    simp only [trF] at hR
    refine v125_11 _ _ _ _ _ _ _ (condD (fun _ => needJ ⟨by omega, by omega⟩ (needJ ⟨by omega, by omega⟩ ?_)) fun h => by omega)
    rw [Int.toNat_natCast, Nat.zero_add, succ64 (by omega)]
    have hji := hj i (by omega)
    generalize l.getD i noSt = x at hR hji ⊢
    refine needJ (by omega) (condBn (fun hb => ?_) fun hb => ?_)
    · rw [if_neg (by rw [hb]; simp)] at hR
      exact AWP.shape [0, 1, 2, 3] [(3, .ptr 1 0), (6, .msl 1 2 0 t.length), (7, .sl 6 (.map encSt noSt out) (.tok 3)), (42, slP l), (43, .int .i64 l.length), (44, .int .i64 (i + 1 : Nat))] [.arr 1 (.map encBo false u), .cells [.msl 1 0 0 u.length], .arr 1 (.map encI 0 t), .tok] (Sel.mk0 (by decide) ⟨rfl, rfl, rfl, rfl, trivial⟩) ⟨rfl, Le.refl _, rfl, Le.refl _, rfl, Le.sl (s' := Seq.ren _ (.map encSt noSt out)) (by simp [Ab.Seq.toList, Seq.ren, renSt]) (.inl rfl) (.inl rfl), rfl, slLe _ _, rfl, Le.refl _, rfl, Le.refl _, trivial⟩ (ih (i + 1) t out (by omega) ht (by omega) hR)
    · rw [if_pos hb] at hR
      have nxt : ∀ y, y = reSt x t → AWP Try.prog 80 0 c125_16 [(3, .ptr 1 0), (6, .msl 1 2 0 t.length), (7, .sl 6 (.map encSt noSt out) (.tok 3)), (8, .int .i64 i), (9, .ptr 4 0), (42, slP l), (43, .int .i64 l.length), (44, .int .i64 i)]
          [.arr 1 (.map encBo false u), .cells [.msl 1 0 0 u.length], .arr 1 (.map encI 0 t), .tok, .cells (encSt y)] (q125_7 0 (PA (slP R))) := by
        intro y hy
        subst hy
        refine v125_16 _ _ _ _ _ _ _ _ (needJ ⟨by omega, by omega⟩ (needJ (by rw [Int.toNat_natCast]; omega) (needJ (by omega) ?_)))
        rw [Int.toNat_natCast, Nat.zero_add, succ64 (by omega)]
        have et : (t.set i (out.length : Int)).length = t.length := List.length_set
        have := ih (i + 1) (t.set i out.length) (out ++ [reSt x t]) (by omega) (by rw [et, ht]) (by simp; omega) hR
        rw [et] at this
        refine AWP.re (ReSt.arr (id := 2) (q := _) (q' := .map encI 0 (t.set i out.length)) rfl (by simp only [Seq.toList, List.map_set]; rfl)) ?_
        exact AWP.shape [0, 1, 2, 5] [(3, .ptr 1 0), (6, .msl 1 2 0 t.length), (7, .sl 6 (.map encSt noSt (out ++ [reSt x t])) (.tok 3)), (42, slP l), (43, .int .i64 l.length), (44, .int .i64 (i + 1 : Nat))] [.arr 1 (.map encBo false u), .cells [.msl 1 0 0 u.length], .arr 1 (.map encI 0 (t.set i out.length)), .tok] (Sel.mk0 (by decide) ⟨rfl, rfl, rfl, rfl, trivial⟩)
          ⟨rfl, Le.refl _, rfl, Le.refl _, rfl, leAppE (Les.refl _), rfl, Le.refl _, rfl, Le.refl _, rfl, Le.refl _, trivial⟩ this
      refine condE (fun k4 => ?_) fun k4 => ?_
      · obtain ⟨j1, j2, j3, j4⟩ := hji k4
        refine needJ ⟨by omega, by omega⟩ (needJ (by omega) (needJ ⟨by omega, by omega⟩ (needJ (by omega) ⟨needJ (by omega) ⟨rfl, rfl⟩, ?_⟩)))
        rw [Nat.zero_add, Nat.zero_add]
        exact nxt _ (by unfold reSt; rw [if_pos k4])
      · exact nxt _ (by unfold reSt; rw [if_neg k4])

theorem trim_spec (l : List St) (hc : checkM l = true) (H : List AObj) : ASpec Try.prog 125 [slP l] H (fun r H' => r = slP (trimM l) ∧ H' = H) := by
  have hj := okJ_of hc
  obtain ⟨h1, h2, _⟩ := checkM_may hc
  have k : ASpec Try.prog 125 [slP l] [] (fun r H' => r = slP (trimM l) ∧ H' = []) := by
    refine ASpec.sel (s125 _ _ (needJ (by omega) ?_))
    have el : (List.replicate l.length false).length = l.length := List.length_replicate
    refine AWP.re (ReSt.arr (id := 0) (q := _) (q' := .map encBo false (List.replicate l.length false)) rfl (by simp only [Seq.toList, List.map_replicate]; rfl)) ?_
    show AWP Try.prog 80 0 c125_2 _ [.arr 1 (.map encBo false (List.replicate l.length false)), .cells [.msl 1 0 0 l.length]] _
    have a2 := v125_2 l (List.replicate l.length false) 0 (PA (slP (trimM l)))
    rw [el, wrap64 (by omega) (by omega)] at a2
    refine a2 (needJ ⟨by omega, by omega⟩ (needJ (by omega) ?_))
    rw [show (0 + ((l.length : Int) - 1).toNat) = l.length - 1 by omega]
    have eu : ((List.replicate l.length false).set (l.length - 1) true).length = l.length := by simp
    refine AWP.re (ReSt.arr (id := 0) (q := _) (q' := .map encBo false ((List.replicate l.length false).set (l.length - 1) true)) rfl (by simp only [Seq.toList, List.map_set]; rfl)) ?_
    show AWP Try.prog 80 0 c125_3 _ [.arr 1 (.map encBo false ((List.replicate l.length false).set (l.length - 1) true)), .cells [.msl 1 0 0 l.length]] _
    have a3 := v125_3 l ((List.replicate l.length false).set (l.length - 1) true) 0 (PA (slP (trimM l)))
    rw [eu] at a3
    refine a3 ?_
    have s2 : ∀ H, ASpec Try.prog 228 [slP l] H (fun r H' => r = .fn 309 [.ptr H.length 0] ∧ H' = H ++ [.cells [slP l]]) := fun H => by
      have k0 : ASpec Try.prog 228 [slP l] [] (fun r H' => r = .fn 309 [.ptr 0 0] ∧ H' = [.cells [slP l]]) := s228 _ _ ⟨rfl, rfl⟩
      exact ASpec.subH [] H _ k0 _ _ (by simp) rfl rfl rfl (fun i h => by simp at h) rfl
    refine ASpec.call (s2 _) (Les.refl _) ⟨(), rfl, rfl, ?_⟩
    refine s309 l _ l.length LP _ ?_
    rw [wrap64 (by omega) (by omega)]
    have := loop309 (l := l) (by omega) hj (n := 4) (R := usedM l) (Post := fun r H' => rangeEnd (q125_2 0 (PA (slP (trimM l)))) [(19, AV.fn (309 : FuncId) [AV.ptr 2 0]), (18, slP l), (0, slP l), (3, AV.ptr 1 0)] 3 H') ?_ l.length _ (Nat.le_refl _) eu rfl
    · unfold HB at this; rw [eu] at this; exact this
    · refine ⟨_, _, _, _, _, .ready, rfl, ?_⟩
      show AWP Try.prog 80 0 c125_8 [(0, slP l), (3, .ptr 1 0)] [.arr 1 (.map encBo false (usedM l)), .cells [.msl 1 0 0 (usedM l).length], .cells [slP l], .gone] (q125_0 0 _)
      refine AWP.shape [0, 1] [(0, slP l), (3, .ptr 1 0)] [.arr 1 (.map encBo false (usedM l)), .cells [.msl 1 0 0 (usedM l).length]] (Sel.mk0 (by decide) ⟨rfl, rfl, trivial⟩) ⟨rfl, slLe _ _, rfl, Le.refl _, trivial⟩ ?_
      refine v125_8 _ _ _ _ (needJ (by omega) ?_)
      have e0 : (List.replicate l.length (0 : Int)).length = l.length := List.length_replicate
      refine AWP.re (ReSt.arr (id := 2) (q := _) (q' := .map encI 0 (List.replicate l.length 0)) rfl (by simp only [Seq.toList, List.map_replicate]; rfl)) ?_
      refine AWP.re (ReSt.tok (k := 7) (q' := .map encSt noSt []) (sz' := 6) (s2 := [(3, .ptr 1 0), (6, .msl 1 2 0 l.length), (7, .sl 6 (.map encSt noSt []) (.tok 3)), (42, slP l), (43, .int .i64 l.length), (44, .int .i64 (0 : Nat))]) rfl (.inl rfl) rfl (.inr rfl) (fun d hd => ?_) rfl) ?_
      · simp only [Ab.get]
        have e : Nat.beq 7 d = false := by
          cases hx : Nat.beq 7 d with
          | false => rfl
          | true => exact absurd (Nat.eq_of_beq_eq_true hx).symm hd
        rw [e]; rfl
      · have := trim11 (l := l) (by omega) hj (usedM_len l) l.length 0 (List.replicate l.length 0) [] (by omega) e0 (by simp) rfl
        rw [e0] at this
        exact this
  exact ASpec.pureH H k _ _ rfl rfl

end Pr
end

section
/- ProofBytes: the law: it returns true. -/

set_option linter.unusedVariables false
set_option linter.unusedSimpArgs false
set_option maxRecDepth 100000
open Go Go.Ab Go.Proofs V S T C
open W (sl1 lenL numB_len text_len)
open E (PA pa)
open Pf (s19 s3 v3_8 c3_8 q3_0)
namespace Pr

def wake : List St := [(1, [97], 0, [], 0, 0), (2, [98], 0, [], 0, 0), (2, [97], 0, [], 0, 0), (4, [97], 0, [], 0, 2)]
theorem wake_ok : checkM wake = true := by decide
theorem wake_trim : trimM wake = [(1, [97], 0, [], 0, 0), (2, [97], 0, [], 0, 0), (4, [97], 0, [], 0, 1)] := by decide

theorem awake_spec (H : List AObj) : ASpec Try.prog 19 [] H (fun r H' => r = .bool true ∧ H' = H) := by
  have k : ASpec Try.prog 19 [] [] (fun r H' => r = .bool true ∧ H' = []) := by
    refine s19 _ (ASpec.call (trim_spec wake wake_ok _) ⟨Le.sl rfl (.inl rfl) (.inr rfl), trivial⟩ ⟨trimM wake, rfl, rfl, ?_⟩)
    refine ASpec.call (check_spec wake (by unfold maxLen; decide) (by unfold okS lim; decide) _) ⟨Le.sl rfl (.inl rfl) (.inr rfl), trivial⟩ ⟨true, by rw [wake_ok], rfl, ?_⟩
    rw [wake_trim]
    exact condB (fun _ => condE (fun _ => needJ ⟨by decide, by decide⟩ ⟨by show AV.bool (true && ((B [97]).toList == (B [97]).toList && (true && ((B []).toList == (B []).toList && (true && (true && true)))))) = _; rw [B_beq, B_beq]; rfl, rfl⟩) fun h => (h rfl).elim) fun h => by simp at h
  exact ASpec.pureH H k _ _ rfl rfl

theorem proofBytes_spec (l : List St) (b : List UInt8) (H : List AObj) : ASpec Try.prog 3 [slP l, sl1 b] H (fun r H' => r = .bool true ∧ H' = H) := by
  have k : ASpec Try.prog 3 [slP l, sl1 b] [] (PB true) := by
    have aw : ∀ (H' : List AObj), ASpec Try.prog 19 [] H' (fun r H'' => r = .bool true ∧ H'' = H') := awake_spec
    refine s3 _ _ _ (ASpec.call (large_spec l _) (Les.refl _) ⟨_, rfl, rfl, condB (fun _ => ASpec.call (aw _) (Les.refl _) ⟨(), rfl, rfl, pb rfl⟩) fun hlg => condD (fun _ => ASpec.call (aw _) (Les.refl _) ⟨(), rfl, rfl, pb rfl⟩) fun h1 => ?_⟩)
    obtain ⟨_, hll, hk⟩ := largeM_ok hlg
    have hml : l.length ≤ maxLen := by unfold maxLen; omega
    refine ASpec.call (put_specP l hml hk _) (Les.refl _) ⟨_, rfl, rfl, ?_⟩
    refine ASpec.call (read_specP b (by omega) _) (Les.refl _) ⟨((readP b).1, (readP b).2), rfl, rfl, needJ (allBytes_map _) ?_⟩
    rw [bytesOf_map]
    refine ASpec.call (rread_specP b (by omega) _) (Les.refl _) ⟨((readP b).1, (readP b).2), rfl, rfl, needJ (allBytes_map _) ?_⟩
    refine ASpec.call (rput_specP l hml hk _) (Les.refl _) ⟨_, rfl, rfl, ?_⟩
    rw [bytesOf_map]
    refine condSn (fun h => (h rfl).elim) fun _ => ?_
    have hr := readP_ok b
    refine ASpec.call (rsame_spec (readP b).1 (readP b).1 (by omega) _) (Les.refl _) ⟨_, rfl, rfl, condBn (fun h => by simp at h) fun _ => condNe (fun h => (h rfl).elim) fun _ => ?_⟩
    have fin : AWP Try.prog 81 0 c3_8 [(0, slP l), (5, sl1 (putP l))] [] (q3_0 0 (PB true)) := by
      have hpl : (putP l).length ≤ 100000000 := by
        unfold putP
        split
        · rename_i h; exact proofB_len h
        · simp
      refine v3_8 _ _ _ _ (ASpec.call (read_specP (putP l) (by omega) _) (Les.refl _) ⟨((readP (putP l)).1, (readP (putP l)).2), rfl, rfl, ?_⟩)
      refine ASpec.call (rcheck_spec l hml hk _) (Les.refl _) ⟨_, rfl, rfl, condBn (fun _ => ASpec.call (aw _) (Les.refl _) ⟨(), rfl, rfl, pb rfl⟩) fun hc => ?_⟩
      rw [show readP (putP l) = (l, 0) by rw [putP, if_pos hc]; exact read_putP hc]
      refine condE (fun _ => ?_) fun h => (h rfl).elim
      exact ASpec.call (rsame_spec l l (by omega) _) (Les.refl _) ⟨_, rfl, rfl, condB (fun _ => ASpec.call (aw _) (Les.refl _) ⟨(), rfl, rfl, pb rfl⟩) fun h => by simp at h⟩
    refine condE (fun h0 => needJ (allBytes_map _) ?_) fun _ => fin
    obtain ⟨e1, e2⟩ := put_readP h0
    refine ASpec.call (put_specP (readP b).1 (by unfold maxLen; omega) hr.2 _) (Les.refl _) ⟨_, rfl, rfl, needJ (allBytes_map _) ?_⟩
    rw [bytesOf_map, putP, if_pos e2, e1]
    exact condSn (fun h => (h rfl).elim) fun _ => fin
  exact ASpec.pureH (r0 := .bool true) H (ASpec.sel k) _ _ rfl rfl
end Pr
end

section
/- The codecs of this seat's plain arguments. -/

open Go Go.Ab Go.Proofs
namespace Go.Ab

noncomputable def cInt : Codec Try.prog 3 Int := Codec.int .i64 Try.underlying3
noncomputable def cStr : Codec Try.prog 9 ByteArray := Codec.str Try.underlying9
noncomputable def cInts : Codec Try.prog 153 (List Int) := Codec.slice (sz := 1) cInt Try.underlying153 (by kernel_rfl) (by omega) (fun _ => rfl)
/-- a byte -/
noncomputable def cByte : Codec Try.prog 5 UInt8 where
  enc b := encB b
  ok _ := True
  dflt := 0
  opens := by
    intro H e w fuel cs x h
    obtain ⟨n, h1, h2⟩ := (Codec.int .u8 Try.underlying5).opens e w fuel cs x h
    have hn : 0 ≤ n ∧ n ≤ 255 := by simpa [Codec.int, Lit.wf, IntKind.min, IntKind.max, IntKind.signed, IntKind.bits] using h1
    refine ⟨UInt8.ofNat n.toNat, trivial, ?_⟩
    rw [← encB_ofNat hn.1 (by omega)]
    exact h2
noncomputable def cBytes : Codec Try.prog 23 (List UInt8) := Codec.slice (sz := 1) cByte Try.underlying23 (by kernel_rfl) (by omega) (fun _ => rfl)

end Go.Ab
end

section
/- The codecs of manifests. -/

open Go Go.Ab Go.Proofs
namespace Go.Ab

noncomputable def cName : Codec Try.prog 9 (List UInt8) := cStr.iso (fun s => s.data.toList) (fun l => [.str ⟨l.toArray⟩]) (fun _ => True) (fun _ => rfl) (fun _ _ => trivial)
end Go.Ab
end

section
/- The codec of lists of steps of a proof. -/

open Go Go.Ab Go.Proofs
namespace Go.Ab
noncomputable def cSt : Codec Try.prog 175 T.St :=
  (Codec.struct (n := 6) Try.underlying175 (FC.cons (k := 1) (n := 5) cInt rfl (by kernel_rfl) (FC.cons (k := 1) (n := 4) cName rfl (by kernel_rfl) (FC.cons (k := 1) (n := 3) cInt rfl (by kernel_rfl) (FC.cons (k := 1) (n := 2) cName rfl (by kernel_rfl)
    (FC.cons (k := 1) (n := 1) cInt rfl (by kernel_rfl) (FC.cons (k := 1) (n := 0) cInt rfl (by kernel_rfl) FC.nil)))))) (by kernel_rfl)).iso (fun x => (x.1, x.2.1, x.2.2.1, x.2.2.2.1, x.2.2.2.2.1, x.2.2.2.2.2.1)) T.encSt (fun _ => True) (fun _ => rfl) (fun _ _ => trivial)
noncomputable def cSts : Codec Try.prog 22 (List T.St) := Codec.slice (sz := 6) cSt Try.underlying22 (by kernel_rfl) (by omega) (fun _ => rfl)
end Go.Ab
end

section
/- What is asked of the program alone, once for all statements. -/

namespace Go.Proofs.Facts
open Go Go.Proofs
theorem andT {a b : Bool} (h : a = true) (k : b = true) : (a && b) = true := by rw [h, k]; rfl
theorem laid : laidOutB Try.prog = true := by kernel_rfl
theorem mapsRowed : Go.mapsRowed Try.prog = true := by kernel_rfl
theorem stops : (Try.prog.stops == []) = true := by kernel_rfl
theorem stopKnobs : (Try.prog.stopKnobs == []) = true := by kernel_rfl
theorem heard : Try.prog.stopsHeard = true := by kernel_rfl
theorem may : Try.prog.mayEnter = true := by kernel_rfl
theorem lifted : (false == Try.prog.liftsFinal) = true := by kernel_rfl
theorem plain : (true == Try.prog.plainKeys) = true := by kernel_rfl
theorem made : (Try.prog.make == some .cut) = true := by kernel_rfl
theorem own : ownKnob Try.prog.godebug = none := by kernel_rfl
end Go.Proofs.Facts
end
