/- Q3: several of this proof's own texts, one behind the other: what each proves stands at its head. -/
import Derived.Test.YtbjcdgepclmmjaaQ2
import Derived.Test.YtbjcdgepclmmjaaA1
import Derived.Test.YtbjcdgepclmmjaaProg
import Derived.Test.YtbjcdgepclmmjaaChecked
import Derived.KernelRfl
import Derived.JoinedOf
section
/- Sets of places: the document's code. -/

set_option linter.unusedVariables false
set_option linter.unusedSimpArgs false
set_option maxRecDepth 100000
open Go Go.Ab Go.Proofs V S T C
open W (sl1 slS slN slR leNone cons_dec renS)
open Sp
namespace Sg

noncomputable abbrev slI (l : List Int) : AV := .sl 1 (.map encI 0 l) .none

/-! ### has -/

theorem rhas2 {l : List Span} (hs : ok l) {p : Int} {c : Bool} : ∀ (m i : Nat), m + i = l.length → hasS (l.drop i) p = c →
    AWP Try.prog 34 0 c331_2 [(0, slS l), (1, .int .i64 p), (5, .int .i64 i)] [] (q331_2 0 (PB c)) := by
  have hl := ok_len hs
  intro m
  induction m with
  | zero =>
    intro i hm h
    refine v331_2 _ _ _ _ _ (condD (fun hc => by omega) fun _ => pb ?_)
    rw [List.drop_eq_nil_of_le (by omega)] at h
    exact h
  | succ m ih =>
    intro i hm h
    have hin : (0 : Int) ≤ (i : Int) ∧ (i : Int) < (l.length : Int) := ⟨by omega, by omega⟩
    obtain ⟨r1, r2, r3, _⟩ := chkS_rise hs i (by omega)
    rw [dropD l (0, 0) i (by omega), hasS_cons] at h
    refine v331_2 _ _ _ _ _ (condD (fun hc => needJ hin ?_) fun hc => by omega)
    rw [Int.toNat_natCast]
    generalize l.getD i (0, 0) = x at h r1 r2 r3 ⊢
    refine condD (fun h1 => needJ hin (condD (fun h2 => condD (fun h3 => pb ?_) fun h3 => by omega) fun h2 => ?_)) fun h1 => ?_
    · rw [inS_iff.2 ⟨h1, h2⟩, Bool.true_or] at h
      rw [← h, decide_eq_true (by omega)]
    · rw [inS_false.2 (by omega), Bool.false_or] at h
      rw [suc64 (by omega)]
      exact ih (i + 1) (by omega) h
    · rw [inS_false.2 (by omega), Bool.false_or] at h
      rw [suc64 (by omega)]
      exact ih (i + 1) (by omega) h

theorem rhas_spec (l : List Span) (p : Int) (hs : ok l) (H : List AObj) : ASpec Try.prog 331 [slS l, .int .i64 p] H (fun r H' => r = .bool (hasS l p) ∧ H' = H) :=
  ASpec.pureH (r0 := .bool (hasS l p)) H (ASpec.sel (s331 _ _ _ (rhas2 hs l.length 0 (by omega) rfl))) _ _ rfl rfl

/-! ### cuts -/

def clip (p : Int) : Int := min (max p 0) 1000000000
def insS (p : Int) : List Int → List Int
  | [] => [p]
  | x :: r => if p ≤ x then (if p = x then p :: r else p :: x :: r) else x :: insS p r

theorem insS_len (p : Int) : ∀ l : List Int, (insS p l).length ≤ l.length + 1
  | [] => Nat.le_refl _
  | x :: r => by
    simp only [insS]
    repeat' split
    · simp
    · simp
    · have := insS_len p r; simp; omega
theorem insS_mem (p q : Int) : ∀ l : List Int, q ∈ insS p l ↔ q = p ∨ q ∈ l
  | [] => by simp [insS]
  | x :: r => by
    simp only [insS]
    repeat' split
    · rename_i h; subst h; simp
    · simp
    · simp only [List.mem_cons, insS_mem p q r]
      constructor
      · rintro (h | h | h)
        · exact .inr (.inl h)
        · exact .inl h
        · exact .inr (.inr h)
      · rintro (h | h | h)
        · exact .inr (.inl h)
        · exact .inl h
        · exact .inr (.inr h)
theorem insS_rise (p : Int) : ∀ l : List Int, l.Pairwise (· < ·) → (insS p l).Pairwise (· < ·)
  | [], _ => by simp [insS]
  | x :: r, h => by
    rw [List.pairwise_cons] at h
    simp only [insS]
    repeat' split
    · rename_i h1 h2; subst h2
      rw [List.pairwise_cons]; exact h
    · rename_i h1 h2
      rw [List.pairwise_cons, List.pairwise_cons]
      refine ⟨fun y hy => ?_, h⟩
      rcases List.mem_cons.1 hy with rfl | hy
      · omega
      · have := h.1 y hy; omega
    · rename_i h1
      rw [List.pairwise_cons]
      refine ⟨fun y hy => ?_, insS_rise p r h.2⟩
      rcases (insS_mem p y r).1 hy with rfl | hy
      · omega
      · exact h.1 y hy

abbrev PI (R : List Int) : AV → List AObj → Prop := PA (slI R)
theorem renI (ρ : Nat → Nat) (x : Int) : renL ρ (encI x) = encI x := rfl

/-- what is left to be copied -/
def restS (z : Bool) (p : Int) (l : List Int) : List Int := if z = true then l else insS p l

theorem put12 {p : Int} {o R : List Int} {z : Bool} (ho : o.length ≤ 100000000000) (h : o ++ restS z p [] = R) :
    AWP Try.prog 51 0 c392_12 [(1, .int .i64 p), (5, .sl 1 (.map encI 0 o) (.tok 0)), (6, .bool z)] [.tok] (q392_0 0 (PI R)) := by
  refine v392_12 _ _ _ _ _ (condBn (fun hz => needJ (by omega) ?_) fun hz => ?_)
  · subst hz
    simp only [restS, Bool.false_eq_true, if_false, insS] at h
    subst h
    refine pa ?_
    exact Le.trans (leAppE (x := p) (Les.refl _)) (leNone renI)
  · subst hz
    simp only [restS, if_true, List.append_nil] at h
    subst h
    exact pa (leNone renI)

theorem put5 {l : List Int} {p : Int} (hl : l.length ≤ 20000000000) {R : List Int} : ∀ (m i : Nat) (o : List Int) (z : Bool), m + i = l.length → o.length ≤ i + z.toNat → o ++ restS z p (l.drop i) = R →
    AWP Try.prog 51 0 c392_5 [(0, slI l), (1, .int .i64 p), (5, .sl 1 (.map encI 0 o) (.tok 0)), (6, .bool z), (7, .int .i64 i)] [.tok] (q392_2 0 (PI R)) := by
  intro m
  induction m with
  | zero =>
    intro i o z hm ho h
    have : z.toNat ≤ 1 := by cases z <;> simp
    rw [List.drop_eq_nil_of_le (by omega)] at h
    exact v392_5 _ _ _ _ _ _ _ (condD (fun hc => by omega) fun _ => put12 (by omega) h)
  | succ m ih =>
    intro i o z hm ho h
    have hz1 : z.toNat ≤ 1 := by cases z <;> simp
    have hin : (0 : Int) ≤ (i : Int) ∧ (i : Int) < (l.length : Int) := ⟨by omega, by omega⟩
    have eleven : ∀ (o : List Int) (z : Bool), o.length ≤ i + z.toNat → o ++ (l.getD i 0 :: restS z p (l.drop (i + 1))) = R → AWP Try.prog 51 0 c392_11 [(0, slI l), (1, .int .i64 p), (5, .sl 1 (.map encI 0 o) (.tok 0)), (6, .bool z), (7, .int .i64 i)] [.tok] (q392_5 0 (PI R)) := by
      intro o z ho h
      have hz1 : z.toNat ≤ 1 := by cases z <;> simp
      refine v392_11 _ _ _ _ _ _ _ (needJ hin (needJ (by omega) ?_))
      rw [suc64 (by omega), Int.toNat_natCast]
      refine AWP.shape [1] [(0, slI l), (1, .int .i64 p), (5, .sl 1 (.map encI 0 (o ++ [l.getD i 0])) (.tok 0)), (6, .bool z), (7, .int .i64 (i + 1 : Nat))] [.tok] (Sel.one 1 rfl rfl)
        ⟨rfl, Le.refl _, rfl, Le.refl _, rfl, ?_, rfl, Le.refl _, rfl, Le.refl _, trivial⟩ (ih (i + 1) _ z (by omega) (by simp; omega) (by rw [← h]; simp))
      exact W.leAppT renI rfl rfl
    rw [dropD l 0 i (by omega)] at h
    refine v392_5 _ _ _ _ _ _ _ (condD (fun _ => condBn (fun hz => needJ hin ?_) fun hz => ?_) fun hc => by omega)
    · subst hz
      simp only [Bool.toNat_false, Nat.add_zero] at ho
      rw [Int.toNat_natCast]
      simp only [restS, Bool.false_eq_true, if_false, insS] at h
      refine condD (fun h1 => needJ (by omega) (needJ hin (condE (fun h2 => ?_) fun h2 => ?_))) fun h1 => ?_
      · rw [if_pos h1, if_pos h2] at h
        rw [suc64 (by omega)]
        refine AWP.shape [1] [(0, slI l), (1, .int .i64 p), (5, .sl 1 (.map encI 0 (o ++ [p])) (.tok 0)), (6, .bool true), (7, .int .i64 (i + 1 : Nat))] [.tok] (Sel.one 1 rfl rfl)
          ⟨rfl, Le.refl _, rfl, Le.refl _, rfl, ?_, rfl, Le.refl _, rfl, Le.refl _, trivial⟩ (ih (i + 1) _ true (by omega) (by simp; omega) (by rw [← h]; simp [restS]))
        exact W.leAppT renI rfl rfl
      · rw [if_pos h1, if_neg h2] at h
        refine AWP.shape [1] [(0, slI l), (1, .int .i64 p), (5, .sl 1 (.map encI 0 (o ++ [p])) (.tok 0)), (6, .bool true), (7, .int .i64 i)] [.tok] (Sel.one 1 rfl rfl)
          ⟨rfl, Le.refl _, rfl, Le.refl _, rfl, ?_, rfl, Le.refl _, rfl, Le.refl _, trivial⟩ (eleven _ true (by simp; omega) (by rw [← h]; simp [restS]))
        exact W.leAppT renI rfl rfl
      · rw [if_neg h1] at h
        exact eleven o false (by simp; omega) (by rw [← h]; simp [restS])
    · subst hz
      exact eleven o true ho (by rw [← h]; simp [restS])

theorem put_spec (l : List Int) (p : Int) (hl : l.length ≤ 20000000000) (H : List AObj) : ASpec Try.prog 392 [slI l, .int .i64 p] H (fun r H' => r = slI (insS (clip p) l) ∧ H' = H) := by
  have k : ASpec Try.prog 392 [slI l, .int .i64 p] [] (fun r H' => r = slI (insS (clip p) l) ∧ H' = []) := by
    have e : (if 1000000000 < (if 0 > p then 0 else p) then 1000000000 else if 0 > p then 0 else p) = clip p := by
      unfold clip
      rw [Int.max_def, Int.min_def]
      repeat' split
      all_goals omega
    refine ASpec.sel (s392 _ _ _ ?_)
    rw [e]
    refine AWP.re (ReSt.tok (H := []) (k := 5) (q' := .map encI 0 []) (sz' := 1) (s2 := [(0, slI l), (1, .int .i64 (clip p)), (5, .sl 1 (.map encI 0 []) (.tok 0)), (6, .bool false), (7, .int .i64 (0 : Nat))]) rfl (.inl rfl) rfl (.inr rfl) (fun d hd => ?_) rfl) ?_
    · simp only [Ab.get]
      have e : Nat.beq 5 d = false := by
        cases hx : Nat.beq 5 d with
        | false => rfl
        | true => exact absurd (Nat.eq_of_beq_eq_true hx).symm hd
      rw [e]; rfl
    · exact put5 hl l.length 0 [] false (by omega) (by simp) rfl
  exact ASpec.pureH H k _ _ rfl rfl

def cutF (l : List Int) : List Span → List Int
  | [] => l
  | s :: r => cutF (insS (clip s.2) (insS (clip s.1) l)) r
def cutsS (a b : List Span) : List Int := cutF (cutF [0, 1000000000] a) b

theorem cutF_len : ∀ (a : List Span) (l : List Int), (cutF l a).length ≤ l.length + 2 * a.length
  | [], l => by simp [cutF]
  | s :: r, l => by
    have h1 := cutF_len r (insS (clip s.2) (insS (clip s.1) l))
    have h2 := insS_len (clip s.2) (insS (clip s.1) l)
    have h3 := insS_len (clip s.1) l
    simp only [cutF, List.length_cons]; omega

theorem cuts7 {b : List Span} (hb : b.length ≤ 2000000000) {R : List Int} : ∀ (m i : Nat) (l : List Int), m + i = b.length → l.length ≤ 10000000000 + 2 * i → cutF l (b.drop i) = R →
    AWP Try.prog 48 0 c370_7 [(1, slS b), (5, slI l), (7, .int .i64 i)] [] (q370_4 0 (PI R)) := by
  intro m
  induction m with
  | zero =>
    intro i l hm hl h
    refine v370_7 _ _ _ _ _ (condD (fun hc => by omega) fun _ => pa ?_)
    rw [List.drop_eq_nil_of_le (by omega)] at h
    have h : l = R := h
    rw [h]; exact Le.refl _
  | succ m ih =>
    intro i l hm hl h
    have hin : (0 : Int) ≤ (i : Int) ∧ (i : Int) < (b.length : Int) := ⟨by omega, by omega⟩
    rw [dropD b (0, 0) i (by omega)] at h
    refine v370_7 _ _ _ _ _ (condD (fun _ => needJ hin (needJ hin ?_)) fun hc => by omega)
    rw [Int.toNat_natCast]
    generalize b.getD i (0, 0) = x at h ⊢
    have l1 := insS_len (clip x.1) l
    have l2 := insS_len (clip x.2) (insS (clip x.1) l)
    refine ASpec.call (put_spec l x.1 (by omega) _) (Les.refl _) ⟨_, rfl, rfl, ⟨rfl, rfl⟩, ?_⟩
    refine ASpec.call (put_spec _ x.2 (by omega) _) (Les.refl _) ⟨_, rfl, rfl, ?_⟩
    rw [suc64 (by omega)]
    exact ih (i + 1) _ (by omega) (by omega) h

theorem cuts3 {a b : List Span} (ha : a.length ≤ 2000000000) (hb : b.length ≤ 2000000000) {R : List Int} : ∀ (m i : Nat) (l : List Int), m + i = a.length → l.length ≤ 2 + 2 * i → cutF (cutF l (a.drop i)) b = R →
    AWP Try.prog 48 0 c370_3 [(0, slS a), (1, slS b), (5, slI l), (6, .int .i64 i)] [] (q370_2 0 (PI R)) := by
  intro m
  induction m with
  | zero =>
    intro i l hm hl h
    refine v370_3 _ _ _ _ _ _ (condD (fun hc => by omega) fun _ => v370_6 _ _ _ _ ?_)
    rw [List.drop_eq_nil_of_le (by omega)] at h
    exact cuts7 hb b.length 0 l (by omega) (by omega) h
  | succ m ih =>
    intro i l hm hl h
    have hin : (0 : Int) ≤ (i : Int) ∧ (i : Int) < (a.length : Int) := ⟨by omega, by omega⟩
    rw [dropD a (0, 0) i (by omega)] at h
    refine v370_3 _ _ _ _ _ _ (condD (fun _ => needJ hin (needJ hin ?_)) fun hc => by omega)
    rw [Int.toNat_natCast]
    generalize a.getD i (0, 0) = x at h ⊢
    have l1 := insS_len (clip x.1) l
    have l2 := insS_len (clip x.2) (insS (clip x.1) l)
    refine ASpec.call (put_spec l x.1 (by omega) _) (Les.refl _) ⟨_, rfl, rfl, ⟨rfl, rfl⟩, ?_⟩
    refine ASpec.call (put_spec _ x.2 (by omega) _) (Les.refl _) ⟨_, rfl, rfl, ?_⟩
    rw [suc64 (by omega)]
    exact ih (i + 1) _ (by omega) (by omega) h

theorem cuts_spec (a b : List Span) (ha : a.length ≤ 2000000000) (hb : b.length ≤ 2000000000) (H : List AObj) : ASpec Try.prog 370 [slS a, slS b] H (fun r H' => r = slI (cutsS a b) ∧ H' = H) := by
  have k : ASpec Try.prog 370 [slS a, slS b] [] (fun r H' => r = slI (cutsS a b) ∧ H' = []) := by
    refine ASpec.sel (s370 _ _ _ ?_)
    refine AWP.spell [(0, slS a), (1, slS b), (5, slI [0, 1000000000]), (6, .int .i64 (0 : Nat))] ⟨rfl, Le.refl _, rfl, Le.refl _, rfl, Le.sl rfl (.inl rfl) (.inr rfl), rfl, Le.refl _, trivial⟩ ?_
    exact cuts3 ha hb a.length 0 _ (by omega) (by simp) rfl
  exact ASpec.pureH H k _ _ rfl rfl

/-- what the cuts are good for -/
structure Good (l : List Int) : Prop where
  rise : l.Pairwise (· < ·)
  low : ∀ q ∈ l, 0 ≤ q ∧ q ≤ 1000000000
  zero : (0 : Int) ∈ l
  top : (1000000000 : Int) ∈ l
def Ends (a : List Span) (l : List Int) : Prop := ∀ s ∈ a, s.1 ∈ l ∧ s.2 ∈ l

theorem good0 : Good [0, 1000000000] := ⟨by simp, by simp, by simp, by simp⟩
theorem clip_in (p : Int) : 0 ≤ clip p ∧ clip p ≤ 1000000000 := by unfold clip; omega
theorem clip_id {p : Int} (h0 : 0 ≤ p) (h1 : p ≤ 1000000000) : clip p = p := by unfold clip; omega
theorem Good.ins {l : List Int} (h : Good l) (p : Int) : Good (insS (clip p) l) := by
  refine ⟨insS_rise _ _ h.rise, fun q hq => ?_, (insS_mem _ _ _).2 (.inr h.zero), (insS_mem _ _ _).2 (.inr h.top)⟩
  rcases (insS_mem _ _ _).1 hq with rfl | hq
  · exact clip_in p
  · exact h.low q hq
theorem cutF_good : ∀ (a : List Span) (l : List Int), Good l → Good (cutF l a)
  | [], l, h => h
  | s :: r, l, h => cutF_good r _ ((h.ins s.1).ins s.2)
theorem cutF_mem : ∀ (a : List Span) (l : List Int) (q : Int), q ∈ l → q ∈ cutF l a
  | [], l, q, h => h
  | s :: r, l, q, h => cutF_mem r _ q ((insS_mem _ _ _).2 (.inr ((insS_mem _ _ _).2 (.inr h))))
theorem cutF_ends : ∀ (a : List Span) (l : List Int) (e : Int), -1 ≤ e → chkS e a = true → Ends a (cutF l a)
  | [], l, e, _, _, s, hs => by simp at hs
  | x :: r, l, e, he, h, s, hs => by
    obtain ⟨h1, h2, h3, h4⟩ := chkS_cons h
    rcases List.mem_cons.1 hs with rfl | hs
    · refine ⟨cutF_mem r _ _ ?_, cutF_mem r _ _ ?_⟩
      · rw [clip_id (p := s.1) (by omega) (by omega)]
        exact (insS_mem _ _ _).2 (.inr ((insS_mem _ _ _).2 (.inl rfl)))
      · rw [clip_id (p := s.2) (by omega) (by omega)]
        exact (insS_mem _ _ _).2 (.inl rfl)
    · exact cutF_ends r _ x.2 (by omega) h4 s hs
theorem cuts_ends {a b : List Span} (ha : ok a) (hb : ok b) : Ends a (cutsS a b) ∧ Ends b (cutsS a b) := by
  refine ⟨fun s hs => ?_, cutF_ends b _ (-1) (by omega) hb⟩
  obtain ⟨h1, h2⟩ := cutF_ends a [0, 1000000000] (-1) (by omega) ha s hs
  exact ⟨cutF_mem b _ _ h1, cutF_mem b _ _ h2⟩
theorem cuts_good (a b : List Span) : Good (cutsS a b) := cutF_good b _ (cutF_good a _ good0)

theorem Good.lt {l : List Int} (h : Good l) {i j : Nat} (hi : i < j) (hj : j < l.length) : l.getD i 0 < l.getD j 0 := by
  have := List.pairwise_iff_getElem.1 h.rise i j (by omega) hj hi
  simpa [List.getD_eq_getElem?_getD, List.getElem?_eq_getElem (show i < l.length by omega), List.getElem?_eq_getElem hj] using this
theorem Good.mem {l : List Int} (h : Good l) {q : Int} (hq : q ∈ l) : ∃ i, i < l.length ∧ l.getD i 0 = q := by
  obtain ⟨i, hi, e⟩ := List.getElem_of_mem hq
  exact ⟨i, hi, by simp [List.getD_eq_getElem?_getD, List.getElem?_eq_getElem hi, e]⟩
theorem Good.first {l : List Int} (h : Good l) : 0 < l.length ∧ l.getD 0 0 = 0 := by
  obtain ⟨i, hi, e⟩ := h.mem h.zero
  have h0 := (h.low _ (memD l 0 0 (by omega))).1
  refine ⟨by omega, ?_⟩
  rcases Nat.eq_zero_or_pos i with rfl | hp
  · exact e
  · have := h.lt hp hi; omega
theorem Good.last {l : List Int} (h : Good l) : l.getD (l.length - 1) 0 = 1000000000 := by
  obtain ⟨i, hi, e⟩ := h.mem h.top
  have h0 := (h.low _ (memD l 0 (l.length - 1) (by omega))).2
  rcases Nat.lt_or_ge i (l.length - 1) with hp | hp
  · have := h.lt hp (by omega); omega
  · have : i = l.length - 1 := by omega
    rw [← this]; exact e
/-- between two cuts nothing changes -/
theorem ends_same {a : List Span} {l : List Int} (h : Good l) (he : Ends a l) {i : Nat} (hi : i + 1 < l.length) {q : Int} (h1 : l.getD i 0 ≤ q) (h2 : q < l.getD (i + 1) 0) : hasS a q = hasS a (l.getD i 0) := by
  have no : ∀ x ∈ l, x ≤ l.getD i 0 ∨ l.getD (i + 1) 0 ≤ x := by
    intro x hx
    obtain ⟨j, hj, e⟩ := h.mem hx
    rcases Nat.lt_trichotomy j i with hji | hji | hji
    · have := h.lt hji (by omega); omega
    · subst hji; omega
    · rcases Nat.lt_or_ge (i + 1) j with hk | hk
      · have := h.lt hk hj; omega
      · have : j = i + 1 := by omega
        subst this; omega
  simp only [hasS]
  rw [Bool.eq_iff_iff, List.any_eq_true, List.any_eq_true]
  constructor
  · rintro ⟨s, hs, hsq⟩
    rw [inS_iff] at hsq
    obtain ⟨e1, e2⟩ := he s hs
    have n1 := no _ e1
    have n2 := no _ e2
    exact ⟨s, hs, inS_iff.2 ⟨by omega, by omega⟩⟩
  · rintro ⟨s, hs, hsq⟩
    rw [inS_iff] at hsq
    obtain ⟨e1, e2⟩ := he s hs
    have n1 := no _ e1
    have n2 := no _ e2
    exact ⟨s, hs, inS_iff.2 ⟨by omega, by omega⟩⟩

theorem told_spec (op : Int) (x y : Bool) (H : List AObj) : ASpec Try.prog 371 [.int .i64 op, .bool x, .bool y] H (fun r H' => r = .bool (if op = 0 then x || y else if op = 1 then x && y else !x) ∧ H' = H) := by
  have k : ASpec Try.prog 371 [.int .i64 op, .bool x, .bool y] [] (fun r H' => r = .bool (if op = 0 then x || y else if op = 1 then x && y else !x) ∧ H' = []) := by
    refine s371 _ _ _ _ (condE (fun h => ?_) fun h => condE (fun h1 => ?_) fun h1 => ?_)
    · rw [if_pos h]; exact condB (fun h => by rw [h]; exact ⟨rfl, rfl⟩) fun h => by rw [h]; exact ⟨rfl, rfl⟩
    · rw [if_neg h, if_pos h1]; exact condB (fun h => by rw [h]; exact ⟨rfl, rfl⟩) fun h => by rw [h]; exact ⟨rfl, rfl⟩
    · rw [if_neg h, if_neg h1]; exact ⟨rfl, rfl⟩
  exact ASpec.pureH H k _ _ rfl rfl

def opF (op : Int) (a b : List Span) (p : Int) : Bool := if op = 0 then hasS a p || hasS b p else if op = 1 then hasS a p && hasS b p else !hasS a p

theorem op_same {op : Int} {a b : List Span} {l : List Int} (hg : Good l) (he : Ends a l ∧ Ends b l) {i : Nat} (hi : i + 1 < l.length) {q : Int} (h1 : l.getD i 0 ≤ q) (h2 : q < l.getD (i + 1) 0) : opF op a b q = opF op a b (l.getD i 0) := by
  simp only [opF]
  rw [ends_same hg he.1 hi h1 h2, ends_same hg he.2 hi h1 h2]

section
variable {op : Int} {a b : List Span} (ha : ok a) (hb : ok b) {l : List Int} (hg : Good l) (he : Ends a l ∧ Ends b l) (hl : l.length ≤ 10000000000)
include ha hb hg he hl

theorem do4m {R : List Span} (hR : ∀ o, Kept (opF op a b) 1000000000 o → o = R) : ∀ (m i : Nat) (o : List Span), m + i = l.length → i < l.length → Kept (opF op a b) (l.getD i 0) o →
    AWP Try.prog 81 0 c321_4 [(0, .int .i64 op), (1, slS a), (2, slS b), (7, .msl 2 0 0 o.length), (8, slI l), (9, .int .i64 i)] [arS o] (q321_2 0 (PA (slS R))) := by
  intro m
  induction m with
  | zero => intro i o hm hi hk; omega
  | succ m ih =>
    intro i o hm hi hk
    have hin : (0 : Int) ≤ (i : Int) ∧ (i : Int) < (l.length : Int) := ⟨by omega, by omega⟩
    have hol := ok_len hk.1
    refine v321_4m _ _ _ _ _ _ _ _ _ ?_
    rw [suc64 (by omega)]
    refine condD (fun hc => needJ hin (needJ hin ?_)) fun hc => ?_
    · rw [Int.toNat_natCast]
      have hi2 : i + 1 < l.length := by omega
      have hlt : l.getD i 0 < l.getD (i + 1) 0 := hg.lt (Nat.lt_succ_self i) hi2
      have l0 := (hg.low _ (memD l 0 i (by omega))).1
      have l1 := (hg.low _ (memD l 0 (i + 1) hi2)).2
      refine ASpec.call (rhas_spec a _ ha _) (Les.refl _) ⟨_, rfl, rfl, ⟨rfl, rfl⟩, ?_⟩
      refine ASpec.call (rhas_spec b _ hb _) (Les.refl _) ⟨_, rfl, rfl, ?_⟩
      refine ASpec.call (told_spec op _ _ _) (Les.refl _) ⟨_, rfl, rfl, ?_⟩
      have hsame : ∀ q, l.getD i 0 ≤ q → q < l.getD (i + 1) 0 → opF op a b q = opF op a b (l.getD i 0) := fun q h1 h2 => op_same hg he hi2 h1 h2
      refine condBn (fun hf => ?_) fun hf => ?_
      · have hf : opF op a b (l.getD i 0) = false := hf
        exact ih (i + 1) o (by omega) hi2 (kept_skip hk (by omega) (fun q h1 h2 => by rw [hsame q h1 h2]; exact hf))
      · have hf : opF op a b (l.getD i 0) = true := hf
        have hk' := kept_put hk l0 hlt l1 (fun q h1 h2 => by rw [hsame q h1 h2]; exact hf)
        have nxt := ih (i + 1) (addS o (l.getD i 0, l.getD (i + 1) 0)) (by omega) hi2 hk'
        have hin2 : (0 : Int) ≤ ((i + 1 : Nat) : Int) ∧ ((i + 1 : Nat) : Int) < (l.length : Int) := ⟨by omega, by omega⟩
        have app : ¬ (0 < o.length ∧ l.getD i 0 ≤ (o.getD (o.length - 1) (0, 0)).2) → AWP Try.prog 81 0 c321_4 [(0, .int .i64 op), (1, slS a), (2, slS b), (7, .msl 2 1 0 (o.length + 1)), (8, slI l), (9, .int .i64 (i + 1 : Nat))]
            [.gone, .arr 2 (.app (.map encS (0, 0) o) (.raw [[.int .i64 (l.getD i 0), .int .i64 (l.getD (i + 1) 0)]]))] (q321_2 0 (PA (slS R))) := by
          intro hc
          have e : addS o (l.getD i 0, l.getD (i + 1) 0) = o ++ [(l.getD i 0, l.getD (i + 1) 0)] := by rw [addS, if_neg hc]
          rw [e] at nxt
          refine AWP.re (ReSt.arr (id := 1) (q' := .map encS (0, 0) (o ++ [(l.getD i 0, l.getD (i + 1) 0)])) rfl (by simp [Seq.toList]; rfl)) ?_
          refine AWP.shape [1] [(0, .int .i64 op), (1, slS a), (2, slS b), (7, .msl 2 0 0 (o ++ [(l.getD i 0, l.getD (i + 1) 0)]).length), (8, slI l), (9, .int .i64 (i + 1 : Nat))] [arS (o ++ [(l.getD i 0, l.getD (i + 1) 0)])] (Sel.one 1 rfl rfl)
            ⟨rfl, Le.refl _, rfl, Le.refl _, rfl, Le.refl _, rfl, ?_, rfl, Le.refl _, rfl, Le.refl _, trivial⟩ nxt
          rw [List.length_append]; exact Le.refl _
        refine v321_7m _ _ _ _ _ _ _ _ _ ?_
        rw [suc64 (by omega), Int.toNat_natCast, Int.toNat_natCast]
        refine condD (fun h => ?_) fun h => needJ hin (needJ hin2 (needJ ⟨rfl, by omega⟩ (app ?_)))
        · by_cases hz : o.length = 0
          · rw [hz] at h
            have : IntKind.wrap .i64 (((0 : Nat) : Int) - 1) = -1 := by rw [wrap64 (by omega) (by omega)]; rfl
            rw [this] at h; omega
          rw [pre64 (by omega) (by omega), Int.toNat_natCast, Nat.zero_add]
          have hlast : lastS (-1) o = (o.getD (o.length - 1) (0, 0)).2 := by
            conv => lhs; rw [split_last o (by omega)]
            exact lastS_append (-1) _ _ _
          have hle := hk.2.1
          refine needJ ⟨by omega, by omega⟩ (needJ (by omega) (needJ hin (condE (fun h2 => needJ ⟨by omega, by omega⟩ (needJ (by omega) (needJ hin2 (needJ ⟨by omega, by omega⟩ (needJ (by omega) ?_))))) fun h2 => needJ hin (needJ hin2 (needJ ⟨rfl, by omega⟩ (app ?_))))))
          · have e : addS o (l.getD i 0, l.getD (i + 1) 0) = o.take (o.length - 1) ++ [((o.getD (o.length - 1) (0, 0)).1, l.getD (i + 1) 0)] := by
              rw [addS, if_pos ⟨by omega, by simp only; omega⟩]
              simp only
              rw [Int.max_eq_right (show (o.getD (o.length - 1) (0, 0)).2 ≤ l.getD (i + 1) 0 by omega)]
            have el : (addS o (l.getD i 0, l.getD (i + 1) 0)).length = o.length := by rw [e]; simp; omega
            have es : o.set (o.length - 1) ((o.getD (o.length - 1) (0, 0)).1, l.getD (i + 1) 0) = addS o (l.getD i 0, l.getD (i + 1) 0) := by
              rw [e, List.set_eq_take_append_cons_drop, if_pos (by omega), show o.length - 1 + 1 = o.length by omega, List.drop_length]
            rw [el] at nxt
            refine AWP.re (ReSt.arr (id := 0) (q' := .map encS (0, 0) (addS o (l.getD i 0, l.getD (i + 1) 0))) rfl ?_) nxt
            rw [← es]
            simp only [Seq.toList, List.map_set]
            rfl
          · rintro ⟨_, h3⟩; omega
        · rintro ⟨h3, _⟩
          rw [pre64 (by omega) (by omega)] at h; omega
    · have hlast := hg.last
      have : i = l.length - 1 := by omega
      rw [this, hlast] at hk
      refine AWP.re (freezeS (by omega)) (AWP.shape [] [(7, slS o)] [] Sel.none ⟨rfl, Le.refl _, trivial⟩ (v321_11s _ _ _ (pa ?_)))
      rw [hR o hk]; exact Le.refl _

theorem do4n {R : List Span} (hR : ∀ o, Kept (opF op a b) 1000000000 o → o = R) : ∀ (m i : Nat), m + i = l.length → i < l.length → Kept (opF op a b) (l.getD i 0) [] →
    AWP Try.prog 81 0 c321_4 [(0, .int .i64 op), (1, slS a), (2, slS b), (7, .sl 0 (.raw []) .nil), (8, slI l), (9, .int .i64 i)] [] (q321_2 0 (PA (slS R))) := by
  intro m
  induction m with
  | zero => intro i hm hi hk; omega
  | succ m ih =>
    intro i hm hi hk
    have hin : (0 : Int) ≤ (i : Int) ∧ (i : Int) < (l.length : Int) := ⟨by omega, by omega⟩
    refine v321_4n _ _ _ _ _ _ _ ?_
    rw [suc64 (by omega)]
    refine condD (fun hc => needJ hin (needJ hin ?_)) fun hc => ?_
    · rw [Int.toNat_natCast]
      have hi2 : i + 1 < l.length := by omega
      have hlt : l.getD i 0 < l.getD (i + 1) 0 := hg.lt (Nat.lt_succ_self i) hi2
      have l0 := (hg.low _ (memD l 0 i (by omega))).1
      have l1 := (hg.low _ (memD l 0 (i + 1) hi2)).2
      refine ASpec.call (rhas_spec a _ ha _) (Les.refl _) ⟨_, rfl, rfl, ⟨rfl, rfl⟩, ?_⟩
      refine ASpec.call (rhas_spec b _ hb _) (Les.refl _) ⟨_, rfl, rfl, ?_⟩
      refine ASpec.call (told_spec op _ _ _) (Les.refl _) ⟨_, rfl, rfl, ?_⟩
      have hsame : ∀ q, l.getD i 0 ≤ q → q < l.getD (i + 1) 0 → opF op a b q = opF op a b (l.getD i 0) := fun q h1 h2 => op_same hg he hi2 h1 h2
      refine condBn (fun hf => ?_) fun hf => ?_
      · have hf : opF op a b (l.getD i 0) = false := hf
        exact ih (i + 1) (by omega) hi2 (kept_skip hk (by omega) (fun q h1 h2 => by rw [hsame q h1 h2]; exact hf))
      · have hf : opF op a b (l.getD i 0) = true := hf
        have hk' := kept_put hk l0 hlt l1 (fun q h1 h2 => by rw [hsame q h1 h2]; exact hf)
        have nxt := do4m ha hb hg he hl hR m (i + 1) (addS [] (l.getD i 0, l.getD (i + 1) 0)) (by omega) hi2 hk'
        refine v321_7n _ _ _ _ _ _ _ ?_
        rw [suc64 (by omega), Int.toNat_natCast, Int.toNat_natCast]
        exact needJ hin (needJ ⟨by omega, by omega⟩ (needJ (by omega) (needJ (by omega) (AWP.re (ReSt.arr (id := 0) (q' := .map encS (0, 0) [(l.getD i 0, l.getD (i + 1) 0)]) rfl rfl) nxt))))
    · have hlast := hg.last
      have : i = l.length - 1 := by omega
      rw [this, hlast] at hk
      refine v321_11n _ _ (pa ?_)
      rw [← hR [] hk]; exact leS0
end

theorem rdo_spec {op : Int} (a b : List Span) (ha : ok a) (hb : ok b) {R : List Span} (hR : ∀ o, Kept (opF op a b) 1000000000 o → o = R) (H : List AObj) : ASpec Try.prog 321 [.int .i64 op, slS a, slS b] H (fun r H' => r = slS R ∧ H' = H) := by
  have k : ASpec Try.prog 321 [.int .i64 op, slS a, slS b] [] (fun r H' => r = slS R ∧ H' = []) := by
    have h1 := ok_len ha
    have h2 := ok_len hb
    have h3 := cutF_len a [0, 1000000000]
    have h4 := cutF_len b (cutF [0, 1000000000] a)
    refine ASpec.sel (s321 _ _ _ _ (ASpec.call (cuts_spec a b (by omega) (by omega) _) (Les.refl _) ⟨_, rfl, rfl, ?_⟩))
    have hg := cuts_good a b
    refine do4n ha hb hg (cuts_ends ha hb) ?_ hR (cutsS a b).length 0 (by omega) hg.first.1 ?_
    · unfold cutsS; simp only [List.length_cons, List.length_nil] at h3; omega
    · rw [hg.first.2]; exact kept_nil _
  exact ASpec.pureH H k _ _ rfl rfl

theorem rmeet_spec (a b : List Span) (ha : ok a) (hb : ok b) (H : List AObj) : ASpec Try.prog 260 [slS a, slS b] H (fun r H' => r = slS (meetS a b) ∧ H' = H) := by
  have k : ASpec Try.prog 260 [slS a, slS b] [] (fun r H' => r = slS (meetS a b) ∧ H' = []) :=
    s260 _ _ _ (ASpec.call (rdo_spec (op := 1) a b ha hb (fun o ho => (meet_eq (a := a) (b := b) ho).symm) _) (Les.refl _) ⟨_, rfl, rfl, rfl, rfl⟩)
  exact ASpec.pureH H k _ _ rfl rfl

/-! ### are they alike? -/

theorem same4 {a b : List Span} {c : Bool} (hl : a.length ≤ 2000000000) (he : a.length = b.length) : ∀ (m i : Nat), m + i = a.length → decide (a.drop i = b.drop i) = c →
    AWP Try.prog 26 0 C.c163_4 [(0, slS a), (1, slS b), (5, .int .i64 i)] [] (C.q163_2 0 (PB c)) := by
  intro m
  induction m with
  | zero =>
    intro i hm h
    refine C.v163_4 _ _ _ _ _ (condD (fun hc => by omega) fun _ => pb ?_)
    rw [List.drop_eq_nil_of_le (by omega), List.drop_eq_nil_of_le (by omega)] at h
    rw [← h]; simp
  | succ m ih =>
    intro i hm h
    rw [dropD a (0, 0) i (by omega), dropD b (0, 0) i (by omega), cons_dec] at h
    refine C.v163_4 _ _ _ _ _ (condD (fun hc => needJ ⟨by omega, by omega⟩ (needJ ⟨by omega, by omega⟩ ?_)) fun hc => by omega)
    rw [Int.toNat_natCast]
    generalize a.getD i (0, 0) = x at h ⊢
    generalize b.getD i (0, 0) = y at h ⊢
    have e : (x.1 == y.1 && (x.2 == y.2 && true)) = decide (x = y) := by
      obtain ⟨x1, x2⟩ := x
      obtain ⟨y1, y2⟩ := y
      rw [Bool.eq_iff_iff]; simp
    rw [e]
    refine condBn (fun h1 => pb ?_) fun h1 => ?_
    · rw [h1, Bool.false_and] at h; exact h
    · rw [h1, Bool.true_and] at h
      rw [suc64 (by omega)]
      exact ih (i + 1) (by omega) h

theorem same_spec (a b : List Span) (hl : a.length ≤ 2000000000) (H : List AObj) : ASpec Try.prog 163 [slS a, slS b] H (fun r H' => r = .bool (decide (a = b)) ∧ H' = H) := by
  have k : ASpec Try.prog 163 [slS a, slS b] [] (fun r H' => r = .bool (decide (a = b)) ∧ H' = []) := by
    refine ASpec.sel (C.s163 _ _ _ (condNe (fun h => pb ?_) fun h => same4 hl (by omega) a.length 0 (by omega) rfl))
    symm
    rw [decide_eq_false]
    rintro rfl; exact h rfl
  exact ASpec.pureH H k _ _ rfl rfl

theorem rwithin_spec (a b : List Span) (ha : ok a) (hb : ok b) (H : List AObj) : ASpec Try.prog 162 [slS a, slS b] H (fun r H' => r = .bool (decide (meetS a b = a)) ∧ H' = H) := by
  have k : ASpec Try.prog 162 [slS a, slS b] [] (fun r H' => r = .bool (decide (meetS a b = a)) ∧ H' = []) := by
    have h1 := ok_len (meet_ok ha hb)
    refine s162 _ _ _ (ASpec.call (rmeet_spec a b ha hb _) (Les.refl _) ⟨_, rfl, rfl, ?_⟩)
    exact ASpec.call (same_spec _ a (by omega) _) (Les.refl _) ⟨_, rfl, rfl, rfl, rfl⟩
  exact ASpec.pureH H k _ _ rfl rfl

theorem meet_sub {a b : List Span} (ha : ok a) (hb : ok b) : meetS a b = a ↔ ∀ p, hasS a p = true → hasS b p = true := by
  constructor
  · intro h p hp
    have := meet_has ha hb p
    rw [h, hp, Bool.true_and] at this
    exact this.symm
  · intro h
    refine ext (meet_ok ha hb) ha (fun p => ?_)
    rw [meet_has ha hb]
    cases hp : hasS a p with
    | false => rfl
    | true => rw [h p hp]; rfl
end Sg
end

section
/- Terms: what the code and the document's code compute. -/

set_option linter.unusedVariables false
set_option linter.unusedSimpArgs false
set_option maxRecDepth 100000
open Go Go.Ab Go.Proofs V S T C
open W (sl1 slS slN slR leNone cons_dec renS)
open Sp
namespace Tm
open Sg (ok meetS meet_spec meet_ok meet_has subS subS_iff within_spec rwithin_spec meet_sub has_spec same_spec leS0 pa PA)

/-- a term that may be looked at -/
def okT (t : Term) : Prop := ok t.2.1
noncomputable abbrev agT (t : Term) : AV := .agg (encT t)
def fullT (n : List UInt8) : Term := (n, [(0, 1000000000)], true)
noncomputable def meetT (a b : Term) : Term := if a.1 = b.1 then (a.1, meetS a.2.1 b.2.1, a.2.2 && b.2.2) else noT
def emptyT (t : Term) : Bool := !t.2.2 && decide (t.2.1 = [])
noncomputable def withinT (a b : Term) : Bool := decide (a.1 = b.1) && ((!a.2.2 || b.2.2) && subS a.2.1 b.2.1)
def hasT (t : Term) (v : Int) (c : Bool) : Bool := if c = true then hasS t.2.1 v else t.2.2

theorem nameEq (a b : List UInt8) : ((B a).toList == (B b).toList) = decide (a = b) := by rw [B_beq, Bool.eq_iff_iff]; simp

theorem ok_full (n : List UInt8) : okT (fullT n) := by show chkS (-1) [(0, 1000000000)] = true; decide
theorem ok_noT : okT noT := rfl
theorem ok_meet {a b : Term} (ha : okT a) (hb : okT b) : okT (meetT a b) := by
  unfold meetT
  split
  · exact meet_ok ha hb
  · exact ok_noT

theorem all_spec (H : List AObj) : ASpec Try.prog 289 [] H (fun r H' => r = slS [(0, 1000000000)] ∧ H' = H) := by
  have k : ASpec Try.prog 289 [] [] (fun r H' => r = slS [(0, 1000000000)] ∧ H' = []) :=
    ASpec.sel (Sg.s289 _ (pa (Le.sl (s' := Seq.ren _ (.map encS (0, 0) [(0, 1000000000)])) rfl (.inl rfl) (.inr rfl))))
  exact ASpec.pureH H k _ _ rfl rfl

def oneS (v : Int) : List Span := if 0 ≤ v ∧ v < 1000000000 then [(v, v + 1)] else []
theorem one_spec (v : Int) (H : List AObj) : ASpec Try.prog 157 [.int .i64 v] H (fun r H' => r = slS (oneS v) ∧ H' = H) := by
  have k : ASpec Try.prog 157 [.int .i64 v] [] (fun r H' => r = slS (oneS v) ∧ H' = []) := by
    refine ASpec.sel (Sg.s157 _ _ (condD (fun h => pa ?_) fun h1 => condD (fun h => pa ?_) fun h2 => pa ?_))
    · rw [oneS, if_neg (by omega)]; exact leS0
    · rw [oneS, if_neg (by omega)]; exact leS0
    · rw [oneS, if_pos (by omega), wrap64 (by omega) (by omega)]
      exact Le.sl (s' := Seq.ren _ (.map encS (0, 0) [(v, v + 1)])) rfl (.inl rfl) (.inr rfl)
  exact ASpec.pureH H k _ _ rfl rfl

theorem full_spec (n : List UInt8) (H : List AObj) : ASpec Try.prog 200 [.str (B n)] H (fun r H' => r = agT (fullT n) ∧ H' = H) := by
  have k : ASpec Try.prog 200 [.str (B n)] [] (fun r H' => r = agT (fullT n) ∧ H' = []) :=
    ASpec.sel (Sg.s200 _ _ (ASpec.call (all_spec _) (Les.refl _) ⟨_, rfl, rfl, pa (Le.refl _)⟩))
  exact ASpec.pureH H k _ _ rfl rfl

theorem both_spec (a b : Term) (c : Bool) (ha : okT a) (hb : okT b) (H : List AObj) :
    ASpec Try.prog 257 [agT a, agT b, .fn (258 : FuncId) [], .bool c] H (fun r H' => r = agT (if a.1 = b.1 then (a.1, meetS a.2.1 b.2.1, c) else noT) ∧ H' = H) := by
  have k : ASpec Try.prog 257 [agT a, agT b, .fn (258 : FuncId) [], .bool c] [] (fun r H' => r = agT (if a.1 = b.1 then (a.1, meetS a.2.1 b.2.1, c) else noT) ∧ H' = []) := by
    refine ASpec.sel (Sg.s257 _ _ _ _ (condBn (fun h => ?_) fun h => ?_))
    · rw [nameEq] at h
      rw [if_neg (of_decide_eq_false h)]
      exact pa (Le.agg ⟨Le.refl _, leS0, Le.refl _, trivial⟩)
    · rw [nameEq] at h
      rw [if_pos (of_decide_eq_true h)]
      exact ASpec.call (meet_spec ha hb _) (Les.refl _) ⟨_, rfl, rfl, ⟨rfl, rfl⟩, pa (Le.refl _)⟩
  exact ASpec.pureH H k _ _ rfl rfl

theorem meetT_spec (a b : Term) (ha : okT a) (hb : okT b) (H : List AObj) : ASpec Try.prog 160 [agT a, agT b] H (fun r H' => r = agT (meetT a b) ∧ H' = H) := by
  have k : ASpec Try.prog 160 [agT a, agT b] [] (fun r H' => r = agT (meetT a b) ∧ H' = []) := by
    refine ASpec.sel (Sg.s160 _ _ _ (condB (fun h => ?_) fun h => ?_))
    · refine ASpec.call (both_spec a b b.2.2 ha hb _) (Les.refl _) ⟨_, rfl, rfl, pa ?_⟩
      rw [meetT, h, Bool.true_and]; exact Le.refl _
    · refine ASpec.call (both_spec a b false ha hb _) (Les.refl _) ⟨_, rfl, rfl, pa ?_⟩
      rw [meetT, h, Bool.false_and]; exact Le.refl _
  exact ASpec.pureH H k _ _ rfl rfl

theorem emptyT_len (t : Term) : ((t.2.1.length : Int) == 0) = decide (t.2.1 = []) := by
  rw [Bool.eq_iff_iff]
  simp [List.length_eq_zero_iff]

theorem empty_spec (t : Term) (H : List AObj) : ASpec Try.prog 159 [agT t] H (fun r H' => r = .bool (emptyT t) ∧ H' = H) := by
  have k : ASpec Try.prog 159 [agT t] [] (fun r H' => r = .bool (emptyT t) ∧ H' = []) := by
    refine ASpec.sel (Sg.s159 _ _ (condBn (fun h => pa ?_) fun h => pa ?_))
    · rw [emptyT_len, emptyT, h, Bool.not_false, Bool.true_and]; exact Le.refl _
    · rw [emptyT, h, Bool.not_true, Bool.false_and]; exact Le.refl _
  exact ASpec.pureH H k _ _ rfl rfl

theorem rempty_spec (t : Term) (H : List AObj) : ASpec Try.prog 34 [agT t] H (fun r H' => r = .bool (emptyT t) ∧ H' = H) := by
  have k : ASpec Try.prog 34 [agT t] [] (fun r H' => r = .bool (emptyT t) ∧ H' = []) := by
    refine ASpec.sel (Sg.s34 _ _ (condBn (fun h => pa ?_) fun h => pa ?_))
    · rw [emptyT_len, emptyT, h, Bool.not_false, Bool.true_and]; exact Le.refl _
    · rw [emptyT, h, Bool.not_true, Bool.false_and]; exact Le.refl _
  exact ASpec.pureH H k _ _ rfl rfl

theorem within_specT (a b : Term) (ha : okT a) (hb : okT b) (H : List AObj) : ASpec Try.prog 161 [agT a, agT b] H (fun r H' => r = .bool (withinT a b) ∧ H' = H) := by
  have k : ASpec Try.prog 161 [agT a, agT b] [] (fun r H' => r = .bool (withinT a b) ∧ H' = []) := by
    refine ASpec.sel (Sg.s161 _ _ _ (condB (fun h => condBn (fun h1 => ?_) fun h1 => condB (fun h2 => ?_) fun h2 => pa ?_) fun h => pa ?_))
    · rw [nameEq] at h
      refine ASpec.call (within_spec _ _ ha hb _) (Les.refl _) ⟨_, rfl, rfl, pa ?_⟩
      rw [withinT, h, h1]; exact Le.refl _
    · rw [nameEq] at h
      refine ASpec.call (within_spec _ _ ha hb _) (Les.refl _) ⟨_, rfl, rfl, pa ?_⟩
      rw [withinT, h, h1, h2]; exact Le.refl _
    · rw [nameEq] at h
      rw [withinT, h, h1, h2]; exact Le.refl _
    · rw [nameEq] at h
      rw [withinT, h]; exact Le.refl _
  exact ASpec.pureH H k _ _ rfl rfl

theorem has_specT (t : Term) (v : Int) (c : Bool) (ht : okT t) (H : List AObj) : ASpec Try.prog 155 [agT t, .int .i64 v, .bool c] H (fun r H' => r = .bool (hasT t v c) ∧ H' = H) := by
  have k : ASpec Try.prog 155 [agT t, .int .i64 v, .bool c] [] (fun r H' => r = .bool (hasT t v c) ∧ H' = []) := by
    refine ASpec.sel (Sg.s155 _ _ _ _ (condBn (fun h => pa ?_) fun h => ?_))
    · rw [hasT, if_neg (by rw [h]; simp)]; exact Le.refl _
    · refine ASpec.call (has_spec _ _ ht _) (Les.refl _) ⟨_, rfl, rfl, pa ?_⟩
      rw [hasT, if_pos h]; exact Le.refl _
  exact ASpec.pureH H k _ _ rfl rfl

/-- may a term be? -/
def chkT (t : Term) : Bool := fitM t.1 && spanOk t.2.1
theorem check_spec (t : Term) (h1 : t.1.length ≤ lim) (h2 : t.2.1.length ≤ lim) (H : List AObj) : ASpec Try.prog 158 [agT t] H (fun r H' => r = .bool (chkT t) ∧ H' = H) := by
  unfold lim at h1
  have k : ASpec Try.prog 158 [agT t] [] (fun r H' => r = .bool (chkT t) ∧ H' = []) := by
    refine ASpec.sel (Sg.s158 _ _ (ASpec.call (fit_spec (l := t.1) (by unfold big; omega) _) (Les.refl _) ⟨_, rfl, rfl, condB (fun h => ?_) fun h => pa ?_⟩))
    · refine ASpec.call (spanCheck_spec _ h2 _) (Les.refl _) ⟨_, rfl, rfl, pa ?_⟩
      rw [chkT, h, Bool.true_and]; exact Le.refl _
    · rw [chkT, h, Bool.false_and]; exact Le.refl _
  exact ASpec.pureH H k _ _ rfl rfl

/-- more than is looked at -/
def largeT (t : Term) : Bool := decide (60 < t.2.1.length) || decide (200 < t.1.length)
theorem large_spec (t : Term) (H : List AObj) : ASpec Try.prog 153 [agT t] H (fun r H' => r = .bool (largeT t) ∧ H' = H) := by
  have k : ASpec Try.prog 153 [agT t] [] (fun r H' => r = .bool (largeT t) ∧ H' = []) := by
    refine ASpec.sel (Sg.s153 _ _ (condD (fun h => pa ?_) fun h => pa ?_))
    · rw [largeT, decide_eq_true (by omega), Bool.true_or]; exact Le.refl _
    · rw [largeT, show decide (60 < t.2.1.length) = false from decide_eq_false (by omega), Bool.false_or, B_size]
      have e : decide ((t.1.length : Int) > 200) = decide (200 < t.1.length) := by rw [decide_eq_decide]; omega
      rw [e]; exact Le.refl _
  exact ASpec.pureH H k _ _ rfl rfl

/-- within, by the document -/
theorem rwithin_specT (a b : Term) (ha : okT a) (hb : okT b) (H : List AObj) : ASpec Try.prog 33 [agT a, agT b] H (fun r H' => r = .bool (withinT a b) ∧ H' = H) := by
  have hsub : decide (meetS a.2.1 b.2.1 = a.2.1) = subS a.2.1 b.2.1 := by
    rw [Bool.eq_iff_iff, decide_eq_true_eq, meet_sub ha hb, subS_iff ha hb]
  have k : ASpec Try.prog 33 [agT a, agT b] [] (fun r H' => r = .bool (withinT a b) ∧ H' = []) := by
    refine ASpec.sel (Sg.s33 _ _ _ (condB (fun h => ?_) fun h => pa ?_))
    · rw [nameEq] at h
      refine ASpec.call (rwithin_spec _ _ ha hb _) (Les.refl _) ⟨_, rfl, rfl, ?_⟩
      rw [hsub]
      refine condB (fun h1 => condB (fun h2 => pa ?_) fun h2 => pa ?_) fun h1 => pa ?_
      · rw [withinT, h, h1, h2, Bool.or_true]; exact Le.refl _
      · rw [withinT, h, h1, h2, Bool.or_false, Bool.and_true, Bool.true_and]; exact Le.refl _
      · rw [withinT, h1, Bool.and_false, Bool.and_false]; exact Le.refl _
    · rw [nameEq] at h
      rw [withinT, h]; exact Le.refl _
  exact ASpec.pureH H k _ _ rfl rfl

theorem rsame_specT (a b : Term) (ha : a.2.1.length ≤ 2000000000) (H : List AObj) : ASpec Try.prog 36 [agT a, agT b] H (fun r H' => r = .bool (decide (a = b)) ∧ H' = H) := by
  have k : ASpec Try.prog 36 [agT a, agT b] [] (fun r H' => r = .bool (decide (a = b)) ∧ H' = []) := by
    refine ASpec.sel (Sg.s36 _ _ _ (condB (fun h => Sg.condQ (fun h1 => ?_) fun h1 => pa ?_) fun h => pa ?_))
    · rw [nameEq] at h
      refine ASpec.call (same_spec _ _ ha _) (Les.refl _) ⟨_, rfl, rfl, pa ?_⟩
      have e : decide (a.2.1 = b.2.1) = decide (a = b) := by
        obtain ⟨a1, a2, a3⟩ := a
        obtain ⟨b1, b2, b3⟩ := b
        have h := of_decide_eq_true h
        simp only at h h1 ⊢
        subst h h1
        rw [decide_eq_decide]; simp
      rw [e]; exact Le.refl _
    · rw [decide_eq_false (by rintro rfl; exact h1 rfl)]; exact Le.refl _
    · rw [nameEq] at h
      rw [decide_eq_false (by rintro rfl; exact (of_decide_eq_false h) rfl)]; exact Le.refl _
  exact ASpec.pureH H k _ _ rfl rfl

end Tm
end

section
/- A trail: what its functions do. -/

set_option linter.unusedVariables false
set_option linter.unusedSimpArgs false
set_option maxRecDepth 100000
open Go Go.Ab Go.Proofs V S T C
open W (sl1 slS slN slR)
open Sp
namespace Tl
open Tm (okT agT fullT meetT meetT_spec ok_meet ok_full full_spec emptyT empty_spec withinT within_specT hasT has_specT chkT nameEq oneS one_spec)
section
variable {H : List AObj} {p a b : Nat} {E E' : List TE} {L L' : List Int}

abbrev At (H : List AObj) (p a b : Nat) (E : List TE) (L : List Int) : Prop :=
  H[p]? = some (tO E L a b) ∧ H[a]? = some .tok ∧ H[b]? = some .tok ∧ p ≠ a ∧ p ≠ b ∧ a ≠ b

theorem hobjs (h : At H p a b E L) : ∀ i (hi : i < (HT E L).length), H[[p, a, b].getD i 0]? = some (AObj.ren (callR [p, a, b] H.length) (HT E L)[i]) := by
  intro i hi
  match i, hi with
  | 0, _ => exact h.1
  | 1, _ => exact h.2.1
  | 2, _ => exact h.2.2.1
theorem nd (h : At H p a b E L) : [p, a, b].Nodup := by
  obtain ⟨_, _, _, h1, h2, h3⟩ := h
  simp [h1, h2, h3]

theorem liftG {f : FuncId} {args args' : List AV} {r0 r' : AV} {Hl2 Hx : List AObj} (h : At H p a b E L) (k : ASpec Try.prog f args (HT E L) (fun r H' => r = r0 ∧ H' = Hl2))
    (ha : args.map (AV.ren (callR [p, a, b] H.length)) = args') (hr : AV.ren (callR [p, a, b] H.length) r0 = r') (hx : graftH (callR [p, a, b] H.length) [p, a, b] H Hl2 = Hx) :
    ASpec Try.prog f args' H (fun r H' => r = r' ∧ H' = Hx) := ASpec.subH [p, a, b] H Hx k args' r' (nd h) rfl ha hr (hobjs h) hx

noncomputable abbrev hTt (H : List AObj) (p a b : Nat) (E : List TE) (L : List Int) : List AObj := ((H.set a .gone).set b .gone).set p (tO E L H.length (H.length + 1)) ++ [.tok, .tok]

theorem gSame (h : At H p a b E L) : graftH (callR [p, a, b] H.length) [p, a, b] H (HT E L) = H := by
  have e : graftH (callR [p, a, b] H.length) [p, a, b] H (HT E L) = ((H.set p (tO E L a b)).set a .tok).set b .tok ++ [] := rfl
  rw [e, set_same h.1, set_same h.2.1, set_same h.2.2.1, List.append_nil]

theorem gT (h : At H p a b E L) : graftH (callR [p, a, b] H.length) [p, a, b] H [tO E' L' 3 4, .gone, .gone, .tok, .tok] = hTt H p a b E' L' := by
  have e : graftH (callR [p, a, b] H.length) [p, a, b] H [tO E' L' 3 4, .gone, .gone, .tok, .tok] = ((H.set p (tO E' L' H.length (H.length + 1))).set a .gone).set b .gone ++ [.tok, .tok] := rfl
  obtain ⟨_, _, h3, n1, n2, n3⟩ := h
  rw [e, hTt, List.set_comm _ _ n1, List.set_comm _ _ n2]

theorem atL (E : List TE) (L : List Int) (q : List AObj) : At (tO E L 1 2 :: .tok :: .tok :: q) 0 1 2 E L := ⟨rfl, rfl, rfl, by decide, by decide, by decide⟩

/-- ahead of a call, an object's cells are spelled otherwise -/
theorem ASpec.inCell {P : Program} {f : FuncId} {args : List AV} {Post : AV → List AObj → Prop} (id : Nat) {cs : List AV} (cs' : List AV) (ho : H[id]? = some (.cells cs)) (h : Les cs cs') (k : ASpec P f args (H.set id (.cells cs')) Post) : ASpec P f args H Post := by
  intro M loc w vs ht hr hv
  have hl := h.len
  obtain ⟨r1, r2⟩ := hr.respell id (.cells cs) (.cells cs') ho (by intro h; cases h) (by intro h; cases h) (fun hO => by
    obtain ⟨b, vs, T, fr, e1, e2, e3, e4, e5, hs, e6⟩ := hO
    exact ⟨b, vs, T, fr, e1, e2, e3, e4, e5, by omega, fun i hi => h.get i (by omega) hi _ _ _ _ (e6 i (by omega))⟩)
  refine (k M loc w vs (ht.step hr r2) r1 hv).mono fun e w' ⟨v, r, H', M', loc', he, hP, q1, q2, q3⟩ => ⟨v, r, H', M', loc', he, hP, q1, q2, StepN.trans r2 q3 (by simp)⟩

/-- at the end of a call -/
theorem ASpec.cellEnd {P : Program} {f : FuncId} {args : List AV} {Post : AV → List AObj → Prop}
    (h : ASpec P f args H (fun r H' => ∃ id cs cs', H'[id]? = some (.cells cs) ∧ Les cs cs' ∧ Post r (H'.set id (.cells cs')))) : ASpec P f args H Post := by
  intro M loc w vs ht hr hv
  refine (h M loc w vs ht hr hv).mono fun e w' hh => ?_
  obtain ⟨v, r, H', M', loc', he, ⟨id, cs, cs', ho, hq, hP⟩, r1, r2, r3⟩ := hh
  have hl := hq.len
  obtain ⟨k1, k2⟩ := r1.respell id (.cells cs) (.cells cs') ho (by intro h; cases h) (by intro h; cases h) (fun hO => by
    obtain ⟨b, vs, T, fr, e1, e2, e3, e4, e5, hs, e6⟩ := hO
    exact ⟨b, vs, T, fr, e1, e2, e3, e4, e5, by omega, fun i hi => hq.get i (by omega) hi _ _ _ _ (e6 i (by omega))⟩)
  exact ⟨v, r, _, M', loc', he, hP, k1, r2.keeps (k2.keeps r1), StepN.trans r3 k2 r3.len⟩

/-! ### looks -/

theorem level_spec (h : At H p a b E L) : ASpec Try.prog 30 [.ptr p 0] H (fun r H' => r = .int .i64 L.length ∧ H' = H) := by
  have k : ASpec Try.prog 30 [.ptr 0 0] (HT E L) (fun r H' => r = .int .i64 L.length ∧ H' = HT E L) := s30 _ _ _ ⟨rfl, rfl⟩
  exact liftG h k rfl rfl (gSame h)
theorem len_spec (h : At H p a b E L) : ASpec Try.prog 80 [.ptr p 0] H (fun r H' => r = .int .i64 E.length ∧ H' = H) := by
  have k : ASpec Try.prog 80 [.ptr 0 0] (HT E L) (fun r H' => r = .int .i64 E.length ∧ H' = HT E L) := s80 _ _ _ ⟨rfl, rfl⟩
  exact liftG h k rfl rfl (gSame h)

noncomputable def knowF (s : List UInt8) (o : Term) : List TE → Term
  | [] => o
  | e :: r => if e.1.1 = s then knowF s (meetT o e.1) r else knowF s o r
def okTE (E : List TE) : Prop := E.length ≤ lim ∧ ∀ e ∈ E, okT e.1

theorem know_ok : ∀ {E : List TE} {s : List UInt8} {o : Term}, (∀ e ∈ E, okT e.1) → okT o → okT (knowF s o E)
  | [], _, _, _, h => h
  | e :: r, s, o, hE, h => by
    simp only [knowF]
    split
    · exact know_ok (fun x hx => hE x (by simp [hx])) (ok_meet h (hE e (by simp)))
    · exact know_ok (fun x hx => hE x (by simp [hx])) h

theorem getD_mem {α : Type} {l : List α} {d : α} {i : Nat} (h : i < l.length) : l.getD i d ∈ l := by
  rw [List.getD_eq_getElem?_getD, List.getElem?_eq_getElem h]; exact List.getElem_mem h

theorem know5 {l : List TE} (hl : okTE l) {s : List UInt8} {R : Term} : ∀ (m i : Nat) (o : Term), m + i = l.length → okT o → knowF s o (l.drop i) = R →
    AWP Try.prog 44 3 c86_5 [(2, .str (B s)), (6, .ptr 3 0), (7, .ptr 4 0), (27, .sl 5 (.map encTE noTE l) .none), (28, .int .i64 l.length), (29, .int .i64 i)] (HT E L ++ [.cells [.str ⟨#[]⟩, .sl 0 (.raw []) .nil, .bool false], .cells (encT o)])
      (q86_2 3 (fun r H' => ∃ q H2 r2, Sel (HT E L).length q H' H2 ∧ Le r (AV.ren (selR q H'.length) r2) ∧ (r2 = agT R ∧ H2 = HT E L))) := by
  have hl1 := hl.1
  unfold lim at hl1
  intro m
  induction m with
  | zero =>
    intro i o hm ho h
    refine v86_5 _ _ _ _ _ _ _ _ _ (condD (fun hc => by omega) fun _ => ?_)
    rw [List.drop_eq_nil_of_le (by omega)] at h
    have h' : o = R := h
    subst h'
    refine ⟨[0, 1, 2], HT E L, agT o, ⟨by decide, rfl, by show 3 ≤ 3; omega, fun j hj => ?_, fun j hj => ?_⟩, Le.refl _, rfl, rfl⟩
    · match j, hj with
      | 0, _ | 1, _ | 2, _ => rfl
    · match j, hj with
      | 0, _ | 1, _ | 2, _ => exact .inl rfl
  | succ m ih =>
    intro i o hm ho h
    refine v86_5 _ _ _ _ _ _ _ _ _ (condD (fun hc => needJ ⟨by omega, by omega⟩ ?_) fun hc => by omega)
    rw [Int.toNat_natCast]
    have hx := hl.2 _ (getD_mem (d := noTE) (show i < l.length by omega))
    rw [dropD l noTE i (by omega)] at h
    generalize l.getD i noTE = x at h hx ⊢
    simp only [knowF] at h
    refine condB (fun h1 => ?_) fun h1 => ?_
    · rw [nameEq] at h1
      rw [if_pos (of_decide_eq_true h1)] at h
      refine ASpec.call (meetT_spec o x.1 ho hx _) (Les.refl _) ⟨meetT o x.1, rfl, rfl, ?_⟩
      rw [succ64 (by omega)]
      refine AWP.shape [0, 1, 2, 3, 4] [(2, .str (B s)), (6, .ptr 3 0), (7, .ptr 4 0), (27, .sl 5 (.map encTE noTE l) .none), (28, .int .i64 l.length), (29, .int .i64 (i + 1 : Nat))] (HT E L ++ [.cells [.str ⟨#[]⟩, .sl 0 (.raw []) .nil, .bool false], .cells (encT (meetT o x.1))])
        ⟨by decide, rfl, by show 3 ≤ 5; omega, fun j hj => ?_, fun j hj => ?_⟩ ⟨rfl, Le.refl _, rfl, Le.refl _, rfl, Le.refl _, rfl, Le.refl _, rfl, Le.refl _, rfl, Le.refl _, trivial⟩ (ih (i + 1) _ (by omega) (ok_meet ho hx) h)
      · match j, hj with
        | 0, _ | 1, _ | 2, _ => rfl
      · match j, hj with
        | 0, _ | 1, _ | 2, _ | 3, _ | 4, _ => exact .inl rfl
    · rw [nameEq] at h1
      rw [if_neg (of_decide_eq_false h1)] at h
      rw [succ64 (by omega)]
      refine AWP.shape [0, 1, 2, 3, 4] [(2, .str (B s)), (6, .ptr 3 0), (7, .ptr 4 0), (27, .sl 5 (.map encTE noTE l) .none), (28, .int .i64 l.length), (29, .int .i64 (i + 1 : Nat))] (HT E L ++ [.cells [.str ⟨#[]⟩, .sl 0 (.raw []) .nil, .bool false], .cells (encT o)])
        ⟨by decide, rfl, by show 3 ≤ 5; omega, fun j hj => ?_, fun j hj => ?_⟩ ⟨rfl, Le.refl _, rfl, Le.refl _, rfl, Le.refl _, rfl, Le.refl _, rfl, Le.refl _, rfl, Le.refl _, trivial⟩ (ih (i + 1) _ (by omega) ho h)
      · match j, hj with
        | 0, _ | 1, _ | 2, _ => rfl
      · match j, hj with
        | 0, _ | 1, _ | 2, _ | 3, _ | 4, _ => exact .inl rfl

noncomputable def knowM (E : List TE) (s : List UInt8) : Term := knowF s (fullT s) E
theorem knowM_ok (h : okTE E) (s : List UInt8) : okT (knowM E s) := know_ok h.2 (ok_full s)

theorem knowAt_spec (h : At H p a b E L) (hE : okTE E) (s : List UInt8) : ASpec Try.prog 86 [.ptr p 0, .int .i64 E.length, .str (B s)] H (fun r H' => r = agT (knowM E s) ∧ H' = H) := by
  have k : ASpec Try.prog 86 [.ptr 0 0, .int .i64 E.length, .str (B s)] (HT E L) (fun r H' => r = agT (knowM E s) ∧ H' = HT E L) := by
    refine ASpec.sel (s86 _ _ _ _ _ (ASpec.call (full_spec s _) (Les.refl _) ⟨fullT s, rfl, rfl, needJ (by split <;> split <;> omega) ?_⟩))
    have e1 : (if (if ((E.length : Int)) < E.length then (E.length : Int) else E.length) > 0 then (if ((E.length : Int)) < E.length then (E.length : Int) else E.length) else 0) = E.length := by split <;> split <;> omega
    rw [e1, Int.toNat_natCast, List.take_length, List.drop_zero]
    exact know5 hE E.length 0 (fullT s) (by omega) (ok_full s) rfl
  exact liftG h k rfl rfl (gSame h)

theorem know_spec (h : At H p a b E L) (hE : okTE E) (s : List UInt8) : ASpec Try.prog 29 [.ptr p 0, .str (B s)] H (fun r H' => r = agT (knowM E s) ∧ H' = H) := by
  have k : ASpec Try.prog 29 [.ptr 0 0, .str (B s)] (HT E L) (fun r H' => r = agT (knowM E s) ∧ H' = HT E L) := by
    refine ASpec.sel (s29 _ _ _ _ (ASpec.call (len_spec (atL E L _)) (Les.refl _) ⟨_, rfl, rfl, ?_⟩))
    refine ASpec.call (knowAt_spec (atL E L _) hE s) (Les.refl _) ⟨knowM E s, rfl, rfl, ?_⟩
    refine ⟨[0, 1, 2], HT E L, agT (knowM E s), ⟨by decide, rfl, by show 3 ≤ 3; omega, fun j hj => ?_, fun j hj => ?_⟩, Le.refl _, rfl, rfl⟩
    · match j, hj with
      | 0, _ | 1, _ | 2, _ => rfl
    · match j, hj with
      | 0, _ | 1, _ | 2, _ => exact .inl rfl
  exact liftG h k rfl rfl (gSame h)

end
end Tl
end

section
/- A trail: what is put, decided, derived, taken back. -/

set_option linter.unusedVariables false
set_option linter.unusedSimpArgs false
set_option maxRecDepth 100000
open Go Go.Ab Go.Proofs V S T C
open W (sl1 slS slN slR)
open Sp
namespace Tl
open Tm (okT agT fullT meetT meetT_spec ok_meet ok_full full_spec emptyT empty_spec withinT within_specT hasT has_specT chkT nameEq oneS one_spec)
section
variable {H : List AObj} {p a b : Nat} {E E' : List TE} {L L' : List Int}

theorem cloneSp (l : List Span) (hl : l.length ≤ lim) (H : List AObj) : ASpec Try.prog 255 [slS l] H (fun r H' => r = slS l ∧ H' = H) := by
  unfold lim at hl
  have k : ASpec Try.prog 255 [slS l] [] (fun r H' => r = slS l ∧ H' = []) := by
    refine ASpec.sel (Sg.s255 _ _ fun b hb => condB (fun h => Sg.pa ?_) fun h => needJ (fun x => rfl) (needJ (by omega) (Sg.pa ?_)))
    · have := hb h
      simp only [Ab.Seq.toList, List.map_eq_nil_iff] at this
      subst this
      exact Sg.leS0
    · exact Le.sl (s' := Seq.ren _ (.map encS (0, 0) l)) (by simp [Ab.Seq.toList, Seq.ren, W.renS]) (.inl rfl) (.inr rfl)
  exact ASpec.pureH H k _ _ rfl rfl

/-- the ends: nothing was replaced; some objects stand behind -/
theorem end3 {n : Nat} {r r0 : AV} (q : List AObj) (hle : ∀ ρ, Le r (AV.ren ρ r0)) (hn : n = 3) :
    ∃ l gb H2 r2, SelM n l gb (tO E L 1 2 :: .tok :: .tok :: q) H2 ∧ Le r (AV.ren (selR l (tO E L 1 2 :: .tok :: .tok :: q).length) r2) ∧ (r2 = r0 ∧ H2 = [tO E L 3 4, .gone, .gone, .tok, .tok]) := by
  subst hn
  refine ⟨[0, 1, 2, 1, 2], [false, true, true, false, false], [tO E L 3 4, .gone, .gone, .tok, .tok], r0, ⟨by decide, rfl, rfl, by decide, fun j hj => ?_, fun j hj => ?_⟩, hle _, rfl, rfl⟩
  · match j, hj with
    | 0, _ | 1, _ | 2, _ => rfl
  · match j, hj with
    | 0, _ => exact .inl rfl
    | 1, _ | 2, _ => exact .inr rfl
    | 3, _ | 4, _ => exact .inl rfl

theorem new_spec (H : List AObj) : ASpec Try.prog 28 [] H (fun r H' => r = .ptr H.length 0 ∧ H' = H ++ [tO [] [] (H.length + 1) (H.length + 2), .tok, .tok]) := by
  have re : ∀ {Post : AV → List AObj → Prop}, ASpec Try.prog 28 [] [] (fun r H' => ∃ H2, ReSt 0 [(0, r)] H' [(0, r)] H2 ∧ Post r H2) → ASpec Try.prog 28 [] [] Post := by
    intro Post h M loc w vs ht hr hv
    refine (h M loc w vs ht hr hv).mono fun e w' hh => ?_
    obtain ⟨v, r, H', M', loc', he, ⟨H2, hs, hP⟩, r1, r2', r3⟩ := hh
    obtain ⟨M2, loc2, q1, q2, q3⟩ := hs M' loc' w' #[v] r3.len r1 (fun d => by
      by_cases hd : d = 0
      · subst hd; exact r2'
      · have : Nat.beq 0 d = false := by
          cases hx : Nat.beq 0 d with
          | false => rfl
          | true => exact absurd (Nat.eq_of_beq_eq_true hx).symm hd
        simp only [Ab.get, this]
        exact .bad _)
    exact ⟨v, r, H2, M2, loc2, he, hP, q1, q2 0, StepN.trans r3 q3 (Nat.le_refl _)⟩
  have k : ASpec Try.prog 28 [] [] (fun r H' => r = .ptr 0 0 ∧ H' = HT [] []) := by
    refine re (s28 _ ⟨HT [] [], ?_, rfl, rfl⟩)
    refine ReSt.trans (ReSt.tokCell (id := 0) (j := 0) (sz := 0) (q := .raw []) (tip := .nil) (cs := [.sl 0 (.raw []) .nil, .sl 0 (.raw []) .nil]) (q' := .map encTE noTE []) (sz' := 5) rfl rfl (.inl rfl) rfl (.inr rfl)) ?_
    exact ReSt.tokCell (id := 0) (j := 1) (sz := 0) (q := .raw []) (tip := .nil) (cs := [.sl 5 (.map encTE noTE []) (.tok 1), .sl 0 (.raw []) .nil]) (q' := .map encI 0 []) (sz' := 1) rfl rfl (.inl rfl) rfl (.inr rfl)
  exact ASpec.anyH H k _ _ _ rfl rfl rfl

theorem put0 (t : Term) (c : Int) (ht : t.2.1.length ≤ lim) (hE : E.length ≤ lim) :
    ASpec Try.prog 156 [.ptr 0 0, agT t, .int .i64 c] (HT E L) (fun r H' => r = .tup [] ∧ H' = [tO (E ++ [(t, (L.length : Int), c)]) L 3 4, .gone, .gone, .tok, .tok]) := by
  unfold lim at hE
  refine ASpec.selM (ASpec.cellEnd (s156 _ _ _ _ _ (ASpec.call (cloneSp _ ht _) (Les.refl _) ⟨t.2.1, rfl, rfl, ?_⟩)))
  refine ASpec.call (level_spec (atL E L _)) (Les.refl _) ⟨(L.length : Int), rfl, rfl, ⟨rfl, rfl⟩, ⟨rfl, rfl⟩, needJ (by omega) ?_⟩
  refine ⟨0, _, [.sl 5 (.map encTE noTE (E ++ [(t, (L.length : Int), c)])) (.tok 4), .sl 1 (.map encI 0 L) (.tok 2)], rfl, ⟨leAppE (Les.refl _), Le.refl _, trivial⟩, ?_⟩
  refine ⟨[0, 1, 2, 4, 2], [false, true, true, false, false], [tO (E ++ [(t, (L.length : Int), c)]) L 3 4, .gone, .gone, .tok, .tok], .tup [], ⟨by decide, rfl, rfl, by show 3 ≤ 5; omega, fun j hj => ?_, fun j hj => ?_⟩, Le.refl _, rfl, rfl⟩
  · match j, hj with
    | 0, _ | 1, _ | 2, _ => rfl
  · match j, hj with
    | 0, _ => exact .inl rfl
    | 1, _ => exact .inr rfl
    | 2, _ => exact .inr rfl
    | 3, _ | 4, _ => exact .inl rfl

theorem put_spec (h : At H p a b E L) (t : Term) (c : Int) (ht : t.2.1.length ≤ lim) (hE : E.length ≤ lim) :
    ASpec Try.prog 156 [.ptr p 0, agT t, .int .i64 c] H (fun r H' => r = .tup [] ∧ H' = hTt H p a b (E ++ [(t, (L.length : Int), c)]) L) :=
  liftG h (put0 t c ht hE) rfl rfl (gT h)

/-! ### what is decided -/

abbrev Res := Int × List TE × List Int
noncomputable def decM (E : List TE) (L : List Int) (s : List UInt8) (v : Int) : Res :=
  if fitM s = false ∨ v < 0 ∨ 1000000000 ≤ v then (1, E, L)
  else if hasS (knowM E s).2.1 v = false then (5, E, L)
  else (0, E ++ [((s, oneS v, false), (L.length : Int) + 1, -1)], L ++ [(E.length : Int)])

theorem dec0 (hE : okTE E) (hL : L.length ≤ lim) (s : List UInt8) (hs : s.length ≤ lim) (v : Int) {R : Res} (hR : decM E L s v = R) :
    ASpec Try.prog 31 [.ptr 0 0, .str (B s), .int .i64 v] (HT E L) (fun r H' => r = .int .i64 R.1 ∧ H' = [tO R.2.1 R.2.2 3 4, .gone, .gone, .tok, .tok]) := by
  unfold lim at hs hL
  have hE1 := hE.1
  refine ASpec.selM (s31 _ _ _ _ _ (ASpec.call (fit_spec (l := s) (by unfold big; omega) _) (Les.refl _) ⟨_, rfl, rfl, condBn (fun h => ?_) fun h => condD (fun h1 => ?_) fun h1 => condD (fun h2 => ?_) fun h2 => ?_⟩))
  · rw [decM, if_pos (.inl h)] at hR; subst hR
    exact end3 (n := 3) [] (fun ρ => Le.refl _) rfl
  · rw [decM, if_pos (.inr (.inl h1))] at hR; subst hR
    exact end3 (n := 3) [] (fun ρ => Le.refl _) rfl
  · rw [decM, if_pos (.inr (.inr (by omega)))] at hR; subst hR
    exact end3 (n := 3) [] (fun ρ => Le.refl _) rfl
  · rw [decM, if_neg (by rw [h]; simp; omega)] at hR
    refine ASpec.call (know_spec (atL E L []) hE s) (Les.refl _) ⟨knowM E s, rfl, rfl, ?_⟩
    refine ASpec.call (has_specT (knowM E s) v true (knowM_ok hE s) _) (Les.refl _) ⟨_, rfl, rfl, ?_⟩
    have hh : hasT (knowM E s) v true = hasS (knowM E s).2.1 v := rfl
    rw [hh]
    refine condBn (fun h3 => ?_) fun h3 => needJ (by omega) ?_
    · rw [if_pos h3] at hR; subst hR
      exact end3 (n := 3) [] (fun ρ => Le.refl _) rfl
    · rw [if_neg (by rw [h3]; simp)] at hR; subst hR
      refine ASpec.call (one_spec v _) (Les.refl _) ⟨oneS v, rfl, rfl, ?_⟩
      have h1s : (oneS v).length ≤ lim := by unfold oneS lim; split <;> simp
      refine ASpec.inCell 0 [.sl 5 (.map encTE noTE E) (.tok 1), .sl 1 (.map encI 0 (L ++ [(E.length : Int)])) (.tok 3)] rfl ⟨Le.refl _, leAppE (Les.refl _), trivial⟩ ?_
      have hp := put_spec (p := 0) (a := 1) (b := 3) (H := [tO E (L ++ [(E.length : Int)]) 1 3, .tok, .gone, .tok]) (E := E) (L := L ++ [(E.length : Int)]) ⟨rfl, rfl, rfl, by decide, by decide, by decide⟩ (s, oneS v, false) (-1) h1s hE1
      have hlen : (((L ++ [(E.length : Int)]).length : Nat) : Int) = (L.length : Int) + 1 := by simp
      rw [hlen] at hp
      refine ASpec.call hp (Les.refl _) ⟨(E ++ [((s, oneS v, false), (L.length : Int) + 1, -1)], L ++ [(E.length : Int)]), rfl, rfl, ?_⟩
      refine ⟨[0, 1, 2, 4, 5], [false, true, true, false, false], [tO (E ++ [((s, oneS v, false), (L.length : Int) + 1, -1)]) (L ++ [(E.length : Int)]) 3 4, .gone, .gone, .tok, .tok], .int .i64 0, ⟨by decide, rfl, rfl, by show 3 ≤ 5; omega, fun j hj => ?_, fun j hj => ?_⟩, Le.refl _, rfl, rfl⟩
      · match j, hj with
        | 0, _ | 1, _ | 2, _ => rfl
      · match j, hj with
        | 0, _ => exact .inl rfl
        | 1, _ | 2, _ => exact .inr rfl
        | 3, _ | 4, _ => exact .inl rfl

theorem dec_spec (h : At H p a b E L) (hE : okTE E) (hL : L.length ≤ lim) (s : List UInt8) (hs : s.length ≤ lim) (v : Int) :
    ASpec Try.prog 31 [.ptr p 0, .str (B s), .int .i64 v] H (fun r H' => r = .int .i64 (decM E L s v).1 ∧ H' = hTt H p a b (decM E L s v).2.1 (decM E L s v).2.2) :=
  liftG h (dec0 hE hL s hs v rfl) rfl rfl (gT h)

/-! ### what is derived -/

noncomputable def derM (E : List TE) (L : List Int) (t : Term) (c : Int) : Res :=
  if chkT t = false ∨ c < 0 then (1, E, L)
  else if emptyT (meetT (knowM E t.1) t) = true then (5, E, L)
  else if withinT (knowM E t.1) t = true then (6, E, L)
  else (0, E ++ [(t, (L.length : Int), c)], L)

theorem der0 (hE : okTE E) (hL : L.length ≤ lim) (t : Term) (ht1 : t.1.length ≤ lim) (ht2 : t.2.1.length ≤ lim) (c : Int) {R : Res} (hR : derM E L t c = R) :
    ASpec Try.prog 32 [.ptr 0 0, agT t, .int .i64 c] (HT E L) (fun r H' => r = .int .i64 R.1 ∧ H' = [tO R.2.1 R.2.2 3 4, .gone, .gone, .tok, .tok]) := by
  refine ASpec.selM (s32 _ _ _ _ _ (ASpec.call (Tm.check_spec t ht1 ht2 _) (Les.refl _) ⟨_, rfl, rfl, condBn (fun h => ?_) fun h => condD (fun h1 => ?_) fun h1 => ?_⟩))
  · rw [derM, if_pos (.inl h)] at hR; subst hR
    exact end3 (n := 3) _ (fun ρ => Le.refl _) rfl
  · rw [derM, if_pos (.inr h1)] at hR; subst hR
    exact end3 (n := 3) _ (fun ρ => Le.refl _) rfl
  · rw [derM, if_neg (by rw [h]; simp; omega)] at hR
    have hok : okT t := by
      unfold chkT at h
      rw [Bool.and_eq_true] at h
      exact h.2
    refine ASpec.call (know_spec (atL E L _) hE t.1) (Les.refl _) ⟨knowM E t.1, rfl, rfl, ?_⟩
    have hk := knowM_ok hE t.1
    generalize knowM E t.1 = k at hk hR ⊢
    refine ASpec.call (meetT_spec k t hk hok _) (Les.refl _) ⟨meetT k t, rfl, rfl, ?_⟩
    refine ASpec.call (empty_spec (meetT k t) _) (Les.refl _) ⟨_, rfl, rfl, condB (fun h2 => ?_) fun h2 => ?_⟩
    · rw [if_pos h2] at hR; subst hR
      exact end3 (n := 3) _ (fun ρ => Le.refl _) rfl
    · rw [if_neg (by rw [h2]; simp)] at hR
      refine ASpec.call (within_specT k t hk hok _) (Les.refl _) ⟨_, rfl, rfl, condB (fun h3 => ?_) fun h3 => ?_⟩
      · rw [if_pos h3] at hR; subst hR
        exact end3 (n := 3) _ (fun ρ => Le.refl _) rfl
      · rw [if_neg (by rw [h3]; simp)] at hR; subst hR
        refine ASpec.call (put_spec (atL E L _) t c ht2 hE.1) (Les.refl _) ⟨(E ++ [(t, (L.length : Int), c)], L), rfl, rfl, ?_⟩
        refine ⟨[0, 1, 2, 5, 6], [false, true, true, false, false], [tO (E ++ [(t, (L.length : Int), c)]) L 3 4, .gone, .gone, .tok, .tok], .int .i64 0, ⟨by decide, rfl, rfl, by show 3 ≤ 5; omega, fun j hj => ?_, fun j hj => ?_⟩, Le.refl _, rfl, rfl⟩
        · match j, hj with
          | 0, _ | 1, _ | 2, _ => rfl
        · match j, hj with
          | 0, _ => exact .inl rfl
          | 1, _ | 2, _ => exact .inr rfl
          | 3, _ | 4, _ => exact .inl rfl

theorem der_spec (h : At H p a b E L) (hE : okTE E) (hL : L.length ≤ lim) (t : Term) (ht1 : t.1.length ≤ lim) (ht2 : t.2.1.length ≤ lim) (c : Int) :
    ASpec Try.prog 32 [.ptr p 0, agT t, .int .i64 c] H (fun r H' => r = .int .i64 (derM E L t c).1 ∧ H' = hTt H p a b (derM E L t c).2.1 (derM E L t c).2.2) :=
  liftG h (der0 hE hL t ht1 ht2 c rfl) rfl rfl (gT h)

end
end Tl
end

section
/- A trail: what is taken back; what is known only becomes less. -/

set_option linter.unusedVariables false
set_option linter.unusedSimpArgs false
set_option maxRecDepth 100000
open Go Go.Ab Go.Proofs V S T C
open W (sl1 slS slN slR)
open Sp
namespace Tl
open Tm (okT agT fullT meetT meetT_spec ok_meet ok_full full_spec emptyT empty_spec withinT within_specT hasT has_specT chkT nameEq oneS one_spec)

/-- the end of a call, spelled otherwise -/
theorem ASpec.reEnd {P : Program} {f : FuncId} {args : List AV} {H : List AObj} {Post : AV → List AObj → Prop}
    (h : ASpec P f args H (fun r H' => ∃ r2 H2, ReSt H.length [(0, r)] H' [(0, r2)] H2 ∧ Post r2 H2)) : ASpec P f args H Post := by
  intro M loc w vs ht hr hv
  refine (h M loc w vs ht hr hv).mono fun e w' hh => ?_
  obtain ⟨v, r, H', M', loc', he, ⟨r2, H2, hs, hP⟩, r1, r2', r3⟩ := hh
  obtain ⟨M2, loc2, q1, q2, q3⟩ := hs M' loc' w' #[v] r3.len r1 (fun d => by
    by_cases hd : d = 0
    · subst hd; exact r2'
    · have : Nat.beq 0 d = false := by
        cases hx : Nat.beq 0 d with
        | false => rfl
        | true => exact absurd (Nat.eq_of_beq_eq_true hx).symm hd
      simp only [Ab.get, this]
      exact .bad _)
  exact ⟨v, r2, H2, M2, loc2, he, hP, q1, q2 0, StepN.trans r3 q3 (Nat.le_refl _)⟩

section
variable {H : List AObj} {p a b : Nat} {E E' : List TE} {L L' : List Int}

def backM (E : List TE) (L : List Int) (n : Int) : List TE × List Int := if (L.length : Int) ≤ n then (E, L) else (E.take (L.getD n.toNat 0).toNat, L.take n.toNat)

theorem back0 (n : Int) (hn : 0 ≤ n) (hL : ∀ x ∈ L, 0 ≤ x ∧ x ≤ (E.length : Int)) {R : List TE × List Int} (hR : backM E L n = R) :
    ASpec Try.prog 35 [.ptr 0 0, .int .i64 n] (HT E L) (fun r H' => r = .tup [] ∧ H' = [tO R.1 R.2 3 4, .gone, .gone, .tok, .tok]) := by
  have e1 : (if (0 : Int) > n then (0 : Int) else n) = n := by split <;> omega
  refine ASpec.selM (ASpec.reEnd (s35 _ _ _ _ (ASpec.call (level_spec (atL E L [])) (Les.refl _) ⟨(L.length : Int), rfl, rfl, ?_⟩)))
  rw [e1]
  refine condD (fun h => ?_) fun h => ?_
  · rw [backM, if_pos (by omega)] at hR; subst hR
    exact ⟨.tup [], HT E L, ReSt.le (fun d => Le.refl _) (by show 3 ≤ 3; omega), end3 (n := 3) [] (fun ρ => Le.refl _) rfl⟩
  · rw [backM, if_neg (by omega)] at hR; subst hR
    obtain ⟨k, rfl⟩ := Int.eq_ofNat_of_zero_le hn
    rw [Int.toNat_natCast]
    have hk : k < L.length := by omega
    have hx := hL _ (getD_mem (d := 0) hk)
    refine needJ ⟨by omega, by omega⟩ (needJ ⟨hx.1, hx.2, rfl⟩ (needJ ⟨by omega, by omega, rfl⟩ ?_))
    rw [List.drop_zero, List.drop_zero]
    generalize (L.getD k 0).toNat = j
    refine ⟨.tup [], [.cells [.sl 5 (.map encTE noTE (E.take j)) (.tok 3), .sl 1 (.map encI 0 (L.take k)) (.tok 4)], .tok, .tok, .tok, .tok], ?_, [0, 1, 2, 3, 4], [false, true, true, false, false], [tO (E.take j) (L.take k) 3 4, .gone, .gone, .tok, .tok], .tup [], ⟨by decide, rfl, rfl, by show 3 ≤ 5; omega, fun i hi => ?_, fun i hi => ?_⟩, Le.refl _, rfl, rfl⟩
    · refine ReSt.trans (ReSt.tokCell (id := 0) (j := 0) (sz := 5) (q := .map encTE noTE (E.take j)) (tip := .full) (cs := [.sl 5 (.map encTE noTE (E.take j)) .full, .sl 1 (.map encI 0 (L.take k)) .full]) (q' := .map encTE noTE (E.take j)) (sz' := 5) rfl rfl (.inr rfl) rfl (.inl rfl)) ?_
      exact ReSt.tokCell (id := 0) (j := 1) (sz := 1) (q := .map encI 0 (L.take k)) (tip := .full) (cs := [.sl 5 (.map encTE noTE (E.take j)) (.tok 3), .sl 1 (.map encI 0 (L.take k)) .full]) (q' := .map encI 0 (L.take k)) (sz' := 1) rfl rfl (.inr rfl) rfl (.inl rfl)
    · match i, hi with
      | 0, _ | 1, _ | 2, _ => rfl
    · match i, hi with
      | 0, _ => exact .inl rfl
      | 1, _ | 2, _ => exact .inr rfl
      | 3, _ | 4, _ => exact .inl rfl

theorem back_spec (h : At H p a b E L) (n : Int) (hn : 0 ≤ n) (hL : ∀ x ∈ L, 0 ≤ x ∧ x ≤ (E.length : Int)) :
    ASpec Try.prog 35 [.ptr p 0, .int .i64 n] H (fun r H' => r = .tup [] ∧ H' = hTt H p a b (backM E L n).1 (backM E L n).2) :=
  liftG h (back0 n hn hL rfl) rfl rfl (gT h)

/-! ### what is known only becomes less -/

theorem knowF_append (s : List UInt8) (x : TE) : ∀ (E : List TE) (o : Term), knowF s o (E ++ [x]) = if x.1.1 = s then meetT (knowF s o E) x.1 else knowF s o E
  | [], o => by simp only [List.nil_append, knowF]
  | e :: r, o => by
    simp only [List.cons_append, knowF]
    split <;> exact knowF_append s x r _

theorem knowM_append (E : List TE) (x : TE) (s : List UInt8) : knowM (E ++ [x]) s = if x.1.1 = s then meetT (knowM E s) x.1 else knowM E s := knowF_append s x E _

theorem know_name : ∀ (E : List TE) (s : List UInt8) (o : Term), o.1 = s → (knowF s o E).1 = s
  | [], s, o, h => h
  | e :: r, s, o, h => by
    simp only [knowF]
    split
    · rename_i h2
      refine know_name r s _ ?_
      rw [meetT, if_pos (by rw [h, h2])]; exact h
    · exact know_name r s o h

theorem knowM_name (E : List TE) (s : List UInt8) : (knowM E s).1 = s := know_name E s _ rfl

theorem within_refl {t : Term} (h : okT t) : withinT t t = true := by
  unfold withinT
  have : Sg.subS t.2.1 t.2.1 = true := (Sg.subS_iff h h).2 (fun p hp => hp)
  rw [this]; cases t.2.2 <;> simp

theorem within_meet {t x : Term} (ht : okT t) (hx : okT x) (hn : t.1 = x.1) : withinT (meetT t x) t = true := by
  have hm : meetT t x = (t.1, Sg.meetS t.2.1 x.2.1, t.2.2 && x.2.2) := by rw [meetT, if_pos hn]
  rw [hm]
  unfold withinT
  have : Sg.subS (Sg.meetS t.2.1 x.2.1) t.2.1 = true := (Sg.subS_iff (Sg.meet_ok ht hx) ht).2 (fun p hp => by
    rw [Sg.meet_has ht hx, Bool.and_eq_true] at hp; exact hp.1)
  simp only [this]
  cases t.2.2 <;> cases x.2.2 <;> simp

/-- what holds of a trail, and of what was known at each level -/
structure Inv (s : List UInt8) (i : Nat) (E : List TE) (L : List Int) (K : List Term) : Prop where
  ok : okTE E
  len : E.length ≤ i ∧ L.length ≤ i
  lev : ∀ x ∈ L, 0 ≤ x ∧ x ≤ (E.length : Int)
  kl : K.length = L.length + 1
  kn : ∀ j, j < L.length → K.getD j noT = knowM (E.take (L.getD j 0).toNat) s
  now : K.getD L.length noT = knowM E s
  ne : emptyT (knowM E s) = false

theorem inv_put {s : List UInt8} {i : Nat} {K : List Term} (h : Inv s i E L K) (hi : i ≤ 1000) (x : TE) (hx : okT x.1) (hne : x.1.1 = s → emptyT (meetT (knowM E s) x.1) = false) :
    okTE (E ++ [x]) ∧ emptyT (knowM (E ++ [x]) s) = false ∧ withinT (knowM (E ++ [x]) s) (knowM E s) = true := by
  have hk := knowM_ok h.ok s
  refine ⟨⟨by have := h.len.1; unfold lim; simp; omega, fun e he => ?_⟩, ?_, ?_⟩
  · rcases List.mem_append.1 he with he | he
    · exact h.ok.2 e he
    · simp only [List.mem_singleton] at he; subst he; exact hx
  · rw [knowM_append]
    split
    · rename_i e; exact hne e
    · exact h.ne
  · rw [knowM_append]
    split
    · rename_i e; exact within_meet hk hx (by rw [knowM_name, e])
    · exact within_refl hk

theorem inv_same {s : List UInt8} {i : Nat} {K : List Term} (h : Inv s i E L K) : Inv s (i + 1) E L K :=
  ⟨h.ok, ⟨by have := h.len.1; omega, by have := h.len.2; omega⟩, h.lev, h.kl, h.kn, h.now, h.ne⟩

theorem take_front {α : Type} (E : List α) (x : α) {j : Nat} (hj : j ≤ E.length) : (E ++ [x]).take j = E.take j := List.take_append_of_le_length hj

/-- a level more -/
theorem inv_dec {s : List UInt8} {i : Nat} {K : List Term} (h : Inv s i E L K) (hi : i ≤ 1000) (x : TE) (hx : okT x.1) (hne : x.1.1 = s → emptyT (meetT (knowM E s) x.1) = false) :
    Inv s (i + 1) (E ++ [x]) (L ++ [(E.length : Int)]) (K ++ [knowM (E ++ [x]) s]) := by
  obtain ⟨p1, p2, p3⟩ := inv_put h hi x hx hne
  have hl := h.kl
  refine ⟨p1, ⟨by have := h.len.1; simp; omega, by have := h.len.2; simp; omega⟩, fun y hy => ?_, by simp; omega, fun j hj => ?_, ?_, p2⟩
  · rcases List.mem_append.1 hy with hy | hy
    · have := h.lev y hy; simp; omega
    · simp only [List.mem_singleton] at hy; subst hy; simp; omega
  · simp only [List.length_append, List.length_cons, List.length_nil] at hj
    by_cases c : j < L.length
    · have hx2 := h.lev _ (getD_mem (d := 0) c)
      have e1 : (L ++ [(E.length : Int)]).getD j 0 = L.getD j 0 := by simp [List.getD, List.getElem?_append_left c]
      have e2 : (K ++ [knowM (E ++ [x]) s]).getD j noT = K.getD j noT := by simp [List.getD, List.getElem?_append_left (show j < K.length by omega)]
      rw [e1, e2, h.kn j c, take_front E x (by omega)]
    · have hjl : j = L.length := by omega
      subst hjl
      have e1 : (L ++ [(E.length : Int)]).getD L.length 0 = E.length := by simp [List.getD]
      have e2 : (K ++ [knowM (E ++ [x]) s]).getD L.length noT = K.getD L.length noT := by simp [List.getD, List.getElem?_append_left (show L.length < K.length by omega)]
      rw [e1, e2, h.now, Int.toNat_natCast, List.take_left]
  · have e : (L ++ [(E.length : Int)]).length = K.length := by simp; omega
    rw [e]; simp [List.getD]

/-- an entry more at the same level -/
theorem inv_der {s : List UInt8} {i : Nat} {K : List Term} (h : Inv s i E L K) (hi : i ≤ 1000) (x : TE) (hx : okT x.1) (hne : x.1.1 = s → emptyT (meetT (knowM E s) x.1) = false) :
    Inv s (i + 1) (E ++ [x]) L (K.set L.length (knowM (E ++ [x]) s)) := by
  obtain ⟨p1, p2, p3⟩ := inv_put h hi x hx hne
  have hl := h.kl
  refine ⟨p1, ⟨by have := h.len.1; simp; omega, by have := h.len.2; omega⟩, fun y hy => ?_, by simp; omega, fun j hj => ?_, ?_, p2⟩
  · have := h.lev y hy; simp; omega
  · have hx2 := h.lev _ (getD_mem (d := 0) hj)
    have e2 : (K.set L.length (knowM (E ++ [x]) s)).getD j noT = K.getD j noT := by simp [List.getD, List.getElem?_set_ne (show L.length ≠ j by omega)]
    rw [e2, h.kn j hj, take_front E x (by omega)]
  · simp [List.getD, List.getElem?_set_self (show L.length < K.length by omega)]

/-- nothing more: what is known is put again -/
theorem inv_again {s : List UInt8} {i : Nat} {K : List Term} (h : Inv s i E L K) : Inv s (i + 1) E L (K.set L.length (knowM E s)) := by
  have hl := h.kl
  have e : K.set L.length (knowM E s) = K := by
    apply List.ext_getElem?
    intro j
    rw [List.getElem?_set]
    split
    · rename_i e; subst e
      rw [if_pos (by omega)]
      have h1 := h.now
      simp only [List.getD] at h1
      rw [List.getElem?_eq_getElem (show L.length < K.length by omega)] at h1 ⊢
      rw [← h1]; rfl
    · rfl
  rw [e]; exact inv_same h

end
end Tl
end

section
/- Printed: what the code of functions 81 asks for, by the framework's own reading of it; each line is checked against the code. -/

set_option linter.unusedVariables false
set_option maxRecDepth 100000
set_option maxHeartbeats 4000000
open Go Go.Ab Go.Proofs
namespace Tf
noncomputable section

noncomputable def rets : FuncId → List Ret := Tl.rets

-- 81
noncomputable def l81 : Nat → List Nat
  | 5 => [0, 5, 12, 13, 14]
  | 9 => [0, 5, 7, 8, 9, 12, 13, 14]
  | _ => []
noncomputable def u81 : Nat → Bool
  | _ => false
noncomputable def m81 : Nat → Bool
  | _ => false
noncomputable def g81 : Cfg := { N := 67, live := l81, cut := u81, mu := m81, ret := rets }
noncomputable def c81 : Go.Code := Go.Ab.bodyOf Go.Proofs.Try.f81
noncomputable def q81_0 : Nat → (AV → List AObj → Prop) → AQ := fun (n : Nat) (Post : AV → List AObj → Prop) => endQ Try.prog (resultsOf Try.f81) Post
noncomputable def q81_1 : Nat → (AV → List AObj → Prop) → AQ := fun (n : Nat) (Post : AV → List AObj → Prop) => seqQ (fun (s' : Slots) (H' : List AObj) => awp Try.prog g81 n (codeSnd (codeSnd (codeSnd (codeSnd c81)))) s' H' (q81_0 n Post)) (q81_0 n Post)
noncomputable def q81_2 : Nat → (AV → List AObj → Prop) → AQ := fun (n : Nat) (Post : AV → List AObj → Prop) => blockQ 0 (q81_1 n Post)
noncomputable def c81_5 : Go.Code := codeFst (codeSnd (codeFst (codeSnd (codeSnd (codeSnd c81)))))
theorem s81 : ∀ (E : List T.TE) (L : List Int) (c : List T.Term) (Post : AV → List AObj → Prop),
  AWP Try.prog 67 3 c81_5
      [(0, AV.ptr 0 0), (5, AV.int IntKind.i64 (0 : Int)), (12, AV.sl 3 (Seq.map T.encT T.noT c) Tip.none),
        (13, AV.int IntKind.i64 (↑(List.length c) : Int)), (14, AV.int IntKind.i64 (0 : Int))]
      [AObj.cells [AV.sl 5 (Seq.map T.encTE T.noTE E) (Tip.tok 1), AV.sl 1 (Seq.map encI (0 : Int) L) (Tip.tok 2)], AObj.tok, AObj.tok] (q81_2 3 Post) →
    ASpec Try.prog 81 [AV.ptr 0 0, AV.sl 3 (Seq.map T.encT T.noT c) Tip.none] (T.HT E L) Post := fun E L c Post h => Go.Ab.ASpec.of_vc g81 Go.Proofs.Try.func81 (by kernel_rfl) (by kernel_rfl) (by kernel_rfl) (Go.Ab.kc (by kernel_rfl) h)
noncomputable def q81_3 : Nat → (AV → List AObj → Prop) → AQ := fun (n : Nat) (Post : AV → List AObj → Prop) => loopQ Try.prog 67 n c81_5 (q81_2 n Post) (Cfg.live g81)
noncomputable def q81_4 : Nat → (AV → List AObj → Prop) → AQ := fun (n : Nat) (Post : AV → List AObj → Prop) => seqQ (fun (s' : Slots) (H' : List AObj) => awp Try.prog g81 n (codeSnd (codeSnd (codeSnd (codeFst c81_5)))) s' H' (q81_3 n Post)) (q81_3 n Post)
noncomputable def q81_5 : Nat → (AV → List AObj → Prop) → AQ := fun (n : Nat) (Post : AV → List AObj → Prop) => blockQ 1 (q81_4 n Post)
noncomputable def q81_6 : Nat → (AV → List AObj → Prop) → AQ := fun (n : Nat) (Post : AV → List AObj → Prop) => seqQ (fun (s' : Slots) (H' : List AObj) => awp Try.prog g81 n (codeSnd (codeSnd (codeSnd (codeSnd (codeFst (codeFst (codeSnd (codeSnd (codeFst c81_5))))))))) s' H' (q81_5 n Post)) (q81_5 n Post)
noncomputable def q81_7 : Nat → (AV → List AObj → Prop) → AQ := fun (n : Nat) (Post : AV → List AObj → Prop) => blockQ 2 (q81_6 n Post)
noncomputable def c81_9 : Go.Code := codeFst (codeFst (codeSnd (codeSnd (codeSnd (codeFst (codeFst (codeSnd (codeSnd (codeFst c81_5)))))))))
theorem v81_5 : ∀ (E : List T.TE) (L : List Int) (c : List T.Term) (m n i : Int) (n_1 : Nat) (Post : AV → List AObj → Prop),
  condP (decide (i < n))
      (needP ((0 : Int) ≤ i ∧ i < (↑(List.length c) : Int))
        (ASpec Try.prog 200 [AV.str { data := List.toArray (Prod.fst (List.getD c (Int.toNat i) T.noT)) }]
        [AObj.cells [AV.sl 5 (Seq.map T.encTE T.noTE E) (Tip.tok 1), AV.sl 1 (Seq.map encI (0 : Int) L) (Tip.tok 2)], AObj.tok, AObj.tok,
        AObj.cells
        [AV.str { data := List.toArray (Prod.fst (List.getD c (Int.toNat i) T.noT)) },
        AV.sl 2 (Seq.map T.encS ((0 : Int), (0 : Int)) (Prod.fst (Prod.snd (List.getD c (Int.toNat i) T.noT)))) Tip.none,
        AV.bool (Prod.snd (Prod.snd (List.getD c (Int.toNat i) T.noT)))]]
        fun (r : AV) (H' : List AObj) =>
        ∃ (x : List UInt8 × List T.Span × Bool),
        r = AV.agg [AV.str { data := List.toArray (Prod.fst x) }, AV.sl 2 (Seq.map T.encS ((0 : Int), (0 : Int)) (Prod.fst (Prod.snd x))) Tip.none, AV.bool (Prod.snd (Prod.snd x))] ∧
        H' =
        [AObj.cells [AV.sl 5 (Seq.map T.encTE T.noTE E) (Tip.tok 1), AV.sl 1 (Seq.map encI (0 : Int) L) (Tip.tok 2)], AObj.tok, AObj.tok,
        AObj.cells
        [AV.str { data := List.toArray (Prod.fst (List.getD c (Int.toNat i) T.noT)) },
        AV.sl 2 (Seq.map T.encS ((0 : Int), (0 : Int)) (Prod.fst (Prod.snd (List.getD c (Int.toNat i) T.noT)))) Tip.none,
        AV.bool (Prod.snd (Prod.snd (List.getD c (Int.toNat i) T.noT)))]] ∧
        AWP Try.prog 67 n_1 c81_9
        [(0, AV.ptr 0 0), (5, AV.int IntKind.i64 m), (7, AV.ptr 3 0), (8, AV.ptr 4 0),
        (9, AV.int IntKind.i64 (0 : Int)), (12, AV.sl 3 (Seq.map T.encT T.noT c) Tip.none), (13, AV.int IntKind.i64 n), (14, AV.int IntKind.i64 i)]
        [AObj.cells [AV.sl 5 (Seq.map T.encTE T.noTE E) (Tip.tok 1), AV.sl 1 (Seq.map encI (0 : Int) L) (Tip.tok 2)], AObj.tok, AObj.tok,
        AObj.cells
        [AV.str { data := List.toArray (Prod.fst (List.getD c (Int.toNat i) T.noT)) },
        AV.sl 2 (Seq.map T.encS ((0 : Int), (0 : Int)) (Prod.fst (Prod.snd (List.getD c (Int.toNat i) T.noT)))) Tip.none,
        AV.bool (Prod.snd (Prod.snd (List.getD c (Int.toNat i) T.noT)))],
        AObj.cells
        [AV.str { data := List.toArray (Prod.fst x) }, AV.sl 2 (Seq.map T.encS ((0 : Int), (0 : Int)) (Prod.fst (Prod.snd x))) Tip.none, AV.bool (Prod.snd (Prod.snd x))]]
        (q81_7 n_1 Post)))
      (Post (AV.int IntKind.i64 m) [AObj.cells [AV.sl 5 (Seq.map T.encTE T.noTE E) (Tip.tok 1), AV.sl 1 (Seq.map encI (0 : Int) L) (Tip.tok 2)], AObj.tok, AObj.tok]) →
    AWP Try.prog 67 n_1 c81_5
      [(0, AV.ptr 0 0), (5, AV.int IntKind.i64 m), (12, AV.sl 3 (Seq.map T.encT T.noT c) Tip.none), (13, AV.int IntKind.i64 n),
        (14, AV.int IntKind.i64 i)]
      (T.HT E L) (q81_2 n_1 Post) := fun E L c m n i n Post h => Go.Ab.AWP.loop' g81 (Cfg.live g81) c81_5 (by kernel_rfl) (by kernel_rfl) (Go.Ab.kc (by kernel_rfl) h)
theorem v81_9 : ∀ (E : List T.TE) (L : List Int) (c : List T.Term) (m n i j : Int) (x k : T.Term) (n_1 : Nat) (Post : AV → List AObj → Prop),
  condP (decide (j < (↑(List.length E) : Int)))
      (ASpec Try.prog 161
        [AV.agg [AV.str { data := List.toArray (Prod.fst k) }, AV.sl 2 (Seq.map T.encS ((0 : Int), (0 : Int)) (Prod.fst (Prod.snd k))) Tip.none, AV.bool (Prod.snd (Prod.snd k))],
        AV.agg [AV.str { data := List.toArray (Prod.fst x) }, AV.sl 2 (Seq.map T.encS ((0 : Int), (0 : Int)) (Prod.fst (Prod.snd x))) Tip.none, AV.bool (Prod.snd (Prod.snd x))]]
        [AObj.cells [AV.sl 5 (Seq.map T.encTE T.noTE E) (Tip.tok 1), AV.sl 1 (Seq.map encI (0 : Int) L) (Tip.tok 2)], AObj.tok, AObj.tok,
        AObj.cells [AV.str { data := List.toArray (Prod.fst x) }, AV.sl 2 (Seq.map T.encS ((0 : Int), (0 : Int)) (Prod.fst (Prod.snd x))) Tip.none, AV.bool (Prod.snd (Prod.snd x))],
        AObj.cells [AV.str { data := List.toArray (Prod.fst k) }, AV.sl 2 (Seq.map T.encS ((0 : Int), (0 : Int)) (Prod.fst (Prod.snd k))) Tip.none, AV.bool (Prod.snd (Prod.snd k))]]
        fun (r : AV) (H' : List AObj) =>
        ∃ (x_1 : Bool),
        r = AV.bool x_1 ∧
        H' =
        [AObj.cells [AV.sl 5 (Seq.map T.encTE T.noTE E) (Tip.tok 1), AV.sl 1 (Seq.map encI (0 : Int) L) (Tip.tok 2)], AObj.tok, AObj.tok,
        AObj.cells [AV.str { data := List.toArray (Prod.fst x) }, AV.sl 2 (Seq.map T.encS ((0 : Int), (0 : Int)) (Prod.fst (Prod.snd x))) Tip.none, AV.bool (Prod.snd (Prod.snd x))],
        AObj.cells
        [AV.str { data := List.toArray (Prod.fst k) }, AV.sl 2 (Seq.map T.encS ((0 : Int), (0 : Int)) (Prod.fst (Prod.snd k))) Tip.none, AV.bool (Prod.snd (Prod.snd k))]] ∧
        condP (!x_1)
        (needP ((0 : Int) ≤ j ∧ j < (↑(List.length E) : Int))
        (condP (ByteArray.toList { data := List.toArray (Prod.fst (Prod.fst (List.getD E (Int.toNat j) T.noTE))) } == ByteArray.toList { data := List.toArray (Prod.fst x) })
        (needP ((0 : Int) ≤ j ∧ j < (↑(List.length E) : Int))
        (ASpec Try.prog 160
        [AV.agg
        [AV.str { data := List.toArray (Prod.fst k) }, AV.sl 2 (Seq.map T.encS ((0 : Int), (0 : Int)) (Prod.fst (Prod.snd k))) Tip.none, AV.bool (Prod.snd (Prod.snd k))],
        AV.agg
        [AV.str { data := List.toArray (Prod.fst (Prod.fst (List.getD E (Int.toNat j) T.noTE))) },
        AV.sl 2 (Seq.map T.encS ((0 : Int), (0 : Int)) (Prod.fst (Prod.snd (Prod.fst (List.getD E (Int.toNat j) T.noTE))))) Tip.none,
        AV.bool (Prod.snd (Prod.snd (Prod.fst (List.getD E (Int.toNat j) T.noTE))))]]
        [AObj.cells [AV.sl 5 (Seq.map T.encTE T.noTE E) (Tip.tok 1), AV.sl 1 (Seq.map encI (0 : Int) L) (Tip.tok 2)], AObj.tok, AObj.tok,
        AObj.cells
        [AV.str { data := List.toArray (Prod.fst x) }, AV.sl 2 (Seq.map T.encS ((0 : Int), (0 : Int)) (Prod.fst (Prod.snd x))) Tip.none, AV.bool (Prod.snd (Prod.snd x))],
        AObj.cells
        [AV.str { data := List.toArray (Prod.fst k) }, AV.sl 2 (Seq.map T.encS ((0 : Int), (0 : Int)) (Prod.fst (Prod.snd k))) Tip.none, AV.bool (Prod.snd (Prod.snd k))]]
        fun (r : AV) (H' : List AObj) =>
        ∃ (x_2 : List UInt8 × List T.Span × Bool),
        r =
        AV.agg
        [AV.str { data := List.toArray (Prod.fst x_2) }, AV.sl 2 (Seq.map T.encS ((0 : Int), (0 : Int)) (Prod.fst (Prod.snd x_2))) Tip.none,
        AV.bool (Prod.snd (Prod.snd x_2))] ∧
        H' =
        [AObj.cells [AV.sl 5 (Seq.map T.encTE T.noTE E) (Tip.tok 1), AV.sl 1 (Seq.map encI (0 : Int) L) (Tip.tok 2)], AObj.tok, AObj.tok,
        AObj.cells
        [AV.str { data := List.toArray (Prod.fst x) }, AV.sl 2 (Seq.map T.encS ((0 : Int), (0 : Int)) (Prod.fst (Prod.snd x))) Tip.none,
        AV.bool (Prod.snd (Prod.snd x))],
        AObj.cells
        [AV.str { data := List.toArray (Prod.fst k) }, AV.sl 2 (Seq.map T.encS ((0 : Int), (0 : Int)) (Prod.fst (Prod.snd k))) Tip.none,
        AV.bool (Prod.snd (Prod.snd k))]] ∧
        AWP Try.prog 67 n_1 c81_9
        [(0, AV.ptr 0 0), (5, AV.int IntKind.i64 m), (7, AV.ptr 3 0), (8, AV.ptr 4 0),
        (9, AV.int IntKind.i64 (IntKind.wrap IntKind.i64 (j + (1 : Int)))), (12, AV.sl 3 (Seq.map T.encT T.noT c) Tip.none),
        (13, AV.int IntKind.i64 n), (14, AV.int IntKind.i64 i)]
        [AObj.cells [AV.sl 5 (Seq.map T.encTE T.noTE E) (Tip.tok 1), AV.sl 1 (Seq.map encI (0 : Int) L) (Tip.tok 2)], AObj.tok, AObj.tok,
        AObj.cells
        [AV.str { data := List.toArray (Prod.fst x) }, AV.sl 2 (Seq.map T.encS ((0 : Int), (0 : Int)) (Prod.fst (Prod.snd x))) Tip.none,
        AV.bool (Prod.snd (Prod.snd x))],
        AObj.cells
        [AV.str { data := List.toArray (Prod.fst x_2) }, AV.sl 2 (Seq.map T.encS ((0 : Int), (0 : Int)) (Prod.fst (Prod.snd x_2))) Tip.none,
        AV.bool (Prod.snd (Prod.snd x_2))]]
        (q81_7 n_1 Post)))
        (AWP Try.prog 67 n_1 c81_9
        [(0, AV.ptr 0 0), (5, AV.int IntKind.i64 m), (7, AV.ptr 3 0), (8, AV.ptr 4 0),
        (9, AV.int IntKind.i64 (IntKind.wrap IntKind.i64 (j + (1 : Int)))), (12, AV.sl 3 (Seq.map T.encT T.noT c) Tip.none), (13, AV.int IntKind.i64 n),
        (14, AV.int IntKind.i64 i)]
        [AObj.cells [AV.sl 5 (Seq.map T.encTE T.noTE E) (Tip.tok 1), AV.sl 1 (Seq.map encI (0 : Int) L) (Tip.tok 2)], AObj.tok, AObj.tok,
        AObj.cells
        [AV.str { data := List.toArray (Prod.fst x) }, AV.sl 2 (Seq.map T.encS ((0 : Int), (0 : Int)) (Prod.fst (Prod.snd x))) Tip.none, AV.bool (Prod.snd (Prod.snd x))],
        AObj.cells
        [AV.str { data := List.toArray (Prod.fst k) }, AV.sl 2 (Seq.map T.encS ((0 : Int), (0 : Int)) (Prod.fst (Prod.snd k))) Tip.none, AV.bool (Prod.snd (Prod.snd k))]]
        (q81_7 n_1 Post))))
        (ASpec Try.prog 161
        [AV.agg [AV.str { data := List.toArray (Prod.fst k) }, AV.sl 2 (Seq.map T.encS ((0 : Int), (0 : Int)) (Prod.fst (Prod.snd k))) Tip.none, AV.bool (Prod.snd (Prod.snd k))],
        AV.agg [AV.str { data := List.toArray (Prod.fst x) }, AV.sl 2 (Seq.map T.encS ((0 : Int), (0 : Int)) (Prod.fst (Prod.snd x))) Tip.none, AV.bool (Prod.snd (Prod.snd x))]]
        [AObj.cells [AV.sl 5 (Seq.map T.encTE T.noTE E) (Tip.tok 1), AV.sl 1 (Seq.map encI (0 : Int) L) (Tip.tok 2)], AObj.tok, AObj.tok,
        AObj.cells
        [AV.str { data := List.toArray (Prod.fst x) }, AV.sl 2 (Seq.map T.encS ((0 : Int), (0 : Int)) (Prod.fst (Prod.snd x))) Tip.none, AV.bool (Prod.snd (Prod.snd x))],
        AObj.cells
        [AV.str { data := List.toArray (Prod.fst k) }, AV.sl 2 (Seq.map T.encS ((0 : Int), (0 : Int)) (Prod.fst (Prod.snd k))) Tip.none, AV.bool (Prod.snd (Prod.snd k))]]
        fun (r : AV) (H' : List AObj) =>
        ∃ (x_2 : Bool),
        r = AV.bool x_2 ∧
        H' =
        [AObj.cells [AV.sl 5 (Seq.map T.encTE T.noTE E) (Tip.tok 1), AV.sl 1 (Seq.map encI (0 : Int) L) (Tip.tok 2)], AObj.tok, AObj.tok,
        AObj.cells
        [AV.str { data := List.toArray (Prod.fst x) }, AV.sl 2 (Seq.map T.encS ((0 : Int), (0 : Int)) (Prod.fst (Prod.snd x))) Tip.none, AV.bool (Prod.snd (Prod.snd x))],
        AObj.cells
        [AV.str { data := List.toArray (Prod.fst k) }, AV.sl 2 (Seq.map T.encS ((0 : Int), (0 : Int)) (Prod.fst (Prod.snd k))) Tip.none,
        AV.bool (Prod.snd (Prod.snd k))]] ∧
        condP (!x_2)
        (Post (AV.int IntKind.i64 (-1 : Int))
        [AObj.cells [AV.sl 5 (Seq.map T.encTE T.noTE E) (Tip.tok 1), AV.sl 1 (Seq.map encI (0 : Int) L) (Tip.tok 2)], AObj.tok, AObj.tok,
        AObj.cells
        [AV.str { data := List.toArray (Prod.fst x) }, AV.sl 2 (Seq.map T.encS ((0 : Int), (0 : Int)) (Prod.fst (Prod.snd x))) Tip.none,
        AV.bool (Prod.snd (Prod.snd x))],
        AObj.cells
        [AV.str { data := List.toArray (Prod.fst k) }, AV.sl 2 (Seq.map T.encS ((0 : Int), (0 : Int)) (Prod.fst (Prod.snd k))) Tip.none,
        AV.bool (Prod.snd (Prod.snd k))]])
        (AWP Try.prog 67 n_1 c81_5
        [(0, AV.ptr 0 0), (5, AV.int IntKind.i64 (if j > m then j else m)), (12, AV.sl 3 (Seq.map T.encT T.noT c) Tip.none),
        (13, AV.int IntKind.i64 n), (14, AV.int IntKind.i64 (IntKind.wrap IntKind.i64 (i + (1 : Int))))]
        [AObj.cells [AV.sl 5 (Seq.map T.encTE T.noTE E) (Tip.tok 1), AV.sl 1 (Seq.map encI (0 : Int) L) (Tip.tok 2)], AObj.tok, AObj.tok,
        AObj.cells
        [AV.str { data := List.toArray (Prod.fst x) }, AV.sl 2 (Seq.map T.encS ((0 : Int), (0 : Int)) (Prod.fst (Prod.snd x))) Tip.none,
        AV.bool (Prod.snd (Prod.snd x))],
        AObj.cells
        [AV.str { data := List.toArray (Prod.fst k) }, AV.sl 2 (Seq.map T.encS ((0 : Int), (0 : Int)) (Prod.fst (Prod.snd k))) Tip.none,
        AV.bool (Prod.snd (Prod.snd k))]]
        (q81_2 n_1 Post))))
      (ASpec Try.prog 161
        [AV.agg [AV.str { data := List.toArray (Prod.fst k) }, AV.sl 2 (Seq.map T.encS ((0 : Int), (0 : Int)) (Prod.fst (Prod.snd k))) Tip.none, AV.bool (Prod.snd (Prod.snd k))],
        AV.agg [AV.str { data := List.toArray (Prod.fst x) }, AV.sl 2 (Seq.map T.encS ((0 : Int), (0 : Int)) (Prod.fst (Prod.snd x))) Tip.none, AV.bool (Prod.snd (Prod.snd x))]]
        [AObj.cells [AV.sl 5 (Seq.map T.encTE T.noTE E) (Tip.tok 1), AV.sl 1 (Seq.map encI (0 : Int) L) (Tip.tok 2)], AObj.tok, AObj.tok,
        AObj.cells [AV.str { data := List.toArray (Prod.fst x) }, AV.sl 2 (Seq.map T.encS ((0 : Int), (0 : Int)) (Prod.fst (Prod.snd x))) Tip.none, AV.bool (Prod.snd (Prod.snd x))],
        AObj.cells [AV.str { data := List.toArray (Prod.fst k) }, AV.sl 2 (Seq.map T.encS ((0 : Int), (0 : Int)) (Prod.fst (Prod.snd k))) Tip.none, AV.bool (Prod.snd (Prod.snd k))]]
        fun (r : AV) (H' : List AObj) =>
        ∃ (x_1 : Bool),
        r = AV.bool x_1 ∧
        H' =
        [AObj.cells [AV.sl 5 (Seq.map T.encTE T.noTE E) (Tip.tok 1), AV.sl 1 (Seq.map encI (0 : Int) L) (Tip.tok 2)], AObj.tok, AObj.tok,
        AObj.cells [AV.str { data := List.toArray (Prod.fst x) }, AV.sl 2 (Seq.map T.encS ((0 : Int), (0 : Int)) (Prod.fst (Prod.snd x))) Tip.none, AV.bool (Prod.snd (Prod.snd x))],
        AObj.cells
        [AV.str { data := List.toArray (Prod.fst k) }, AV.sl 2 (Seq.map T.encS ((0 : Int), (0 : Int)) (Prod.fst (Prod.snd k))) Tip.none, AV.bool (Prod.snd (Prod.snd k))]] ∧
        condP (!x_1)
        (Post (AV.int IntKind.i64 (-1 : Int))
        [AObj.cells [AV.sl 5 (Seq.map T.encTE T.noTE E) (Tip.tok 1), AV.sl 1 (Seq.map encI (0 : Int) L) (Tip.tok 2)], AObj.tok, AObj.tok,
        AObj.cells
        [AV.str { data := List.toArray (Prod.fst x) }, AV.sl 2 (Seq.map T.encS ((0 : Int), (0 : Int)) (Prod.fst (Prod.snd x))) Tip.none, AV.bool (Prod.snd (Prod.snd x))],
        AObj.cells
        [AV.str { data := List.toArray (Prod.fst k) }, AV.sl 2 (Seq.map T.encS ((0 : Int), (0 : Int)) (Prod.fst (Prod.snd k))) Tip.none, AV.bool (Prod.snd (Prod.snd k))]])
        (AWP Try.prog 67 n_1 c81_5
        [(0, AV.ptr 0 0), (5, AV.int IntKind.i64 (if j > m then j else m)), (12, AV.sl 3 (Seq.map T.encT T.noT c) Tip.none),
        (13, AV.int IntKind.i64 n), (14, AV.int IntKind.i64 (IntKind.wrap IntKind.i64 (i + (1 : Int))))]
        [AObj.cells [AV.sl 5 (Seq.map T.encTE T.noTE E) (Tip.tok 1), AV.sl 1 (Seq.map encI (0 : Int) L) (Tip.tok 2)], AObj.tok, AObj.tok,
        AObj.cells
        [AV.str { data := List.toArray (Prod.fst x) }, AV.sl 2 (Seq.map T.encS ((0 : Int), (0 : Int)) (Prod.fst (Prod.snd x))) Tip.none, AV.bool (Prod.snd (Prod.snd x))],
        AObj.cells
        [AV.str { data := List.toArray (Prod.fst k) }, AV.sl 2 (Seq.map T.encS ((0 : Int), (0 : Int)) (Prod.fst (Prod.snd k))) Tip.none, AV.bool (Prod.snd (Prod.snd k))]]
        (q81_2 n_1 Post))) →
    AWP Try.prog 67 n_1 c81_9
      [(0, AV.ptr 0 0), (5, AV.int IntKind.i64 m), (7, AV.ptr 3 0), (8, AV.ptr 4 0), (9, AV.int IntKind.i64 j),
        (12, AV.sl 3 (Seq.map T.encT T.noT c) Tip.none), (13, AV.int IntKind.i64 n), (14, AV.int IntKind.i64 i)]
      (T.HT E L ++ [AObj.cells (T.encT x), AObj.cells (T.encT k)]) (q81_7 n_1 Post) := fun E L c m n i j x k n Post h => Go.Ab.AWP.loop' g81 (Cfg.live g81) c81_9 (by kernel_rfl) (by kernel_rfl) (Go.Ab.kc (by kernel_rfl) h)

end
end Tf
end

section
/- Printed: what the code of functions 27, 4 asks for, by the framework's own reading of it; each line is checked against the code. -/

set_option linter.unusedVariables false
set_option maxRecDepth 100000
set_option maxHeartbeats 4000000
open Go Go.Ab Go.Proofs
namespace Tm4
noncomputable section

noncomputable def rets : FuncId → List Ret := Tl.rets

-- 27
noncomputable def l27 : Nat → List Nat
  | _ => []
noncomputable def u27 : Nat → Bool
  | _ => false
noncomputable def m27 : Nat → Bool
  | _ => false
noncomputable def g27 : Cfg := { N := 48, live := l27, cut := u27, mu := m27, ret := rets }
theorem s27 : ∀ (Post : AV → List AObj → Prop),
  (ASpec Try.prog 28 [] [] fun (r : AV) (H' : List AObj) =>
      ∃ (x : Unit),
        r = AV.ptr 0 0 ∧
        H' = [AObj.cells [AV.sl 5 (Seq.map T.encTE T.noTE []) (Tip.tok 1), AV.sl 1 (Seq.map encI (0 : Int) []) (Tip.tok 2)], AObj.tok, AObj.tok] ∧
        ASpec Try.prog 32
        [AV.ptr 0 0,
        AV.agg [AV.str { data := #[(97 : UInt8)] }, AV.sl 2 (Seq.raw [[AV.int IntKind.i64 (0 : Int), AV.int IntKind.i64 (1000000000 : Int)]]) Tip.full, AV.bool false],
        AV.int IntKind.i64 (4 : Int)]
        [AObj.cells [AV.sl 5 (Seq.map T.encTE T.noTE []) (Tip.tok 1), AV.sl 1 (Seq.map encI (0 : Int) []) (Tip.tok 2)], AObj.tok, AObj.tok,
        AObj.cells [AV.str { data := #[(97 : UInt8)] }, AV.sl 2 (Seq.raw [[AV.int IntKind.i64 (0 : Int), AV.int IntKind.i64 (1000000000 : Int)]]) Tip.full, AV.bool false]]
        fun (r : AV) (H' : List AObj) =>
        ∃ (x : Int × List T.TE × List Int),
        r = AV.int IntKind.i64 (Prod.fst x) ∧
        H' =
        [AObj.cells
        [AV.sl 5 (Seq.map T.encTE T.noTE (Prod.fst (Prod.snd x))) (Tip.tok 4), AV.sl 1 (Seq.map encI (0 : Int) (Prod.snd (Prod.snd x))) (Tip.tok 5)],
        AObj.gone, AObj.gone,
        AObj.cells [AV.str { data := #[(97 : UInt8)] }, AV.sl 2 (Seq.raw [[AV.int IntKind.i64 (0 : Int), AV.int IntKind.i64 (1000000000 : Int)]]) Tip.full, AV.bool false],
        AObj.tok, AObj.tok] ∧
        ASpec Try.prog 31 [AV.ptr 0 0, AV.str { data := #[(97 : UInt8)] }, AV.int IntKind.i64 (1000000 : Int)]
        [AObj.cells
        [AV.sl 5 (Seq.map T.encTE T.noTE (Prod.fst (Prod.snd x))) (Tip.tok 4), AV.sl 1 (Seq.map encI (0 : Int) (Prod.snd (Prod.snd x))) (Tip.tok 5)],
        AObj.gone, AObj.gone,
        AObj.cells [AV.str { data := #[(97 : UInt8)] }, AV.sl 2 (Seq.raw [[AV.int IntKind.i64 (0 : Int), AV.int IntKind.i64 (1000000000 : Int)]]) Tip.full, AV.bool false],
        AObj.tok, AObj.tok]
        fun (r : AV) (H' : List AObj) =>
        ∃ (x_1 : Int × List T.TE × List Int),
        r = AV.int IntKind.i64 (Prod.fst x_1) ∧
        H' =
        [AObj.cells
        [AV.sl 5 (Seq.map T.encTE T.noTE (Prod.fst (Prod.snd x_1))) (Tip.tok 6),
        AV.sl 1 (Seq.map encI (0 : Int) (Prod.snd (Prod.snd x_1))) (Tip.tok 7)],
        AObj.gone, AObj.gone,
        AObj.cells
        [AV.str { data := #[(97 : UInt8)] }, AV.sl 2 (Seq.raw [[AV.int IntKind.i64 (0 : Int), AV.int IntKind.i64 (1000000000 : Int)]]) Tip.full, AV.bool false],
        AObj.gone, AObj.gone, AObj.tok, AObj.tok] ∧
        ASpec Try.prog 80 [AV.ptr 0 0]
        [AObj.cells
        [AV.sl 5 (Seq.map T.encTE T.noTE (Prod.fst (Prod.snd x_1))) (Tip.tok 6),
        AV.sl 1 (Seq.map encI (0 : Int) (Prod.snd (Prod.snd x_1))) (Tip.tok 7)],
        AObj.gone, AObj.gone,
        AObj.cells
        [AV.str { data := #[(97 : UInt8)] }, AV.sl 2 (Seq.raw [[AV.int IntKind.i64 (0 : Int), AV.int IntKind.i64 (1000000000 : Int)]]) Tip.full, AV.bool false],
        AObj.gone, AObj.gone, AObj.tok, AObj.tok]
        fun (r : AV) (H' : List AObj) =>
        ∃ (x_2 : Int),
        r = AV.int IntKind.i64 x_2 ∧
        H' =
        [AObj.cells
        [AV.sl 5 (Seq.map T.encTE T.noTE (Prod.fst (Prod.snd x_1))) (Tip.tok 6),
        AV.sl 1 (Seq.map encI (0 : Int) (Prod.snd (Prod.snd x_1))) (Tip.tok 7)],
        AObj.gone, AObj.gone,
        AObj.cells
        [AV.str { data := #[(97 : UInt8)] }, AV.sl 2 (Seq.raw [[AV.int IntKind.i64 (0 : Int), AV.int IntKind.i64 (1000000000 : Int)]]) Tip.full,
        AV.bool false],
        AObj.gone, AObj.gone, AObj.tok, AObj.tok] ∧
        ASpec Try.prog 30 [AV.ptr 0 0]
        [AObj.cells
        [AV.sl 5 (Seq.map T.encTE T.noTE (Prod.fst (Prod.snd x_1))) (Tip.tok 6),
        AV.sl 1 (Seq.map encI (0 : Int) (Prod.snd (Prod.snd x_1))) (Tip.tok 7)],
        AObj.gone, AObj.gone,
        AObj.cells
        [AV.str { data := #[(97 : UInt8)] }, AV.sl 2 (Seq.raw [[AV.int IntKind.i64 (0 : Int), AV.int IntKind.i64 (1000000000 : Int)]]) Tip.full,
        AV.bool false],
        AObj.gone, AObj.gone, AObj.tok, AObj.tok]
        fun (r : AV) (H' : List AObj) =>
        ∃ (x_3 : Int),
        r = AV.int IntKind.i64 x_3 ∧
        H' =
        [AObj.cells
        [AV.sl 5 (Seq.map T.encTE T.noTE (Prod.fst (Prod.snd x_1))) (Tip.tok 6),
        AV.sl 1 (Seq.map encI (0 : Int) (Prod.snd (Prod.snd x_1))) (Tip.tok 7)],
        AObj.gone, AObj.gone,
        AObj.cells
        [AV.str { data := #[(97 : UInt8)] }, AV.sl 2 (Seq.raw [[AV.int IntKind.i64 (0 : Int), AV.int IntKind.i64 (1000000000 : Int)]]) Tip.full,
        AV.bool false],
        AObj.gone, AObj.gone, AObj.tok, AObj.tok] ∧
        ASpec Try.prog 35 [AV.ptr 0 0, AV.int IntKind.i64 (0 : Int)]
        [AObj.cells
        [AV.sl 5 (Seq.map T.encTE T.noTE (Prod.fst (Prod.snd x_1))) (Tip.tok 6),
        AV.sl 1 (Seq.map encI (0 : Int) (Prod.snd (Prod.snd x_1))) (Tip.tok 7)],
        AObj.gone, AObj.gone,
        AObj.cells
        [AV.str { data := #[(97 : UInt8)] }, AV.sl 2 (Seq.raw [[AV.int IntKind.i64 (0 : Int), AV.int IntKind.i64 (1000000000 : Int)]]) Tip.full,
        AV.bool false],
        AObj.gone, AObj.gone, AObj.tok, AObj.tok]
        fun (r : AV) (H' : List AObj) =>
        ∃ (x_4 : List T.TE × List Int),
        r = AV.tup [] ∧
        H' =
        [AObj.cells
        [AV.sl 5 (Seq.map T.encTE T.noTE (Prod.fst x_4)) (Tip.tok 8),
        AV.sl 1 (Seq.map encI (0 : Int) (Prod.snd x_4)) (Tip.tok 9)],
        AObj.gone, AObj.gone,
        AObj.cells
        [AV.str { data := #[(97 : UInt8)] },
        AV.sl 2 (Seq.raw [[AV.int IntKind.i64 (0 : Int), AV.int IntKind.i64 (1000000000 : Int)]]) Tip.full, AV.bool false],
        AObj.gone, AObj.gone, AObj.gone, AObj.gone, AObj.tok, AObj.tok] ∧
        condP (Prod.fst x == (0 : Int))
        (condP (Prod.fst x_1 == (0 : Int))
        (condP (x_2 == (2 : Int))
        (condP (x_3 == (1 : Int))
        (ASpec Try.prog 80 [AV.ptr 0 0]
        [AObj.cells
        [AV.sl 5 (Seq.map T.encTE T.noTE (Prod.fst x_4)) (Tip.tok 8),
        AV.sl 1 (Seq.map encI (0 : Int) (Prod.snd x_4)) (Tip.tok 9)],
        AObj.gone, AObj.gone,
        AObj.cells
        [AV.str { data := #[(97 : UInt8)] },
        AV.sl 2 (Seq.raw [[AV.int IntKind.i64 (0 : Int), AV.int IntKind.i64 (1000000000 : Int)]]) Tip.full, AV.bool false],
        AObj.gone, AObj.gone, AObj.gone, AObj.gone, AObj.tok, AObj.tok]
        fun (r : AV) (H' : List AObj) =>
        ∃ (x : Int),
        r = AV.int IntKind.i64 x ∧
        H' =
        [AObj.cells
        [AV.sl 5 (Seq.map T.encTE T.noTE (Prod.fst x_4)) (Tip.tok 8),
        AV.sl 1 (Seq.map encI (0 : Int) (Prod.snd x_4)) (Tip.tok 9)],
        AObj.gone, AObj.gone,
        AObj.cells
        [AV.str { data := #[(97 : UInt8)] },
        AV.sl 2 (Seq.raw [[AV.int IntKind.i64 (0 : Int), AV.int IntKind.i64 (1000000000 : Int)]]) Tip.full, AV.bool false],
        AObj.gone, AObj.gone, AObj.gone, AObj.gone, AObj.tok, AObj.tok] ∧
        condP (x == (1 : Int))
        (ASpec Try.prog 81
        [AV.ptr 0 0,
        AV.sl 3
        (Seq.raw
        [[AV.str { data := #[(97 : UInt8)] },
        AV.sl 2 (Seq.raw [[AV.int IntKind.i64 (0 : Int), AV.int IntKind.i64 (1000000000 : Int)]]) Tip.full,
        AV.bool false]])
        Tip.full]
        [AObj.cells
        [AV.sl 5 (Seq.map T.encTE T.noTE (Prod.fst x_4)) (Tip.tok 8),
        AV.sl 1 (Seq.map encI (0 : Int) (Prod.snd x_4)) (Tip.tok 9)],
        AObj.gone, AObj.gone,
        AObj.cells
        [AV.str { data := #[(97 : UInt8)] },
        AV.sl 2 (Seq.raw [[AV.int IntKind.i64 (0 : Int), AV.int IntKind.i64 (1000000000 : Int)]]) Tip.full,
        AV.bool false],
        AObj.gone, AObj.gone, AObj.gone, AObj.gone, AObj.tok, AObj.tok]
        fun (r : AV) (H' : List AObj) =>
        ∃ (x : Int),
        r = AV.int IntKind.i64 x ∧
        H' =
        [AObj.cells
        [AV.sl 5 (Seq.map T.encTE T.noTE (Prod.fst x_4)) (Tip.tok 8),
        AV.sl 1 (Seq.map encI (0 : Int) (Prod.snd x_4)) (Tip.tok 9)],
        AObj.gone, AObj.gone,
        AObj.cells
        [AV.str { data := #[(97 : UInt8)] },
        AV.sl 2 (Seq.raw [[AV.int IntKind.i64 (0 : Int), AV.int IntKind.i64 (1000000000 : Int)]]) Tip.full,
        AV.bool false],
        AObj.gone, AObj.gone, AObj.gone, AObj.gone, AObj.tok, AObj.tok] ∧
        Post (AV.bool (x == (1 : Int)))
        [AObj.cells
        [AV.sl 5 (Seq.map T.encTE T.noTE (Prod.fst x_4)) (Tip.tok 8),
        AV.sl 1 (Seq.map encI (0 : Int) (Prod.snd x_4)) (Tip.tok 9)],
        AObj.gone, AObj.gone,
        AObj.cells
        [AV.str { data := #[(97 : UInt8)] },
        AV.sl 2 (Seq.raw [[AV.int IntKind.i64 (0 : Int), AV.int IntKind.i64 (1000000000 : Int)]]) Tip.full,
        AV.bool false],
        AObj.gone, AObj.gone, AObj.gone, AObj.gone, AObj.tok, AObj.tok])
        (Post (AV.bool false)
        [AObj.cells
        [AV.sl 5 (Seq.map T.encTE T.noTE (Prod.fst x_4)) (Tip.tok 8),
        AV.sl 1 (Seq.map encI (0 : Int) (Prod.snd x_4)) (Tip.tok 9)],
        AObj.gone, AObj.gone,
        AObj.cells
        [AV.str { data := #[(97 : UInt8)] },
        AV.sl 2 (Seq.raw [[AV.int IntKind.i64 (0 : Int), AV.int IntKind.i64 (1000000000 : Int)]]) Tip.full,
        AV.bool false],
        AObj.gone, AObj.gone, AObj.gone, AObj.gone, AObj.tok, AObj.tok]))
        (Post (AV.bool false)
        [AObj.cells
        [AV.sl 5 (Seq.map T.encTE T.noTE (Prod.fst x_4)) (Tip.tok 8),
        AV.sl 1 (Seq.map encI (0 : Int) (Prod.snd x_4)) (Tip.tok 9)],
        AObj.gone, AObj.gone,
        AObj.cells
        [AV.str { data := #[(97 : UInt8)] },
        AV.sl 2 (Seq.raw [[AV.int IntKind.i64 (0 : Int), AV.int IntKind.i64 (1000000000 : Int)]]) Tip.full, AV.bool false],
        AObj.gone, AObj.gone, AObj.gone, AObj.gone, AObj.tok, AObj.tok]))
        (Post (AV.bool false)
        [AObj.cells
        [AV.sl 5 (Seq.map T.encTE T.noTE (Prod.fst x_4)) (Tip.tok 8),
        AV.sl 1 (Seq.map encI (0 : Int) (Prod.snd x_4)) (Tip.tok 9)],
        AObj.gone, AObj.gone,
        AObj.cells
        [AV.str { data := #[(97 : UInt8)] },
        AV.sl 2 (Seq.raw [[AV.int IntKind.i64 (0 : Int), AV.int IntKind.i64 (1000000000 : Int)]]) Tip.full, AV.bool false],
        AObj.gone, AObj.gone, AObj.gone, AObj.gone, AObj.tok, AObj.tok]))
        (Post (AV.bool false)
        [AObj.cells
        [AV.sl 5 (Seq.map T.encTE T.noTE (Prod.fst x_4)) (Tip.tok 8),
        AV.sl 1 (Seq.map encI (0 : Int) (Prod.snd x_4)) (Tip.tok 9)],
        AObj.gone, AObj.gone,
        AObj.cells
        [AV.str { data := #[(97 : UInt8)] },
        AV.sl 2 (Seq.raw [[AV.int IntKind.i64 (0 : Int), AV.int IntKind.i64 (1000000000 : Int)]]) Tip.full, AV.bool false],
        AObj.gone, AObj.gone, AObj.gone, AObj.gone, AObj.tok, AObj.tok]))
        (Post (AV.bool false)
        [AObj.cells
        [AV.sl 5 (Seq.map T.encTE T.noTE (Prod.fst x_4)) (Tip.tok 8),
        AV.sl 1 (Seq.map encI (0 : Int) (Prod.snd x_4)) (Tip.tok 9)],
        AObj.gone, AObj.gone,
        AObj.cells
        [AV.str { data := #[(97 : UInt8)] },
        AV.sl 2 (Seq.raw [[AV.int IntKind.i64 (0 : Int), AV.int IntKind.i64 (1000000000 : Int)]]) Tip.full, AV.bool false],
        AObj.gone, AObj.gone, AObj.gone, AObj.gone, AObj.tok, AObj.tok])) →
    ASpec Try.prog 27 [] [] Post := fun Post h => Go.Ab.ASpec.of_vc g27 Go.Proofs.Try.func27 (by kernel_rfl) (by kernel_rfl) (by kernel_rfl) (Go.Ab.kc (by kernel_rfl) h)

-- 4
noncomputable def l4 : Nat → List Nat
  | 6 => [0, 1, 2, 7, 8, 9]
  | 10 => [0, 1, 2, 7, 8, 9, 10]
  | 16 => [0, 1, 2, 7, 8, 9, 10, 11]
  | 22 => [1, 2, 7, 8]
  | 25 => [1, 2, 7, 8]
  | _ => []
noncomputable def u4 : Nat → Bool
  | 10 => true
  | 16 => true
  | 22 => true
  | 25 => true
  | _ => false
noncomputable def m4 : Nat → Bool
  | 25 => true
  | _ => false
noncomputable def g4 : Cfg := { N := 152, live := l4, cut := u4, mu := m4, ret := rets }
noncomputable def c4 : Go.Code := Go.Ab.bodyOf Go.Proofs.Try.f4
noncomputable def q4_0 : Nat → (AV → List AObj → Prop) → AQ := fun (n : Nat) (Post : AV → List AObj → Prop) => endQ Try.prog (resultsOf Try.f4) Post
noncomputable def c4_22 : Go.Code := codeSnd (codeSnd (codeSnd (codeSnd (codeSnd c4))))
noncomputable def q4_1 : Nat → (AV → List AObj → Prop) → AQ := fun (n : Nat) (Post : AV → List AObj → Prop) => seqQ (fun (s' : Slots) (H' : List AObj) => AWP Try.prog (Cfg.N g4) n c4_22 (restrict s' (Cfg.live g4 22)) H' (q4_0 n Post)) (q4_0 n Post)
noncomputable def q4_2 : Nat → (AV → List AObj → Prop) → AQ := fun (n : Nat) (Post : AV → List AObj → Prop) => blockQ 0 (q4_1 n Post)
noncomputable def c4_6 : Go.Code := codeFst (codeSnd (codeFst (codeSnd (codeSnd (codeSnd (codeSnd c4))))))
theorem s4 : ∀ (m : List T.Dt) (lv : Int) (s : ByteArray) (Post : AV → List AObj → Prop),
  (ASpec Try.prog 26 [AV.sl 6 (Seq.map T.encDt T.noDt m) Tip.none] [] fun (r : AV) (H' : List AObj) =>
      ∃ (x : Bool),
        r = AV.bool x ∧
        H' = [] ∧
        condP x (ASpec Try.prog 27 [] [] fun (r : AV) (H' : List AObj) => ∃ (x : Unit), r = AV.bool true ∧ H' = [] ∧ Post (AV.bool true) [])
        (condP (decide ((↑(ByteArray.size s) : Int) > (200 : Int)))
        (ASpec Try.prog 27 [] [] fun (r : AV) (H' : List AObj) => ∃ (x : Unit), r = AV.bool true ∧ H' = [] ∧ Post (AV.bool true) [])
        (ASpec Try.prog 28 [] [] fun (r : AV) (H' : List AObj) =>
        ∃ (x : Unit),
        r = AV.ptr 0 0 ∧
        H' = [AObj.cells [AV.sl 5 (Seq.map T.encTE T.noTE []) (Tip.tok 1), AV.sl 1 (Seq.map encI (0 : Int) []) (Tip.tok 2)], AObj.tok, AObj.tok] ∧
        ASpec Try.prog 29 [AV.ptr 0 0, AV.str s]
        [AObj.cells [AV.sl 5 (Seq.map T.encTE T.noTE []) (Tip.tok 1), AV.sl 1 (Seq.map encI (0 : Int) []) (Tip.tok 2)], AObj.tok, AObj.tok]
        fun (r : AV) (H' : List AObj) =>
        ∃ (x : List UInt8 × List T.Span × Bool),
        r =
        AV.agg
        [AV.str { data := List.toArray (Prod.fst x) }, AV.sl 2 (Seq.map T.encS ((0 : Int), (0 : Int)) (Prod.fst (Prod.snd x))) Tip.none,
        AV.bool (Prod.snd (Prod.snd x))] ∧
        H' = [AObj.cells [AV.sl 5 (Seq.map T.encTE T.noTE []) (Tip.tok 1), AV.sl 1 (Seq.map encI (0 : Int) []) (Tip.tok 2)], AObj.tok, AObj.tok] ∧
        AWP Try.prog 152 0 c4_6
        [(0, AV.sl 6 (Seq.map T.encDt T.noDt m) Tip.none), (1, AV.int IntKind.i64 lv), (2, AV.str s), (7, AV.ptr 0 0),
        (8, AV.msl 3 3 0 1), (9, AV.int IntKind.i64 (0 : Int))]
        [AObj.cells [AV.sl 5 (Seq.map T.encTE T.noTE []) (Tip.tok 1), AV.sl 1 (Seq.map encI (0 : Int) []) (Tip.tok 2)], AObj.tok, AObj.tok,
        AObj.arr 3
        (Seq.raw
        [[AV.str { data := List.toArray (Prod.fst x) }, AV.sl 2 (Seq.map T.encS ((0 : Int), (0 : Int)) (Prod.fst (Prod.snd x))) Tip.none,
        AV.bool (Prod.snd (Prod.snd x))]])]
        (q4_2 0 Post)))) →
    ASpec Try.prog 4 [AV.sl 6 (Seq.map T.encDt T.noDt m) Tip.none, AV.int IntKind.i64 lv, AV.str s] [] Post := fun m lv s Post h => Go.Ab.ASpec.of_vc g4 Go.Proofs.Try.func4 (by kernel_rfl) (by kernel_rfl) (by kernel_rfl) (Go.Ab.kc (by kernel_rfl) h)
noncomputable def q4_3 : Nat → (AV → List AObj → Prop) → AQ := fun (n : Nat) (Post : AV → List AObj → Prop) => loopQ Try.prog 152 n c4_6 (q4_2 n Post) (Cfg.live g4)
noncomputable def q4_4 : Nat → (AV → List AObj → Prop) → AQ := fun (n : Nat) (Post : AV → List AObj → Prop) => seqQ (fun (s' : Slots) (H' : List AObj) => awp Try.prog g4 n (codeSnd (codeSnd (codeFst c4_6))) s' H' (q4_3 n Post)) (q4_3 n Post)
noncomputable def q4_5 : Nat → (AV → List AObj → Prop) → AQ := fun (n : Nat) (Post : AV → List AObj → Prop) => blockQ 1 (q4_4 n Post)
noncomputable def c4_10 : Go.Code := codeSnd (codeSnd (codeFst (codeFst (codeSnd (codeFst c4_6)))))
theorem v4_6 : ∀ (m : List T.Dt) (lv : Int) (s : ByteArray) (E : List T.TE) (L : List Int) (K : List T.Term) (i : Int) (n : Nat) (Post : AV → List AObj → Prop),
  condP (decide (i < (↑(List.length m) : Int)))
      (needP ((0 : Int) ≤ i ∧ i < (↑(List.length m) : Int))
        (condP (Prod.fst (List.getD m (Int.toNat i) T.noDt) != (0 : Int))
        (needP ((0 : Int) ≤ i ∧ i < (↑(List.length m) : Int))
        (condP (Prod.fst (List.getD m (Int.toNat i) T.noDt) != (1 : Int))
        (AWP Try.prog 152 n c4_6
        [(0, AV.sl 6 (Seq.map T.encDt T.noDt m) Tip.none), (1, AV.int IntKind.i64 lv), (2, AV.str s), (7, AV.ptr 0 0),
        (8, AV.msl 3 3 0 (List.length K)), (9, AV.int IntKind.i64 (IntKind.wrap IntKind.i64 (i + (1 : Int))))]
        [AObj.cells [AV.sl 5 (Seq.map T.encTE T.noTE E) (Tip.tok 1), AV.sl 1 (Seq.map encI (0 : Int) L) (Tip.tok 2)], AObj.tok, AObj.tok,
        AObj.arr 3 (Seq.map T.encT T.noT K)]
        (q4_2 n Post))
        (ASpec Try.prog 29 [AV.ptr 0 0, AV.str s]
        [AObj.cells [AV.sl 5 (Seq.map T.encTE T.noTE E) (Tip.tok 1), AV.sl 1 (Seq.map encI (0 : Int) L) (Tip.tok 2)], AObj.tok, AObj.tok,
        AObj.arr 3 (Seq.map T.encT T.noT K)]
        fun (r : AV) (H' : List AObj) =>
        ∃ (x : List UInt8 × List T.Span × Bool),
        r = AV.agg [AV.str { data := List.toArray (Prod.fst x) }, AV.sl 2 (Seq.map T.encS ((0 : Int), (0 : Int)) (Prod.fst (Prod.snd x))) Tip.none, AV.bool (Prod.snd (Prod.snd x))] ∧
        H' =
        [AObj.cells [AV.sl 5 (Seq.map T.encTE T.noTE E) (Tip.tok 1), AV.sl 1 (Seq.map encI (0 : Int) L) (Tip.tok 2)], AObj.tok, AObj.tok,
        AObj.arr 3 (Seq.map T.encT T.noT K)] ∧
        AWP Try.prog 152 n c4_10
        [(0, AV.sl 6 (Seq.map T.encDt T.noDt m) Tip.none), (1, AV.int IntKind.i64 lv), (2, AV.str s), (7, AV.ptr 0 0),
        (8, AV.msl 3 3 0 (List.length K)), (9, AV.int IntKind.i64 i), (10, AV.ptr 4 0)]
        [AObj.cells [AV.sl 5 (Seq.map T.encTE T.noTE E) (Tip.tok 1), AV.sl 1 (Seq.map encI (0 : Int) L) (Tip.tok 2)], AObj.tok, AObj.tok,
        AObj.arr 3 (Seq.map T.encT T.noT K),
        AObj.cells
        [AV.str { data := List.toArray (Prod.fst x) }, AV.sl 2 (Seq.map T.encS ((0 : Int), (0 : Int)) (Prod.fst (Prod.snd x))) Tip.none, AV.bool (Prod.snd (Prod.snd x))]]
        (q4_5 n Post))))
        (ASpec Try.prog 29 [AV.ptr 0 0, AV.str s]
        [AObj.cells [AV.sl 5 (Seq.map T.encTE T.noTE E) (Tip.tok 1), AV.sl 1 (Seq.map encI (0 : Int) L) (Tip.tok 2)], AObj.tok, AObj.tok,
        AObj.arr 3 (Seq.map T.encT T.noT K)]
        fun (r : AV) (H' : List AObj) =>
        ∃ (x : List UInt8 × List T.Span × Bool),
        r = AV.agg [AV.str { data := List.toArray (Prod.fst x) }, AV.sl 2 (Seq.map T.encS ((0 : Int), (0 : Int)) (Prod.fst (Prod.snd x))) Tip.none, AV.bool (Prod.snd (Prod.snd x))] ∧
        H' =
        [AObj.cells [AV.sl 5 (Seq.map T.encTE T.noTE E) (Tip.tok 1), AV.sl 1 (Seq.map encI (0 : Int) L) (Tip.tok 2)], AObj.tok, AObj.tok,
        AObj.arr 3 (Seq.map T.encT T.noT K)] ∧
        AWP Try.prog 152 n c4_10
        [(0, AV.sl 6 (Seq.map T.encDt T.noDt m) Tip.none), (1, AV.int IntKind.i64 lv), (2, AV.str s), (7, AV.ptr 0 0),
        (8, AV.msl 3 3 0 (List.length K)), (9, AV.int IntKind.i64 i), (10, AV.ptr 4 0)]
        [AObj.cells [AV.sl 5 (Seq.map T.encTE T.noTE E) (Tip.tok 1), AV.sl 1 (Seq.map encI (0 : Int) L) (Tip.tok 2)], AObj.tok, AObj.tok,
        AObj.arr 3 (Seq.map T.encT T.noT K),
        AObj.cells
        [AV.str { data := List.toArray (Prod.fst x) }, AV.sl 2 (Seq.map T.encS ((0 : Int), (0 : Int)) (Prod.fst (Prod.snd x))) Tip.none, AV.bool (Prod.snd (Prod.snd x))]]
        (q4_5 n Post))))
      (AWP Try.prog 152 n c4_22
        [(1, AV.int IntKind.i64 lv), (2, AV.str s), (7, AV.ptr 0 0), (8, AV.msl 3 3 0 (List.length K))]
        [AObj.cells [AV.sl 5 (Seq.map T.encTE T.noTE E) (Tip.tok 1), AV.sl 1 (Seq.map encI (0 : Int) L) (Tip.tok 2)], AObj.tok, AObj.tok,
        AObj.arr 3 (Seq.map T.encT T.noT K)]
        (q4_0 n Post)) →
    AWP Try.prog 152 n c4_6
      [(0, AV.sl 6 (Seq.map T.encDt T.noDt m) Tip.none), (1, AV.int IntKind.i64 lv), (2, AV.str s), (7, AV.ptr 0 0),
        (8, AV.msl 3 3 0 (List.length K)), (9, AV.int IntKind.i64 i)]
      (T.HT E L ++ [AObj.arr 3 (Seq.map T.encT T.noT K)]) (q4_2 n Post) := fun m lv s E L K i n Post h => Go.Ab.AWP.loop' g4 (Cfg.live g4) c4_6 (by kernel_rfl) (by kernel_rfl) (Go.Ab.kc (by kernel_rfl) h)
noncomputable def c4_16 : Go.Code := codeSnd (codeSnd (codeSnd c4_10))
theorem v4_10 : ∀ (m : List T.Dt) (lv : Int) (s : ByteArray) (E : List T.TE) (L : List Int) (K : List T.Term) (i : Int) (w : T.Term) (n : Nat) (Post : AV → List AObj → Prop),
  (ASpec Try.prog 30 [AV.ptr 0 0]
      [AObj.cells [AV.sl 5 (Seq.map T.encTE T.noTE E) (Tip.tok 1), AV.sl 1 (Seq.map encI (0 : Int) L) (Tip.tok 2)], AObj.tok, AObj.tok,
        AObj.arr 3 (Seq.map T.encT T.noT K),
        AObj.cells [AV.str { data := List.toArray (Prod.fst w) }, AV.sl 2 (Seq.map T.encS ((0 : Int), (0 : Int)) (Prod.fst (Prod.snd w))) Tip.none, AV.bool (Prod.snd (Prod.snd w))]]
      fun (r : AV) (H' : List AObj) =>
      ∃ (x : Int),
        r = AV.int IntKind.i64 x ∧
        H' =
        [AObj.cells [AV.sl 5 (Seq.map T.encTE T.noTE E) (Tip.tok 1), AV.sl 1 (Seq.map encI (0 : Int) L) (Tip.tok 2)], AObj.tok, AObj.tok,
        AObj.arr 3 (Seq.map T.encT T.noT K),
        AObj.cells [AV.str { data := List.toArray (Prod.fst w) }, AV.sl 2 (Seq.map T.encS ((0 : Int), (0 : Int)) (Prod.fst (Prod.snd w))) Tip.none, AV.bool (Prod.snd (Prod.snd w))]] ∧
        condP (x != IntKind.wrap IntKind.i64 ((↑(List.length K) : Int) - (1 : Int)))
        (Post (AV.bool false)
        [AObj.cells [AV.sl 5 (Seq.map T.encTE T.noTE E) (Tip.tok 1), AV.sl 1 (Seq.map encI (0 : Int) L) (Tip.tok 2)], AObj.tok, AObj.tok,
        AObj.arr 3 (Seq.map T.encT T.noT K),
        AObj.cells [AV.str { data := List.toArray (Prod.fst w) }, AV.sl 2 (Seq.map T.encS ((0 : Int), (0 : Int)) (Prod.fst (Prod.snd w))) Tip.none, AV.bool (Prod.snd (Prod.snd w))]])
        (needP ((0 : Int) ≤ i ∧ i < (↑(List.length m) : Int))
        (condP (Prod.fst (List.getD m (Int.toNat i) T.noDt) == (0 : Int))
        (needP ((0 : Int) ≤ i ∧ i < (↑(List.length m) : Int))
        (needP ((0 : Int) ≤ i ∧ i < (↑(List.length m) : Int))
        (ASpec Try.prog 31
        [AV.ptr 0 0, AV.str { data := List.toArray (Prod.fst (Prod.snd (Prod.snd (Prod.snd (List.getD m (Int.toNat i) T.noDt))))) },
        AV.int IntKind.i64 (Prod.fst (Prod.snd (List.getD m (Int.toNat i) T.noDt)))]
        [AObj.cells [AV.sl 5 (Seq.map T.encTE T.noTE E) (Tip.tok 1), AV.sl 1 (Seq.map encI (0 : Int) L) (Tip.tok 2)], AObj.tok, AObj.tok,
        AObj.arr 3 (Seq.map T.encT T.noT K),
        AObj.cells
        [AV.str { data := List.toArray (Prod.fst w) }, AV.sl 2 (Seq.map T.encS ((0 : Int), (0 : Int)) (Prod.fst (Prod.snd w))) Tip.none, AV.bool (Prod.snd (Prod.snd w))]]
        fun (r : AV) (H' : List AObj) =>
        ∃ (x_1 : Int × List T.TE × List Int),
        r = AV.int IntKind.i64 (Prod.fst x_1) ∧
        H' =
        [AObj.cells
        [AV.sl 5 (Seq.map T.encTE T.noTE (Prod.fst (Prod.snd x_1))) (Tip.tok 5),
        AV.sl 1 (Seq.map encI (0 : Int) (Prod.snd (Prod.snd x_1))) (Tip.tok 6)],
        AObj.gone, AObj.gone, AObj.arr 3 (Seq.map T.encT T.noT K),
        AObj.cells
        [AV.str { data := List.toArray (Prod.fst w) }, AV.sl 2 (Seq.map T.encS ((0 : Int), (0 : Int)) (Prod.fst (Prod.snd w))) Tip.none,
        AV.bool (Prod.snd (Prod.snd w))],
        AObj.tok, AObj.tok] ∧
        AWP Try.prog 152 n c4_16
        [(0, AV.sl 6 (Seq.map T.encDt T.noDt m) Tip.none), (1, AV.int IntKind.i64 lv), (2, AV.str s), (7, AV.ptr 0 0),
        (8, AV.msl 3 3 0 (List.length K)), (9, AV.int IntKind.i64 i), (10, AV.ptr 4 0),
        (11, AV.int IntKind.i64 x)]
        [AObj.cells
        [AV.sl 5 (Seq.map T.encTE T.noTE (Prod.fst (Prod.snd x_1))) (Tip.tok 5),
        AV.sl 1 (Seq.map encI (0 : Int) (Prod.snd (Prod.snd x_1))) (Tip.tok 6)],
        AObj.gone, AObj.gone, AObj.arr 3 (Seq.map T.encT T.noT K),
        AObj.cells
        [AV.str { data := List.toArray (Prod.fst w) }, AV.sl 2 (Seq.map T.encS ((0 : Int), (0 : Int)) (Prod.fst (Prod.snd w))) Tip.none,
        AV.bool (Prod.snd (Prod.snd w))],
        AObj.tok, AObj.tok]
        (q4_5 n Post))))
        (needP ((0 : Int) ≤ i ∧ i < (↑(List.length m) : Int))
        (needP ((0 : Int) ≤ i ∧ i < (↑(List.length m) : Int))
        (ASpec Try.prog 32
        [AV.ptr 0 0,
        AV.agg
        [AV.str { data := List.toArray (Prod.fst (Prod.snd (Prod.snd (Prod.snd (List.getD m (Int.toNat i) T.noDt))))) },
        AV.sl 2 (Seq.map T.encS ((0 : Int), (0 : Int)) (Prod.fst (Prod.snd (Prod.snd (Prod.snd (Prod.snd (List.getD m (Int.toNat i) T.noDt))))))) Tip.none,
        AV.bool (Prod.snd (Prod.snd (Prod.snd (Prod.snd (Prod.snd (List.getD m (Int.toNat i) T.noDt))))))],
        AV.int IntKind.i64 (Prod.fst (Prod.snd (Prod.snd (List.getD m (Int.toNat i) T.noDt))))]
        [AObj.cells [AV.sl 5 (Seq.map T.encTE T.noTE E) (Tip.tok 1), AV.sl 1 (Seq.map encI (0 : Int) L) (Tip.tok 2)], AObj.tok, AObj.tok,
        AObj.arr 3 (Seq.map T.encT T.noT K),
        AObj.cells
        [AV.str { data := List.toArray (Prod.fst w) }, AV.sl 2 (Seq.map T.encS ((0 : Int), (0 : Int)) (Prod.fst (Prod.snd w))) Tip.none, AV.bool (Prod.snd (Prod.snd w))]]
        fun (r : AV) (H' : List AObj) =>
        ∃ (x_1 : Int × List T.TE × List Int),
        r = AV.int IntKind.i64 (Prod.fst x_1) ∧
        H' =
        [AObj.cells
        [AV.sl 5 (Seq.map T.encTE T.noTE (Prod.fst (Prod.snd x_1))) (Tip.tok 5),
        AV.sl 1 (Seq.map encI (0 : Int) (Prod.snd (Prod.snd x_1))) (Tip.tok 6)],
        AObj.gone, AObj.gone, AObj.arr 3 (Seq.map T.encT T.noT K),
        AObj.cells
        [AV.str { data := List.toArray (Prod.fst w) }, AV.sl 2 (Seq.map T.encS ((0 : Int), (0 : Int)) (Prod.fst (Prod.snd w))) Tip.none,
        AV.bool (Prod.snd (Prod.snd w))],
        AObj.tok, AObj.tok] ∧
        AWP Try.prog 152 n c4_16
        [(0, AV.sl 6 (Seq.map T.encDt T.noDt m) Tip.none), (1, AV.int IntKind.i64 lv), (2, AV.str s), (7, AV.ptr 0 0),
        (8, AV.msl 3 3 0 (List.length K)), (9, AV.int IntKind.i64 i), (10, AV.ptr 4 0),
        (11, AV.int IntKind.i64 x)]
        [AObj.cells
        [AV.sl 5 (Seq.map T.encTE T.noTE (Prod.fst (Prod.snd x_1))) (Tip.tok 5),
        AV.sl 1 (Seq.map encI (0 : Int) (Prod.snd (Prod.snd x_1))) (Tip.tok 6)],
        AObj.gone, AObj.gone, AObj.arr 3 (Seq.map T.encT T.noT K),
        AObj.cells
        [AV.str { data := List.toArray (Prod.fst w) }, AV.sl 2 (Seq.map T.encS ((0 : Int), (0 : Int)) (Prod.fst (Prod.snd w))) Tip.none,
        AV.bool (Prod.snd (Prod.snd w))],
        AObj.tok, AObj.tok]
        (q4_5 n Post))))))) →
    AWP Try.prog 152 n c4_10
      [(0, AV.sl 6 (Seq.map T.encDt T.noDt m) Tip.none), (1, AV.int IntKind.i64 lv), (2, AV.str s), (7, AV.ptr 0 0),
        (8, AV.msl 3 3 0 (List.length K)), (9, AV.int IntKind.i64 i), (10, AV.ptr 4 0)]
      (T.HT E L ++ [AObj.arr 3 (Seq.map T.encT T.noT K), AObj.cells (T.encT w)]) (q4_5 n Post) := fun m lv s E L K i w n Post h => Go.Ab.awp_sound g4 n _ _ _ _ (Go.Ab.kc (by kernel_rfl) h)
theorem v4_16 : ∀ (m : List T.Dt) (lv : Int) (s : ByteArray) (E : List T.TE) (L : List Int) (K : List T.Term) (i : Int) (w : T.Term) (b : Int) (n : Nat) (Post : AV → List AObj → Prop),
  (ASpec Try.prog 29 [AV.ptr 0 0, AV.str s]
      [AObj.cells [AV.sl 5 (Seq.map T.encTE T.noTE E) (Tip.tok 1), AV.sl 1 (Seq.map encI (0 : Int) L) (Tip.tok 2)], AObj.tok, AObj.tok,
        AObj.arr 3 (Seq.map T.encT T.noT K),
        AObj.cells [AV.str { data := List.toArray (Prod.fst w) }, AV.sl 2 (Seq.map T.encS ((0 : Int), (0 : Int)) (Prod.fst (Prod.snd w))) Tip.none, AV.bool (Prod.snd (Prod.snd w))]]
      fun (r : AV) (H' : List AObj) =>
      ∃ (x : List UInt8 × List T.Span × Bool),
        r = AV.agg [AV.str { data := List.toArray (Prod.fst x) }, AV.sl 2 (Seq.map T.encS ((0 : Int), (0 : Int)) (Prod.fst (Prod.snd x))) Tip.none, AV.bool (Prod.snd (Prod.snd x))] ∧
        H' =
        [AObj.cells [AV.sl 5 (Seq.map T.encTE T.noTE E) (Tip.tok 1), AV.sl 1 (Seq.map encI (0 : Int) L) (Tip.tok 2)], AObj.tok, AObj.tok,
        AObj.arr 3 (Seq.map T.encT T.noT K),
        AObj.cells [AV.str { data := List.toArray (Prod.fst w) }, AV.sl 2 (Seq.map T.encS ((0 : Int), (0 : Int)) (Prod.fst (Prod.snd w))) Tip.none, AV.bool (Prod.snd (Prod.snd w))]] ∧
        ASpec Try.prog 33
        [AV.agg [AV.str { data := List.toArray (Prod.fst x) }, AV.sl 2 (Seq.map T.encS ((0 : Int), (0 : Int)) (Prod.fst (Prod.snd x))) Tip.none, AV.bool (Prod.snd (Prod.snd x))],
        AV.agg [AV.str { data := List.toArray (Prod.fst w) }, AV.sl 2 (Seq.map T.encS ((0 : Int), (0 : Int)) (Prod.fst (Prod.snd w))) Tip.none, AV.bool (Prod.snd (Prod.snd w))]]
        [AObj.cells [AV.sl 5 (Seq.map T.encTE T.noTE E) (Tip.tok 1), AV.sl 1 (Seq.map encI (0 : Int) L) (Tip.tok 2)], AObj.tok, AObj.tok,
        AObj.arr 3 (Seq.map T.encT T.noT K),
        AObj.cells [AV.str { data := List.toArray (Prod.fst w) }, AV.sl 2 (Seq.map T.encS ((0 : Int), (0 : Int)) (Prod.fst (Prod.snd w))) Tip.none, AV.bool (Prod.snd (Prod.snd w))],
        AObj.cells [AV.str { data := List.toArray (Prod.fst x) }, AV.sl 2 (Seq.map T.encS ((0 : Int), (0 : Int)) (Prod.fst (Prod.snd x))) Tip.none, AV.bool (Prod.snd (Prod.snd x))]]
        fun (r : AV) (H' : List AObj) =>
        ∃ (x_1 : Bool),
        r = AV.bool x_1 ∧
        H' =
        [AObj.cells [AV.sl 5 (Seq.map T.encTE T.noTE E) (Tip.tok 1), AV.sl 1 (Seq.map encI (0 : Int) L) (Tip.tok 2)], AObj.tok, AObj.tok,
        AObj.arr 3 (Seq.map T.encT T.noT K),
        AObj.cells
        [AV.str { data := List.toArray (Prod.fst w) }, AV.sl 2 (Seq.map T.encS ((0 : Int), (0 : Int)) (Prod.fst (Prod.snd w))) Tip.none, AV.bool (Prod.snd (Prod.snd w))],
        AObj.cells
        [AV.str { data := List.toArray (Prod.fst x) }, AV.sl 2 (Seq.map T.encS ((0 : Int), (0 : Int)) (Prod.fst (Prod.snd x))) Tip.none, AV.bool (Prod.snd (Prod.snd x))]] ∧
        condP (!x_1)
        (Post (AV.bool false)
        [AObj.cells [AV.sl 5 (Seq.map T.encTE T.noTE E) (Tip.tok 1), AV.sl 1 (Seq.map encI (0 : Int) L) (Tip.tok 2)], AObj.tok, AObj.tok,
        AObj.arr 3 (Seq.map T.encT T.noT K),
        AObj.cells
        [AV.str { data := List.toArray (Prod.fst w) }, AV.sl 2 (Seq.map T.encS ((0 : Int), (0 : Int)) (Prod.fst (Prod.snd w))) Tip.none, AV.bool (Prod.snd (Prod.snd w))],
        AObj.cells
        [AV.str { data := List.toArray (Prod.fst x) }, AV.sl 2 (Seq.map T.encS ((0 : Int), (0 : Int)) (Prod.fst (Prod.snd x))) Tip.none, AV.bool (Prod.snd (Prod.snd x))]])
        (ASpec Try.prog 34
        [AV.agg
        [AV.str { data := List.toArray (Prod.fst x) }, AV.sl 2 (Seq.map T.encS ((0 : Int), (0 : Int)) (Prod.fst (Prod.snd x))) Tip.none, AV.bool (Prod.snd (Prod.snd x))]]
        [AObj.cells [AV.sl 5 (Seq.map T.encTE T.noTE E) (Tip.tok 1), AV.sl 1 (Seq.map encI (0 : Int) L) (Tip.tok 2)], AObj.tok, AObj.tok,
        AObj.arr 3 (Seq.map T.encT T.noT K),
        AObj.cells
        [AV.str { data := List.toArray (Prod.fst w) }, AV.sl 2 (Seq.map T.encS ((0 : Int), (0 : Int)) (Prod.fst (Prod.snd w))) Tip.none, AV.bool (Prod.snd (Prod.snd w))],
        AObj.cells
        [AV.str { data := List.toArray (Prod.fst x) }, AV.sl 2 (Seq.map T.encS ((0 : Int), (0 : Int)) (Prod.fst (Prod.snd x))) Tip.none, AV.bool (Prod.snd (Prod.snd x))]]
        fun (r : AV) (H' : List AObj) =>
        ∃ (x_2 : Bool),
        r = AV.bool x_2 ∧
        H' =
        [AObj.cells [AV.sl 5 (Seq.map T.encTE T.noTE E) (Tip.tok 1), AV.sl 1 (Seq.map encI (0 : Int) L) (Tip.tok 2)], AObj.tok, AObj.tok,
        AObj.arr 3 (Seq.map T.encT T.noT K),
        AObj.cells
        [AV.str { data := List.toArray (Prod.fst w) }, AV.sl 2 (Seq.map T.encS ((0 : Int), (0 : Int)) (Prod.fst (Prod.snd w))) Tip.none,
        AV.bool (Prod.snd (Prod.snd w))],
        AObj.cells
        [AV.str { data := List.toArray (Prod.fst x) }, AV.sl 2 (Seq.map T.encS ((0 : Int), (0 : Int)) (Prod.fst (Prod.snd x))) Tip.none,
        AV.bool (Prod.snd (Prod.snd x))]] ∧
        condP x_2
        (Post (AV.bool false)
        [AObj.cells [AV.sl 5 (Seq.map T.encTE T.noTE E) (Tip.tok 1), AV.sl 1 (Seq.map encI (0 : Int) L) (Tip.tok 2)], AObj.tok, AObj.tok,
        AObj.arr 3 (Seq.map T.encT T.noT K),
        AObj.cells
        [AV.str { data := List.toArray (Prod.fst w) }, AV.sl 2 (Seq.map T.encS ((0 : Int), (0 : Int)) (Prod.fst (Prod.snd w))) Tip.none,
        AV.bool (Prod.snd (Prod.snd w))],
        AObj.cells
        [AV.str { data := List.toArray (Prod.fst x) }, AV.sl 2 (Seq.map T.encS ((0 : Int), (0 : Int)) (Prod.fst (Prod.snd x))) Tip.none,
        AV.bool (Prod.snd (Prod.snd x))]])
        (ASpec Try.prog 30 [AV.ptr 0 0]
        [AObj.cells [AV.sl 5 (Seq.map T.encTE T.noTE E) (Tip.tok 1), AV.sl 1 (Seq.map encI (0 : Int) L) (Tip.tok 2)], AObj.tok, AObj.tok,
        AObj.arr 3 (Seq.map T.encT T.noT K),
        AObj.cells
        [AV.str { data := List.toArray (Prod.fst w) }, AV.sl 2 (Seq.map T.encS ((0 : Int), (0 : Int)) (Prod.fst (Prod.snd w))) Tip.none,
        AV.bool (Prod.snd (Prod.snd w))],
        AObj.cells
        [AV.str { data := List.toArray (Prod.fst x) }, AV.sl 2 (Seq.map T.encS ((0 : Int), (0 : Int)) (Prod.fst (Prod.snd x))) Tip.none,
        AV.bool (Prod.snd (Prod.snd x))]]
        fun (r : AV) (H' : List AObj) =>
        ∃ (x_3 : Int),
        r = AV.int IntKind.i64 x_3 ∧
        H' =
        [AObj.cells [AV.sl 5 (Seq.map T.encTE T.noTE E) (Tip.tok 1), AV.sl 1 (Seq.map encI (0 : Int) L) (Tip.tok 2)], AObj.tok,
        AObj.tok, AObj.arr 3 (Seq.map T.encT T.noT K),
        AObj.cells
        [AV.str { data := List.toArray (Prod.fst w) }, AV.sl 2 (Seq.map T.encS ((0 : Int), (0 : Int)) (Prod.fst (Prod.snd w))) Tip.none,
        AV.bool (Prod.snd (Prod.snd w))],
        AObj.cells
        [AV.str { data := List.toArray (Prod.fst x) }, AV.sl 2 (Seq.map T.encS ((0 : Int), (0 : Int)) (Prod.fst (Prod.snd x))) Tip.none,
        AV.bool (Prod.snd (Prod.snd x))]] ∧
        condP (decide (x_3 < b))
        (Post (AV.bool false)
        [AObj.cells [AV.sl 5 (Seq.map T.encTE T.noTE E) (Tip.tok 1), AV.sl 1 (Seq.map encI (0 : Int) L) (Tip.tok 2)], AObj.tok,
        AObj.tok, AObj.arr 3 (Seq.map T.encT T.noT K),
        AObj.cells
        [AV.str { data := List.toArray (Prod.fst w) }, AV.sl 2 (Seq.map T.encS ((0 : Int), (0 : Int)) (Prod.fst (Prod.snd w))) Tip.none,
        AV.bool (Prod.snd (Prod.snd w))],
        AObj.cells
        [AV.str { data := List.toArray (Prod.fst x) }, AV.sl 2 (Seq.map T.encS ((0 : Int), (0 : Int)) (Prod.fst (Prod.snd x))) Tip.none,
        AV.bool (Prod.snd (Prod.snd x))]])
        (ASpec Try.prog 30 [AV.ptr 0 0]
        [AObj.cells [AV.sl 5 (Seq.map T.encTE T.noTE E) (Tip.tok 1), AV.sl 1 (Seq.map encI (0 : Int) L) (Tip.tok 2)], AObj.tok,
        AObj.tok, AObj.arr 3 (Seq.map T.encT T.noT K),
        AObj.cells
        [AV.str { data := List.toArray (Prod.fst w) }, AV.sl 2 (Seq.map T.encS ((0 : Int), (0 : Int)) (Prod.fst (Prod.snd w))) Tip.none,
        AV.bool (Prod.snd (Prod.snd w))],
        AObj.cells
        [AV.str { data := List.toArray (Prod.fst x) }, AV.sl 2 (Seq.map T.encS ((0 : Int), (0 : Int)) (Prod.fst (Prod.snd x))) Tip.none,
        AV.bool (Prod.snd (Prod.snd x))]]
        fun (r : AV) (H' : List AObj) =>
        ∃ (x_4 : Int),
        r = AV.int IntKind.i64 x_4 ∧
        H' =
        [AObj.cells [AV.sl 5 (Seq.map T.encTE T.noTE E) (Tip.tok 1), AV.sl 1 (Seq.map encI (0 : Int) L) (Tip.tok 2)],
        AObj.tok, AObj.tok, AObj.arr 3 (Seq.map T.encT T.noT K),
        AObj.cells
        [AV.str { data := List.toArray (Prod.fst w) }, AV.sl 2 (Seq.map T.encS ((0 : Int), (0 : Int)) (Prod.fst (Prod.snd w))) Tip.none,
        AV.bool (Prod.snd (Prod.snd w))],
        AObj.cells
        [AV.str { data := List.toArray (Prod.fst x) }, AV.sl 2 (Seq.map T.encS ((0 : Int), (0 : Int)) (Prod.fst (Prod.snd x))) Tip.none,
        AV.bool (Prod.snd (Prod.snd x))]] ∧
        condP (decide (x_4 > IntKind.wrap IntKind.i64 (b + (1 : Int))))
        (Post (AV.bool false)
        [AObj.cells [AV.sl 5 (Seq.map T.encTE T.noTE E) (Tip.tok 1), AV.sl 1 (Seq.map encI (0 : Int) L) (Tip.tok 2)],
        AObj.tok, AObj.tok, AObj.arr 3 (Seq.map T.encT T.noT K),
        AObj.cells
        [AV.str { data := List.toArray (Prod.fst w) }, AV.sl 2 (Seq.map T.encS ((0 : Int), (0 : Int)) (Prod.fst (Prod.snd w))) Tip.none,
        AV.bool (Prod.snd (Prod.snd w))],
        AObj.cells
        [AV.str { data := List.toArray (Prod.fst x) }, AV.sl 2 (Seq.map T.encS ((0 : Int), (0 : Int)) (Prod.fst (Prod.snd x))) Tip.none,
        AV.bool (Prod.snd (Prod.snd x))]])
        (ASpec Try.prog 30 [AV.ptr 0 0]
        [AObj.cells [AV.sl 5 (Seq.map T.encTE T.noTE E) (Tip.tok 1), AV.sl 1 (Seq.map encI (0 : Int) L) (Tip.tok 2)],
        AObj.tok, AObj.tok, AObj.arr 3 (Seq.map T.encT T.noT K),
        AObj.cells
        [AV.str { data := List.toArray (Prod.fst w) }, AV.sl 2 (Seq.map T.encS ((0 : Int), (0 : Int)) (Prod.fst (Prod.snd w))) Tip.none,
        AV.bool (Prod.snd (Prod.snd w))],
        AObj.cells
        [AV.str { data := List.toArray (Prod.fst x) }, AV.sl 2 (Seq.map T.encS ((0 : Int), (0 : Int)) (Prod.fst (Prod.snd x))) Tip.none,
        AV.bool (Prod.snd (Prod.snd x))]]
        fun (r : AV) (H' : List AObj) =>
        ∃ (x_5 : Int),
        r = AV.int IntKind.i64 x_5 ∧
        H' =
        [AObj.cells
        [AV.sl 5 (Seq.map T.encTE T.noTE E) (Tip.tok 1), AV.sl 1 (Seq.map encI (0 : Int) L) (Tip.tok 2)],
        AObj.tok, AObj.tok, AObj.arr 3 (Seq.map T.encT T.noT K),
        AObj.cells
        [AV.str { data := List.toArray (Prod.fst w) },
        AV.sl 2 (Seq.map T.encS ((0 : Int), (0 : Int)) (Prod.fst (Prod.snd w))) Tip.none, AV.bool (Prod.snd (Prod.snd w))],
        AObj.cells
        [AV.str { data := List.toArray (Prod.fst x) },
        AV.sl 2 (Seq.map T.encS ((0 : Int), (0 : Int)) (Prod.fst (Prod.snd x))) Tip.none, AV.bool (Prod.snd (Prod.snd x))]] ∧
        condP (decide (x_5 > b))
        (needP (List.length K = List.length K ∧ (List.length K + 1) * 48 ≤ 140737488351232)
        (AWP Try.prog 152 n c4_6
        [(0, AV.sl 6 (Seq.map T.encDt T.noDt m) Tip.none), (1, AV.int IntKind.i64 lv), (2, AV.str s),
        (7, AV.ptr 0 0), (8, AV.msl 3 6 0 (List.length K + 1)),
        (9, AV.int IntKind.i64 (IntKind.wrap IntKind.i64 (i + (1 : Int))))]
        [AObj.cells
        [AV.sl 5 (Seq.map T.encTE T.noTE E) (Tip.tok 1), AV.sl 1 (Seq.map encI (0 : Int) L) (Tip.tok 2)],
        AObj.tok, AObj.tok, AObj.gone,
        AObj.cells
        [AV.str { data := List.toArray (Prod.fst w) },
        AV.sl 2 (Seq.map T.encS ((0 : Int), (0 : Int)) (Prod.fst (Prod.snd w))) Tip.none, AV.bool (Prod.snd (Prod.snd w))],
        AObj.cells
        [AV.str { data := List.toArray (Prod.fst x) },
        AV.sl 2 (Seq.map T.encS ((0 : Int), (0 : Int)) (Prod.fst (Prod.snd x))) Tip.none, AV.bool (Prod.snd (Prod.snd x))],
        AObj.arr 3
        (Seq.app (Seq.map T.encT T.noT K)
        (Seq.raw
        [[AV.str { data := List.toArray (Prod.fst x) },
        AV.sl 2 (Seq.map T.encS ((0 : Int), (0 : Int)) (Prod.fst (Prod.snd x))) Tip.none,
        AV.bool (Prod.snd (Prod.snd x))]]))]
        (q4_2 n Post)))
        (needP ((0 : Int) ≤ b ∧ b < (↑(List.length K) : Int))
        (needP (0 + Int.toNat b < List.length K)
        (AWP Try.prog 152 n c4_6
        [(0, AV.sl 6 (Seq.map T.encDt T.noDt m) Tip.none), (1, AV.int IntKind.i64 lv), (2, AV.str s),
        (7, AV.ptr 0 0), (8, AV.msl 3 3 0 (List.length K)),
        (9, AV.int IntKind.i64 (IntKind.wrap IntKind.i64 (i + (1 : Int))))]
        [AObj.cells
        [AV.sl 5 (Seq.map T.encTE T.noTE E) (Tip.tok 1),
        AV.sl 1 (Seq.map encI (0 : Int) L) (Tip.tok 2)],
        AObj.tok, AObj.tok,
        AObj.arr 3
        (Seq.raw
        (List.set (Seq.toList (Seq.map T.encT T.noT K)) (0 + Int.toNat b)
        (splice (T.encT (List.getD K (0 + Int.toNat b) T.noT)) 0
        [AV.str { data := List.toArray (Prod.fst x) },
        AV.sl 2 (Seq.map T.encS ((0 : Int), (0 : Int)) (Prod.fst (Prod.snd x))) Tip.none,
        AV.bool (Prod.snd (Prod.snd x))]))),
        AObj.cells
        [AV.str { data := List.toArray (Prod.fst w) },
        AV.sl 2 (Seq.map T.encS ((0 : Int), (0 : Int)) (Prod.fst (Prod.snd w))) Tip.none, AV.bool (Prod.snd (Prod.snd w))],
        AObj.cells
        [AV.str { data := List.toArray (Prod.fst x) },
        AV.sl 2 (Seq.map T.encS ((0 : Int), (0 : Int)) (Prod.fst (Prod.snd x))) Tip.none, AV.bool (Prod.snd (Prod.snd x))]]
        (q4_2 n Post))))))))) →
    AWP Try.prog 152 n c4_16
      [(0, AV.sl 6 (Seq.map T.encDt T.noDt m) Tip.none), (1, AV.int IntKind.i64 lv), (2, AV.str s), (7, AV.ptr 0 0),
        (8, AV.msl 3 3 0 (List.length K)), (9, AV.int IntKind.i64 i), (10, AV.ptr 4 0), (11, AV.int IntKind.i64 b)]
      (T.HT E L ++ [AObj.arr 3 (Seq.map T.encT T.noT K), AObj.cells (T.encT w)]) (q4_5 n Post) := fun m lv s E L K i w b n Post h => Go.Ab.awp_sound g4 n _ _ _ _ (Go.Ab.kc (by kernel_rfl) h)
noncomputable def c4_25 : Go.Code := codeSnd (codeSnd c4_22)
theorem v4_22 : ∀ (lv : Int) (s : ByteArray) (E : List T.TE) (L : List Int) (K : List T.Term) (n : Nat) (Post : AV → List AObj → Prop),
  condP (decide (lv < (0 : Int)))
      (ASpec Try.prog 27 []
        [AObj.cells [AV.sl 5 (Seq.map T.encTE T.noTE E) (Tip.tok 1), AV.sl 1 (Seq.map encI (0 : Int) L) (Tip.tok 2)], AObj.tok, AObj.tok,
        AObj.arr 3 (Seq.map T.encT T.noT K)]
        fun (r : AV) (H' : List AObj) =>
        ∃ (x : Unit),
        r = AV.bool true ∧
        H' =
        [AObj.cells [AV.sl 5 (Seq.map T.encTE T.noTE E) (Tip.tok 1), AV.sl 1 (Seq.map encI (0 : Int) L) (Tip.tok 2)], AObj.tok, AObj.tok,
        AObj.arr 3 (Seq.map T.encT T.noT K)] ∧
        Post (AV.bool true)
        [AObj.cells [AV.sl 5 (Seq.map T.encTE T.noTE E) (Tip.tok 1), AV.sl 1 (Seq.map encI (0 : Int) L) (Tip.tok 2)], AObj.tok, AObj.tok,
        AObj.arr 3 (Seq.map T.encT T.noT K)])
      (condP (decide (lv ≥ (↑(List.length K) : Int)))
        (ASpec Try.prog 27 []
        [AObj.cells [AV.sl 5 (Seq.map T.encTE T.noTE E) (Tip.tok 1), AV.sl 1 (Seq.map encI (0 : Int) L) (Tip.tok 2)], AObj.tok, AObj.tok,
        AObj.arr 3 (Seq.map T.encT T.noT K)]
        fun (r : AV) (H' : List AObj) =>
        ∃ (x : Unit),
        r = AV.bool true ∧
        H' =
        [AObj.cells [AV.sl 5 (Seq.map T.encTE T.noTE E) (Tip.tok 1), AV.sl 1 (Seq.map encI (0 : Int) L) (Tip.tok 2)], AObj.tok, AObj.tok,
        AObj.arr 3 (Seq.map T.encT T.noT K)] ∧
        Post (AV.bool true)
        [AObj.cells [AV.sl 5 (Seq.map T.encTE T.noTE E) (Tip.tok 1), AV.sl 1 (Seq.map encI (0 : Int) L) (Tip.tok 2)], AObj.tok, AObj.tok,
        AObj.arr 3 (Seq.map T.encT T.noT K)])
        (ASpec Try.prog 35 [AV.ptr 0 0, AV.int IntKind.i64 lv]
        [AObj.cells [AV.sl 5 (Seq.map T.encTE T.noTE E) (Tip.tok 1), AV.sl 1 (Seq.map encI (0 : Int) L) (Tip.tok 2)], AObj.tok, AObj.tok,
        AObj.arr 3 (Seq.map T.encT T.noT K)]
        fun (r : AV) (H' : List AObj) =>
        ∃ (x : List T.TE × List Int),
        r = AV.tup [] ∧
        H' =
        [AObj.cells [AV.sl 5 (Seq.map T.encTE T.noTE (Prod.fst x)) (Tip.tok 4), AV.sl 1 (Seq.map encI (0 : Int) (Prod.snd x)) (Tip.tok 5)], AObj.gone,
        AObj.gone, AObj.arr 3 (Seq.map T.encT T.noT K), AObj.tok, AObj.tok] ∧
        AWP Try.prog 152 n c4_25
        [(1, AV.int IntKind.i64 lv), (2, AV.str s), (7, AV.ptr 0 0), (8, AV.msl 3 3 0 (List.length K))]
        [AObj.cells [AV.sl 5 (Seq.map T.encTE T.noTE (Prod.fst x)) (Tip.tok 4), AV.sl 1 (Seq.map encI (0 : Int) (Prod.snd x)) (Tip.tok 5)], AObj.gone,
        AObj.gone, AObj.arr 3 (Seq.map T.encT T.noT K), AObj.tok, AObj.tok]
        (q4_0 n Post))) →
    AWP Try.prog 152 n c4_22
      [(1, AV.int IntKind.i64 lv), (2, AV.str s), (7, AV.ptr 0 0), (8, AV.msl 3 3 0 (List.length K))]
      (T.HT E L ++ [AObj.arr 3 (Seq.map T.encT T.noT K)]) (q4_0 n Post) := fun lv s E L K n Post h => Go.Ab.awp_sound g4 n _ _ _ _ (Go.Ab.kc (by kernel_rfl) h)
theorem v4_25 : ∀ (lv : Int) (s : ByteArray) (E : List T.TE) (L : List Int) (K : List T.Term) (n : Nat) (Post : AV → List AObj → Prop),
  (ASpec Try.prog 30 [AV.ptr 0 0]
      [AObj.cells [AV.sl 5 (Seq.map T.encTE T.noTE E) (Tip.tok 1), AV.sl 1 (Seq.map encI (0 : Int) L) (Tip.tok 2)], AObj.tok, AObj.tok,
        AObj.arr 3 (Seq.map T.encT T.noT K)]
      fun (r : AV) (H' : List AObj) =>
      ∃ (x : Int),
        r = AV.int IntKind.i64 x ∧
        H' =
        [AObj.cells [AV.sl 5 (Seq.map T.encTE T.noTE E) (Tip.tok 1), AV.sl 1 (Seq.map encI (0 : Int) L) (Tip.tok 2)], AObj.tok, AObj.tok,
        AObj.arr 3 (Seq.map T.encT T.noT K)] ∧
        condP (x == lv)
        (needP ((0 : Int) ≤ lv ∧ lv < (↑(List.length K) : Int))
        (needP (0 + Int.toNat lv < List.length K)
        (ASpec Try.prog 29 [AV.ptr 0 0, AV.str s]
        [AObj.cells [AV.sl 5 (Seq.map T.encTE T.noTE E) (Tip.tok 1), AV.sl 1 (Seq.map encI (0 : Int) L) (Tip.tok 2)], AObj.tok, AObj.tok,
        AObj.arr 3 (Seq.map T.encT T.noT K)]
        fun (r : AV) (H' : List AObj) =>
        ∃ (x : List UInt8 × List T.Span × Bool),
        r =
        AV.agg
        [AV.str { data := List.toArray (Prod.fst x) }, AV.sl 2 (Seq.map T.encS ((0 : Int), (0 : Int)) (Prod.fst (Prod.snd x))) Tip.none, AV.bool (Prod.snd (Prod.snd x))] ∧
        H' =
        [AObj.cells [AV.sl 5 (Seq.map T.encTE T.noTE E) (Tip.tok 1), AV.sl 1 (Seq.map encI (0 : Int) L) (Tip.tok 2)], AObj.tok, AObj.tok,
        AObj.arr 3 (Seq.map T.encT T.noT K)] ∧
        needP (0 + Int.toNat lv < List.length K)
        (AV.agg
        [AV.str { data := List.toArray (Prod.fst (List.getD K (0 + Int.toNat lv) T.noT)) },
        AV.sl 2 (Seq.map T.encS ((0 : Int), (0 : Int)) (Prod.fst (Prod.snd (List.getD K (0 + Int.toNat lv) T.noT)))) Tip.none,
        AV.bool (Prod.snd (Prod.snd (List.getD K (0 + Int.toNat lv) T.noT)))] =
        AV.agg
        [AV.str { data := List.toArray (Prod.fst (List.getD K (0 + Int.toNat lv) T.noT)) },
        AV.sl 2 (Seq.map T.encS ((0 : Int), (0 : Int)) (Prod.fst (Prod.snd (List.getD K (0 + Int.toNat lv) T.noT)))) Tip.none,
        AV.bool (Prod.snd (Prod.snd (List.getD K (0 + Int.toNat lv) T.noT)))] ∧
        [AObj.cells [AV.sl 5 (Seq.map T.encTE T.noTE E) (Tip.tok 1), AV.sl 1 (Seq.map encI (0 : Int) L) (Tip.tok 2)], AObj.tok, AObj.tok,
        AObj.arr 3 (Seq.map T.encT T.noT K)] =
        [AObj.cells [AV.sl 5 (Seq.map T.encTE T.noTE E) (Tip.tok 1), AV.sl 1 (Seq.map encI (0 : Int) L) (Tip.tok 2)], AObj.tok, AObj.tok,
        AObj.arr 3 (Seq.map T.encT T.noT K)]) ∧
        ASpec Try.prog 36
        [AV.agg
        [AV.str { data := List.toArray (Prod.fst x) }, AV.sl 2 (Seq.map T.encS ((0 : Int), (0 : Int)) (Prod.fst (Prod.snd x))) Tip.none,
        AV.bool (Prod.snd (Prod.snd x))],
        AV.agg
        [AV.str { data := List.toArray (Prod.fst (List.getD K (0 + Int.toNat lv) T.noT)) },
        AV.sl 2 (Seq.map T.encS ((0 : Int), (0 : Int)) (Prod.fst (Prod.snd (List.getD K (0 + Int.toNat lv) T.noT)))) Tip.none,
        AV.bool (Prod.snd (Prod.snd (List.getD K (0 + Int.toNat lv) T.noT)))]]
        [AObj.cells [AV.sl 5 (Seq.map T.encTE T.noTE E) (Tip.tok 1), AV.sl 1 (Seq.map encI (0 : Int) L) (Tip.tok 2)], AObj.tok, AObj.tok,
        AObj.arr 3 (Seq.map T.encT T.noT K)]
        fun (r : AV) (H' : List AObj) =>
        ∃ (x : Bool),
        r = AV.bool x ∧
        H' =
        [AObj.cells [AV.sl 5 (Seq.map T.encTE T.noTE E) (Tip.tok 1), AV.sl 1 (Seq.map encI (0 : Int) L) (Tip.tok 2)], AObj.tok, AObj.tok,
        AObj.arr 3 (Seq.map T.encT T.noT K)] ∧
        condP x
        (ASpec Try.prog 27 []
        [AObj.cells [AV.sl 5 (Seq.map T.encTE T.noTE E) (Tip.tok 1), AV.sl 1 (Seq.map encI (0 : Int) L) (Tip.tok 2)], AObj.tok,
        AObj.tok, AObj.arr 3 (Seq.map T.encT T.noT K)]
        fun (r : AV) (H' : List AObj) =>
        ∃ (x : Unit),
        r = AV.bool true ∧
        H' =
        [AObj.cells [AV.sl 5 (Seq.map T.encTE T.noTE E) (Tip.tok 1), AV.sl 1 (Seq.map encI (0 : Int) L) (Tip.tok 2)], AObj.tok,
        AObj.tok, AObj.arr 3 (Seq.map T.encT T.noT K)] ∧
        Post (AV.bool true)
        [AObj.cells [AV.sl 5 (Seq.map T.encTE T.noTE E) (Tip.tok 1), AV.sl 1 (Seq.map encI (0 : Int) L) (Tip.tok 2)], AObj.tok,
        AObj.tok, AObj.arr 3 (Seq.map T.encT T.noT K)])
        (Post (AV.bool false)
        [AObj.cells [AV.sl 5 (Seq.map T.encTE T.noTE E) (Tip.tok 1), AV.sl 1 (Seq.map encI (0 : Int) L) (Tip.tok 2)], AObj.tok,
        AObj.tok, AObj.arr 3 (Seq.map T.encT T.noT K)]))))
        (AV.tup [] = AV.tup [] ∧
        Post (AV.bool false)
        [AObj.cells [AV.sl 5 (Seq.map T.encTE T.noTE E) (Tip.tok 1), AV.sl 1 (Seq.map encI (0 : Int) L) (Tip.tok 2)], AObj.tok, AObj.tok,
        AObj.arr 3 (Seq.map T.encT T.noT K)])) →
    AWP Try.prog 152 n c4_25
      [(1, AV.int IntKind.i64 lv), (2, AV.str s), (7, AV.ptr 0 0), (8, AV.msl 3 3 0 (List.length K))]
      (T.HT E L ++ [AObj.arr 3 (Seq.map T.encT T.noT K)]) (q4_0 n Post) := fun lv s E L K n Post h => Go.Ab.awp_sound g4 n _ _ _ _ (Go.Ab.kc (by kernel_rfl) h)

end
end Tm4
end

section
/- A trail: the chapter's example; how much is done. -/

set_option linter.unusedVariables false
set_option linter.unusedSimpArgs false
set_option maxRecDepth 100000
open Go Go.Ab Go.Proofs V S T C
open W (sl1 slS slN slR)
open Sp
namespace Tl
open Tm (okT agT fullT meetT meetT_spec ok_meet ok_full full_spec emptyT empty_spec withinT within_specT hasT has_specT chkT nameEq oneS one_spec largeT)

def anyT : Term := ([97], [(0, 1000000000)], false)
theorem ok_any : okT anyT := by show chkS (-1) [(0, 1000000000)] = true; decide
theorem meetS_self {l : List Span} (h : Sg.ok l) : Sg.meetS l l = l := (Sg.meet_sub h h).2 fun p hp => hp
theorem meet_any : meetT (fullT [97]) anyT = anyT := by
  have e : Sg.meetS [(0, 1000000000)] [(0, 1000000000)] = [(0, 1000000000)] := meetS_self (show chkS (-1) [(0, 1000000000)] = true by decide)
  unfold meetT fullT anyT
  rw [if_pos rfl]
  show ([97], Sg.meetS [(0, 1000000000)] [(0, 1000000000)], true && false) = _
  rw [e]; rfl
theorem within_any : withinT (fullT [97]) anyT = false := by simp [withinT, fullT, anyT]
theorem know_any (c : Int) : knowM [(anyT, 0, c)] [97] = anyT := by
  show knowF [97] (fullT [97]) [(anyT, 0, c)] = anyT
  simp only [knowF]
  rw [if_pos (show anyT.1 = [97] from rfl), meet_any]

theorem first_any {H : List AObj} {p a b : Nat} {L : List Int} (h : At H p a b [(anyT, 0, 4)] L) : ASpec Try.prog 81 [.ptr p 0, .sl 3 (.map encT noT [anyT]) .none] H (fun r H' => r = .int .i64 1 ∧ H' = H) := by
  have k : ASpec Try.prog 81 [.ptr 0 0, .sl 3 (.map encT noT [anyT]) .none] (HT [(anyT, 0, 4)] L) (fun r H' => r = .int .i64 1 ∧ H' = HT [(anyT, 0, 4)] L) := by
    refine ASpec.sel (Tf.s81 _ _ _ _ (Tf.v81_5 _ _ _ _ _ _ _ _ (condD (fun _ => needJ ⟨by omega, by simp⟩ ?_) fun h => by simp at h)))
    refine ASpec.call (full_spec [97] _) (Les.refl _) ⟨fullT [97], rfl, rfl, ?_⟩
    refine Tf.v81_9 [(anyT, 0, 4)] L [anyT] _ _ _ _ anyT (fullT [97]) _ _ (condD (fun _ => ?_) fun h => by simp at h)
    refine ASpec.call (within_specT (fullT [97]) anyT (ok_full _) ok_any _) (Les.refl _) ⟨_, rfl, rfl, ?_⟩
    rw [within_any]
    refine condBn (fun _ => needJ ⟨by omega, by simp⟩ (condB (fun _ => needJ ⟨by omega, by simp⟩ ?_) fun h => ?_)) fun h => by cases h
    · refine ASpec.call (meetT_spec (fullT [97]) anyT (ok_full _) ok_any _) (Les.refl _) ⟨meetT (fullT [97]) anyT, rfl, rfl, ?_⟩
      rw [meet_any]
      refine AWP.shape [0, 1, 2, 3, 4] [(0, .ptr 0 0), (5, .int .i64 0), (7, .ptr 3 0), (8, .ptr 4 0), (9, .int .i64 1), (12, .sl 3 (.map encT noT [anyT]) .none), (13, .int .i64 1), (14, .int .i64 0)] (HT [(anyT, 0, 4)] L ++ [.cells (encT anyT), .cells (encT anyT)])
        ⟨by decide, rfl, by show 3 ≤ 5; omega, fun j hj => ?_, fun j hj => ?_⟩ ⟨rfl, Le.refl _, rfl, Le.refl _, rfl, Le.refl _, rfl, Le.refl _, rfl, Le.refl _, rfl, Le.refl _, rfl, Le.refl _, rfl, Le.refl _, trivial⟩ ?_
      · match j, hj with
        | 0, _ | 1, _ | 2, _ => rfl
      · match j, hj with
        | 0, _ | 1, _ | 2, _ | 3, _ | 4, _ => exact .inl rfl
      refine Tf.v81_9 [(anyT, 0, 4)] L [anyT] _ _ _ _ anyT anyT _ _ (condD (fun h => by simp at h) fun _ => ?_)
      refine ASpec.call (within_specT anyT anyT ok_any ok_any _) (Les.refl _) ⟨_, rfl, rfl, ?_⟩
      rw [within_refl ok_any]
      refine condBn (fun h => by cases h) fun _ => ?_
      refine AWP.shape [0, 1, 2] [(0, .ptr 0 0), (5, .int .i64 1), (12, .sl 3 (.map encT noT [anyT]) .none), (13, .int .i64 1), (14, .int .i64 1)] (HT [(anyT, 0, 4)] L)
        ⟨by decide, rfl, by show 3 ≤ 3; omega, fun j hj => ?_, fun j hj => ?_⟩ ⟨rfl, Le.refl _, rfl, Le.refl _, rfl, Le.refl _, rfl, Le.refl _, rfl, Le.refl _, trivial⟩ (Tf.v81_5 _ _ _ _ _ _ _ _ (condD (fun h => by simp at h) fun _ => ?_))
      · match j, hj with
        | 0, _ | 1, _ | 2, _ => rfl
      · match j, hj with
        | 0, _ | 1, _ | 2, _ => exact .inl rfl
      · refine ⟨[0, 1, 2], HT [(anyT, 0, 4)] L, .int .i64 1, ⟨by decide, rfl, by show 3 ≤ 3; omega, fun j hj => ?_, fun j hj => ?_⟩, Le.refl _, rfl, rfl⟩
        · match j, hj with
          | 0, _ | 1, _ | 2, _ => rfl
        · match j, hj with
          | 0, _ | 1, _ | 2, _ => exact .inl rfl
    · rw [nameEq] at h
      exact absurd h (by simp [anyT])
  exact liftG h k rfl rfl (gSame h)

abbrev PB : AV → List AObj → Prop := Sg.PA (.bool true)
theorem pbT {H' : List AObj} : PB (.bool true) H' := Sg.pa (Le.refl _)

theorem awake_spec (H : List AObj) : ASpec Try.prog 27 [] H (fun r H' => r = .bool true ∧ H' = H) := by
  have hE0 : okTE [] := ⟨by simp, fun e he => by simp at he⟩
  have hE1 : okTE [(anyT, 0, 4)] := ⟨by unfold lim; simp, fun e he => by simp only [List.mem_singleton] at he; subst he; exact ok_any⟩
  have hd : derM [] [] anyT 4 = (0, [(anyT, 0, 4)], []) := by
    have h1 : chkT anyT = true := by decide +kernel
    have h2 : knowM [] anyT.1 = fullT [97] := rfl
    unfold derM
    rw [if_neg (by rw [h1]; simp), h2, meet_any, if_neg (by simp [emptyT, anyT]), if_neg (by rw [within_any]; simp)]
    rfl
  have hc : decM [(anyT, 0, 4)] [] [97] 1000000 = (0, [(anyT, 0, 4), (([97], oneS 1000000, false), 1, -1)], [1]) := by
    have h1 : fitM [97] = true := by decide +kernel
    have h2 : hasS anyT.2.1 1000000 = true := by decide
    unfold decM
    rw [if_neg (by rw [h1]; simp), know_any, if_neg (by rw [h2]; simp)]
    rfl
  have k : ASpec Try.prog 27 [] [] (fun r H' => r = .bool true ∧ H' = []) := by
    refine ASpec.sel (Tm4.s27 _ (ASpec.call (new_spec []) (Les.refl _) ⟨(), rfl, rfl, ?_⟩))
    have c1 := fun q => der_spec (atL [] [] q) hE0 (by simp) anyT (by unfold lim; simp [anyT]) (by unfold lim; simp [anyT]) 4
    rw [hd] at c1
    refine ASpec.call (c1 _) ⟨Le.refl _, Le.agg ⟨Le.refl _, Le.sl rfl (.inl rfl) (.inr rfl), Le.refl _, trivial⟩, Le.refl _, trivial⟩ ⟨(0, [(anyT, 0, 4)], []), rfl, rfl, ?_⟩
    have c2 := fun H p a b h => dec_spec (H := H) (p := p) (a := a) (b := b) (E := [(anyT, 0, 4)]) (L := []) h hE1 (by simp) [97] (by unfold lim; simp) 1000000
    rw [hc] at c2
    refine ASpec.call (c2 _ 0 4 5 ⟨rfl, rfl, rfl, by decide, by decide, by decide⟩) (Les.refl _) ⟨(0, [(anyT, 0, 4), (([97], oneS 1000000, false), 1, -1)], [1]), rfl, rfl, ?_⟩
    refine ASpec.call (len_spec (p := 0) (a := 6) (b := 7) (E := [(anyT, 0, 4), (([97], oneS 1000000, false), 1, -1)]) (L := [1]) ⟨rfl, rfl, rfl, by decide, by decide, by decide⟩) (Les.refl _) ⟨(2 : Int), rfl, rfl, ?_⟩
    refine ASpec.call (level_spec (p := 0) (a := 6) (b := 7) (E := [(anyT, 0, 4), (([97], oneS 1000000, false), 1, -1)]) (L := [1]) ⟨rfl, rfl, rfl, by decide, by decide, by decide⟩) (Les.refl _) ⟨(1 : Int), rfl, rfl, ?_⟩
    refine ASpec.call (back_spec (p := 0) (a := 6) (b := 7) (E := [(anyT, 0, 4), (([97], oneS 1000000, false), 1, -1)]) (L := [1]) ⟨rfl, rfl, rfl, by decide, by decide, by decide⟩ 0 (by omega) (by simp)) (Les.refl _) ⟨([(anyT, 0, 4)], []), rfl, rfl, ?_⟩
    refine condE (fun _ => condE (fun _ => condE (fun _ => condE (fun _ => ?_) fun h => absurd rfl h) fun h => absurd rfl h) fun h => absurd rfl h) fun h => absurd rfl h
    refine ASpec.call (len_spec (p := 0) (a := 8) (b := 9) (E := [(anyT, 0, 4)]) (L := []) ⟨rfl, rfl, rfl, by decide, by decide, by decide⟩) (Les.refl _) ⟨(1 : Int), rfl, rfl, condE (fun _ => ?_) fun h => absurd rfl h⟩
    exact ASpec.call (first_any (p := 0) (a := 8) (b := 9) (L := []) ⟨rfl, rfl, rfl, by decide, by decide, by decide⟩) ⟨Le.refl _, Le.slE (s' := .map encT noT [anyT]) rfl (fun i h h' => by
      have : i = 0 := by simpa [Ab.Seq.toList] using h
      subst this
      exact ⟨Le.refl _, Le.sl rfl (.inl rfl) (.inr rfl), Le.refl _, trivial⟩) (.inr rfl), trivial⟩ ⟨(1 : Int), rfl, rfl, pbT⟩
  exact ASpec.pureH H k _ _ rfl rfl

noncomputable abbrev slT (m : List Dt) : AV := .sl 6 (.map encDt noDt m) .none

def largeF : List Dt → Bool
  | [] => false
  | x :: r => if largeT x.2.2.2 = true then true else largeF r
def largeL (m : List Dt) : Bool := if 60 < m.length then true else largeF m

theorem large4 {l : List Dt} {c : Bool} (hl : l.length ≤ 60) : ∀ (m i : Nat), m + i = l.length → largeF (l.drop i) = c →
    AWP Try.prog 19 0 c26_4 [(0, slT l), (3, .int .i64 i)] [] (q26_2 0 (fun r H' => r = .bool c ∧ H' = [])) := by
  intro m
  induction m with
  | zero =>
    intro i hm h
    refine v26_4 _ _ _ _ (condD (fun hc => by omega) fun _ => ?_)
    rw [List.drop_eq_nil_of_le (by omega)] at h
    exact ⟨by rw [← h]; rfl, rfl⟩
  | succ m ih =>
    intro i hm h
    rw [dropD l noDt i (by omega)] at h
    simp only [largeF] at h
    refine v26_4 _ _ _ _ (condD (fun hc => needJ ⟨by omega, by omega⟩ ?_) fun hc => by omega)
    rw [Int.toNat_natCast]
    generalize l.getD i noDt = x at h ⊢
    refine ASpec.call (Tm.large_spec x.2.2.2 _) (Les.refl _) ⟨_, rfl, rfl, condB (fun h1 => ?_) fun h1 => ?_⟩
    · rw [if_pos h1] at h; exact ⟨by rw [← h], rfl⟩
    · rw [if_neg (by rw [h1]; simp)] at h
      rw [succ64 (by omega)]
      exact ih (i + 1) (by omega) h

theorem large_spec (l : List Dt) (H : List AObj) : ASpec Try.prog 26 [slT l] H (fun r H' => r = .bool (largeL l) ∧ H' = H) := by
  have k : ASpec Try.prog 26 [slT l] [] (fun r H' => r = .bool (largeL l) ∧ H' = []) := by
    refine s26 _ _ (condD (fun h => ⟨?_, rfl⟩) fun h => large4 (by omega) l.length 0 (by omega) ?_)
    · rw [largeL, if_pos (by omega)]
    · rw [largeL, if_neg (by omega)]; rfl
  exact ASpec.pureH H k _ _ rfl rfl

theorem largeF_ok : ∀ (l : List Dt), largeF l = false → ∀ x ∈ l, x.2.2.2.1.length ≤ 200 ∧ x.2.2.2.2.1.length ≤ 60
  | [], _, n, hn => by simp at hn
  | x :: r, h, n, hn => by
    simp only [largeF] at h
    split at h
    · cases h
    · rename_i h1
      rcases List.mem_cons.1 hn with rfl | hn
      · simp only [largeT, Bool.or_eq_true, decide_eq_true_eq, not_or] at h1; omega
      · exact largeF_ok r h n hn

end Tl
end

section
/- TrailFalls: what is known only becomes less, and is never empty; behind Back it is what it was: the law's function returns true. -/

set_option linter.unusedVariables false
set_option linter.unusedSimpArgs false
set_option maxRecDepth 100000
open Go Go.Ab Go.Proofs V S T C
open W (sl1 slS slN slR)
open Sp
namespace Tl
open Tm (okT agT fullT meetT ok_meet ok_full emptyT withinT hasT chkT oneS)
open Tm4
section
variable {E : List TE} {L : List Int} {K : List Term} {s : List UInt8} {m : List Dt} {lv : Int}

noncomputable abbrev arK (K : List Term) : AObj := .arr 3 (.map encT noT K)

theorem aw {H : List AObj} : ASpec Try.prog 27 [] H (fun r H' => ∃ (x : Unit), r = .bool true ∧ H' = H ∧ PB (.bool true) H) := ASpec.call (awake_spec H) (Les.refl _) ⟨(), rfl, rfl, pbT⟩

theorem back_ok {i : Nat} (h : Inv s i E L K) (hlv : 0 ≤ lv) (hk : lv < (K.length : Int)) :
    okTE (backM E L lv).1 ∧ ((backM E L lv).2.length : Int) = lv ∧ K.getD lv.toNat noT = knowM (backM E L lv).1 s := by
  have hl := h.kl
  unfold backM
  split
  · have e : lv = L.length := by omega
    refine ⟨h.ok, by show (L.length : Int) = lv; omega, ?_⟩
    rw [e, Int.toNat_natCast]; exact h.now
  · obtain ⟨k, rfl⟩ := Int.eq_ofNat_of_zero_le hlv
    rw [Int.toNat_natCast]
    have hkl : k < L.length := by omega
    refine ⟨⟨by have := h.ok.1; simp; omega, fun e he => h.ok.2 e (List.mem_of_mem_take he)⟩, by simp; omega, h.kn k hkl⟩

theorem law25 {i : Nat} (h : Inv s i E L K) (hi : i ≤ 1000) (hlv : 0 ≤ lv) (hk : lv < (K.length : Int)) :
    AWP Try.prog 152 0 c4_25 [(1, .int .i64 lv), (2, .str (B s)), (7, .ptr 0 0), (8, .msl 3 3 0 K.length)] (HT (backM E L lv).1 (backM E L lv).2 ++ [arK K]) (q4_0 0 PB) := by
  obtain ⟨b1, b2, b3⟩ := back_ok h hlv hk
  refine v4_25 _ _ _ _ _ _ _ (ASpec.call (level_spec (atL _ _ _)) (Les.refl _) ⟨_, rfl, rfl, condE (fun _ => needJ ⟨hlv, hk⟩ (needJ (by omega) ?_)) fun h => absurd b2 h⟩)
  refine ASpec.call (know_spec (atL _ _ _) b1 s) (Les.refl _) ⟨knowM (backM E L lv).1 s, rfl, rfl, needJ (by omega) ⟨rfl, rfl⟩, ?_⟩
  rw [Nat.zero_add]
  have hsm := Tm.rsame_specT (knowM (backM E L lv).1 s) (K.getD lv.toNat noT) (by have := Sg.ok_len (knowM_ok b1 s); omega)
  refine ASpec.call (hsm _) (Les.refl _) ⟨_, rfl, rfl, ?_⟩
  rw [decide_eq_true b3.symm]
  exact aw

theorem law22 {i : Nat} (h : Inv s i E L K) (hi : i ≤ 1000) :
    AWP Try.prog 152 0 c4_22 [(1, .int .i64 lv), (2, .str (B s)), (7, .ptr 0 0), (8, .msl 3 3 0 K.length)] (HT E L ++ [arK K]) (q4_0 0 PB) := by
  refine v4_22 _ _ _ _ _ _ _ (condD (fun _ => aw) fun h1 => condD (fun _ => aw) fun h2 => ?_)
  refine ASpec.call (back_spec (atL E L [arK K]) lv (by omega) h.lev) (Les.refl _) ⟨backM E L lv, rfl, rfl, ?_⟩
  refine AWP.shape [0, 4, 5, 3] [(1, .int .i64 lv), (2, .str (B s)), (7, .ptr 0 0), (8, .msl 3 3 0 K.length)] (HT (backM E L lv).1 (backM E L lv).2 ++ [arK K]) ⟨by decide, rfl, by omega, fun j hj => by omega, fun j hj => ?_⟩
    ⟨rfl, Le.refl _, rfl, Le.refl _, rfl, Le.refl _, rfl, Le.refl _, trivial⟩ (law25 h hi (by omega) (by omega))
  match j, hj with
  | 0, _ | 1, _ | 2, _ | 3, _ => exact .inl rfl

/-- what was done: the new trail, and how it stands to the old one -/
theorem law16 {i : Nat} {E' : List TE} {L' : List Int} (h : Inv s i E L K) (hi : i ≤ 1000) (hok : okTE E') (hw : withinT (knowM E' s) (knowM E s) = true) (hne : emptyT (knowM E' s) = false)
    (hcase : (L' = L ∧ Inv s (i + 1) E' L' (K.set L.length (knowM E' s))) ∨ (L'.length = L.length + 1 ∧ Inv s (i + 1) E' L' (K ++ [knowM E' s])))
    (hnext : ∀ K', Inv s (i + 1) E' L' K' → AWP Try.prog 152 0 c4_6 [(0, slT m), (1, .int .i64 lv), (2, .str (B s)), (7, .ptr 0 0), (8, .msl 3 3 0 K'.length), (9, .int .i64 (i + 1 : Nat))] (HT E' L' ++ [arK K']) (q4_2 0 PB)) :
    AWP Try.prog 152 0 c4_16 [(0, slT m), (1, .int .i64 lv), (2, .str (B s)), (7, .ptr 0 0), (8, .msl 3 3 0 K.length), (9, .int .i64 i), (10, .ptr 4 0), (11, .int .i64 L.length)] (HT E' L' ++ [arK K, .cells (encT (knowM E s))]) (q4_5 0 PB) := by
  have hkl := h.kl
  have hL := h.len.2
  refine v4_16 _ _ _ _ _ _ _ _ _ _ _ (ASpec.call (know_spec (atL E' L' _) hok s) (Les.refl _) ⟨knowM E' s, rfl, rfl, ?_⟩)
  refine ASpec.call (Tm.rwithin_specT (knowM E' s) (knowM E s) (knowM_ok hok s) (knowM_ok h.ok s) _) (Les.refl _) ⟨_, rfl, rfl, ?_⟩
  rw [hw]
  refine condBn (fun h => by cases h) fun _ => ?_
  refine ASpec.call (Tm.rempty_spec (knowM E' s) _) (Les.refl _) ⟨_, rfl, rfl, ?_⟩
  rw [hne]
  refine condB (fun h => by cases h) fun _ => ?_
  have hLL : L'.length = L.length ∨ L'.length = L.length + 1 := by
    rcases hcase with ⟨e, _⟩ | ⟨e, _⟩
    · left; rw [e]
    · right; exact e
  refine ASpec.call (level_spec (atL E' L' _)) (Les.refl _) ⟨_, rfl, rfl, condD (fun h => by omega) fun _ => ?_⟩
  refine ASpec.call (level_spec (atL E' L' _)) (Les.refl _) ⟨_, rfl, rfl, ?_⟩
  rw [succ64 (by omega)]
  refine condD (fun h => by omega) fun _ => ?_
  refine ASpec.call (level_spec (atL E' L' _)) (Les.refl _) ⟨_, rfl, rfl, condD (fun h1 => needJ ⟨rfl, by omega⟩ ?_) fun h1 => needJ ⟨by omega, by omega⟩ (needJ (by rw [Int.toNat_natCast]; omega) ?_)⟩
  · rcases hcase with ⟨e, _⟩ | ⟨e, hinv⟩
    · rw [e] at h1; omega
    · rw [succ64 (by omega)]
      refine AWP.re (ReSt.arr (id := 6) (sz := 3) (q' := .map encT noT (K ++ [knowM E' s])) rfl (by simp [Ab.Seq.toList, encT])) ?_
      have hn := hnext _ hinv
      have el : (K ++ [knowM E' s]).length = K.length + 1 := by simp
      rw [el] at hn
      refine AWP.shape [0, 1, 2, 6] [(0, slT m), (1, .int .i64 lv), (2, .str (B s)), (7, .ptr 0 0), (8, .msl 3 3 0 (K.length + 1)), (9, .int .i64 (i + 1 : Nat))] (HT E' L' ++ [arK (K ++ [knowM E' s])]) ⟨by decide, rfl, by omega, fun j hj => by omega, fun j hj => ?_⟩
        ⟨rfl, Le.refl _, rfl, Le.refl _, rfl, Le.refl _, rfl, Le.refl _, rfl, Le.refl _, rfl, Le.refl _, trivial⟩ hn
      match j, hj with
      | 0, _ | 1, _ | 2, _ | 3, _ => exact .inl rfl
  · rcases hcase with ⟨e, hinv⟩ | ⟨e, _⟩
    · rw [succ64 (by omega)]
      rw [Int.toNat_natCast, Nat.zero_add]
      refine AWP.re (ReSt.arr (id := 3) (sz := 3) (q' := .map encT noT (K.set L.length (knowM E' s))) rfl ?_) ?_
      · simp only [Ab.Seq.toList, List.map_set]
        rfl
      · have hn := hnext _ hinv
        have el : (K.set L.length (knowM E' s)).length = K.length := by simp
        rw [el] at hn
        refine AWP.shape [0, 1, 2, 3] [(0, slT m), (1, .int .i64 lv), (2, .str (B s)), (7, .ptr 0 0), (8, .msl 3 3 0 K.length), (9, .int .i64 (i + 1 : Nat))] (HT E' L' ++ [arK (K.set L.length (knowM E' s))]) ⟨by decide, rfl, by omega, fun j hj => by omega, fun j hj => ?_⟩
          ⟨rfl, Le.refl _, rfl, Le.refl _, rfl, Le.refl _, rfl, Le.refl _, rfl, Le.refl _, rfl, Le.refl _, trivial⟩ hn
        match j, hj with
        | 0, _ | 1, _ | 2, _ | 3, _ => exact .inl rfl
    · omega

theorem oneS_ok (v : Int) : okT (s, oneS v, false) := by
  show chkS (-1) (oneS v) = true
  unfold oneS
  split
  · exact chkS_mk (by omega) (by omega) (by omega) rfl
  · rfl

theorem law10 {i : Nat} (hin : i < m.length) (h : Inv s i E L K) (hi : i ≤ 1000) (hx : (m.getD i noDt).2.2.2.1.length ≤ 200 ∧ (m.getD i noDt).2.2.2.2.1.length ≤ 60)
    (hnext : ∀ E' L' K', Inv s (i + 1) E' L' K' → AWP Try.prog 152 0 c4_6 [(0, slT m), (1, .int .i64 lv), (2, .str (B s)), (7, .ptr 0 0), (8, .msl 3 3 0 K'.length), (9, .int .i64 (i + 1 : Nat))] (HT E' L' ++ [arK K']) (q4_2 0 PB)) :
    AWP Try.prog 152 0 c4_10 [(0, slT m), (1, .int .i64 lv), (2, .str (B s)), (7, .ptr 0 0), (8, .msl 3 3 0 K.length), (9, .int .i64 i), (10, .ptr 4 0)] (HT E L ++ [arK K, .cells (encT (knowM E s))]) (q4_5 0 PB) := by
  have hin' : (0 : Int) ≤ (i : Int) ∧ (i : Int) < (m.length : Int) := ⟨by omega, by omega⟩
  have hkl := h.kl
  have hL := h.len.2
  have hlL : L.length ≤ lim := by unfold lim; omega
  have hks := knowM_ok h.ok s
  have same : ∀ R : Res, R.2.1 = E → R.2.2 = L → okTE R.2.1 ∧ withinT (knowM R.2.1 s) (knowM E s) = true ∧ emptyT (knowM R.2.1 s) = false ∧
      ((R.2.2 = L ∧ Inv s (i + 1) R.2.1 R.2.2 (K.set L.length (knowM R.2.1 s))) ∨ (R.2.2.length = L.length + 1 ∧ Inv s (i + 1) R.2.1 R.2.2 (K ++ [knowM R.2.1 s]))) := by
    intro R e1 e2
    rw [e1, e2]
    exact ⟨h.ok, within_refl hks, h.ne, .inl ⟨rfl, inv_again h⟩⟩
  refine v4_10 _ _ _ _ _ _ _ _ _ _ (ASpec.call (level_spec (atL E L _)) (Les.refl _) ⟨_, rfl, rfl, condNe (fun h => absurd (by rw [wrap64 (by omega) (by omega)]; omega) h) fun _ => needJ hin' ?_⟩)
  rw [Int.toNat_natCast]
  generalize m.getD i noDt = d at hx ⊢
  have fin : ∀ R : Res, (okTE R.2.1 ∧ withinT (knowM R.2.1 s) (knowM E s) = true ∧ emptyT (knowM R.2.1 s) = false ∧
      ((R.2.2 = L ∧ Inv s (i + 1) R.2.1 R.2.2 (K.set L.length (knowM R.2.1 s))) ∨ (R.2.2.length = L.length + 1 ∧ Inv s (i + 1) R.2.1 R.2.2 (K ++ [knowM R.2.1 s])))) →
      AWP Try.prog 152 0 c4_16 [(0, slT m), (1, .int .i64 lv), (2, .str (B s)), (7, .ptr 0 0), (8, .msl 3 3 0 K.length), (9, .int .i64 i), (10, .ptr 4 0), (11, .int .i64 L.length)]
        [tO R.2.1 R.2.2 5 6, .gone, .gone, arK K, .cells (encT (knowM E s)), .tok, .tok] (q4_5 0 PB) := by
    intro R ⟨f1, f2, f3, f4⟩
    refine AWP.shape [0, 5, 6, 3, 4] [(0, slT m), (1, .int .i64 lv), (2, .str (B s)), (7, .ptr 0 0), (8, .msl 3 3 0 K.length), (9, .int .i64 i), (10, .ptr 4 0), (11, .int .i64 L.length)] (HT R.2.1 R.2.2 ++ [arK K, .cells (encT (knowM E s))]) ⟨by decide, rfl, by omega, fun j hj => by omega, fun j hj => ?_⟩
      ⟨rfl, Le.refl _, rfl, Le.refl _, rfl, Le.refl _, rfl, Le.refl _, rfl, Le.refl _, rfl, Le.refl _, rfl, Le.refl _, rfl, Le.refl _, trivial⟩ (law16 h hi f1 f2 f3 f4 (fun K' => hnext _ _ K'))
    match j, hj with
    | 0, _ | 1, _ | 2, _ | 3, _ | 4, _ => exact .inl rfl
  refine condE (fun h0 => needJ hin' (needJ hin' ?_)) fun h0 => needJ hin' (needJ hin' ?_)
  · refine ASpec.call (dec_spec (atL E L _) h.ok hlL d.2.2.2.1 (by unfold lim; omega) d.2.1) (Les.refl _) ⟨decM E L d.2.2.2.1 d.2.1, rfl, rfl, fin _ ?_⟩
    by_cases c1 : fitM d.2.2.2.1 = false ∨ d.2.1 < 0 ∨ 1000000000 ≤ d.2.1
    · have e : decM E L d.2.2.2.1 d.2.1 = (1, E, L) := by rw [decM, if_pos c1]
      rw [e]; exact same _ rfl rfl
    · by_cases c2 : hasS (knowM E d.2.2.2.1).2.1 d.2.1 = false
      · have e : decM E L d.2.2.2.1 d.2.1 = (5, E, L) := by rw [decM, if_neg c1, if_pos c2]
        rw [e]; exact same _ rfl rfl
      · have e : decM E L d.2.2.2.1 d.2.1 = (0, E ++ [((d.2.2.2.1, oneS d.2.1, false), (L.length : Int) + 1, -1)], L ++ [(E.length : Int)]) := by rw [decM, if_neg c1, if_neg c2]
        rw [e]
        have hne : ((d.2.2.2.1, oneS d.2.1, false) : Term).1 = s → emptyT (meetT (knowM E s) (d.2.2.2.1, oneS d.2.1, false)) = false := by
          intro en
          have en' : d.2.2.2.1 = s := en
          rw [en'] at c2 ⊢
          have hone := oneS_ok (s := s) d.2.1
          have hm : meetT (knowM E s) (s, oneS d.2.1, false) = ((knowM E s).1, Sg.meetS (knowM E s).2.1 (oneS d.2.1), (knowM E s).2.2 && false) := by rw [meetT, if_pos (knowM_name E s)]
          rw [hm]
          have hh := Sg.meet_has hks hone d.2.1
          have h1 : hasS (oneS d.2.1) d.2.1 = true := by
            unfold oneS
            rw [if_pos (by omega)]
            show (inS (d.2.1, d.2.1 + 1) d.2.1 || false) = true
            rw [Bool.or_false, inS_iff]
            exact ⟨Int.le_refl _, by show d.2.1 < d.2.1 + 1; omega⟩
          have h2 : hasS (knowM E s).2.1 d.2.1 = true := by simpa using c2
          have hne2 : Sg.meetS (knowM E s).2.1 (oneS d.2.1) ≠ [] := by
            intro e0
            have hh' : hasS (Sg.meetS (knowM E s).2.1 (oneS d.2.1)) d.2.1 = (hasS (knowM E s).2.1 d.2.1 && hasS (oneS d.2.1) d.2.1) := hh
            rw [e0, h1, h2] at hh'
            simp [hasS] at hh'
          simp [emptyT, hne2]
        obtain ⟨p1, p2, p3⟩ := inv_put h hi ((d.2.2.2.1, oneS d.2.1, false), (L.length : Int) + 1, -1) (oneS_ok d.2.1) hne
        exact ⟨p1, p3, p2, .inr ⟨by simp, inv_dec h hi _ (oneS_ok d.2.1) hne⟩⟩
  · refine ASpec.call (der_spec (atL E L _) h.ok hlL d.2.2.2 (by unfold lim; omega) (by unfold lim; omega) d.2.2.1) (Les.refl _) ⟨derM E L d.2.2.2 d.2.2.1, rfl, rfl, fin _ ?_⟩
    by_cases c1 : chkT d.2.2.2 = false ∨ d.2.2.1 < 0
    · have e : derM E L d.2.2.2 d.2.2.1 = (1, E, L) := by rw [derM, if_pos c1]
      rw [e]; exact same _ rfl rfl
    · by_cases c2 : emptyT (meetT (knowM E d.2.2.2.1) d.2.2.2) = true
      · have e : derM E L d.2.2.2 d.2.2.1 = (5, E, L) := by rw [derM, if_neg c1, if_pos c2]
        rw [e]; exact same _ rfl rfl
      · by_cases c3 : withinT (knowM E d.2.2.2.1) d.2.2.2 = true
        · have e : derM E L d.2.2.2 d.2.2.1 = (6, E, L) := by rw [derM, if_neg c1, if_neg c2, if_pos c3]
          rw [e]; exact same _ rfl rfl
        · have e : derM E L d.2.2.2 d.2.2.1 = (0, E ++ [(d.2.2.2, (L.length : Int), d.2.2.1)], L) := by rw [derM, if_neg c1, if_neg c2, if_neg c3]
          rw [e]
          have hok : okT d.2.2.2 := by
            have hc : chkT d.2.2.2 = true := by
              cases hq : chkT d.2.2.2 with
              | true => rfl
              | false => exact absurd (.inl hq) c1
            unfold chkT at hc
            rw [Bool.and_eq_true] at hc
            exact hc.2
          have hne : d.2.2.2.1 = s → emptyT (meetT (knowM E s) d.2.2.2) = false := by
            intro en
            rw [en] at c2
            simpa using c2
          obtain ⟨p1, p2, p3⟩ := inv_put h hi (d.2.2.2, (L.length : Int), d.2.2.1) hok hne
          exact ⟨p1, p3, p2, .inl ⟨rfl, inv_der h hi _ hok hne⟩⟩

theorem law6 (hm : m.length ≤ 60) (hx : ∀ x ∈ m, x.2.2.2.1.length ≤ 200 ∧ x.2.2.2.2.1.length ≤ 60) : ∀ (j i : Nat) (E : List TE) (L : List Int) (K : List Term), j + i = m.length → Inv s i E L K →
    AWP Try.prog 152 0 c4_6 [(0, slT m), (1, .int .i64 lv), (2, .str (B s)), (7, .ptr 0 0), (8, .msl 3 3 0 K.length), (9, .int .i64 i)] (HT E L ++ [arK K]) (q4_2 0 PB) := by
  intro j
  induction j with
  | zero =>
    intro i E L K hj h
    exact v4_6 _ _ _ _ _ _ _ _ _ (condD (fun hc => by omega) fun _ => law22 h (by omega))
  | succ j ih =>
    intro i E L K hj h
    have hin' : (0 : Int) ≤ (i : Int) ∧ (i : Int) < (m.length : Int) := ⟨by omega, by omega⟩
    have go := law10 (lv := lv) (show i < m.length by omega) h (by omega) (hx _ (getD_mem (d := noDt) (show i < m.length by omega))) (fun E' L' K' h' => ih (i + 1) E' L' K' (by omega) h')
    refine v4_6 _ _ _ _ _ _ _ _ _ (condD (fun hc => needJ hin' (condNe (fun _ => needJ hin' (condNe (fun _ => ?_) fun _ => ?_)) fun _ => ?_)) fun hc => by omega)
    · rw [succ64 (by omega)]
      exact ih (i + 1) E L K (by omega) (inv_same h)
    · exact ASpec.call (know_spec (atL E L _) h.ok s) (Les.refl _) ⟨knowM E s, rfl, rfl, go⟩
    · exact ASpec.call (know_spec (atL E L _) h.ok s) (Les.refl _) ⟨knowM E s, rfl, rfl, go⟩

theorem trailFalls_spec (m : List Dt) (lv : Int) (s : List UInt8) : ASpec Try.prog 4 [slT m, .int .i64 lv, .str (B s)] [] (fun r H' => r = .bool true ∧ H' = []) := by
  have hE0 : okTE [] := ⟨by simp, fun e he => by simp at he⟩
  refine ASpec.sel (Tm4.s4 _ _ _ _ (ASpec.call (large_spec m _) (Les.refl _) ⟨_, rfl, rfl, condB (fun _ => aw) fun hl => condD (fun _ => aw) fun hs => ?_⟩))
  have hm : m.length ≤ 60 ∧ largeF m = false := by
    unfold largeL at hl
    split at hl
    · cases hl
    · exact ⟨by omega, hl⟩
  refine ASpec.call (new_spec []) (Les.refl _) ⟨(), rfl, rfl, ?_⟩
  refine ASpec.call (know_spec (atL [] [] []) hE0 s) (Les.refl _) ⟨knowM [] s, rfl, rfl, ?_⟩
  refine AWP.re (ReSt.arr (id := 3) (sz := 3) (q' := .map encT noT [knowM [] s]) rfl rfl) ?_
  exact law6 hm.1 (largeF_ok m hm.2) m.length 0 [] [] [knowM [] s] (by omega) ⟨hE0, by simp, by simp, rfl, by simp, rfl, rfl⟩

end
end Tl
end

section
/- The codecs of this seat's plain arguments. -/

open Go Go.Ab Go.Proofs
namespace Go.Ab

noncomputable def cInt : Codec Try.prog 3 Int := Codec.int .i64 Try.underlying3
noncomputable def cStr : Codec Try.prog 9 ByteArray := Codec.str Try.underlying9
end Go.Ab
end

section
/- The codecs of manifests. -/

open Go Go.Ab Go.Proofs
namespace Go.Ab

noncomputable def cName : Codec Try.prog 9 (List UInt8) := cStr.iso (fun s => s.data.toList) (fun l => [.str ⟨l.toArray⟩]) (fun _ => True) (fun _ => rfl) (fun _ _ => trivial)
noncomputable def cSpan : Codec Try.prog 200 T.Span :=
  (Codec.struct (n := 2) Try.underlying200 (FC.cons (k := 1) (n := 1) cInt rfl (by kernel_rfl) (FC.cons (k := 1) (n := 0) cInt rfl (by kernel_rfl) FC.nil)) (by kernel_rfl)).iso (fun x => (x.1, x.2.1)) T.encS (fun _ => True) (fun _ => rfl) (fun _ _ => trivial)
noncomputable def cSpans : Codec Try.prog 38 (List T.Span) := Codec.slice (sz := 2) cSpan Try.underlying38 (by kernel_rfl) (by omega) (fun _ => rfl)
end Go.Ab
end

section
/- The codec of lists of what is done to a trail. -/

open Go Go.Ab Go.Proofs
namespace Go.Ab
noncomputable def cBool : Codec Try.prog 4 Bool := Codec.bool Try.underlying4
noncomputable def cTerm : Codec Try.prog 40 T.Term :=
  (Codec.struct (n := 3) Try.underlying40 (FC.cons (k := 1) (n := 2) cName rfl (by kernel_rfl) (FC.cons (k := 1) (n := 1) cSpans rfl (by kernel_rfl) (FC.cons (k := 1) (n := 0) cBool rfl (by kernel_rfl) FC.nil))) (by kernel_rfl)).iso (fun x => (x.1, x.2.1, x.2.2.1)) T.encT (fun _ => True) (fun _ => rfl) (fun _ _ => trivial)
noncomputable def cDt : Codec Try.prog 44 T.Dt :=
  (Codec.struct (n := 6) Try.underlying44 (FC.cons (k := 1) (n := 5) cInt rfl (by kernel_rfl) (FC.cons (k := 1) (n := 4) cInt rfl (by kernel_rfl) (FC.cons (k := 1) (n := 3) cInt rfl (by kernel_rfl)
    (FC.cons (k := 3) (n := 0) cTerm rfl (by kernel_rfl) FC.nil)))) (by kernel_rfl)).iso (fun x => (x.1, x.2.1, x.2.2.1, x.2.2.2.1)) T.encDt (fun _ => True) (fun _ => rfl) (fun _ _ => trivial)
noncomputable def cDts : Codec Try.prog 34 (List T.Dt) := Codec.slice (sz := 6) cDt Try.underlying34 (by kernel_rfl) (by omega) (fun _ => rfl)
end Go.Ab
end

section
/- What is asked of the program alone, once for all statements. -/

namespace Go.Proofs.Facts
open Go Go.Proofs
theorem andT {a b : Bool} (h : a = true) (k : b = true) : (a && b) = true := by rw [h, k]; rfl
theorem laid : laidOutB Try.prog = true := by kernel_rfl
theorem mapsRowed : Go.mapsRowed Try.prog = true := by kernel_rfl
theorem stops : (Try.prog.stops == []) = true := by kernel_rfl
theorem stopKnobs : (Try.prog.stopKnobs == []) = true := by kernel_rfl
theorem heard : Try.prog.stopsHeard = true := by kernel_rfl
theorem may : Try.prog.mayEnter = true := by kernel_rfl
theorem lifted : (false == Try.prog.liftsFinal) = true := by kernel_rfl
theorem plain : (true == Try.prog.plainKeys) = true := by kernel_rfl
theorem made : (Try.prog.make == some .cut) = true := by kernel_rfl
theorem own : ownKnob Try.prog.godebug = none := by kernel_rfl
end Go.Proofs.Facts
end
