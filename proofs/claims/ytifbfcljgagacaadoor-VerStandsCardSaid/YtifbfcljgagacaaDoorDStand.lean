/- Places stand as versions do. -/
import Derived.Test.YtifbfcljgagacaaDoorDText
set_option linter.unusedVariables false
set_option linter.unusedSimpArgs false
set_option maxRecDepth 100000
open Go Go.Ab Go.Proofs Ve
namespace D

theorem fin5 {A F : Prop} {p q n : Int} {same : Bool} (hA : A) (hs : same = true → q < n) (hn : same = false → q < p ∨ q ≥ n) :
    condP (decide (q < p)) (condP (!same) A (condP (decide (q < n)) A F)) (condP (decide (q ≥ n)) (condP (!same) A (condP (decide (q < n)) A F)) (condP same (condP (!same) A (condP (decide (q < n)) A F)) F)) := by
  have k : condP (!same) A (condP (decide (q < n)) A F) := condBn (fun _ => hA) fun h => condD (fun _ => hA) fun h2 => absurd (hs h) h2
  refine condD (fun _ => k) fun h1 => condD (fun _ => k) fun h2 => condB (fun _ => k) fun h => ?_
  rcases hn h with h | h
  · exact absurd h h1
  · exact absurd h h2

theorem beqB {x y : Int} : (x == y) = decide (x = y) := by
  by_cases h : x = y
  · rw [beq_iff_eq.2 h, decide_eq_true h]
  · rw [beq_eq_false_iff_ne.2 h, decide_eq_false h]

theorem stand16 {a b c d e f p q k n : Int} {o : AObj} (hx : 0 ≤ a ∧ a < 1000 ∧ 0 ≤ b ∧ b < 1000 ∧ 0 ≤ c ∧ c < 1000) (hy : 0 ≤ d ∧ d < 1000 ∧ 0 ≤ e ∧ e < 1000 ∧ 0 ≤ f ∧ f < 1000)
    (hp : p = a * 1000000 + b * 1000 + c) (hq : q = d * 1000000 + e * 1000 + f) (hk : 0 ≤ k ∧ k ≤ 2) (hn : n = (p / wt k + 1) * wt k) :
    AWP Tryd.prog 160 0 c5_16 [(3, .ptr 0 0), (4, .ptr 1 0), (7, .int .i64 p), (9, .int .i64 q), (16, .int .i64 k), (17, .int .i64 n), (18, .bool true), (19, .int .i64 0)]
      [.cells [.int .i64 a, .int .i64 b, .int .i64 c], .cells [.int .i64 d, .int .i64 e, .int .i64 f], o] (q5_2 0 (fun r _ => r = .bool true)) := by
  have e3 : (0 : Int) ≤ 0 ∧ (0 : Int) < 3 := by decide
  have e4 : (0 : Int) ≤ 1 ∧ (1 : Int) < 3 := by decide
  have e5 : (0 : Int) ≤ 2 ∧ (2 : Int) < 3 := by decide
  have hA : ASpec Tryd.prog 14 [] [.cells [.int .i64 a, .int .i64 b, .int .i64 c], .cells [.int .i64 d, .int .i64 e, .int .i64 f], o]
      (fun r H' => ∃ x : Bool, r = .bool x ∧ H' = [.cells [.int .i64 a, .int .i64 b, .int .i64 c], .cells [.int .i64 d, .int .i64 e, .int .i64 f], o] ∧ AV.bool x = .bool true) :=
    ASpec.call (awake_spec _) (Les.refl _) ⟨_, rfl, rfl, rfl⟩
  refine v5_16a _ _ _ _ _ _ _ _ _ _ _ _ _ _ (condD (fun _ => ?_) fun h => by omega)
  refine needJ e3 (needJ e3 ?_)
  by_cases k0 : k = 0
  · subst k0
    have hn2 : n = (p / 1000000 + 1) * 1000000 := hn
    refine v5_16b _ _ _ _ _ _ _ _ _ _ _ _ _ _ (condD (fun h => by omega) fun _ => fin5 hA (fun h => ?_) fun h => ?_)
    · have := beq_iff_eq.1 h; omega
    · have := beq_eq_false_iff_ne.1 h; omega
  by_cases k1 : k = 1
  · subst k1
    have hn2 : n = (p / 1000 + 1) * 1000 := hn
    have fin : ∀ same : Bool, (same = true ↔ d = a ∧ e = b) → AWP Tryd.prog 160 0 c5_16 [(3, .ptr 0 0), (4, .ptr 1 0), (7, .int .i64 p), (9, .int .i64 q), (16, .int .i64 1), (17, .int .i64 n), (18, .bool same), (19, .int .i64 2)]
      [.cells [.int .i64 a, .int .i64 b, .int .i64 c], .cells [.int .i64 d, .int .i64 e, .int .i64 f], o] (q5_2 0 (fun r _ => r = .bool true)) := by
      intro same hsame
      refine v5_16c _ _ _ _ _ _ _ _ _ _ _ _ _ _ (condD (fun h => by omega) fun _ => fin5 hA (fun h => ?_) fun h => ?_)
      · have := hsame.1 h; omega
      · have : ¬ (d = a ∧ e = b) := fun hx => by rw [hsame.2 hx] at h; cases h
        omega
    refine v5_16b _ _ _ _ _ _ _ _ _ _ _ _ _ _ (condD (fun _ => condB (fun h => needJ e4 (needJ e4 (fin _ ?_))) fun h => fin _ ?_) fun h => absurd (by decide) h)
    · have h1 := beq_iff_eq.1 h
      rw [beq_iff_eq]; exact ⟨fun h2 => ⟨h1, h2⟩, fun h2 => h2.2⟩
    · have h1 := beq_eq_false_iff_ne.1 h
      exact ⟨fun h2 => (by cases h2), fun h2 => absurd h2.1 h1⟩
  have k2 : k = 2 := by omega
  subst k2
  have hn2 : n = (p / 1 + 1) * 1 := hn
  have fin : ∀ same : Bool, (same = true ↔ d = a ∧ e = b ∧ f = c) → AWP Tryd.prog 160 0 c5_16 [(3, .ptr 0 0), (4, .ptr 1 0), (7, .int .i64 p), (9, .int .i64 q), (16, .int .i64 2), (17, .int .i64 n), (18, .bool same), (19, .int .i64 3)]
    [.cells [.int .i64 a, .int .i64 b, .int .i64 c], .cells [.int .i64 d, .int .i64 e, .int .i64 f], o] (q5_2 0 (fun r _ => r = .bool true)) := by
    intro same hsame
    refine v5_16d _ _ _ _ _ _ _ _ _ _ _ _ _ _ (condD (fun h => by omega) fun _ => fin5 hA (fun h => ?_) fun h => ?_)
    · have := hsame.1 h; omega
    · have : ¬ (d = a ∧ e = b ∧ f = c) := fun hx => by rw [hsame.2 hx] at h; cases h
      omega
  have mid : ∀ same : Bool, (same = true ↔ d = a ∧ e = b) → AWP Tryd.prog 160 0 c5_16 [(3, .ptr 0 0), (4, .ptr 1 0), (7, .int .i64 p), (9, .int .i64 q), (16, .int .i64 2), (17, .int .i64 n), (18, .bool same), (19, .int .i64 2)]
    [.cells [.int .i64 a, .int .i64 b, .int .i64 c], .cells [.int .i64 d, .int .i64 e, .int .i64 f], o] (q5_2 0 (fun r _ => r = .bool true)) := by
    intro same hsame
    refine v5_16c _ _ _ _ _ _ _ _ _ _ _ _ _ _ (condD (fun _ => condB (fun h => needJ e5 (needJ e5 (fin _ ?_))) fun h => fin _ ?_) fun h => absurd (by decide) h)
    · have h1 := hsame.1 h
      rw [beq_iff_eq]; exact ⟨fun h2 => ⟨h1.1, h1.2, h2⟩, fun h2 => h2.2.2⟩
    · exact ⟨fun h2 => (by cases h2), fun h2 => by rw [hsame.2 ⟨h2.1, h2.2.1⟩] at h; cases h⟩
  refine v5_16b _ _ _ _ _ _ _ _ _ _ _ _ _ _ (condD (fun _ => condB (fun h => needJ e4 (needJ e4 (mid _ ?_))) fun h => mid _ ?_) fun h => absurd (by decide) h)
  · have h1 := beq_iff_eq.1 h
    rw [beq_iff_eq]; exact ⟨fun h2 => ⟨h1, h2⟩, fun h2 => h2.2⟩
  · have h1 := beq_eq_false_iff_ne.1 h
    exact ⟨fun h2 => (by cases h2), fun h2 => absurd h2.1 h1⟩

theorem eqB {x y : Bool} (h : x = true ↔ y = true) : (x == y) = true := by cases x <;> cases y <;> simp_all

theorem stand6 {a b c d e f p q k : Int} {less : Bool} (hk : 0 ≤ k ∧ k < 256) (hx : 0 ≤ a ∧ a < 1000 ∧ 0 ≤ b ∧ b < 1000 ∧ 0 ≤ c ∧ c < 1000) (hy : 0 ≤ d ∧ d < 1000 ∧ 0 ≤ e ∧ e < 1000 ∧ 0 ≤ f ∧ f < 1000)
    (hp : p = a * 1000000 + b * 1000 + c) (hq : q = d * 1000000 + e * 1000 + f) (hl : less = true ↔ p < q) :
    AWP Tryd.prog 160 0 c5_6 [(2, .int .u8 k), (3, .ptr 0 0), (4, .ptr 1 0), (7, .int .i64 p), (9, .int .i64 q), (11, .bool less)]
      [.cells [.int .i64 a, .int .i64 b, .int .i64 c], .cells [.int .i64 d, .int .i64 e, .int .i64 f]] (q5_0 0 (fun r _ => r = .bool true)) := by
  have hfit : 0 ≤ p ∧ p < 1000000000 := by omega
  have hM : partsM p = ((a, b, c), true) := by
    unfold partsM; rw [if_pos hfit]
    simp only [Prod.mk.injEq, and_true]
    omega
  refine v5_6 _ _ _ _ _ _ _ _ _ _ _ _ ?_
  refine ASpec.call (text_spec p _) (Les.refl _) ⟨_, rfl, rfl, ASpec.call (read_spec (textM p) _) (Les.refl _) ⟨_, rfl, rfl, ASpec.call (parts_spec p _) (Les.refl _) ⟨_, rfl, rfl, ?_⟩⟩⟩
  rw [readV_text hfit, hM]
  have c1 : (decide (p < q) == less) = true := eqB (by rw [decide_eq_true_eq]; exact hl.symm)
  have c2 : ((p == q) == (a == d && (b == e && c == f))) = true := eqB (by
    simp only [Bool.and_eq_true, beq_iff_eq]; omega)
  refine condBn (fun h => by rw [c1] at h; cases h) fun _ => condBn (fun h => by rw [c2] at h; cases h) fun _ => condNe (fun h => absurd rfl h) fun _ => condBn (fun h => by cases h) fun _ => condBn (fun h => by simp at h) fun _ => ?_
  refine v5_10 _ _ _ _ _ _ _ _ _ _ _ _ (needJ (by decide) ?_)
  rw [wrap64 (by omega) (by omega), tmd hk.1]
  have h3 : 0 ≤ k % 3 ∧ k % 3 ≤ 2 := by omega
  generalize k % 3 = j at h3 ⊢
  refine ASpec.call (after_spec p j _) (Les.refl _) ⟨_, rfl, rfl, ?_⟩
  have hA : afterM p j = (p / wt j + 1) * wt j := by unfold afterM; rw [if_pos ⟨hfit, h3⟩]
  rw [hA]
  have hb : p < (p / wt j + 1) * wt j ∧ (p / wt j + 1) * wt j ≤ 1000000000 := by
    have : j = 0 ∨ j = 1 ∨ j = 2 := by omega
    rcases this with rfl | rfl | rfl
    · simp only [wt, if_true]; omega
    · simp only [wt, if_true]; rw [if_neg (by decide)]; omega
    · simp only [wt]; rw [if_neg (by decide), if_neg (by decide)]; omega
  exact condD (fun h => by omega) fun _ => condD (fun h => by omega) fun _ => stand16 hx hy hp hq h3 rfl

theorem verStands_spec (a b c d e f k : Int) (hk : 0 ≤ k ∧ k < 256) : ASpec Tryd.prog 5 [.agg [.int .i64 a, .int .i64 b, .int .i64 c], .agg [.int .i64 d, .int .i64 e, .int .i64 f], .int .u8 k] [] (fun r H' => r = .bool true ∧ H' = []) := by
  have e3 : (0 : Int) ≤ 0 ∧ (0 : Int) < 3 := by decide
  have e4 : (0 : Int) ≤ 1 ∧ (1 : Int) < 3 := by decide
  have e5 : (0 : Int) ≤ 2 ∧ (2 : Int) < 3 := by decide
  refine pd (.bool true) (fun _ => rfl) (fun _ => rfl) [] (s5 _ _ _ _ _ _ _ _ ?_)
  refine ASpec.call (place_spec a b c _) (Les.refl _) ⟨_, rfl, rfl, ASpec.call (place_spec d e f _) (Les.refl _) ⟨_, rfl, rfl, ?_⟩⟩
  by_cases hx : 0 ≤ a ∧ a < 1000 ∧ 0 ≤ b ∧ b < 1000 ∧ 0 ≤ c ∧ c < 1000
  case neg =>
    have : placeM a b c = (0, false) := by unfold placeM; rw [if_neg hx]
    rw [this]
    exact condBn (fun _ => ASpec.call (awake_spec _) (Les.refl _) ⟨_, rfl, rfl, rfl⟩) fun h => by cases h
  by_cases hy : 0 ≤ d ∧ d < 1000 ∧ 0 ≤ e ∧ e < 1000 ∧ 0 ≤ f ∧ f < 1000
  case neg =>
    have h1 : placeM d e f = (0, false) := by unfold placeM; rw [if_neg hy]
    have h2 : placeM a b c = (a * 1000000 + b * 1000 + c, true) := by unfold placeM; rw [if_pos hx]
    rw [h1, h2]
    exact condBn (fun h => by cases h) fun _ => condBn (fun _ => ASpec.call (awake_spec _) (Les.refl _) ⟨_, rfl, rfl, rfl⟩) fun h => by cases h
  have h1 : placeM d e f = (d * 1000000 + e * 1000 + f, true) := by unfold placeM; rw [if_pos hy]
  have h2 : placeM a b c = (a * 1000000 + b * 1000 + c, true) := by unfold placeM; rw [if_pos hx]
  rw [h1, h2]
  refine condBn (fun h => by cases h) fun _ => condBn (fun h => by cases h) fun _ => needJ e3 (needJ e3 (condD (fun h => stand6 hk hx hy rfl rfl ?_) fun h => needJ e3 (needJ e3 (condE (fun h2 => ?_) fun h2 => stand6 hk hx hy rfl rfl ?_))))
  · simp only [true_iff]; omega
  · refine needJ e4 (needJ e4 (condD (fun h => stand6 hk hx hy rfl rfl ?_) fun h => needJ e4 (needJ e4 (condE (fun h3 => needJ e5 (needJ e5 (stand6 hk hx hy rfl rfl ?_))) fun h3 => stand6 hk hx hy rfl rfl ?_))))
    · simp only [true_iff]; omega
    · rw [decide_eq_true_eq]; omega
    · simp only [Bool.false_eq_true, false_iff]; omega
  · simp only [Bool.false_eq_true, false_iff]; omega

end D
