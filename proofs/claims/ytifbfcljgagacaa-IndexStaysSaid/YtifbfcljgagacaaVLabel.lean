/- Labels: runes, kinds, and which names may be. -/
import Derived.Test.YtifbfcljgagacaaVStamp
set_option linter.unusedVariables false
set_option linter.unusedSimpArgs false
set_option maxRecDepth 100000
open Go Go.Ab Go.Proofs V
namespace S

def kindM (c : Int) : Int := if 97 ≤ c ∧ c ≤ 122 then 0 else if 945 ≤ c ∧ c ≤ 969 then 1 else if 48 ≤ c ∧ c ≤ 57 then 2 else if c = 45 then 3 else 4

theorem kind_spec (c : Int) (H : List AObj) : ASpec Try.prog 141 [.int .i32 c] H (fun r H' => r = .int .i64 (kindM c) ∧ H' = H) := by
  have k : ASpec Try.prog 141 [.int .i32 c] [] (fun r H' => r = .int .i64 (kindM c) ∧ H' = []) := by
    refine s141 _ _ ?_
    repeat' (first | refine condD (fun _ => ?_) fun _ => ?_ | refine condE (fun _ => ?_) fun _ => ?_)
    all_goals (refine ⟨?_, rfl⟩; congr 1; unfold kindM; repeat' split)
    all_goals omega
  exact ASpec.pureH H k _ _ rfl rfl

theorem rkind_spec (c : Int) (H : List AObj) : ASpec Try.prog 96 [.int .i64 c] H (fun r H' => r = .int .i64 (kindM c) ∧ H' = H) := by
  have k : ASpec Try.prog 96 [.int .i64 c] [] (fun r H' => r = .int .i64 (kindM c) ∧ H' = []) := by
    refine s96 _ _ ?_
    repeat' (first | refine condD (fun _ => ?_) fun _ => ?_ | refine condE (fun _ => ?_) fun _ => ?_)
    all_goals (refine ⟨?_, rfl⟩; congr 1; unfold kindM; repeat' split)
    all_goals omega
  exact ASpec.pureH H k _ _ rfl rfl

theorem kindM_range (c : Int) : 0 ≤ kindM c ∧ kindM c ≤ 4 := by
  unfold kindM; repeat' split
  all_goals omega

/-! ### the rune at a place -/

/-- a byte behind a place -/
abbrev bt (l : List UInt8) (p k : Nat) : Nat := (l.getD (p + k) 0).toNat

theorem bt_lt (l : List UInt8) (p k : Nat) : bt l p k < 256 := (l.getD (p + k) 0).toNat_lt

theorem get_B (l : List UInt8) (j : Nat) : (B l).get! j = l.getD j 0 := by
  show l.toArray[j]! = _
  rw [getElem!_def]
  simp [List.getD]
  rfl

abbrev wideC (a b0 b1 b2 b3 : Nat) : Nat :=
  if 194 ≤ b0 ∧ b0 ≤ 223 then (if 2 ≤ a ∧ (128 ≤ b1 ∧ b1 ≤ 191) then 2 else 0)
  else if 224 ≤ b0 ∧ b0 ≤ 239 then (if 3 ≤ a ∧ (128 ≤ b1 ∧ b1 ≤ 191) ∧ (128 ≤ b2 ∧ b2 ≤ 191) ∧ ¬ (b0 = 224 ∧ b1 < 160) ∧ ¬ (b0 = 237 ∧ 159 < b1) then 3 else 0)
  else if 240 ≤ b0 ∧ b0 ≤ 244 then (if 4 ≤ a ∧ (128 ≤ b1 ∧ b1 ≤ 191) ∧ (128 ≤ b2 ∧ b2 ≤ 191) ∧ (128 ≤ b3 ∧ b3 ≤ 191) ∧ ¬ (b0 = 240 ∧ b1 < 144) ∧ ¬ (b0 = 244 ∧ 143 < b1) then 4 else 0)
  else 0

def wideM (l : List UInt8) (p : Nat) : Nat := wideC (l.length - p) (bt l p 0) (bt l p 1) (bt l p 2) (bt l p 3)

abbrev runeC (w b0 b1 b2 b3 : Nat) : Nat × Nat :=
  if b0 < 128 then (b0, 1) else if w = 0 then (65533, 1) else if w = 2 then (b0 % 32 * 64 + b1 % 64, 2)
  else if w = 3 then ((b0 % 16 * 64 + b1 % 64) * 64 + b2 % 64, 3) else (((b0 % 8 * 64 + b1 % 64) * 64 + b2 % 64) * 64 + b3 % 64, 4)

def runeM (l : List UInt8) (p : Nat) : Nat × Nat := runeC (wideM l p) (bt l p 0) (bt l p 1) (bt l p 2) (bt l p 3)

theorem decode_core (a b0 b1 b2 b3 : Nat) (h0 : b0 < 256) (h1 : b1 < 256) (h2 : b2 < 256) (h3 : b3 < 256) :
    (if b0 < 128 then (b0, 1)
     else if b0 / 32 = 6 ∧ (1 < a ∧ b1 / 64 = 2) then (if 128 ≤ b0 % 32 * 64 + b1 % 64 then (b0 % 32 * 64 + b1 % 64, 2) else (65533, 1))
     else if b0 / 16 = 14 ∧ (1 < a ∧ b1 / 64 = 2) ∧ (2 < a ∧ b2 / 64 = 2) then
       (if 2048 ≤ b0 % 16 * 4096 + b1 % 64 * 64 + b2 % 64 ∧ (b0 % 16 * 4096 + b1 % 64 * 64 + b2 % 64 < 55296 ∨ (57344 ≤ b0 % 16 * 4096 + b1 % 64 * 64 + b2 % 64 ∧ b0 % 16 * 4096 + b1 % 64 * 64 + b2 % 64 ≤ 1114111))
        then (b0 % 16 * 4096 + b1 % 64 * 64 + b2 % 64, 3) else (65533, 1))
     else if b0 / 8 = 30 ∧ (1 < a ∧ b1 / 64 = 2) ∧ (2 < a ∧ b2 / 64 = 2) ∧ (3 < a ∧ b3 / 64 = 2) then
       (if 65536 ≤ b0 % 8 * 262144 + b1 % 64 * 4096 + b2 % 64 * 64 + b3 % 64 ∧ (b0 % 8 * 262144 + b1 % 64 * 4096 + b2 % 64 * 64 + b3 % 64 < 55296 ∨ (57344 ≤ b0 % 8 * 262144 + b1 % 64 * 4096 + b2 % 64 * 64 + b3 % 64 ∧ b0 % 8 * 262144 + b1 % 64 * 4096 + b2 % 64 * 64 + b3 % 64 ≤ 1114111))
        then (b0 % 8 * 262144 + b1 % 64 * 4096 + b2 % 64 * 64 + b3 % 64, 4) else (65533, 1))
     else ((65533 : Nat), (1 : Nat))) = runeC (wideC a b0 b1 b2 b3) b0 b1 b2 b3 := by
  have e2 : ∀ w : Nat, w = 0 ∨ w = 2 ∨ w = 3 ∨ w = 4 ∨ 4 < w ∨ w = 1 := by omega
  by_cases c0 : b0 < 128
  · rw [if_pos c0]; unfold runeC; rw [if_pos c0]
  rw [if_neg c0]
  unfold runeC
  rw [if_neg c0]
  by_cases c1 : 194 ≤ b0 ∧ b0 ≤ 223
  · unfold wideC
    rw [if_pos c1]
    by_cases d : 1 < a ∧ b1 / 64 = 2
    · rw [if_pos ⟨by omega, d⟩, if_pos (by omega), if_pos (show 2 ≤ a ∧ (128 ≤ b1 ∧ b1 ≤ 191) by omega)]; rfl
    · rw [if_neg (fun h => d h.2), if_neg (fun h => d h.2.1), if_neg (fun h => d h.2.1), if_neg (show ¬ (2 ≤ a ∧ (128 ≤ b1 ∧ b1 ≤ 191)) by omega)]; rfl
  by_cases c2 : 224 ≤ b0 ∧ b0 ≤ 239
  · unfold wideC
    rw [if_neg c1, if_pos c2]
    rw [if_neg (show ¬ (b0 / 32 = 6 ∧ (1 < a ∧ b1 / 64 = 2)) by omega)]
    by_cases d : (1 < a ∧ b1 / 64 = 2) ∧ (2 < a ∧ b2 / 64 = 2)
    · rw [if_pos ⟨by omega, d⟩]
      by_cases f : ¬ (b0 = 224 ∧ b1 < 160) ∧ ¬ (b0 = 237 ∧ 159 < b1)
      · rw [if_pos (show 3 ≤ a ∧ (128 ≤ b1 ∧ b1 ≤ 191) ∧ (128 ≤ b2 ∧ b2 ≤ 191) ∧ ¬ (b0 = 224 ∧ b1 < 160) ∧ ¬ (b0 = 237 ∧ 159 < b1) by omega), if_pos (by omega)]
        simp only [if_neg (show ¬ (3 = 0) by omega), if_neg (show ¬ (3 = 2) by omega), if_true]
        rw [show b0 % 16 * 4096 + b1 % 64 * 64 + b2 % 64 = (b0 % 16 * 64 + b1 % 64) * 64 + b2 % 64 by omega]
      · rw [if_neg (show ¬ (3 ≤ a ∧ (128 ≤ b1 ∧ b1 ≤ 191) ∧ (128 ≤ b2 ∧ b2 ≤ 191) ∧ ¬ (b0 = 224 ∧ b1 < 160) ∧ ¬ (b0 = 237 ∧ 159 < b1)) by omega), if_neg (by omega)]; rfl
    · rw [if_neg (fun h => d h.2), if_neg (show ¬ (b0 / 8 = 30 ∧ (1 < a ∧ b1 / 64 = 2) ∧ (2 < a ∧ b2 / 64 = 2) ∧ (3 < a ∧ b3 / 64 = 2)) by omega),
        if_neg (show ¬ (3 ≤ a ∧ (128 ≤ b1 ∧ b1 ≤ 191) ∧ (128 ≤ b2 ∧ b2 ≤ 191) ∧ ¬ (b0 = 224 ∧ b1 < 160) ∧ ¬ (b0 = 237 ∧ 159 < b1)) by omega)]; rfl
  by_cases c3 : 240 ≤ b0 ∧ b0 ≤ 244
  · unfold wideC
    rw [if_neg c1, if_neg c2, if_pos c3]
    rw [if_neg (show ¬ (b0 / 32 = 6 ∧ (1 < a ∧ b1 / 64 = 2)) by omega), if_neg (show ¬ (b0 / 16 = 14 ∧ (1 < a ∧ b1 / 64 = 2) ∧ (2 < a ∧ b2 / 64 = 2)) by omega)]
    by_cases d : (1 < a ∧ b1 / 64 = 2) ∧ (2 < a ∧ b2 / 64 = 2) ∧ (3 < a ∧ b3 / 64 = 2)
    · rw [if_pos ⟨by omega, d⟩]
      by_cases f : ¬ (b0 = 240 ∧ b1 < 144) ∧ ¬ (b0 = 244 ∧ 143 < b1)
      · rw [if_pos (show 4 ≤ a ∧ (128 ≤ b1 ∧ b1 ≤ 191) ∧ (128 ≤ b2 ∧ b2 ≤ 191) ∧ (128 ≤ b3 ∧ b3 ≤ 191) ∧ ¬ (b0 = 240 ∧ b1 < 144) ∧ ¬ (b0 = 244 ∧ 143 < b1) by omega), if_pos (by omega)]
        simp only [if_neg (show ¬ (4 = 0) by omega), if_neg (show ¬ (4 = 2) by omega), if_neg (show ¬ (4 = 3) by omega)]
        rw [show b0 % 8 * 262144 + b1 % 64 * 4096 + b2 % 64 * 64 + b3 % 64 = ((b0 % 8 * 64 + b1 % 64) * 64 + b2 % 64) * 64 + b3 % 64 by omega]
      · rw [if_neg (show ¬ (4 ≤ a ∧ (128 ≤ b1 ∧ b1 ≤ 191) ∧ (128 ≤ b2 ∧ b2 ≤ 191) ∧ (128 ≤ b3 ∧ b3 ≤ 191) ∧ ¬ (b0 = 240 ∧ b1 < 144) ∧ ¬ (b0 = 244 ∧ 143 < b1)) by omega), if_neg (by omega)]; rfl
    · rw [if_neg (fun h => d h.2), if_neg (show ¬ (4 ≤ a ∧ (128 ≤ b1 ∧ b1 ≤ 191) ∧ (128 ≤ b2 ∧ b2 ≤ 191) ∧ (128 ≤ b3 ∧ b3 ≤ 191) ∧ ¬ (b0 = 240 ∧ b1 < 144) ∧ ¬ (b0 = 244 ∧ 143 < b1)) by omega)]; rfl
  · unfold wideC
    rw [if_neg c1, if_neg c2, if_neg c3]
    by_cases d : b0 / 32 = 6 ∧ (1 < a ∧ b1 / 64 = 2)
    · rw [if_pos d, if_neg (by omega)]; rfl
    rw [if_neg d, if_neg (show ¬ (b0 / 16 = 14 ∧ (1 < a ∧ b1 / 64 = 2) ∧ (2 < a ∧ b2 / 64 = 2)) by omega)]
    by_cases f : b0 / 8 = 30 ∧ (1 < a ∧ b1 / 64 = 2) ∧ (2 < a ∧ b2 / 64 = 2) ∧ (3 < a ∧ b3 / 64 = 2)
    · rw [if_pos f, if_neg (by omega)]; rfl
    · rw [if_neg f]; rfl

theorem validN (n : Nat) : Utf8.valid (n : Int) = (decide (n < 55296) || (decide (57344 ≤ n) && decide (n ≤ 1114111))) := by
  unfold Utf8.valid
  rw [Bool.eq_iff_iff]
  simp only [Bool.and_eq_true, Bool.or_eq_true, decide_eq_true_eq]
  omega

set_option maxRecDepth 100000 in
theorem decode_eq (l : List UInt8) (p : Nat) (hp : p < l.length) : Utf8.decode (B l) p = runeM l p := by
  unfold runeM wideM
  rw [← decode_core (l.length - p) _ _ _ _ (bt_lt l p 0) (bt_lt l p 1) (bt_lt l p 2) (bt_lt l p 3)]
  have hb : ∀ k, ((B l).get! (p + k)).toNat = bt l p k := fun k => by rw [get_B]
  have hc : ∀ k, decide (p + k < (B l).size) = decide (k < l.length - p) := fun k => by rw [B_size]; apply decide_eq_decide.2; omega
  unfold Utf8.decode
  simp only [hb, hc, validN]
  generalize bt l p 0 = b0
  generalize bt l p 1 = b1
  generalize bt l p 2 = b2
  generalize bt l p 3 = b3
  generalize l.length - p = a
  simp only [Utf8.runeError, Bool.and_eq_true, Bool.or_eq_true, decide_eq_true_eq, beq_iff_eq, ge_iff_le, and_assoc]

theorem runeM_width (l : List UInt8) (p : Nat) : 1 ≤ (runeM l p).2 ∧ (runeM l p).2 ≤ 4 := by
  unfold runeM runeC
  repeat' split
  all_goals simp

theorem wideM_cases (l : List UInt8) (p : Nat) : wideM l p = 0 ∨ (wideM l p = 2 ∧ 194 ≤ bt l p 0 ∧ bt l p 0 ≤ 223 ∧ p + 2 ≤ l.length) ∨
    (wideM l p = 3 ∧ 224 ≤ bt l p 0 ∧ bt l p 0 ≤ 239 ∧ p + 3 ≤ l.length ∧ (128 ≤ bt l p 1 ∧ bt l p 1 ≤ 191) ∧ ¬ (bt l p 0 = 224 ∧ bt l p 1 < 160)) ∨
    (wideM l p = 4 ∧ 240 ≤ bt l p 0 ∧ bt l p 0 ≤ 244 ∧ p + 4 ≤ l.length ∧ (128 ≤ bt l p 1 ∧ bt l p 1 ≤ 191) ∧ ¬ (bt l p 0 = 240 ∧ bt l p 1 < 144)) := by
  unfold wideM wideC
  repeat' split
  all_goals omega

/-- a rune that a name may have has two bytes at most -/
theorem runeM_small {l : List UInt8} {p : Nat} (h : kindM ((runeM l p).1 : Nat) ≤ 3) : (runeM l p).2 ≤ 2 := by
  have hk : ((runeM l p).1 : Int) ≤ 969 := by
    unfold kindM at h
    repeat' split at h
    all_goals omega
  rcases wideM_cases l p with e | ⟨e, h1⟩ | ⟨e, h1, h2, h3, h4, h5⟩ | ⟨e, h1, h2, h3, h4, h5⟩
  · unfold runeM runeC
    repeat' split
    all_goals simp_all
  · unfold runeM runeC
    repeat' split
    all_goals simp_all
  · exfalso
    unfold runeM runeC at hk
    rw [e] at hk
    rw [if_neg (by omega), if_neg (by omega), if_neg (by omega), if_pos rfl] at hk
    simp only at hk
    omega
  · exfalso
    unfold runeM runeC at hk
    rw [e] at hk
    rw [if_neg (by omega), if_neg (by omega), if_neg (by omega), if_neg (by omega)] at hk
    simp only at hk
    omega

/-! ### the document's walk over a rune's bytes -/

section
variable {l : List UInt8} {p : Nat} {Post : AV → List AObj → Prop}

theorem btInt (hl : l.length ≤ 10 * big) (i : Nat) (hp : p + i < l.length) :
    IntKind.wrap .i64 ((p : Int) + (i : Int)) = ((p + i : Nat) : Int) := by
  unfold big at hl
  rw [wrap64 (by omega) (by omega)]; simp

theorem btGet (i : Nat) : ((List.getD (Array.toList (ByteArray.data (B l))) (p + i) 0).toNat : Int) = (bt l p i : Nat) := rfl

def nOf (b0 : Nat) : Nat := if 194 ≤ b0 ∧ b0 ≤ 223 then 2 else if 224 ≤ b0 ∧ b0 ≤ 239 then 3 else if 240 ≤ b0 ∧ b0 ≤ 244 then 4 else 0

theorem nOf_cases (b0 : Nat) : (nOf b0 = 2 ∧ 194 ≤ b0 ∧ b0 ≤ 223) ∨ (nOf b0 = 3 ∧ 224 ≤ b0 ∧ b0 ≤ 239) ∨ (nOf b0 = 4 ∧ 240 ≤ b0 ∧ b0 ≤ 244) ∨ (nOf b0 = 0 ∧ ¬ (194 ≤ b0 ∧ b0 ≤ 244)) := by
  unfold nOf
  repeat' split
  all_goals omega

theorem wide_short (h : l.length - p < nOf (bt l p 0) ∨ nOf (bt l p 0) = 0) : wideM l p = 0 := by
  have := nOf_cases (bt l p 0)
  unfold wideM wideC
  repeat' split
  all_goals omega

theorem wide_bad {i : Nat} (h1 : 1 ≤ i) (h2 : i < nOf (bt l p 0)) (h : bt l p i < 128 ∨ 191 < bt l p i) : wideM l p = 0 := by
  have := nOf_cases (bt l p 0)
  have hi : i = 1 ∨ i = 2 ∨ i = 3 := by omega
  unfold wideM wideC
  rcases hi with rfl | rfl | rfl <;> repeat' split
  all_goals omega

theorem wideC_no {a b0 b1 b2 b3 : Nat} (h : (b0 = 224 ∧ b1 < 160) ∨ (b0 = 237 ∧ 159 < b1) ∨ (b0 = 240 ∧ b1 < 144) ∨ (b0 = 244 ∧ 143 < b1)) : wideC a b0 b1 b2 b3 = 0 := by
  unfold wideC
  repeat' split
  all_goals omega

theorem wideC_yes {a n b0 b1 b2 b3 : Nat} (hcs : (n = 2 ∧ 194 ≤ b0 ∧ b0 ≤ 223) ∨ (n = 3 ∧ 224 ≤ b0 ∧ b0 ≤ 239) ∨ (n = 4 ∧ 240 ≤ b0 ∧ b0 ≤ 244)) (ha : n ≤ a) (hc1 : 128 ≤ b1 ∧ b1 ≤ 191) (hc2 : 2 < n → 128 ≤ b2 ∧ b2 ≤ 191) (hc3 : 3 < n → 128 ≤ b3 ∧ b3 ≤ 191)
    (k1 : ¬ (b0 = 224 ∧ b1 < 160)) (k2 : ¬ (b0 = 237 ∧ 159 < b1)) (k3 : ¬ (b0 = 240 ∧ b1 < 144)) (k4 : ¬ (b0 = 244 ∧ 143 < b1)) : wideC a b0 b1 b2 b3 = n := by
  unfold wideC
  rcases hcs with ⟨rfl, g1, g2⟩ | ⟨rfl, g1, g2⟩ | ⟨rfl, g1, g2⟩
  · rw [if_pos ⟨g1, g2⟩, if_pos ⟨ha, hc1⟩]
  · rw [if_neg (by omega), if_pos ⟨g1, g2⟩, if_pos ⟨ha, hc1, hc2 (by omega), k1, k2⟩]
  · rw [if_neg (by omega), if_neg (by omega), if_pos ⟨g1, g2⟩, if_pos ⟨ha, hc1, hc2 (by omega), hc3 (by omega), k3, k4⟩]

theorem w16 (hl : l.length ≤ 10 * big) (hn : nOf (bt l p 0) ≠ 0) (hp : p + nOf (bt l p 0) ≤ l.length) (hc : ∀ i, 1 ≤ i → i < nOf (bt l p 0) → 128 ≤ bt l p i ∧ bt l p i ≤ 191) (h : Post (.int .i64 (wideM l p : Nat)) []) :
    AWP Try.prog 96 0 c167_16 [(0, .str (B l)), (1, .int .i64 p), (5, .int .i64 (nOf (bt l p 0) : Nat)), (6, .int .i64 (bt l p 0 : Nat))] [] (q167_0 0 Post) := by
  have hcs := nOf_cases (bt l p 0)
  have h256 := bt_lt l p 1
  have e1 : IntKind.wrap .i64 ((p : Int) + 1) = ((p + 1 : Nat) : Int) := by unfold big at hl; rw [wrap64 (by omega) (by omega)]; simp
  have hc1 := hc 1 (by omega) (by omega)
  have hc2 : 2 < nOf (bt l p 0) → 128 ≤ bt l p 2 ∧ bt l p 2 ≤ 191 := hc 2 (by omega)
  have hc3 : 3 < nOf (bt l p 0) → 128 ≤ bt l p 3 ∧ bt l p 3 ≤ 191 := hc 3 (by omega)
  have hcs3 : (nOf (bt l p 0) = 2 ∧ 194 ≤ bt l p 0 ∧ bt l p 0 ≤ 223) ∨ (nOf (bt l p 0) = 3 ∧ 224 ≤ bt l p 0 ∧ bt l p 0 ≤ 239) ∨ (nOf (bt l p 0) = 4 ∧ 240 ≤ bt l p 0 ∧ bt l p 0 ≤ 244) := by omega
  have fin0 : (bt l p 0 = 224 ∧ bt l p 1 < 160) ∨ (bt l p 0 = 237 ∧ 159 < bt l p 1) ∨ (bt l p 0 = 240 ∧ bt l p 1 < 144) ∨ (bt l p 0 = 244 ∧ 143 < bt l p 1) → Post (.int .i64 0) [] := by
    intro hh
    have := wideC_no (a := l.length - p) (b2 := bt l p 2) (b3 := bt l p 3) hh
    unfold wideM at h
    rw [this] at h
    exact h
  have finn : ¬ (bt l p 0 = 224 ∧ bt l p 1 < 160) → ¬ (bt l p 0 = 237 ∧ 159 < bt l p 1) → ¬ (bt l p 0 = 240 ∧ bt l p 1 < 144) → ¬ (bt l p 0 = 244 ∧ 143 < bt l p 1) → Post (.int .i64 (nOf (bt l p 0) : Nat)) [] := by
    intro k1 k2 k3 k4
    have := wideC_yes (a := l.length - p) (b2 := bt l p 2) (b3 := bt l p 3) hcs3 (by omega) hc1 hc2 hc3 k1 k2 k3 k4
    unfold wideM at h
    rw [this] at h
    exact h
  have hn2 : 2 ≤ nOf (bt l p 0) := by omega
  clear hc hcs hcs3 hc2 hc3 h
  refine v167_16 _ _ _ _ _ _ ?_
  rw [e1, Int.toNat_natCast, btGet 1, wrapN (n := bt l p 1) (by omega)]
  refine needJ ⟨by omega, by rw [B_size]; omega⟩ ?_
  generalize nOf (bt l p 0) = n at *
  generalize bt l p 0 = b0 at *
  generalize bt l p 1 = b1 at *
  repeat' (first | refine condD (fun _ => ?_) fun _ => ?_ | refine condE (fun _ => ?_) fun _ => ?_)
  all_goals first
    | exact fin0 (by omega)
    | exact finn (by omega) (by omega) (by omega) (by omega)

theorem w12 (hl : l.length ≤ 10 * big) (hn : nOf (bt l p 0) ≠ 0) (hp : p + nOf (bt l p 0) ≤ l.length) (h : Post (.int .i64 (wideM l p : Nat)) []) :
    ∀ (m i : Nat), m + i = nOf (bt l p 0) → 1 ≤ i → (∀ j, 1 ≤ j → j < i → 128 ≤ bt l p j ∧ bt l p j ≤ 191) →
    AWP Try.prog 96 0 c167_12 [(0, .str (B l)), (1, .int .i64 p), (5, .int .i64 (nOf (bt l p 0) : Nat)), (6, .int .i64 (bt l p 0 : Nat)), (7, .int .i64 i)] [] (q167_2 0 Post) := by
  have hcs := nOf_cases (bt l p 0)
  intro m
  induction m with
  | zero =>
    intro i hm h1 hc
    refine v167_12 _ _ _ _ _ _ _ (condD (fun hi => by omega) fun _ => w16 hl hn hp (fun j a b => hc j a (by omega)) h)
  | succ m ih =>
    intro i hm h1 hc
    have e1 := btInt (p := p) hl i (by omega)
    refine v167_12 _ _ _ _ _ _ _ (condD (fun hi => ?_) fun hi => by omega)
    rw [e1, Int.toNat_natCast, btGet i]
    refine needJ ⟨by omega, by rw [B_size]; omega⟩ (condD (fun hb => ?_) fun hb => needJ ⟨by omega, by rw [B_size]; omega⟩ (condD (fun hb2 => ?_) fun hb2 => ?_))
    · rw [wide_bad (l := l) (p := p) h1 (by omega) (.inl (by omega))] at h; exact h
    · rw [wide_bad (l := l) (p := p) h1 (by omega) (.inr (by omega))] at h; exact h
    · rw [show IntKind.wrap .i64 ((i : Int) + 1) = ((i + 1 : Nat) : Int) by rw [wrap64 (by omega) (by omega)]; simp]
      refine ih (i + 1) (by omega) (by omega) (fun j a b => ?_)
      by_cases e : j = i
      · subst e; omega
      · exact hc j a (by omega)

theorem w9 (hl : l.length ≤ 10 * big) (hp : p < l.length) (h : Post (.int .i64 (wideM l p : Nat)) []) :
    AWP Try.prog 96 0 c167_9 [(0, .str (B l)), (1, .int .i64 p), (5, .int .i64 (nOf (bt l p 0) : Nat)), (6, .int .i64 (bt l p 0 : Nat))] [] (q167_0 0 Post) := by
  have hcs := nOf_cases (bt l p 0)
  have hl' := hl
  unfold big at hl'
  refine v167_9 _ _ _ _ _ _ (condE (fun e => ?_) fun e => ?_)
  · rw [wide_short (l := l) (p := p) (.inr (by omega))] at h; exact h
  rw [B_size, wrap64 (x := (l.length : Int) - (p : Int)) (by omega) (by omega)]
  refine condD (fun e2 => ?_) fun e2 => ?_
  · rw [wide_short (l := l) (p := p) (.inl (by omega))] at h; exact h
  · refine v167_11 _ _ _ _ _ _ ?_
    exact w12 hl (by omega) (by omega) h (nOf (bt l p 0) - 1) 1 (by omega) (by omega) (fun j a b => by omega)

theorem wide_spec0 (hl : l.length ≤ 10 * big) (hp : p < l.length) : ASpec Try.prog 167 [.str (B l), .int .i64 p] [] (fun r H' => r = .int .i64 (wideM l p : Nat) ∧ H' = []) := by
  have h256 := bt_lt l p 0
  have hcs := nOf_cases (bt l p 0)
  have k9 : ∀ n : Int, n = (nOf (bt l p 0) : Nat) → AWP Try.prog 96 0 c167_9 [(0, .str (B l)), (1, .int .i64 p), (5, .int .i64 n), (6, .int .i64 (bt l p 0 : Nat))] [] (q167_0 0 (fun r H' => r = .int .i64 (wideM l p : Nat) ∧ H' = [])) := by
    intro n e; subst e; exact w9 hl hp ⟨rfl, rfl⟩
  refine s167 _ _ _ (needJ ⟨by omega, by rw [B_size]; omega⟩ ?_)
  rw [Int.toNat_natCast, show ((List.getD (Array.toList (ByteArray.data (B l))) p 0).toNat : Int) = (bt l p 0 : Nat) from rfl, wrapN (n := bt l p 0) (by omega)]
  generalize nOf (bt l p 0) = n at *
  generalize bt l p 0 = b0 at *
  have k7 : ∀ m : Int, m = (if 240 ≤ b0 ∧ b0 ≤ 244 then m else (n : Int)) → AWP Try.prog 96 0 c167_7 [(0, .str (B l)), (1, .int .i64 p), (5, .int .i64 m), (6, .int .i64 (b0 : Nat))] [] (q167_0 0 (fun r H' => r = .int .i64 (wideM l p : Nat) ∧ H' = [])) := by
    intro m hm
    refine v167_7 _ _ _ _ _ _ (condD (fun _ => condD (fun _ => k9 _ (by omega)) fun _ => k9 _ ?_) fun _ => k9 _ ?_)
    · rw [if_neg (by omega)] at hm; exact hm
    · rw [if_neg (by omega)] at hm; exact hm
  have k5 : ∀ m : Int, m = (if 224 ≤ b0 ∧ b0 ≤ 244 then m else (n : Int)) → AWP Try.prog 96 0 c167_5 [(0, .str (B l)), (1, .int .i64 p), (5, .int .i64 m), (6, .int .i64 (b0 : Nat))] [] (q167_0 0 (fun r H' => r = .int .i64 (wideM l p : Nat) ∧ H' = [])) := by
    intro m hm
    refine v167_5 _ _ _ _ _ _ (condD (fun _ => condD (fun _ => k7 _ ?_) fun _ => k7 _ ?_) fun _ => k7 _ ?_)
    · rw [if_neg (by omega)]; omega
    · split
      · rfl
      · rw [if_neg (by omega)] at hm; exact hm
    · split
      · rfl
      · rw [if_neg (by omega)] at hm; exact hm
  refine condD (fun _ => condD (fun _ => k5 _ ?_) fun _ => k5 _ ?_) fun _ => k5 _ ?_
  · rw [if_neg (by omega)]; omega
  · split
    · rfl
    · omega
  · split
    · rfl
    · omega

theorem wide_spec (hl : l.length ≤ 10 * big) (hp : p < l.length) (H : List AObj) : ASpec Try.prog 167 [.str (B l), .int .i64 p] H (fun r H' => r = .int .i64 (wideM l p : Nat) ∧ H' = H) :=
  ASpec.pureH H (wide_spec0 hl hp) _ _ rfl rfl

end
end S
