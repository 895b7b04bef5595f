/- Bytes and runes: plain facts. -/
import Derived.Test.YtifbfcljgagacaaDoorDMath
set_option linter.unusedVariables false
set_option linter.unusedSimpArgs false
set_option maxRecDepth 100000
open Go Go.Ab
namespace D

abbrev B (l : List UInt8) : ByteArray := ⟨l.toArray⟩

theorem B_data (s : ByteArray) : B s.data.toList = s := rfl
theorem B_size (l : List UInt8) : (B l).size = l.length := by simp [ByteArray.size]
theorem B_toList (l : List UInt8) : (B l).toList = l := by rw [ByteArray.toList_eq]
theorem B_append (a b : List UInt8) : B a ++ B b = B (a ++ b) := by
  apply ByteArray.ext
  simp
theorem B_inj {a b : List UInt8} : B a = B b ↔ a = b := by
  constructor
  · intro h
    have := congrArg (fun s : ByteArray => s.data.toList) h
    simpa using this
  · rintro rfl; rfl
theorem B_beq (a b : List UInt8) : ((B a).toList == (B b).toList) = (a == b) := by rw [B_toList, B_toList]
theorem B_extract (l : List UInt8) (i j : Nat) (h : j ≤ l.length) : (B l).extract i j = B ((l.take j).drop i) := by
  apply ByteArray.ext
  apply Array.toList_inj.1
  simp [List.drop_take]

theorem condS {a b : List UInt8} {A C : Prop} (h1 : a = b → A) (h2 : a ≠ b → C) : condP ((B a).toList == (B b).toList) A C := by
  rw [B_beq]
  by_cases h : a = b
  · rw [beq_iff_eq.2 h]; exact h1 h
  · rw [beq_eq_false_iff_ne.2 h]; exact h2 h

theorem bytesOf_one {x : Int} : bytesOf (.raw [[.int .u8 x]]) = B [UInt8.ofNat x.toNat] := rfl
theorem allBytes_one {x : Int} : allBytes (.raw [[.int .u8 x]]) := by
  intro y hy
  simp only [Seq.toList, List.mem_singleton] at hy
  exact ⟨x, hy⟩

/-! ### the rune at a place -/

/-- a byte behind a place -/
abbrev bt (l : List UInt8) (p k : Nat) : Nat := (l.getD (p + k) 0).toNat

theorem bt_lt (l : List UInt8) (p k : Nat) : bt l p k < 256 := (l.getD (p + k) 0).toNat_lt

theorem get_B (l : List UInt8) (j : Nat) : (B l).get! j = l.getD j 0 := by
  show l.toArray[j]! = _
  rw [getElem!_def]
  simp [List.getD]
  rfl

abbrev wideC (a b0 b1 b2 b3 : Nat) : Nat :=
  if 194 ≤ b0 ∧ b0 ≤ 223 then (if 2 ≤ a ∧ (128 ≤ b1 ∧ b1 ≤ 191) then 2 else 0)
  else if 224 ≤ b0 ∧ b0 ≤ 239 then (if 3 ≤ a ∧ (128 ≤ b1 ∧ b1 ≤ 191) ∧ (128 ≤ b2 ∧ b2 ≤ 191) ∧ ¬ (b0 = 224 ∧ b1 < 160) ∧ ¬ (b0 = 237 ∧ 159 < b1) then 3 else 0)
  else if 240 ≤ b0 ∧ b0 ≤ 244 then (if 4 ≤ a ∧ (128 ≤ b1 ∧ b1 ≤ 191) ∧ (128 ≤ b2 ∧ b2 ≤ 191) ∧ (128 ≤ b3 ∧ b3 ≤ 191) ∧ ¬ (b0 = 240 ∧ b1 < 144) ∧ ¬ (b0 = 244 ∧ 143 < b1) then 4 else 0)
  else 0

def wideM (l : List UInt8) (p : Nat) : Nat := wideC (l.length - p) (bt l p 0) (bt l p 1) (bt l p 2) (bt l p 3)

abbrev runeC (w b0 b1 b2 b3 : Nat) : Nat × Nat :=
  if b0 < 128 then (b0, 1) else if w = 0 then (65533, 1) else if w = 2 then (b0 % 32 * 64 + b1 % 64, 2)
  else if w = 3 then ((b0 % 16 * 64 + b1 % 64) * 64 + b2 % 64, 3) else (((b0 % 8 * 64 + b1 % 64) * 64 + b2 % 64) * 64 + b3 % 64, 4)

def runeM (l : List UInt8) (p : Nat) : Nat × Nat := runeC (wideM l p) (bt l p 0) (bt l p 1) (bt l p 2) (bt l p 3)

theorem decode_core (a b0 b1 b2 b3 : Nat) (h0 : b0 < 256) (h1 : b1 < 256) (h2 : b2 < 256) (h3 : b3 < 256) :
    (if b0 < 128 then (b0, 1)
     else if b0 / 32 = 6 ∧ (1 < a ∧ b1 / 64 = 2) then (if 128 ≤ b0 % 32 * 64 + b1 % 64 then (b0 % 32 * 64 + b1 % 64, 2) else (65533, 1))
     else if b0 / 16 = 14 ∧ (1 < a ∧ b1 / 64 = 2) ∧ (2 < a ∧ b2 / 64 = 2) then
       (if 2048 ≤ b0 % 16 * 4096 + b1 % 64 * 64 + b2 % 64 ∧ (b0 % 16 * 4096 + b1 % 64 * 64 + b2 % 64 < 55296 ∨ (57344 ≤ b0 % 16 * 4096 + b1 % 64 * 64 + b2 % 64 ∧ b0 % 16 * 4096 + b1 % 64 * 64 + b2 % 64 ≤ 1114111))
        then (b0 % 16 * 4096 + b1 % 64 * 64 + b2 % 64, 3) else (65533, 1))
     else if b0 / 8 = 30 ∧ (1 < a ∧ b1 / 64 = 2) ∧ (2 < a ∧ b2 / 64 = 2) ∧ (3 < a ∧ b3 / 64 = 2) then
       (if 65536 ≤ b0 % 8 * 262144 + b1 % 64 * 4096 + b2 % 64 * 64 + b3 % 64 ∧ (b0 % 8 * 262144 + b1 % 64 * 4096 + b2 % 64 * 64 + b3 % 64 < 55296 ∨ (57344 ≤ b0 % 8 * 262144 + b1 % 64 * 4096 + b2 % 64 * 64 + b3 % 64 ∧ b0 % 8 * 262144 + b1 % 64 * 4096 + b2 % 64 * 64 + b3 % 64 ≤ 1114111))
        then (b0 % 8 * 262144 + b1 % 64 * 4096 + b2 % 64 * 64 + b3 % 64, 4) else (65533, 1))
     else ((65533 : Nat), (1 : Nat))) = runeC (wideC a b0 b1 b2 b3) b0 b1 b2 b3 := by
  have e2 : ∀ w : Nat, w = 0 ∨ w = 2 ∨ w = 3 ∨ w = 4 ∨ 4 < w ∨ w = 1 := by omega
  by_cases c0 : b0 < 128
  · rw [if_pos c0]; unfold runeC; rw [if_pos c0]
  rw [if_neg c0]
  unfold runeC
  rw [if_neg c0]
  by_cases c1 : 194 ≤ b0 ∧ b0 ≤ 223
  · unfold wideC
    rw [if_pos c1]
    by_cases d : 1 < a ∧ b1 / 64 = 2
    · rw [if_pos ⟨by omega, d⟩, if_pos (by omega), if_pos (show 2 ≤ a ∧ (128 ≤ b1 ∧ b1 ≤ 191) by omega)]; rfl
    · rw [if_neg (fun h => d h.2), if_neg (fun h => d h.2.1), if_neg (fun h => d h.2.1), if_neg (show ¬ (2 ≤ a ∧ (128 ≤ b1 ∧ b1 ≤ 191)) by omega)]; rfl
  by_cases c2 : 224 ≤ b0 ∧ b0 ≤ 239
  · unfold wideC
    rw [if_neg c1, if_pos c2]
    rw [if_neg (show ¬ (b0 / 32 = 6 ∧ (1 < a ∧ b1 / 64 = 2)) by omega)]
    by_cases d : (1 < a ∧ b1 / 64 = 2) ∧ (2 < a ∧ b2 / 64 = 2)
    · rw [if_pos ⟨by omega, d⟩]
      by_cases f : ¬ (b0 = 224 ∧ b1 < 160) ∧ ¬ (b0 = 237 ∧ 159 < b1)
      · rw [if_pos (show 3 ≤ a ∧ (128 ≤ b1 ∧ b1 ≤ 191) ∧ (128 ≤ b2 ∧ b2 ≤ 191) ∧ ¬ (b0 = 224 ∧ b1 < 160) ∧ ¬ (b0 = 237 ∧ 159 < b1) by omega), if_pos (by omega)]
        simp only [if_neg (show ¬ (3 = 0) by omega), if_neg (show ¬ (3 = 2) by omega), if_true]
        rw [show b0 % 16 * 4096 + b1 % 64 * 64 + b2 % 64 = (b0 % 16 * 64 + b1 % 64) * 64 + b2 % 64 by omega]
      · rw [if_neg (show ¬ (3 ≤ a ∧ (128 ≤ b1 ∧ b1 ≤ 191) ∧ (128 ≤ b2 ∧ b2 ≤ 191) ∧ ¬ (b0 = 224 ∧ b1 < 160) ∧ ¬ (b0 = 237 ∧ 159 < b1)) by omega), if_neg (by omega)]; rfl
    · rw [if_neg (fun h => d h.2), if_neg (show ¬ (b0 / 8 = 30 ∧ (1 < a ∧ b1 / 64 = 2) ∧ (2 < a ∧ b2 / 64 = 2) ∧ (3 < a ∧ b3 / 64 = 2)) by omega),
        if_neg (show ¬ (3 ≤ a ∧ (128 ≤ b1 ∧ b1 ≤ 191) ∧ (128 ≤ b2 ∧ b2 ≤ 191) ∧ ¬ (b0 = 224 ∧ b1 < 160) ∧ ¬ (b0 = 237 ∧ 159 < b1)) by omega)]; rfl
  by_cases c3 : 240 ≤ b0 ∧ b0 ≤ 244
  · unfold wideC
    rw [if_neg c1, if_neg c2, if_pos c3]
    rw [if_neg (show ¬ (b0 / 32 = 6 ∧ (1 < a ∧ b1 / 64 = 2)) by omega), if_neg (show ¬ (b0 / 16 = 14 ∧ (1 < a ∧ b1 / 64 = 2) ∧ (2 < a ∧ b2 / 64 = 2)) by omega)]
    by_cases d : (1 < a ∧ b1 / 64 = 2) ∧ (2 < a ∧ b2 / 64 = 2) ∧ (3 < a ∧ b3 / 64 = 2)
    · rw [if_pos ⟨by omega, d⟩]
      by_cases f : ¬ (b0 = 240 ∧ b1 < 144) ∧ ¬ (b0 = 244 ∧ 143 < b1)
      · rw [if_pos (show 4 ≤ a ∧ (128 ≤ b1 ∧ b1 ≤ 191) ∧ (128 ≤ b2 ∧ b2 ≤ 191) ∧ (128 ≤ b3 ∧ b3 ≤ 191) ∧ ¬ (b0 = 240 ∧ b1 < 144) ∧ ¬ (b0 = 244 ∧ 143 < b1) by omega), if_pos (by omega)]
        simp only [if_neg (show ¬ (4 = 0) by omega), if_neg (show ¬ (4 = 2) by omega), if_neg (show ¬ (4 = 3) by omega)]
        rw [show b0 % 8 * 262144 + b1 % 64 * 4096 + b2 % 64 * 64 + b3 % 64 = ((b0 % 8 * 64 + b1 % 64) * 64 + b2 % 64) * 64 + b3 % 64 by omega]
      · rw [if_neg (show ¬ (4 ≤ a ∧ (128 ≤ b1 ∧ b1 ≤ 191) ∧ (128 ≤ b2 ∧ b2 ≤ 191) ∧ (128 ≤ b3 ∧ b3 ≤ 191) ∧ ¬ (b0 = 240 ∧ b1 < 144) ∧ ¬ (b0 = 244 ∧ 143 < b1)) by omega), if_neg (by omega)]; rfl
    · rw [if_neg (fun h => d h.2), if_neg (show ¬ (4 ≤ a ∧ (128 ≤ b1 ∧ b1 ≤ 191) ∧ (128 ≤ b2 ∧ b2 ≤ 191) ∧ (128 ≤ b3 ∧ b3 ≤ 191) ∧ ¬ (b0 = 240 ∧ b1 < 144) ∧ ¬ (b0 = 244 ∧ 143 < b1)) by omega)]; rfl
  · unfold wideC
    rw [if_neg c1, if_neg c2, if_neg c3]
    by_cases d : b0 / 32 = 6 ∧ (1 < a ∧ b1 / 64 = 2)
    · rw [if_pos d, if_neg (by omega)]; rfl
    rw [if_neg d, if_neg (show ¬ (b0 / 16 = 14 ∧ (1 < a ∧ b1 / 64 = 2) ∧ (2 < a ∧ b2 / 64 = 2)) by omega)]
    by_cases f : b0 / 8 = 30 ∧ (1 < a ∧ b1 / 64 = 2) ∧ (2 < a ∧ b2 / 64 = 2) ∧ (3 < a ∧ b3 / 64 = 2)
    · rw [if_pos f, if_neg (by omega)]; rfl
    · rw [if_neg f]; rfl

theorem validN (n : Nat) : Utf8.valid (n : Int) = (decide (n < 55296) || (decide (57344 ≤ n) && decide (n ≤ 1114111))) := by
  unfold Utf8.valid
  rw [Bool.eq_iff_iff]
  simp only [Bool.and_eq_true, Bool.or_eq_true, decide_eq_true_eq]
  omega

set_option maxRecDepth 100000 in
theorem decode_eq (l : List UInt8) (p : Nat) (hp : p < l.length) : Utf8.decode (B l) p = runeM l p := by
  unfold runeM wideM
  rw [← decode_core (l.length - p) _ _ _ _ (bt_lt l p 0) (bt_lt l p 1) (bt_lt l p 2) (bt_lt l p 3)]
  have hb : ∀ k, ((B l).get! (p + k)).toNat = bt l p k := fun k => by rw [get_B]
  have hc : ∀ k, decide (p + k < (B l).size) = decide (k < l.length - p) := fun k => by rw [B_size]; apply decide_eq_decide.2; omega
  unfold Utf8.decode
  simp only [hb, hc, validN]
  generalize bt l p 0 = b0
  generalize bt l p 1 = b1
  generalize bt l p 2 = b2
  generalize bt l p 3 = b3
  generalize l.length - p = a
  simp only [Utf8.runeError, Bool.and_eq_true, Bool.or_eq_true, decide_eq_true_eq, beq_iff_eq, ge_iff_le, and_assoc]

theorem runeM_width (l : List UInt8) (p : Nat) : 1 ≤ (runeM l p).2 ∧ (runeM l p).2 ≤ 4 := by
  unfold runeM runeC
  repeat' split
  all_goals simp

theorem wideM_cases (l : List UInt8) (p : Nat) : wideM l p = 0 ∨ (wideM l p = 2 ∧ 194 ≤ bt l p 0 ∧ bt l p 0 ≤ 223 ∧ p + 2 ≤ l.length) ∨
    (wideM l p = 3 ∧ 224 ≤ bt l p 0 ∧ bt l p 0 ≤ 239 ∧ p + 3 ≤ l.length ∧ (128 ≤ bt l p 1 ∧ bt l p 1 ≤ 191) ∧ ¬ (bt l p 0 = 224 ∧ bt l p 1 < 160)) ∨
    (wideM l p = 4 ∧ 240 ≤ bt l p 0 ∧ bt l p 0 ≤ 244 ∧ p + 4 ≤ l.length ∧ (128 ≤ bt l p 1 ∧ bt l p 1 ≤ 191) ∧ ¬ (bt l p 0 = 240 ∧ bt l p 1 < 144)) := by
  unfold wideM wideC
  repeat' split
  all_goals omega


theorem decode_lt {l : List UInt8} {p : Nat} (hp : p < l.length) (h : (l.getD p 0).toNat < 128) : Utf8.decode (B l) p = ((l.getD p 0).toNat, 1) := by
  rw [decode_eq l p hp]
  unfold runeM runeC
  rw [if_pos (show bt l p 0 < 128 from h)]
  rfl

theorem decode_ge {l : List UInt8} {p : Nat} (hp : p < l.length) (h : 128 ≤ (l.getD p 0).toNat) : 57 < (Utf8.decode (B l) p).1 := by
  rw [decode_eq l p hp]
  have h0 : 128 ≤ bt l p 0 := h
  have hc := wideM_cases l p
  unfold runeM runeC
  rw [if_neg (by omega)]
  repeat' split
  all_goals simp only
  all_goals omega
end D
