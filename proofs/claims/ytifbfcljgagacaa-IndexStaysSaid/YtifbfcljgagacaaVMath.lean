/- The plain law of numbers as bytes. -/
import Derived.Test.YtifbfcljgagacaaAbUse
namespace V

/-- the digits that go on -/
def lead (v : Nat) : List UInt8 := if _h : v = 0 then [] else lead (v / 128) ++ [UInt8.ofNat (128 + v % 128)]
  termination_by v
  decreasing_by omega

def enc (v : Nat) : List UInt8 := lead (v / 128) ++ [UInt8.ofNat (v % 128)]

theorem lead_zero : lead 0 = [] := by rw [lead]; simp
theorem lead_pos {v : Nat} (h : 0 < v) : lead v = lead (v / 128) ++ [UInt8.ofNat (128 + v % 128)] := by rw [lead, dif_neg (by omega)]

/-- a number that is held -/
def held (x : Int) : Nat := (min (max x 0) 1099511627776).toNat

theorem held_le (x : Int) : held x ≤ 1099511627776 := by unfold held; omega
theorem held_of {x : Int} (h0 : 0 ≤ x) (h1 : x ≤ 1099511627776) : (held x : Int) = x := by unfold held; omega

/-- digits from the j-th down to the first -/
def down (v : Nat) : Nat → List UInt8
  | 0 => []
  | j + 1 => UInt8.ofNat (128 + v / 128 ^ (j + 1) % 128) :: down v j

theorem down_succ (v : Nat) : ∀ j, down v (j + 1) = down (v / 128) j ++ [UInt8.ofNat (128 + v / 128 % 128)]
  | 0 => by simp [down]
  | j + 1 => by
    rw [down, down_succ v j, down]
    have : v / 128 ^ (j + 1 + 1) = v / 128 / 128 ^ (j + 1) := by rw [Nat.div_div_eq_div_mul, Nat.pow_succ 128 (j + 1), Nat.mul_comm]
    rw [this]; rfl

theorem down_lead : ∀ (j v : Nat), v / 128 ^ j < 128 → (j = 0 ∨ 128 ^ j ≤ v) → down v j = lead (v / 128)
  | 0, v, h, _ => by
    have : v / 128 = 0 := by simp at h; omega
    rw [this, lead_zero]; rfl
  | j + 1, v, h, hj => by
    have hv : 128 ^ (j + 1) ≤ v := by rcases hj with e | e; · cases e
                                      · exact e
    have hp : 0 < 128 ^ j := Nat.pos_of_ne_zero (by simp)
    have h128 : 128 ≤ v := Nat.le_trans (by rw [Nat.pow_succ]; omega) hv
    rw [down_succ, lead_pos (by omega : 0 < v / 128)]
    congr 1
    refine down_lead j (v / 128) ?_ (.inr ?_)
    · rw [Nat.div_div_eq_div_mul, Nat.mul_comm, ← Nat.pow_succ]; exact h
    · rw [Nat.le_div_iff_mul_le (by omega), ← Nat.pow_succ]; exact hv

theorem lead_length : ∀ (k v : Nat), v < 128 ^ k → (lead v).length ≤ k
  | 0, v, h => by
    have : v = 0 := by simp at h; omega
    subst this; simp [lead_zero]
  | k + 1, v, h => by
    rcases Nat.eq_zero_or_pos v with e | e
    · subst e; simp [lead_zero]
    · rw [lead_pos e]
      have := lead_length k (v / 128) (by rw [Nat.div_lt_iff_lt_mul (by omega), ← Nat.pow_succ]; exact h)
      simp; omega

theorem enc_length (v : Nat) (h : v ≤ 1099511627776) : (enc v).length ≤ 6 := by
  have := lead_length 5 (v / 128) (by omega)
  simp [enc]; omega

end V
