/- VlqOrder: the law's function returns true. -/
import Derived.Test.YtifbfcljgagacaaVObj
set_option linter.unusedVariables false
set_option linter.unusedSimpArgs false
open Go Go.Ab Go.Proofs
namespace V

theorem less_pre (l : List UInt8) {a b : List UInt8} (h : Op.bytesLess a b = true) : Op.bytesLess (l ++ a) (l ++ b) = true := by
  induction l with
  | nil => exact h
  | cons c l ih => simp [Op.bytesLess, ih]

theorem less_app : ∀ {a b : List UInt8}, a.length = b.length → Op.bytesLess a b = true → ∀ x y : List UInt8, Op.bytesLess (a ++ x) (b ++ y) = true
  | [], [], _, h, x, y => by simp [Op.bytesLess] at h
  | c :: a, d :: b, hl, h, x, y => by
    simp only [Op.bytesLess, List.cons_append, Bool.or_eq_true, Bool.and_eq_true, decide_eq_true_eq, beq_iff_eq] at h ⊢
    rcases h with h | ⟨h1, h2⟩
    · exact .inl h
    · exact .inr ⟨h1, less_app (by simpa using hl) h2 x y⟩
  | [], _ :: _, hl, _, _, _ => by simp at hl
  | _ :: _, [], hl, _, _, _ => by simp at hl

def Below' (a b : List UInt8) : Prop := a.length < b.length ∨ (a.length = b.length ∧ Op.bytesLess a b = true)

theorem ofNat_lt {a b : Nat} (hb : b < 256) (h : a < b) : UInt8.ofNat a < UInt8.ofNat b := by
  rw [UInt8.lt_iff_toNat_lt, UInt8.toNat_ofNat', UInt8.toNat_ofNat', Nat.mod_eq_of_lt (by omega), Nat.mod_eq_of_lt (by omega)]
  exact h

theorem below_snoc {a b : List UInt8} {c d : UInt8} (h : Below' a b ∨ (a = b ∧ c < d)) : Below' (a ++ [c]) (b ++ [d]) := by
  rcases h with (h | ⟨h1, h2⟩) | ⟨rfl, h⟩
  · left; simp; exact h
  · right; exact ⟨by simp [h1], less_app h1 h2 _ _⟩
  · right; exact ⟨by simp, less_pre a (by simp [Op.bytesLess, h])⟩

theorem lead_order : ∀ (n a b : Nat), b ≤ n → a < b → Below' (lead a) (lead b)
  | 0, a, b, hn, h => by omega
  | n + 1, a, b, hn, h => by
    rcases Nat.eq_zero_or_pos a with e | e
    · subst e
      rw [lead_zero, lead_pos h]
      left; simp
    · rw [lead_pos e, lead_pos (by omega : 0 < b)]
      refine below_snoc ?_
      rcases Nat.lt_or_ge (a / 128) (b / 128) with q | q
      · exact .inl (lead_order n _ _ (by omega) q)
      · have : a / 128 = b / 128 := by omega
        exact .inr ⟨by rw [this], ofNat_lt (by omega) (by omega)⟩

theorem enc_order {a b : Nat} (h : a < b) : Below' (enc a) (enc b) := by
  unfold enc
  refine below_snoc ?_
  rcases Nat.lt_or_ge (a / 128) (b / 128) with q | q
  · exact .inl (lead_order _ _ _ (Nat.le_refl _) q)
  · have : a / 128 = b / 128 := by omega
    exact .inr ⟨by rw [this], ofNat_lt (by omega) (by omega)⟩

/-- a law's end: true, whatever is left in the heap -/
theorem endTrue {P : Program} {f : FuncId} {args : List AV} (h : ASpec P f args [] (fun r _ => r = .bool true)) : ASpec P f args [] (fun r H' => r = .bool true ∧ H' = []) :=
  ASpec.sel (h.mono fun r H' e => ⟨[], [], .bool true, Sel.none, by subst e; exact Le.refl _, rfl, rfl⟩)

theorem awakeT {H : List AObj} {K : Prop} (h : K) : ASpec Try.prog 16 [] H (fun r H' => ∃ x : Unit, r = .bool true ∧ H' = H ∧ K) :=
  ASpec.call (awake_spec H) (Les.refl _) ⟨(), rfl, rfl, h⟩

theorem vlqOrder_spec (a b : Int) : ASpec Try.prog 3 [.int .i64 a, .int .i64 b] [] (fun r H' => r = .bool true ∧ H' = []) := by
  refine endTrue (s3 _ _ _ (condD (fun _ => awakeT rfl) fun h1 => condD (fun _ => awakeT rfl) fun h2 => condD (fun _ => awakeT rfl) fun h3 => ?_))
  refine put1 a _ ⟨_, rfl, rfl, needJ (allBytes_map _) (put1 b _ ⟨_, rfl, rfl, needJ (allBytes_map _) ?_⟩)⟩
  have ha := held_of (x := a) (by omega) (by omega)
  have hb := held_of (x := b) (by omega) (by omega)
  have ho := enc_order (a := held a) (b := held b) (by omega)
  rw [bytesOf_map, bytesOf_map, B_toList, B_toList, B_size, B_size]
  rcases ho with h | ⟨h4, h5⟩
  · refine condD (fun _ => awakeT rfl) fun h => by omega
  · refine condD (fun _ => awakeT rfl) fun _ => condE (fun _ => ?_) fun h => by omega
    rw [h5]
    exact awakeT rfl

end V
