/- The reader of bytes: what its methods compute. -/
import Derived.Test.YtifbfcljgagacaaVPut
set_option linter.unusedVariables false
set_option linter.unusedSimpArgs false
open Go Go.Ab Go.Proofs
namespace V

def scan : Nat → List UInt8 → Nat → Nat → Int ⊕ (Nat × Nat)
  | 0, _, _, _ => .inl 4
  | _ + 1, [], _, _ => .inl 2
  | f + 1, c :: s, x, i => if 128 ≤ c.toNat then scan f s (x * 128 + c.toNat % 128) (i + 1) else .inr (x * 128 + c.toNat % 128, i + 1)

/-- the number ahead, how many bytes it has, and what is wrong -/
def lookM (s : List UInt8) (most : Int) : Int × Nat × Int :=
  match s with
  | [] => (0, 0, 2)
  | c :: _ => if c = 128 then (0, 0, 3) else match scan 6 s 0 0 with
    | .inl e => (0, 0, e)
    | .inr (n, k) => if (n : Int) > min most 1099511627776 then (0, 0, 4) else (n, k, 0)

theorem getD_drop (bs : List UInt8) (q : Nat) (h : q < bs.length) : bs.drop q = bs.getD q 0 :: bs.drop (q + 1) := by
  rw [List.drop_eq_getElem_cons h]
  simp [List.getD, List.getElem?_eq_getElem h]

def peekP (bs : List UInt8) (p : Nat) (most : Int) (Post : AV → List AObj → Prop) : Int ⊕ (Nat × Nat) → Prop
  | .inl e => Post (.tup [.int .i64 0, .int .i64 p]) [rd bs p e]
  | .inr (n, k) => if (n : Int) > min most 1099511627776 then Post (.tup [.int .i64 0, .int .i64 p]) [rd bs p 4] else Post (.tup [.int .i64 n, .int .i64 (p + k : Nat)]) [rd bs p 0]

theorem min_if (most : Int) : (if 1099511627776 < most then 1099511627776 else most) = min most 1099511627776 := by
  split <;> omega

theorem peek9 {bs : List UInt8} {p : Nat} {most : Int} {Post : AV → List AObj → Prop} (hb : bs.length ≤ big) (hp : p ≤ bs.length) : ∀ (f i x : Nat), f + i = 6 → p + i ≤ bs.length → x < 128 ^ i →
    peekP bs p most Post (scan f (bs.drop (p + i)) x i) →
    AWP Try.prog 113 1 c88_9 [(0, .ptr 0 0), (1, .int .i64 most), (6, .int .i64 x), (44, .int .i64 i)] [rd bs p 0] (q88_2 1 Post) := by
  intro f
  unfold big at hb
  induction f with
  | zero =>
    intro i x hf hpi hx h
    refine v88_9 _ _ _ _ _ _ _ _ (condD (fun hc => by omega) fun hc => ⟨⟨rfl, rfl⟩, h⟩)
  | succ f ih =>
    intro i x hf hpi hx h
    have hi6 : (128 : Nat) ^ i ≤ 128 ^ 5 := Nat.pow_le_pow_right (by omega) (by omega)
    have h5 : (128 : Nat) ^ 5 = 34359738368 := by decide
    have hwp : IntKind.wrap .i64 ((p : Int) + i) = ((p + i : Nat) : Int) := by rw [wrap64 (by omega) (by omega)]; simp
    refine v88_9 _ _ _ _ _ _ _ _ (condD (fun hc => ?_) fun hc => by omega)
    rw [hwp]
    refine condE (fun he => ?_) fun he => ?_
    · have he : p + i = bs.length := by omega
      refine ⟨⟨rfl, rfl⟩, ?_⟩
      rw [List.drop_eq_nil_of_le (by omega)] at h
      exact h
    · have he : p + i ≠ bs.length := by omega
      refine needJ (by omega) (needJ (by decide) ?_)
      rw [Int.toNat_natCast]
      rw [getD_drop bs (p + i) (by omega)] at h
      generalize bs.getD (p + i) 0 = c at h ⊢
      have hc8 : c.toNat < 256 := c.toNat_lt
      have hwc : IntKind.wrap .i64 (c.toNat : Int) = (c.toNat : Int) := wrapN (by omega)
      have hx1 : IntKind.wrap .i64 (IntKind.wrap .i64 ((x : Int) * 128) + (c.toNat : Int).tmod 128) = ((x * 128 + c.toNat % 128 : Nat) : Int) := by
        rw [show (128 : Int) = ((128 : Nat) : Int) from rfl, tmodN, wrap64 (x := (x : Int) * ((128 : Nat) : Int)) (by omega) (by omega), wrap64 (by omega) (by omega)]
        simp
      rw [hwc, hx1]
      simp only [scan] at h
      refine condD (fun hg => ?_) fun hg => ?_
      · rw [if_pos (by omega)] at h
        rw [show IntKind.wrap .i64 ((i : Int) + 1) = ((i + 1 : Nat) : Int) by rw [wrap64 (by omega) (by omega)]; simp]
        refine ih (i + 1) _ (by omega) (by omega) ?_ ?_
        · rw [Nat.pow_succ]; omega
        · exact h
      · rw [if_neg (by omega)] at h
        simp only [peekP] at h
        rw [min_if]
        refine condD (fun hm => ?_) fun hm => ?_
        · rw [if_pos hm] at h
          exact ⟨⟨rfl, rfl⟩, h⟩
        · rw [if_neg hm] at h
          rw [show IntKind.wrap .i64 (((p + i : Nat) : Int) + 1) = ((p + (i + 1) : Nat) : Int) by rw [wrap64 (by omega) (by omega)]; omega]
          exact ⟨⟨rfl, rfl⟩, h⟩

theorem peek_spec {bs : List UInt8} {p : Nat} (most : Int) (hb : bs.length ≤ big) (hp : p ≤ bs.length) :
    ASpec Try.prog 88 [.ptr 0 0, .int .i64 most] [rd bs p 0] (fun r H' => r = .tup [.int .i64 (lookM (bs.drop p) most).1, .int .i64 (p + (lookM (bs.drop p) most).2.1 : Nat)] ∧ H' = [rd bs p (lookM (bs.drop p) most).2.2]) := by
  refine s88 _ _ _ _ _ (condE (fun he => ?_) fun he => ?_)
  · have he : p = bs.length := by omega
    rw [List.drop_eq_nil_of_le (by omega)]
    exact ⟨⟨rfl, rfl⟩, rfl, rfl⟩
  · have he : p ≠ bs.length := by omega
    refine needJ (by omega) ?_
    rw [Int.toNat_natCast]
    have hd := getD_drop bs p (by omega)
    refine condE (fun h1 => ?_) fun h1 => ?_
    · have h1 : (bs.getD p 0) = 128 := by
        have : (bs.getD p 0).toNat = 128 := by omega
        exact UInt8.toNat_inj.1 this
      have e : lookM (bs.drop p) most = (0, 0, 3) := by rw [hd]; simp only [lookM, if_pos h1]
      rw [e]
      exact ⟨⟨rfl, rfl⟩, rfl, rfl⟩
    · have h1 : (bs.getD p 0) ≠ 128 := by
        intro e
        rw [e] at h1
        exact h1 rfl
      refine peek9 hb hp 6 0 0 rfl (by omega) (by simp) ?_
      rw [Nat.add_zero]
      have e : lookM (bs.drop p) most = match scan 6 (bs.drop p) 0 0 with
        | .inl e => (0, 0, e)
        | .inr (n, k) => if (n : Int) > min most 1099511627776 then (0, 0, 4) else (n, k, 0) := by
        rw [hd]; simp only [lookM, if_neg h1]
      rw [e]
      cases scan 6 (bs.drop p) 0 0 with
      | inl er => exact ⟨rfl, rfl⟩
      | inr nk =>
        obtain ⟨n, k⟩ := nk
        simp only [peekP]
        split
        · exact ⟨rfl, rfl⟩
        · exact ⟨rfl, rfl⟩

theorem scan_le : ∀ (f : Nat) (s : List UInt8) (x i n k : Nat), scan f s x i = .inr (n, k) → i < k ∧ k ≤ i + s.length
  | 0, s, x, i, n, k, h => by simp [scan] at h
  | f + 1, [], x, i, n, k, h => by simp [scan] at h
  | f + 1, c :: s, x, i, n, k, h => by
    simp only [scan] at h
    split at h
    · have := scan_le f s _ _ _ _ h
      simp; omega
    · simp at h
      simp; omega

theorem lookM_le (s : List UInt8) (most : Int) : (lookM s most).2.1 ≤ s.length ∧ 0 ≤ (lookM s most).1 ∧ (lookM s most).1 ≤ 1099511627776 ∧ ((lookM s most).2.2 ≠ 0 → (lookM s most).1 = 0 ∧ (lookM s most).2.1 = 0) := by
  cases s with
  | nil => simp [lookM]
  | cons c s =>
    simp only [lookM]
    split
    · simp
    · split
      · simp
      · rename_i n k hs
        have := scan_le _ _ _ _ _ _ hs
        split
        · simp
        · refine ⟨?_, by simp, ?_, by simp⟩
          · show k ≤ _
            omega
          · show (n : Int) ≤ _
            omega

/-- a reader's next number: the answer, the place, the error -/
def numM (bs : List UInt8) (p : Nat) (e most : Int) : Int × Nat × Int :=
  if e ≠ 0 then (0, p, e) else ((lookM (bs.drop p) most).1, p + (lookM (bs.drop p) most).2.1, (lookM (bs.drop p) most).2.2)

def strM (bs : List UInt8) (p : Nat) (e most : Int) : List UInt8 × Nat × Int :=
  if e ≠ 0 then ([], p, e) else
    if (lookM (bs.drop p) most).2.2 ≠ 0 then ([], p, (lookM (bs.drop p) most).2.2) else
    if (lookM (bs.drop p) most).1 > (bs.length : Int) - ((p + (lookM (bs.drop p) most).2.1 : Nat) : Int) then ([], p, 2) else
      ((bs.drop (p + (lookM (bs.drop p) most).2.1)).take (lookM (bs.drop p) most).1.toNat, p + (lookM (bs.drop p) most).2.1 + (lookM (bs.drop p) most).1.toNat, 0)

theorem num_spec0 {bs : List UInt8} {p : Nat} (e most : Int) (hb : bs.length ≤ big) (hp : p ≤ bs.length) :
    ASpec Try.prog 22 [.ptr 0 0, .int .i64 most] [rd bs p e] (fun r H' => r = .int .i64 (numM bs p e most).1 ∧ H' = [rd bs (numM bs p e most).2.1 (numM bs p e most).2.2]) := by
  refine s22 _ _ _ _ _ (condNe (fun he => ?_) fun he => ?_)
  · rw [show numM bs p e most = (0, p, e) by simp only [numM, if_pos he]]
    exact ⟨rfl, rfl⟩
  · subst he
    rw [show numM bs p 0 most = ((lookM (bs.drop p) most).1, p + (lookM (bs.drop p) most).2.1, (lookM (bs.drop p) most).2.2) by simp [numM]]
    refine ASpec.call (peek_spec most hb hp) (Les.refl _) ⟨(_, _, _, _), rfl, rfl, rfl, rfl⟩

theorem str_spec0 {bs : List UInt8} {p : Nat} (e most : Int) (hb : bs.length ≤ big) (hp : p ≤ bs.length) :
    ASpec Try.prog 23 [.ptr 0 0, .int .i64 most] [rd bs p e] (fun r H' => r = .str ⟨(strM bs p e most).1.toArray⟩ ∧ H' = [rd bs (strM bs p e most).2.1 (strM bs p e most).2.2]) := by
  refine s23 _ _ _ _ _ (condNe (fun he => ?_) fun he => ?_)
  · rw [show strM bs p e most = ([], p, e) by simp only [strM, if_pos he]]
    exact ⟨rfl, rfl⟩
  · subst he
    obtain ⟨h1, h2, h3, h4⟩ := lookM_le (bs.drop p) most
    have hs : strM bs p 0 most = if (lookM (bs.drop p) most).2.2 ≠ 0 then ([], p, (lookM (bs.drop p) most).2.2) else
      if (lookM (bs.drop p) most).1 > (bs.length : Int) - ((p + (lookM (bs.drop p) most).2.1 : Nat) : Int) then ([], p, 2) else
      ((bs.drop (p + (lookM (bs.drop p) most).2.1)).take (lookM (bs.drop p) most).1.toNat, p + (lookM (bs.drop p) most).2.1 + (lookM (bs.drop p) most).1.toNat, 0) := by simp [strM]
    refine ASpec.call (peek_spec most hb hp) (Les.refl _) ⟨((lookM (bs.drop p) most).1, ((p + (lookM (bs.drop p) most).2.1 : Nat) : Int), p, (lookM (bs.drop p) most).2.2), rfl, rfl, ?_⟩
    generalize lookM (bs.drop p) most = q at h1 h2 h3 h4 hs ⊢
    obtain ⟨n, k, er⟩ := q
    unfold big at hb
    rw [List.length_drop] at h1
    simp only at h1 h2 h3 h4 hs ⊢
    refine condNe (fun he => ?_) fun he => ?_
    · rw [hs, if_pos he]; exact ⟨rfl, rfl⟩
    · subst he
      rw [wrap64 (x := (bs.length : Int) - ((p + k : Nat) : Int)) (by omega) (by omega)]
      refine condD (fun hg => ?_) fun hg => ?_
      · rw [hs, if_neg (by simp), if_pos hg]; exact ⟨rfl, rfl⟩
      · rw [hs, if_neg (by simp), if_neg hg]
        have hw : IntKind.wrap .i64 (((p + k : Nat) : Int) + n) = ((p + k + n.toNat : Nat) : Int) := by
          have h5 : 0 ≤ n := h2
          rw [wrap64 (x := ((p + k : Nat) : Int) + n) (by omega) (by omega)]; omega
        rw [hw]
        refine needJ (by omega) (needJ (allBytes_map _) ?_)
        rw [bytesOf_map, Int.toNat_natCast, Int.toNat_natCast, List.drop_take]
        refine ⟨?_, rfl⟩
        rw [show p + k + n.toNat - (p + k) = n.toNat by omega]

end V
