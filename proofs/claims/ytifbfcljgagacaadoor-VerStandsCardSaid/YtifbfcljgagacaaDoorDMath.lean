/- The plain law of versions and their texts. -/
import Derived.Test.YtifbfcljgagacaaDoorAbUse
set_option linter.unusedVariables false
set_option linter.unusedSimpArgs false
namespace Ve

/-- a part's digits -/
def dg (n : Nat) : List UInt8 :=
  if n < 10 then [UInt8.ofNat (48 + n)] else if n < 100 then [UInt8.ofNat (48 + n / 10), UInt8.ofNat (48 + n % 10)] else [UInt8.ofNat (48 + n / 100), UInt8.ofNat (48 + n / 10 % 10), UInt8.ofNat (48 + n % 10)]

def text3 (a b c : Nat) : List UInt8 := dg a ++ 46 :: (dg b ++ 46 :: dg c)
def textM (p : Int) : List UInt8 := if 0 ≤ p ∧ p < 1000000000 then text3 (p / 1000000).toNat (p / 1000 % 1000).toNat (p % 1000).toNat else []

theorem dg_len (n : Nat) : 1 ≤ (dg n).length ∧ (dg n).length ≤ 3 := by
  unfold dg; split
  · simp
  · split <;> simp

theorem u8_of {ch : UInt8} {d : Nat} (h : ch.toNat = 48 + d) : ch = UInt8.ofNat (48 + d) := by
  rw [← h, UInt8.ofNat_toNat]

/-- one more digit -/
theorem dg_more {v : Nat} {ch : UInt8} (h0 : 0 < v) (h1 : v < 100) (h2 : 48 ≤ ch.toNat) (h3 : ch.toNat ≤ 57) : dg v ++ [ch] = dg (v * 10 + (ch.toNat - 48)) := by
  obtain ⟨d, hd⟩ : ∃ d, ch.toNat = 48 + d := ⟨ch.toNat - 48, by omega⟩
  have hc := u8_of hd
  rw [hd, show 48 + d - 48 = d by omega]
  subst hc
  unfold dg
  by_cases hv : v < 10
  · rw [if_pos hv, if_neg (by omega), if_pos (by omega), show (v * 10 + d) / 10 = v by omega, show (v * 10 + d) % 10 = d by omega]; rfl
  · rw [if_neg hv, if_pos h1, if_neg (by omega), if_neg (by omega), show (v * 10 + d) / 100 = v / 10 by omega, show (v * 10 + d) / 10 % 10 = v % 10 by omega, show (v * 10 + d) % 10 = d by omega]; rfl

theorem dg_first {ch : UInt8} (h2 : 48 ≤ ch.toNat) (h3 : ch.toNat ≤ 57) : [ch] = dg (ch.toNat - 48) := by
  obtain ⟨d, hd⟩ : ∃ d, ch.toNat = 48 + d := ⟨ch.toNat - 48, by omega⟩
  have hc := u8_of hd
  rw [hd, show 48 + d - 48 = d by omega]
  subst hc
  unfold dg
  rw [if_pos (by omega)]

/-- the code's reading: the parts that are done, the one that is read, how many digits it has -/
def vr : List UInt8 → List Nat → Nat → Nat → Option (List Nat × Nat × Nat)
  | [], done, v, n => some (done, v, n)
  | ch :: l, done, v, n =>
    if ch.toNat = 46 ∧ 0 < n ∧ done.length < 2 then vr l (done ++ [v]) 0 0
    else if ch.toNat < 48 ∨ 57 < ch.toNat ∨ n = 3 ∨ (0 < n ∧ v = 0) then none
    else vr l done (v * 10 + (ch.toNat - 48)) (n + 1)

def tx (done : List Nat) : List UInt8 := done.flatMap fun d => dg d ++ [46]
def tail (v n : Nat) : List UInt8 := if n = 0 then [] else dg v

theorem tx_add (done : List Nat) (v : Nat) : tx (done ++ [v]) = tx done ++ (dg v ++ [46]) := by simp [tx]

theorem pow_le {n : Nat} (h : n ≤ 3) : 10 ^ n ≤ 1000 := Nat.pow_le_pow_right (by omega) h

theorem vr_sound : ∀ (l : List UInt8) (done : List Nat) (v n : Nat) (done' : List Nat) (v' n' : Nat), vr l done v n = some (done', v', n') → n ≤ 3 → v < 10 ^ n → (∀ d ∈ done, d < 1000) →
    tx done ++ (tail v n ++ l) = tx done' ++ tail v' n' ∧ n' ≤ 3 ∧ v' < 10 ^ n' ∧ ∀ d ∈ done', d < 1000
  | [], done, v, n, done', v', n', h, h1, h2, h3 => by
    simp only [vr, Option.some.injEq, Prod.mk.injEq] at h
    obtain ⟨rfl, rfl, rfl⟩ := h
    exact ⟨by simp, h1, h2, h3⟩
  | ch :: l, done, v, n, done', v', n', h, h1, h2, h3 => by
    have hp := pow_le h1
    simp only [vr] at h
    split at h
    · rename_i hc
      have := vr_sound l (done ++ [v]) 0 0 done' v' n' h (by omega) (by simp) (fun d hd => by
        rcases List.mem_append.1 hd with hd | hd
        · exact h3 d hd
        · rw [List.mem_singleton.1 hd]; omega)
      refine ⟨?_, this.2⟩
      rw [← this.1, tx_add]
      have hch : ch = 46 := UInt8.toNat_inj.1 hc.1
      simp [tail, show n ≠ 0 by omega, hch]
    · split at h
      · cases h
      · rename_i hc hd
        have hn : n ≤ 2 := by omega
        have hlt : v * 10 + (ch.toNat - 48) < 10 ^ (n + 1) := by rw [Nat.pow_succ]; omega
        have := vr_sound l done (v * 10 + (ch.toNat - 48)) (n + 1) done' v' n' h (by omega) hlt h3
        refine ⟨?_, this.2⟩
        rw [← this.1]
        congr 1
        have e : tail v n ++ [ch] = tail (v * 10 + (ch.toNat - 48)) (n + 1) := by
          unfold tail
          rw [if_neg (show ¬ n + 1 = 0 by omega)]
          by_cases h0 : n = 0
          · subst h0
            have : v = 0 := by simpa using h2
            subst this
            rw [if_pos rfl, List.nil_append, Nat.zero_mul, Nat.zero_add]
            exact dg_first (by omega) (by omega)
          · rw [if_neg h0]
            have h100 : 10 ^ n ≤ 10 ^ 2 := Nat.pow_le_pow_right (by omega) hn
            exact dg_more (by omega) (by omega) (by omega) (by omega)
        rw [← e]; simp

theorem vr_dg {v : Nat} (hv : v < 1000) (l : List UInt8) (done : List Nat) : vr (dg v ++ l) done 0 0 = vr l done v (dg v).length := by
  have h1 : ∀ d, d < 10 → (UInt8.ofNat (48 + d)).toNat = 48 + d := fun d hd => by rw [UInt8.toNat_ofNat', Nat.mod_eq_of_lt (by omega)]
  unfold dg
  by_cases h10 : v < 10
  · rw [if_pos h10]
    simp only [List.cons_append, List.nil_append, vr, h1 v h10, List.length_cons, List.length_nil]
    rw [if_neg (by omega), if_neg (by omega)]
    congr 1; omega
  rw [if_neg h10]
  by_cases h100 : v < 100
  · rw [if_pos h100]
    simp only [List.cons_append, List.nil_append, vr, h1 (v / 10) (by omega), h1 (v % 10) (by omega), List.length_cons, List.length_nil]
    rw [if_neg (by omega), if_neg (by omega), if_neg (by omega), if_neg (by omega)]
    congr 1; omega
  · rw [if_neg h100]
    simp only [List.cons_append, List.nil_append, vr, h1 (v / 100) (by omega), h1 (v / 10 % 10) (by omega), h1 (v % 10) (by omega), List.length_cons, List.length_nil]
    rw [if_neg (by omega), if_neg (by omega), if_neg (by omega), if_neg (by omega), if_neg (by omega), if_neg (by omega)]
    congr 1; omega

theorem vr_text {a b c : Nat} (ha : a < 1000) (hb : b < 1000) (hc : c < 1000) : vr (text3 a b c) [] 0 0 = some ([a, b], c, (dg c).length) := by
  have la := (dg_len a).1
  have lb := (dg_len b).1
  have h46 : (46 : UInt8).toNat = 46 := rfl
  unfold text3
  rw [vr_dg ha]
  simp only [vr, h46]
  rw [if_pos ⟨trivial, by omega, by simp⟩, vr_dg hb]
  simp only [vr, h46]
  rw [if_pos ⟨trivial, by omega, by simp⟩]
  have := vr_dg hc [] ([] ++ [a] ++ [b])
  rw [List.append_nil] at this
  rw [this]
  rfl

/-- what the code reads -/
def readV (l : List UInt8) : Int × Bool := match vr l [] 0 0 with
  | some ([a, b], c, _ + 1) => ((a * 1000000 + b * 1000 + c : Nat), true)
  | _ => (0, false)

theorem textM_of {a b c : Nat} (ha : a < 1000) (hb : b < 1000) (hc : c < 1000) : textM ((a * 1000000 + b * 1000 + c : Nat) : Int) = text3 a b c := by
  unfold textM
  rw [if_pos (by omega)]
  congr 1 <;> omega

theorem textM_split {p : Int} (h : 0 ≤ p ∧ p < 1000000000) : ∃ a b c : Nat, a < 1000 ∧ b < 1000 ∧ c < 1000 ∧ p = (a * 1000000 + b * 1000 + c : Nat) ∧ textM p = text3 a b c := by
  refine ⟨(p / 1000000).toNat, (p / 1000 % 1000).toNat, (p % 1000).toNat, by omega, by omega, by omega, by omega, ?_⟩
  unfold textM
  rw [if_pos h]

theorem readV_text {p : Int} (h : 0 ≤ p ∧ p < 1000000000) : readV (textM p) = (p, true) := by
  obtain ⟨a, b, c, ha, hb, hc, rfl, e⟩ := textM_split h
  rw [e]
  unfold readV
  rw [vr_text ha hb hc]
  obtain ⟨k, hk⟩ : ∃ k, (dg c).length = k + 1 := ⟨(dg c).length - 1, by have := (dg_len c).1; omega⟩
  rw [hk]

theorem readV_sound {l : List UInt8} {p : Int} (h : readV l = (p, true)) : (0 ≤ p ∧ p < 1000000000) ∧ textM p = l := by
  unfold readV at h
  split at h
  · rename_i a b c n hv
    obtain ⟨h1, h2, h3, h4⟩ := vr_sound l [] 0 0 _ _ _ hv (by omega) (by simp) (by simp)
    have hp := pow_le h2
    have ha := h4 a (by simp)
    have hb := h4 b (by simp)
    simp only [Prod.mk.injEq, and_true] at h
    subst h
    refine ⟨by omega, ?_⟩
    rw [textM_of ha hb (by omega)]
    simp only [tx, tail, List.flatMap_nil, List.nil_append, if_true] at h1
    rw [h1]
    simp [text3]
  · simp at h

theorem readV_bad {l : List UInt8} (h : (readV l).2 = false) : readV l = (0, false) := by
  unfold readV at h ⊢
  split at h
  · simp at h
  · rfl

/-- the document's reading -/
def w (x : Int) : Int := Go.IntKind.wrap .i64 x
def rr : List UInt8 → Int → Int → Int
  | [], p, n => w (p + n)
  | ch :: l, p, n => if ch.toNat = 46 then rr l (w (w (p + n) * 1000)) 0 else rr l p (w (w (n * 10) + ((ch.toNat % 48 % 10 : Nat) : Int)))
def readR (l : List UInt8) : Int × Bool := if 11 < l.length ∨ l = [] ∨ textM (rr l 0 0) ≠ l then (0, false) else (rr l 0 0, true)

theorem w_id {x : Int} (h0 : 0 ≤ x) (h1 : x ≤ 9223372036854775807) : w x = x := Go.Ab.wrap64 (by omega) h1

theorem rr_dg {v : Nat} (hv : v < 1000) (l : List UInt8) (p : Int) : rr (dg v ++ l) p 0 = rr l p v := by
  have h1 : ∀ d, d < 10 → (UInt8.ofNat (48 + d)).toNat = 48 + d := fun d hd => by rw [UInt8.toNat_ofNat', Nat.mod_eq_of_lt (by omega)]
  have h2 : ∀ d, d < 10 → (48 + d) % 48 % 10 = d := fun d hd => by omega
  unfold dg
  by_cases h10 : v < 10
  · rw [if_pos h10]
    simp only [List.cons_append, List.nil_append, rr, h1 v h10, h2 v h10]
    rw [if_neg (by omega)]
    congr 1
    rw [w_id (x := (0 : Int) * 10) (by omega) (by omega), w_id (by omega) (by omega)]; omega
  rw [if_neg h10]
  by_cases h100 : v < 100
  · rw [if_pos h100]
    simp only [List.cons_append, List.nil_append, rr, h1 (v / 10) (by omega), h1 (v % 10) (by omega), h2 (v / 10) (by omega), h2 (v % 10) (by omega)]
    rw [if_neg (by omega), if_neg (by omega)]
    congr 1
    rw [w_id (x := (0 : Int) * 10) (by omega) (by omega), w_id (x := (0 : Int) * 10 + ((v / 10 : Nat) : Int)) (by omega) (by omega), w_id (x := ((0 : Int) * 10 + ((v / 10 : Nat) : Int)) * 10) (by omega) (by omega), w_id (by omega) (by omega)]; omega
  · rw [if_neg h100]
    simp only [List.cons_append, List.nil_append, rr, h1 (v / 100) (by omega), h1 (v / 10 % 10) (by omega), h1 (v % 10) (by omega), h2 (v / 100) (by omega), h2 (v / 10 % 10) (by omega), h2 (v % 10) (by omega)]
    rw [if_neg (by omega), if_neg (by omega), if_neg (by omega)]
    congr 1
    rw [w_id (x := (0 : Int) * 10) (by omega) (by omega), w_id (x := (0 : Int) * 10 + ((v / 100 : Nat) : Int)) (by omega) (by omega), w_id (x := ((0 : Int) * 10 + ((v / 100 : Nat) : Int)) * 10) (by omega) (by omega),
      w_id (x := ((0 : Int) * 10 + ((v / 100 : Nat) : Int)) * 10 + ((v / 10 % 10 : Nat) : Int)) (by omega) (by omega), w_id (x := (((0 : Int) * 10 + ((v / 100 : Nat) : Int)) * 10 + ((v / 10 % 10 : Nat) : Int)) * 10) (by omega) (by omega), w_id (by omega) (by omega)]; omega

theorem rr_text {a b c : Nat} (ha : a < 1000) (hb : b < 1000) (hc : c < 1000) : rr (text3 a b c) 0 0 = ((a * 1000000 + b * 1000 + c : Nat) : Int) := by
  have h46 : (46 : UInt8).toNat = 46 := rfl
  unfold text3
  rw [rr_dg ha]
  simp only [rr, h46, if_true]
  rw [rr_dg hb]
  simp only [rr, h46, if_true]
  have := rr_dg hc [] (w (w (w (w (0 + (a : Int)) * 1000) + (b : Int)) * 1000))
  rw [List.append_nil] at this
  rw [this]
  simp only [rr]
  rw [w_id (x := (0 : Int) + (a : Int)) (by omega) (by omega), w_id (x := ((0 : Int) + (a : Int)) * 1000) (by omega) (by omega), w_id (x := ((0 : Int) + (a : Int)) * 1000 + (b : Int)) (by omega) (by omega),
    w_id (x := (((0 : Int) + (a : Int)) * 1000 + (b : Int)) * 1000) (by omega) (by omega), w_id (by omega) (by omega)]
  omega

theorem text3_len (a b c : Nat) : 5 ≤ (text3 a b c).length ∧ (text3 a b c).length ≤ 11 := by
  have h1 := dg_len a
  have h2 := dg_len b
  have h3 := dg_len c
  simp only [text3, List.length_append, List.length_cons]; omega

theorem read_same (l : List UInt8) : readV l = readR l := by
  cases hv : readV l with
  | mk p ok =>
    cases ok with
    | true =>
      obtain ⟨h1, h2⟩ := readV_sound hv
      obtain ⟨a, b, c, ha, hb, hc, rfl, e⟩ := textM_split h1
      have hl := text3_len a b c
      have e2 : rr l 0 0 = ((a * 1000000 + b * 1000 + c : Nat) : Int) := by rw [← h2, e, rr_text ha hb hc]
      unfold readR
      rw [e2, if_neg]
      rintro (h | h | h)
      · rw [← h2, e] at h; omega
      · rw [← h2, e] at h; rw [h] at hl; simp at hl
      · exact h h2
    | false =>
      have hb := readV_bad (l := l) (by rw [hv])
      rw [hv] at hb
      rw [hb]
      unfold readR
      by_cases h : 11 < l.length ∨ l = [] ∨ textM (rr l 0 0) ≠ l
      · rw [if_pos h]
      · exfalso
        simp only [not_or, Decidable.not_not] at h
        obtain ⟨_, hne, ht⟩ := h
        by_cases hr : 0 ≤ rr l 0 0 ∧ rr l 0 0 < 1000000000
        · have := readV_text hr
          rw [ht, hv] at this
          simp at this
        · unfold textM at ht
          rw [if_neg hr] at ht
          exact hne ht.symm

end Ve
