/- The document's numbers, texts and reader: what they compute. -/
import Derived.Test.YtifbfcljgagacaaVRead
set_option linter.unusedVariables false
set_option linter.unusedSimpArgs false
open Go Go.Ab Go.Proofs
namespace V

abbrev B (l : List UInt8) : ByteArray := ⟨l.toArray⟩

theorem B_data (s : ByteArray) : B s.data.toList = s := rfl
theorem B_size (l : List UInt8) : (B l).size = l.length := by simp [ByteArray.size]
theorem B_toList (l : List UInt8) : (B l).toList = l := by rw [ByteArray.toList_eq]
theorem B_append (a b : List UInt8) : B a ++ B b = B (a ++ b) := by
  apply ByteArray.ext
  simp
theorem B_inj {a b : List UInt8} : B a = B b ↔ a = b := by
  constructor
  · intro h
    have := congrArg (fun s : ByteArray => s.data.toList) h
    simpa using this
  · rintro rfl; rfl
theorem B_beq (a b : List UInt8) : ((B a).toList == (B b).toList) = (a == b) := by rw [B_toList, B_toList]
theorem B_extract (l : List UInt8) (i j : Nat) (h : j ≤ l.length) : (B l).extract i j = B ((l.take j).drop i) := by
  apply ByteArray.ext
  apply Array.toList_inj.1
  simp [List.drop_take]

theorem condS {a b : List UInt8} {A C : Prop} (h1 : a = b → A) (h2 : a ≠ b → C) : condP ((B a).toList == (B b).toList) A C := by
  rw [B_beq]
  by_cases h : a = b
  · rw [beq_iff_eq.2 h]; exact h1 h
  · rw [beq_eq_false_iff_ne.2 h]; exact h2 h

theorem bytesOf_one {x : Int} : bytesOf (.raw [[.int .u8 x]]) = B [UInt8.ofNat x.toNat] := rfl
theorem allBytes_one {x : Int} : allBytes (.raw [[.int .u8 x]]) := by
  intro y hy
  simp only [Seq.toList, List.mem_singleton] at hy
  exact ⟨x, hy⟩

/-! ### numbers -/

theorem rnum3 {Post : AV → List AObj → Prop} : ∀ (f v : Nat) (l : List UInt8), v < 128 ^ (f + 1) → v ≤ 1099511627776 → l.length + f ≤ 100 →
    Post (.str (B (lead (v / 128) ++ l))) [] → AWP Try.prog 25 0 c87_3 [(0, .int .i64 v), (3, .str (B l))] [] (q87_2 0 Post) := by
  intro f
  induction f with
  | zero =>
    intro v l hv hv2 hl h
    refine v87_3 _ _ _ _ (condD (fun hc => by simp at hv; omega) fun hc => ?_)
    rw [show v / 128 = 0 by omega, lead_zero] at h
    exact h
  | succ f ih =>
    intro v l hv hv2 hl h
    refine v87_3 _ _ _ _ (condD (fun hc => ?_) fun hc => ?_)
    · have hw : IntKind.wrap .i64 ((v : Int).tdiv 128) = ((v / 128 : Nat) : Int) := by
        rw [show (128 : Int) = ((128 : Nat) : Int) from rfl, tdivN, wrapN (by omega)]
      have hw2 : IntKind.wrap .u8 (IntKind.wrap .i64 (128 + ((v / 128 : Nat) : Int).tmod 128)) = ((128 + v / 128 % 128 : Nat) : Int) := by
        rw [show (128 : Int) = ((128 : Nat) : Int) from rfl, tmodN, wrap64 (by omega) (by omega), wrapU8, Int.emod_eq_of_lt (by omega) (by omega)]
        simp
      rw [hw, hw2, bytesOf_one, B_append, Int.toNat_natCast]
      refine needJ (by decide) (needJ (by decide) (needJ allBytes_one (needJ ?_ ?_)))
      · rw [B_size, B_size]; simp; omega
      · refine ih (v / 128) _ ?_ (by omega) (by simp; omega) ?_
        · rw [Nat.div_lt_iff_lt_mul (by omega), ← Nat.pow_succ]; exact hv
        · rw [lead_pos (by omega : 0 < v / 128)] at h
          rw [List.append_assoc] at h
          exact h
    · rw [show v / 128 = 0 by omega, lead_zero] at h
      exact h

theorem rnum_spec (x : Int) (H : List AObj) : ASpec Try.prog 87 [.int .i64 x] H (fun r H' => r = .str (B (enc (held x))) ∧ H' = H) := by
  have k : ASpec Try.prog 87 [.int .i64 x] [] (fun r H' => r = .str (B (enc (held x))) ∧ H' = []) := by
    refine s87 _ _ (needJ (by decide) (needJ allBytes_one ?_))
    rw [clamp_held]
    have hh := held_le x
    generalize held x = v at hh ⊢
    rw [show (128 : Int) = ((128 : Nat) : Int) from rfl, tmodN, wrapU8, Int.emod_eq_of_lt (by omega) (by omega), bytesOf_one]
    refine rnum3 5 v _ (by omega) hh (by simp) ⟨?_, rfl⟩
    rfl
  exact ASpec.pureH H k _ _ rfl rfl

theorem rnums3 {ns : List Int} {Post : AV → List AObj → Prop} (hns : ns.length ≤ big) : ∀ (m i : Nat) (l : List UInt8), m + i = ns.length → l.length + 6 * m ≤ 10 * big →
    Post (.str (B (l ++ (ns.drop i).flatMap fun x => enc (held x)))) [] →
    AWP Try.prog 19 0 c19_3 [(0, .sl 1 (.map encI 0 ns) .none), (3, .str (B l)), (4, .int .i64 i)] [] (q19_2 0 Post) := by
  intro m
  unfold big at hns ⊢
  induction m with
  | zero =>
    intro i l hm hl h
    refine v19_3 _ _ _ _ _ _ (condD (fun hc => by omega) fun hc => ?_)
    rw [List.drop_eq_nil_of_le (by omega)] at h
    simpa using h
  | succ m ih =>
    intro i l hm hl h
    refine v19_3 _ _ _ _ _ _ (condD (fun hc => needJ (by omega) ?_) fun hc => by omega)
    have hel := enc_length (held (ns.getD i 0)) (held_le _)
    rw [Int.toNat_natCast]
    refine ASpec.call (rnum_spec _ _) (Les.refl _) ⟨_, rfl, rfl, needJ ?_ ?_⟩
    · rw [B_size, B_size]; omega
    · rw [B_append, show IntKind.wrap .i64 ((i : Int) + 1) = ((i + 1 : Nat) : Int) by rw [wrap64 (by omega) (by omega)]; simp]
      refine ih (i + 1) _ (by omega) (by rw [List.length_append]; omega) ?_
      have hg : ns.drop i = ns.getD i 0 :: ns.drop (i + 1) := by
        rw [List.drop_eq_getElem_cons (by omega)]
        simp [List.getD, List.getElem?_eq_getElem (show i < ns.length by omega)]
      rw [hg] at h
      simpa using h

theorem rnums_spec (ns : List Int) (hns : ns.length ≤ big) (H : List AObj) : ASpec Try.prog 19 [.sl 1 (.map encI 0 ns) .none] H (fun r H' => r = .str (B (putM [] ns)) ∧ H' = H) := by
  have k : ASpec Try.prog 19 [.sl 1 (.map encI 0 ns) .none] [] (fun r H' => r = .str (B (putM [] ns)) ∧ H' = []) := by
    refine s19 _ _ _ (rnums3 hns ns.length 0 [] (by omega) (by simp; omega) ⟨?_, rfl⟩)
    simp [putM]
  exact ASpec.pureH H k _ _ rfl rfl

theorem rtext_spec (s : List UInt8) (hs : s.length ≤ big) (H : List AObj) : ASpec Try.prog 20 [.str (B s)] H (fun r H' => r = .str (B (enc (held s.length) ++ s)) ∧ H' = H) := by
  have k : ASpec Try.prog 20 [.str (B s)] [] (fun r H' => r = .str (B (enc (held s.length) ++ s)) ∧ H' = []) := by
    refine s20 _ _ (ASpec.call (rnum_spec _ _) (Les.refl _) ⟨_, rfl, rfl, ?_⟩)
    have hel := enc_length (held s.length) (held_le _)
    refine needJ ?_ ⟨by rw [B_append, B_size], rfl⟩
    simp only [B_size]
    unfold big at hs
    omega
  exact ASpec.pureH H k _ _ rfl rfl

/-! ### the document's look -/

def acc (x : Nat) : List UInt8 → Nat
  | [] => x
  | c :: s => acc (x * 128 + c.toNat % 128) s

theorem acc_lt : ∀ (s : List UInt8) (x i : Nat), x < 128 ^ i → acc x s < 128 ^ (i + s.length)
  | [], x, i, h => h
  | c :: s, x, i, h => by
    simp only [acc, List.length_cons]
    have := acc_lt s (x * 128 + c.toNat % 128) (i + 1) (by rw [Nat.pow_succ]; omega)
    rwa [show i + (s.length + 1) = i + 1 + s.length by omega]

theorem acc_append (x : Nat) : ∀ (s t : List UInt8), acc x (s ++ t) = acc (acc x s) t
  | [], t => rfl
  | c :: s, t => acc_append _ s t

theorem scan_hi : ∀ (k : Nat) (s : List UInt8) (x i f : Nat), k ≤ s.length → k ≤ f → (∀ j, j < k → 128 ≤ (s.getD j 0).toNat) → scan f s x i = scan (f - k) (s.drop k) (acc x (s.take k)) (i + k)
  | 0, s, x, i, f, _, _, _ => by simp [acc]
  | k + 1, [], x, i, f, h, _, _ => by simp at h
  | k + 1, c :: s, x, i, 0, _, h, _ => by omega
  | k + 1, c :: s, x, i, f + 1, h1, h2, h3 => by
    have hc : 128 ≤ c.toNat := by simpa using h3 0 (by omega)
    simp only [scan, if_pos hc]
    rw [scan_hi k s _ (i + 1) f (by simpa using h1) (by omega) (fun j hj => by simpa using h3 (j + 1) (by omega))]
    simp only [List.take_succ_cons, acc, List.drop_succ_cons]
    congr 1 <;> omega

theorem look14 {l : List UInt8} {most : Int} {k : Nat} {Post : AV → List AObj → Prop} (hk : k < 6) (hkl : k < l.length) : ∀ (m i : Nat), m + i = k + 1 →
    (if (acc 0 (l.take (k + 1)) : Int) > min most 1099511627776 then Post (.tup [.int .i64 0, .int .i64 0, .int .i64 4]) [] else Post (.tup [.int .i64 (acc 0 (l.take (k + 1)) : Nat), .int .i64 (k + 1 : Nat), .int .i64 0]) []) →
    AWP Try.prog 60 0 c89_14 [(0, .str (B l)), (1, .int .i64 most), (7, .int .i64 k), (8, .int .i64 (acc 0 (l.take i) : Nat)), (9, .int .i64 i)] [] (q89_4 0 Post) := by
  intro m
  induction m with
  | zero =>
    intro i hm h
    refine v89_14 _ _ _ _ _ _ _ (condD (fun hc => by omega) fun hc => ?_)
    rw [show i = k + 1 by omega]
    refine condD (fun h1 => ?_) fun h1 => condD (fun h2 => ?_) fun h2 => ?_
    · rw [if_pos (by omega)] at h; exact h
    · rw [if_pos (by omega)] at h; exact h
    · rw [if_neg (by omega)] at h
      rw [show IntKind.wrap .i64 ((k : Int) + 1) = ((k + 1 : Nat) : Int) by rw [wrap64 (by omega) (by omega)]; simp]
      exact h
  | succ m ih =>
    intro i hm h
    refine v89_14 _ _ _ _ _ _ _ (condD (fun hc => needJ ?_ (needJ (by decide) ?_)) fun hc => by omega)
    · rw [B_size]; omega
    · have hx := acc_lt (l.take i) 0 0 (by simp)
      have hlen : (l.take i).length ≤ 5 := by simp; omega
      have hp : (128 : Nat) ^ (0 + (l.take i).length) ≤ 128 ^ 5 := Nat.pow_le_pow_right (by omega) (by omega)
      have h5 : (128 : Nat) ^ 5 = 34359738368 := by decide
      have e : acc 0 (l.take (i + 1)) = acc 0 (l.take i) * 128 + (l.getD i 0).toNat % 128 := by
        have : l.take (i + 1) = l.take i ++ [l.getD i 0] := by
          rw [List.take_add_one]
          simp [List.getElem?_eq_getElem (show i < l.length by omega)]
        rw [this, acc_append]; rfl
      have := ih (i + 1) (by omega) h
      rw [e] at this
      generalize acc 0 (l.take i) = x at this hx ⊢
      have hg : (B l).data.toList.getD (Int.toNat (i : Int)) 0 = l.getD i 0 := rfl
      rw [hg]
      generalize l.getD i 0 = c at this ⊢
      have hc8 : c.toNat < 256 := c.toNat_lt
      rw [show IntKind.wrap .i64 ((i : Int) + 1) = ((i + 1 : Nat) : Int) by rw [wrap64 (by omega) (by omega)]; simp]
      rw [show (128 : Int) = ((128 : Nat) : Int) from rfl, tmodN, wrap64 (x := (x : Int) * ((128 : Nat) : Int)) (by omega) (by omega), wrap64 (x := ((c.toNat % 128 : Nat) : Int)) (by omega) (by omega), wrap64 (by omega) (by omega)]
      have e2 : (x : Int) * ((128 : Nat) : Int) + ((c.toNat % 128 : Nat) : Int) = ((x * 128 + c.toNat % 128 : Nat) : Int) := by simp
      rw [e2]
      exact this

def lookP (Post : AV → List AObj → Prop) (most : Int) : Int ⊕ (Nat × Nat) → Prop
  | .inl e => Post (.tup [.int .i64 0, .int .i64 0, .int .i64 e]) []
  | .inr (n, k) => if (n : Int) > min most 1099511627776 then Post (.tup [.int .i64 0, .int .i64 0, .int .i64 4]) [] else Post (.tup [.int .i64 n, .int .i64 k, .int .i64 0]) []

theorem look6 {l : List UInt8} {most : Int} {Post : AV → List AObj → Prop} (hl : l.length ≤ 10 * big) : ∀ (m k : Nat), m + k = 6 → k ≤ l.length → (∀ j, j < k → 128 ≤ (l.getD j 0).toNat) → lookP Post most (scan 6 l 0 0) →
    AWP Try.prog 60 0 c89_6 [(0, .str (B l)), (1, .int .i64 most), (7, .int .i64 k)] [] (q89_2 0 Post) := by
  unfold big at hl
  -- behind the loop
  have tail : ∀ k, k ≤ 6 → k ≤ l.length → (∀ j, j < k → 128 ≤ (l.getD j 0).toNat) → (k < 6 → k < l.length → (l.getD k 0).toNat < 128) → lookP Post most (scan 6 l 0 0) →
      condP ((k : Int) == (6 : Int)) (Post (.tup [.int .i64 0, .int .i64 0, .int .i64 4]) [])
        (condP ((k : Int) == ((B l).size : Int)) (Post (.tup [.int .i64 0, .int .i64 0, .int .i64 2]) [])
          (AWP Try.prog 60 0 c89_14 [(0, .str (B l)), (1, .int .i64 most), (7, .int .i64 k), (8, .int .i64 0), (9, .int .i64 0)] [] (q89_4 0 Post))) := by
    intro k hk hkl hhi hlo h
    rw [scan_hi k l 0 0 6 hkl hk hhi] at h
    refine condE (fun e => ?_) fun e => condE (fun e2 => ?_) fun e2 => ?_
    · have : k = 6 := by omega
      subst this
      exact h
    · rw [B_size] at e2
      have : k = l.length := by omega
      rw [List.drop_eq_nil_of_le (by omega), show 6 - k = (5 - k) + 1 by omega] at h
      exact h
    · rw [B_size] at e2
      have hlt : (l.getD k 0).toNat < 128 := hlo (by omega) (by omega)
      rw [getD_drop l k (by omega), show 6 - k = (5 - k) + 1 by omega] at h
      simp only [scan, if_neg (show ¬ 128 ≤ (l.getD k 0).toNat by omega)] at h
      refine look14 (by omega) (by omega) (k + 1) 0 rfl ?_
      have e : acc 0 (l.take (k + 1)) = acc 0 (l.take k) * 128 + (l.getD k 0).toNat % 128 := by
        have : l.take (k + 1) = l.take k ++ [l.getD k 0] := by
          rw [List.take_add_one]
          simp [List.getElem?_eq_getElem (show k < l.length by omega)]
        rw [this, acc_append]; rfl
      rw [e]
      simpa [lookP] using h
  intro m
  induction m with
  | zero =>
    intro k hm hkl hhi h
    have : k = 6 := by omega
    subst this
    refine v89_6 _ _ _ _ _ (condD (fun _ => condD (fun hc => by omega) fun _ => ?_) fun _ => ?_)
    · exact tail 6 (by omega) hkl hhi (fun h => by omega) h
    · exact tail 6 (by omega) hkl hhi (fun h => by omega) h
  | succ m ih =>
    intro k hm hkl hhi h
    refine v89_6 _ _ _ _ _ (condD (fun hc => condD (fun _ => needJ ?_ ?_) fun hc => by omega) fun hc => ?_)
    · exact ⟨by omega, hc⟩
    · rw [B_size] at hc
      have hg : (B l).data.toList.getD (Int.toNat (k : Int)) 0 = l.getD k 0 := rfl
      rw [hg]
      refine condD (fun hx => ?_) fun hx => ?_
      · rw [show IntKind.wrap .i64 ((k : Int) + 1) = ((k + 1 : Nat) : Int) by rw [wrap64 (by omega) (by omega)]; simp]
        refine ih (k + 1) (by omega) (by omega) (fun j hj => ?_) h
        by_cases e : j = k
        · subst e; omega
        · exact hhi j (by omega)
      · exact tail k (by omega) hkl hhi (fun _ _ => by omega) h
    · rw [B_size] at hc
      exact tail k (by omega) hkl hhi (fun _ h => by omega) h

theorem look_spec (l : List UInt8) (most : Int) (hl : l.length ≤ 10 * big) (H : List AObj) :
    ASpec Try.prog 89 [.str (B l), .int .i64 most] H (fun r H' => r = .tup [.int .i64 (lookM l most).1, .int .i64 (lookM l most).2.1, .int .i64 (lookM l most).2.2] ∧ H' = H) := by
  have k : ASpec Try.prog 89 [.str (B l), .int .i64 most] [] (fun r H' => r = .tup [.int .i64 (lookM l most).1, .int .i64 (lookM l most).2.1, .int .i64 (lookM l most).2.2] ∧ H' = []) := by
    refine s89 _ _ _ (condS (b := []) (fun e => ?_) fun e => ?_)
    · subst e; exact ⟨rfl, rfl⟩
    · cases l with
      | nil => exact (e rfl).elim
      | cons c l =>
        refine needJ ⟨by omega, by rw [B_size]; simp⟩ ?_
        have hg : (B (c :: l)).data.toList.getD 0 0 = c := rfl
        rw [hg]
        refine condE (fun h1 => ?_) fun h1 => ?_
        · have h1 : c = 128 := UInt8.toNat_inj.1 (by have : c.toNat = 128 := by omega
                                                     exact this)
          rw [show lookM (c :: l) most = (0, 0, 3) by simp only [lookM, if_pos h1]]
          exact ⟨rfl, rfl⟩
        · have h1 : c ≠ 128 := by intro e; rw [e] at h1; exact h1 rfl
          refine look6 hl 6 0 rfl (by omega) (fun j hj => by omega) ?_
          have e : lookM (c :: l) most = match scan 6 (c :: l) 0 0 with
            | .inl e => (0, 0, e)
            | .inr (n, k) => if (n : Int) > min most 1099511627776 then (0, 0, 4) else (n, k, 0) := by simp only [lookM, if_neg h1]; rfl
          rw [e]
          cases scan 6 (c :: l) 0 0 with
          | inl er => exact ⟨rfl, rfl⟩
          | inr nk =>
            obtain ⟨n, k⟩ := nk
            by_cases hm : (n : Int) > min most 1099511627776
            · simp [lookP, hm]
            · simp [lookP, hm]
  exact ASpec.pureH H k _ _ rfl rfl

end V
