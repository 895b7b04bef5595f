/- Texts of versions: what the code writes and reads. -/
import Derived.Test.YtifbfcljgagacaaDoorDSpec
set_option linter.unusedVariables false
set_option linter.unusedSimpArgs false
set_option maxRecDepth 100000
open Go Go.Ab Go.Proofs Ve
namespace D

theorem txt_le (a b c : Nat) : (dg a).length + (dg b).length + (dg c).length ≤ 9 := by
  have h1 := dg_len a; have h2 := dg_len b; have h3 := dg_len c; omega

theorem cat3 (a b c : List UInt8) : B a ++ ⟨#[46]⟩ ++ B b ++ ⟨#[46]⟩ ++ B c = B (a ++ 46 :: (b ++ 46 :: c)) := by
  rw [show (⟨#[46]⟩ : ByteArray) = B [46] from rfl, B_append, B_append, B_append, B_append]; simp

theorem text_spec (p : Int) (H : List AObj) : ASpec Tryd.prog 10 [.int .i64 p] H (fun r H' => r = .str (B (textM p)) ∧ H' = H) := by
  have e3 : (0 : Int) ≤ 0 ∧ (0 : Int) < 3 := by decide
  have e4 : (0 : Int) ≤ 1 ∧ (1 : Int) < 3 := by decide
  have e5 : (0 : Int) ≤ 2 ∧ (2 : Int) < 3 := by decide
  refine pd (.str (B (textM p))) (fun _ => rfl) (fun _ => rfl) H (s10 _ _ (ASpec.call (parts_spec p _) (Les.refl _) ⟨_, rfl, rfl, condBn (fun h => ?_) fun h => ?_⟩))
  · have : ¬ (0 ≤ p ∧ p < 1000000000) := by intro hp; unfold partsM at h; rw [if_pos hp] at h; cases h
    unfold textM; rw [if_neg this]
  · have hp : 0 ≤ p ∧ p < 1000000000 := by
      by_cases hp : 0 ≤ p ∧ p < 1000000000
      · exact hp
      · unfold partsM at h; rw [if_neg hp] at h; cases h
    have hM : partsM p = ((p / 1000000, p / 1000 % 1000, p % 1000), true) := by unfold partsM; rw [if_pos hp]
    rw [hM]
    have ht := txt_le (p / 1000000).toNat (p / 1000 % 1000).toNat (p % 1000).toNat
    refine needJ e3 (needJ e4 (needJ e5 ?_))
    refine ASpec.call (itoa_spec (n := p / 1000000) (by omega) (by omega) _) (Les.refl _) ⟨_, rfl, rfl, ⟨rfl, rfl⟩, ⟨rfl, rfl⟩, needJ ?_ ?_⟩
    · rw [B_size]; omega
    refine ASpec.call (itoa_spec (n := p / 1000 % 1000) (by omega) (by omega) _) (Les.refl _) ⟨_, rfl, rfl, ⟨rfl, rfl⟩, needJ ?_ (needJ ?_ ?_)⟩
    · rw [show (⟨#[46]⟩ : ByteArray) = B [46] from rfl, B_append, B_size, B_size]; simp; omega
    · rw [show (⟨#[46]⟩ : ByteArray) = B [46] from rfl, B_append, B_append, B_size]; simp; omega
    refine ASpec.call (itoa_spec (n := p % 1000) (by omega) (by omega) _) (Les.refl _) ⟨_, rfl, rfl, needJ ?_ ?_⟩
    · rw [show (⟨#[46]⟩ : ByteArray) = B [46] from rfl, B_append, B_append, B_append, B_size, B_size]; simp; omega
    · rw [cat3]
      unfold textM text3; rw [if_pos hp]

theorem rtext_spec (p : Int) (H : List AObj) : ASpec Tryd.prog 11 [.int .i64 p] H (fun r H' => r = .str (B (textM p)) ∧ H' = H) := by
  refine pd (.str (B (textM p))) (fun _ => rfl) (fun _ => rfl) H (s11 _ _ (ASpec.call (rfit_spec p _) (Les.refl _) ⟨_, rfl, rfl, condBn (fun h => ?_) fun h => ?_⟩))
  · have : ¬ (0 ≤ p ∧ p < 1000000000) := by simpa [fitB] using h
    unfold textM; rw [if_neg this]
  · have hp : 0 ≤ p ∧ p < 1000000000 := by simpa [fitB] using h
    have ht := txt_le (p / 1000000).toNat (p / 1000 % 1000).toNat (p % 1000).toNat
    refine needJ (by decide) ?_
    rw [tdv hp.1, tdv hp.1, wrap64 (x := p / 1000000) (by omega) (by omega), wrap64 (x := p / 1000) (by omega) (by omega), tmd (by omega), tmd (by omega)]
    refine ASpec.call (digits_spec (n := p / 1000000) (by omega) (by omega) _) (Les.refl _) ⟨_, rfl, rfl, needJ ?_ (needJ (by decide) (needJ (by decide) ?_))⟩
    · rw [B_size]; omega
    refine ASpec.call (digits_spec (n := p / 1000 % 1000) (by omega) (by omega) _) (Les.refl _) ⟨_, rfl, rfl, needJ ?_ (needJ ?_ (needJ (by decide) ?_))⟩
    · rw [show (⟨#[46]⟩ : ByteArray) = B [46] from rfl, B_append, B_size, B_size]; simp; omega
    · rw [show (⟨#[46]⟩ : ByteArray) = B [46] from rfl, B_append, B_append, B_size]; simp; omega
    refine ASpec.call (digits_spec (n := p % 1000) (by omega) (by omega) _) (Les.refl _) ⟨_, rfl, rfl, needJ ?_ ?_⟩
    · rw [show (⟨#[46]⟩ : ByteArray) = B [46] from rfl, B_append, B_append, B_append, B_size, B_size]; simp; omega
    · rw [cat3]
      unfold textM text3; rw [if_pos hp]

/-! ### the document's reader -/

theorem condSn {a b : List UInt8} {A C : Prop} (h1 : a ≠ b → A) (h2 : a = b → C) : condP (!((B a).toList == (B b).toList)) A C := by
  rw [B_beq]
  by_cases h : a = b
  · rw [beq_iff_eq.2 h]; exact h2 h
  · rw [beq_eq_false_iff_ne.2 h]; exact h1 h

def rfin (l : List UInt8) (x : Int) : Int × Bool := if l = [] ∨ textM x ≠ l then (0, false) else (x, true)

theorem rread5 {l : List UInt8} (hl : l.length ≤ 11) (v : Int) : ∀ (m i : Nat) (p n : Int), m + i = l.length → rr (l.drop i) p n = v →
    AWP Tryd.prog 45 0 c16_5 [(0, .str (B l)), (4, .int .i64 p), (5, .int .i64 n), (6, .int .i64 i)] [] (q16_2 0 (fun r _ => r = tupB (rfin l v))) := by
  intro m
  induction m with
  | zero =>
    intro i p n hm hv
    have hd : l.drop i = [] := List.drop_eq_nil_of_le (by omega)
    rw [hd] at hv
    have hv2 : IntKind.wrap .i64 (p + n) = v := hv
    refine v16_5 _ _ _ _ _ _ (condD (fun h => by rw [B_size] at h; omega) fun _ => ?_)
    rw [show (⟨#[]⟩ : ByteArray) = B [] from rfl, hv2]
    refine condS (fun h => ?_) fun h => ?_
    · unfold rfin; rw [if_pos (.inl h)]
    · refine ASpec.call (rtext_spec _ _) (Les.refl _) ⟨_, rfl, rfl, condSn (fun h2 => ?_) fun h2 => ?_⟩
      · unfold rfin; rw [if_pos (.inr h2)]
      · unfold rfin; rw [if_neg (by simp only [not_or, Decidable.not_not]; exact ⟨h, h2⟩)]
  | succ m ih =>
    intro i p n hm hv
    have hi : i < l.length := by omega
    have hd : l.drop i = l[i] :: l.drop (i + 1) := List.drop_eq_getElem_cons hi
    have hg : (List.getD (Array.toList (ByteArray.data (B l))) (Int.toNat (i : Int)) 0) = l[i] := by
      show l.getD _ 0 = _
      rw [Int.toNat_natCast, List.getD_eq_getElem?_getD, List.getElem?_eq_getElem hi]; rfl
    have hin : (0 : Int) ≤ (i : Int) ∧ (i : Int) < ((B l).size : Int) := ⟨by omega, by rw [B_size]; omega⟩
    have h256 := (l[i]).toNat_lt
    have e1 : IntKind.wrap .i64 ((i : Int) + 1) = ((i + 1 : Nat) : Int) := by rw [wrap64 (by omega) (by omega)]; simp
    rw [hd] at hv
    simp only [rr] at hv
    refine v16_5 _ _ _ _ _ _ (condD (fun _ => needJ hin ?_) fun h => absurd hin.2 h)
    rw [hg]
    refine condE (fun h => ?_) fun h => needJ hin (needJ (by decide) (needJ (by decide) ?_))
    · rw [if_pos (by omega)] at hv
      rw [e1]
      exact ih (i + 1) _ _ (by omega) hv
    · rw [if_neg (by omega)] at hv
      rw [e1, wrapN (n := (l[i]).toNat) (by omega)]
      rw [show Int.tmod (Int.tmod ((l[i]).toNat : Int) 48) 10 = (((l[i]).toNat % 48 % 10 : Nat) : Int) from rfl]
      exact ih (i + 1) _ _ (by omega) hv

theorem rread_spec (l : List UInt8) (H : List AObj) : ASpec Tryd.prog 16 [.str (B l)] H (fun r H' => r = tupB (readR l) ∧ H' = H) := by
  refine pd (tupB (readR l)) (fun _ => rfl) (fun _ => rfl) H (s16 _ _ (condD (fun h => ?_) fun h => ?_))
  · unfold readR; rw [if_pos (.inl (by rw [B_size] at h; omega))]
  · have hl : l.length ≤ 11 := by rw [B_size] at h; omega
    have e : readR l = rfin l (rr l 0 0) := by
      unfold readR rfin
      by_cases hc : l = [] ∨ textM (rr l 0 0) ≠ l
      · rw [if_pos (.inr hc), if_pos hc]
      · rw [if_neg (fun hx => hx.elim (fun h => by omega) hc), if_neg hc]
    rw [e]
    exact rread5 hl (rr l 0 0) l.length 0 0 0 (by omega) rfl

/-! ### the code's reader -/

theorem wrap32 {x : Int} (h1 : -2147483648 ≤ x) (h2 : x ≤ 2147483647) : IntKind.wrap .i32 x = x := by
  simp only [IntKind.wrap, IntKind.bits, IntKind.signed]
  have e : (2 : Int) ^ 32 = 4294967296 := by decide
  have e2 : (2 : Int) ^ (32 - 1) = 2147483648 := by decide
  simp only [e, e2, Bool.true_and, decide_eq_true_eq]
  split <;> omega

/-- one more byte, which is not a dot that parts -/
theorem dig {c n v k : Int} (hk : 0 ≤ k ∧ k < 3) {F A : Prop} (hF : (c < 48 ∨ 57 < c ∨ n = 3 ∨ (0 < n ∧ v = 0)) → F) (hA : ¬ (c < 48 ∨ 57 < c ∨ n = 3 ∨ (0 < n ∧ v = 0)) → A) :
    condP (decide (c < 48)) F (condP (decide (c > 57)) F (condP (n == 3) F (condP (decide (n > 0)) (needP (0 ≤ k ∧ k < 3) (condP (v == 0) F (needP (0 ≤ k ∧ k < 3) (needP (0 ≤ k ∧ k < 3) A))))
      (needP (0 ≤ k ∧ k < 3) (needP (0 ≤ k ∧ k < 3) A))))) :=
  condD (fun h => hF (.inl h)) fun h1 => condD (fun h => hF (.inr (.inl h))) fun h2 => condE (fun h => hF (.inr (.inr (.inl h)))) fun h3 =>
    condD (fun h4 => needJ hk (condE (fun h => hF (.inr (.inr (.inr ⟨h4, h⟩)))) fun h5 => needJ hk (needJ hk (hA (by omega))))) fun h4 => needJ hk (needJ hk (hA (by omega)))

theorem back_same {a b c : Int} {q : Int × Bool} (h : placeM a b c = q) (ht : q.2 = true) : partsM q.1 = ((a, b, c), true) := by
  unfold placeM at h
  split at h
  · subst h
    unfold partsM
    rw [if_pos (by simp only; omega)]
    simp only [Prod.mk.injEq, and_true]
    omega
  · subst h; cases ht

def vfin : Option (List Nat × Nat × Nat) → Int × Bool
  | some ([a, b], c, _ + 1) => ((a * 1000000 + b * 1000 + c : Nat), true)
  | _ => (0, false)

theorem readV_eq (l : List UInt8) : readV l = vfin (vr l [] 0 0) := by
  rfl

/-- behind the last byte -/
theorem read12 {l : List UInt8} {q : Nat} {x y z : Nat} (k n : Nat) {r0 : Int × Bool} (hx : x < 1000 ∧ y < 1000 ∧ z < 1000)
    (h : r0 = if k = 2 ∧ 0 < n then (((x * 1000000 + y * 1000 + z : Nat) : Int), true) else (0, false)) :
    AWP Tryd.prog 88 0 c15_12 [(4, .ptr 0 0), (5, .int .i64 k), (6, .int .i64 n)] [.cells [.int .i64 x, .int .i64 y, .int .i64 z], .siter (B l) q] (q15_0 0 (fun r _ => r = tupB r0)) := by
  refine v15_12 _ _ _ _ _ _ _ _ _ (condNe (fun h1 => ?_) fun h1 => condE (fun h2 => ?_) fun h2 => ?_)
  · rw [h, if_neg (by omega)]
  · rw [h, if_neg (by omega)]
  · rw [if_pos (by omega)] at h
    have hp : placeM x y z = r0 := by unfold placeM; rw [h, if_pos (by omega)]; simp
    refine ASpec.call (place_spec x y z _) (Les.refl _) ⟨_, rfl, rfl, ASpec.call (parts_spec _ _) (Les.refl _) ⟨_, rfl, rfl, ?_⟩⟩
    rw [hp, back_same hp (by rw [h]), h]
    refine ⟨⟨rfl, rfl⟩, ⟨rfl, rfl⟩, ?_⟩
    simp

theorem read4 {l : List UInt8} {r0 : Int × Bool} : ∀ (m pos : Nat) (n : Nat), m + pos = l.length → n ≤ 3 →
    (∀ x, x < 10 ^ n → vfin (vr (l.drop pos) [] x n) = r0 →
      AWP Tryd.prog 88 0 c15_4 [(4, .ptr 0 0), (5, .int .i64 0), (6, .int .i64 n), (15, .ptr 1 0)] [.cells [.int .i64 (x : Nat), .int .i64 0, .int .i64 0], .siter (B l) pos] (q15_2 0 (fun r _ => r = tupB r0))) ∧
    (∀ x y, x < 1000 → y < 10 ^ n → vfin (vr (l.drop pos) [x] y n) = r0 →
      AWP Tryd.prog 88 0 c15_4 [(4, .ptr 0 0), (5, .int .i64 1), (6, .int .i64 n), (15, .ptr 1 0)] [.cells [.int .i64 (x : Nat), .int .i64 (y : Nat), .int .i64 0], .siter (B l) pos] (q15_2 0 (fun r _ => r = tupB r0))) ∧
    (∀ x y z, x < 1000 → y < 1000 → z < 10 ^ n → vfin (vr (l.drop pos) [x, y] z n) = r0 →
      AWP Tryd.prog 88 0 c15_4 [(4, .ptr 0 0), (5, .int .i64 2), (6, .int .i64 n), (15, .ptr 1 0)] [.cells [.int .i64 (x : Nat), .int .i64 (y : Nat), .int .i64 (z : Nat)], .siter (B l) pos] (q15_2 0 (fun r _ => r = tupB r0))) := by
  intro m
  induction m with
  | zero =>
    intro pos n hm hn
    have hd : l.drop pos = [] := List.drop_eq_nil_of_le (by omega)
    have hp := pow_le hn
    rw [hd]
    simp only [vr]
    refine ⟨fun x hx h => ?_, fun x y hx hy h => ?_, fun x y z hx hy hz h => ?_⟩
    · refine v15_4a _ _ _ _ _ _ _ _ (condD (fun h => by rw [B_size] at h; omega) fun _ => ?_)
      exact read12 (x := x) (y := 0) (z := 0) 0 n (by omega) (by rw [← h, if_neg (by omega)]; rfl)
    · refine v15_4b _ _ _ _ _ _ _ _ (condD (fun h => by rw [B_size] at h; omega) fun _ => ?_)
      exact read12 (x := x) (y := y) (z := 0) 1 n (by omega) (by rw [← h, if_neg (by omega)]; rfl)
    · refine v15_4c _ _ _ _ _ _ _ _ (condD (fun h => by rw [B_size] at h; omega) fun _ => ?_)
      refine read12 (x := x) (y := y) (z := z) 2 n (by omega) ?_
      rw [← h]
      cases n with
      | zero => rfl
      | succ n => rw [if_pos (by omega)]; rfl
  | succ m ih =>
    intro pos n hm hn
    have hi : pos < l.length := by omega
    have hd : l.drop pos = l[pos] :: l.drop (pos + 1) := List.drop_eq_getElem_cons hi
    have hg : l.getD pos 0 = l[pos] := by rw [List.getD_eq_getElem?_getD, List.getElem?_eq_getElem hi]; rfl
    have hin : pos < (B l).size := by rw [B_size]; exact hi
    have h256 := (l[pos]).toNat_lt
    have hp := pow_le hn
    rw [hd]
    by_cases hb : (l[pos]).toNat < 128
    · have hdec : Utf8.decode (B l) pos = ((l[pos]).toNat, 1) := by rw [← hg]; exact decode_lt hi (by rw [hg]; exact hb)
      have ih0 := ih (pos + 1) 0 (by omega) (by omega)
      have e1 : ∀ v : Nat, v < 1000 → 48 ≤ (l[pos]).toNat → IntKind.wrap .i64 (IntKind.wrap .i64 ((v : Int) * 10) + IntKind.wrap .i64 (IntKind.wrap .i32 (((l[pos]).toNat : Int) - 48))) = ((v * 10 + ((l[pos]).toNat - 48) : Nat) : Int) := by
        intro v hv h48
        rw [wrap32 (by omega) (by omega), wrap64 (x := (v : Int) * 10) (by omega) (by omega), wrap64 (x := ((l[pos]).toNat : Int) - 48) (by omega) (by omega), wrap64 (by omega) (by omega)]
        omega
      have e2 : IntKind.wrap .i64 ((n : Int) + 1) = ((n + 1 : Nat) : Int) := by rw [wrap64 (by omega) (by omega)]; simp
      have e3 : (0 : Int) ≤ 0 ∧ (0 : Int) < 3 := by decide
      have e4 : (0 : Int) ≤ 1 ∧ (1 : Int) < 3 := by decide
      have e5 : (0 : Int) ≤ 2 ∧ (2 : Int) < 3 := by decide
      have hlt : ∀ v : Nat, v < 10 ^ n → ¬ (((l[pos]).toNat : Int) < 48 ∨ 57 < ((l[pos]).toNat : Int) ∨ (n : Int) = 3 ∨ (0 < (n : Int) ∧ (v : Int) = 0)) → n + 1 ≤ 3 ∧ v * 10 + ((l[pos]).toNat - 48) < 10 ^ (n + 1) ∧ v < 1000 ∧ 48 ≤ (l[pos]).toNat := by
        intro v hv hx
        rw [Nat.pow_succ]
        refine ⟨by omega, by omega, by omega, by omega⟩
      refine ⟨fun x hx h => ?_, fun x y hx hy h => ?_, fun x y z hx hy hz h => ?_⟩
      · have F : (((l[pos]).toNat : Int) < 48 ∨ 57 < ((l[pos]).toNat : Int) ∨ (n : Int) = 3 ∨ (0 < (n : Int) ∧ (x : Int) = 0)) → ¬ ((l[pos]).toNat = 46 ∧ 0 < n) → (AV.tup [.int .i64 0, .bool false] = tupB r0) := by
          intro hx h46
          simp only [vr] at h
          rw [if_neg (by omega), if_pos (by omega)] at h
          rw [← h]; rfl
        have A : ¬ (((l[pos]).toNat : Int) < 48 ∨ 57 < ((l[pos]).toNat : Int) ∨ (n : Int) = 3 ∨ (0 < (n : Int) ∧ (x : Int) = 0)) → AWP Tryd.prog 88 0 c15_4 [(4, .ptr 0 0), (5, .int .i64 0), (6, .int .i64 (IntKind.wrap .i64 ((n : Int) + 1))), (15, .ptr 1 0)]
            [.cells [.int .i64 (IntKind.wrap .i64 (IntKind.wrap .i64 ((x : Int) * 10) + IntKind.wrap .i64 (IntKind.wrap .i32 (((l[pos]).toNat : Int) - 48)))), .int .i64 0, .int .i64 0], .siter (B l) (pos + 1)] (q15_2 0 (fun r _ => r = tupB r0)) := by
          intro hc
          obtain ⟨h1, h2, h3, h4⟩ := hlt x hx hc
          simp only [vr] at h
          rw [if_neg (by omega), if_neg (by omega)] at h
          rw [e1 x h3 h4, e2]
          exact (ih (pos + 1) (n + 1) (by omega) h1).1 _ h2 h
        refine v15_4a _ _ _ _ _ _ _ _ (condD (fun _ => ?_) fun h => absurd hin h)
        rw [hdec]
        refine condE (fun h46 => condD (fun hn0 => ?_) fun hn0 => dig e3 (fun q => F q (by omega)) A) fun h46 => dig e3 (fun q => F q (by omega)) A
        simp only [vr] at h
        rw [if_pos ⟨by omega, by omega, by simp⟩] at h
        exact ih0.2.1 x 0 (by omega) (by simp) h
      · have F : (((l[pos]).toNat : Int) < 48 ∨ 57 < ((l[pos]).toNat : Int) ∨ (n : Int) = 3 ∨ (0 < (n : Int) ∧ (y : Int) = 0)) → ¬ ((l[pos]).toNat = 46 ∧ 0 < n) → (AV.tup [.int .i64 0, .bool false] = tupB r0) := by
          intro hx h46
          simp only [vr] at h
          rw [if_neg (by omega), if_pos (by omega)] at h
          rw [← h]; rfl
        have A : ¬ (((l[pos]).toNat : Int) < 48 ∨ 57 < ((l[pos]).toNat : Int) ∨ (n : Int) = 3 ∨ (0 < (n : Int) ∧ (y : Int) = 0)) → AWP Tryd.prog 88 0 c15_4 [(4, .ptr 0 0), (5, .int .i64 1), (6, .int .i64 (IntKind.wrap .i64 ((n : Int) + 1))), (15, .ptr 1 0)]
            [.cells [.int .i64 x, .int .i64 (IntKind.wrap .i64 (IntKind.wrap .i64 ((y : Int) * 10) + IntKind.wrap .i64 (IntKind.wrap .i32 (((l[pos]).toNat : Int) - 48)))), .int .i64 0], .siter (B l) (pos + 1)] (q15_2 0 (fun r _ => r = tupB r0)) := by
          intro hc
          obtain ⟨h1, h2, h3, h4⟩ := hlt y hy hc
          simp only [vr] at h
          rw [if_neg (by omega), if_neg (by omega)] at h
          rw [e1 y h3 h4, e2]
          exact (ih (pos + 1) (n + 1) (by omega) h1).2.1 _ _ hx h2 h
        refine v15_4b _ _ _ _ _ _ _ _ (condD (fun _ => ?_) fun h => absurd hin h)
        rw [hdec]
        refine condE (fun h46 => condD (fun hn0 => ?_) fun hn0 => dig e4 (fun q => F q (by omega)) A) fun h46 => dig e4 (fun q => F q (by omega)) A
        simp only [vr] at h
        rw [if_pos ⟨by omega, by omega, by simp⟩] at h
        exact ih0.2.2 x y 0 hx (by omega) (by simp) h
      · have F : (((l[pos]).toNat : Int) < 48 ∨ 57 < ((l[pos]).toNat : Int) ∨ (n : Int) = 3 ∨ (0 < (n : Int) ∧ (z : Int) = 0)) → (AV.tup [.int .i64 0, .bool false] = tupB r0) := by
          intro hx
          simp only [vr] at h
          rw [if_neg (by simp), if_pos (by omega)] at h
          rw [← h]; rfl
        have A : ¬ (((l[pos]).toNat : Int) < 48 ∨ 57 < ((l[pos]).toNat : Int) ∨ (n : Int) = 3 ∨ (0 < (n : Int) ∧ (z : Int) = 0)) → AWP Tryd.prog 88 0 c15_4 [(4, .ptr 0 0), (5, .int .i64 2), (6, .int .i64 (IntKind.wrap .i64 ((n : Int) + 1))), (15, .ptr 1 0)]
            [.cells [.int .i64 x, .int .i64 y, .int .i64 (IntKind.wrap .i64 (IntKind.wrap .i64 ((z : Int) * 10) + IntKind.wrap .i64 (IntKind.wrap .i32 (((l[pos]).toNat : Int) - 48))))], .siter (B l) (pos + 1)] (q15_2 0 (fun r _ => r = tupB r0)) := by
          intro hc
          obtain ⟨h1, h2, h3, h4⟩ := hlt z hz hc
          simp only [vr] at h
          rw [if_neg (by simp), if_neg (by omega)] at h
          rw [e1 z h3 h4, e2]
          exact (ih (pos + 1) (n + 1) (by omega) h1).2.2 _ _ _ hx hy h2 h
        refine v15_4c _ _ _ _ _ _ _ _ (condD (fun _ => ?_) fun h => absurd hin h)
        rw [hdec]
        refine condE (fun h46 => condD (fun hn0 => ?_) fun hn0 => dig e5 F A) fun h46 => dig e5 F A
        refine condD (fun _ => F (.inl (by omega))) fun h48 => absurd h46 (by omega)
    · have hdec := decode_ge (l := l) hi (by rw [hg]; omega)
      have hr : ∀ (done : List Nat) (v : Nat), vfin (vr (l[pos] :: l.drop (pos + 1)) done v n) = r0 → AV.tup [.int .i64 0, .bool false] = tupB r0 := by
        intro done v h
        simp only [vr] at h
        rw [if_neg (by omega), if_pos (by omega)] at h
        rw [← h]; rfl
      refine ⟨fun x hx h => ?_, fun x y hx hy h => ?_, fun x y z hx hy hz h => ?_⟩
      · refine v15_4a _ _ _ _ _ _ _ _ (condD (fun _ => ?_) fun h => absurd hin h)
        exact condE (fun h46 => by omega) fun _ => condD (fun h48 => by omega) fun _ => condD (fun _ => hr _ _ h) fun h57 => by omega
      · refine v15_4b _ _ _ _ _ _ _ _ (condD (fun _ => ?_) fun h => absurd hin h)
        exact condE (fun h46 => by omega) fun _ => condD (fun h48 => by omega) fun _ => condD (fun _ => hr _ _ h) fun h57 => by omega
      · refine v15_4c _ _ _ _ _ _ _ _ (condD (fun _ => ?_) fun h => absurd hin h)
        exact condE (fun h46 => by omega) fun _ => condD (fun h48 => by omega) fun _ => condD (fun _ => hr _ _ h) fun h57 => by omega

theorem read_spec (l : List UInt8) (H : List AObj) : ASpec Tryd.prog 15 [.str (B l)] H (fun r H' => r = tupB (readV l) ∧ H' = H) := by
  refine pd (tupB (readV l)) (fun _ => rfl) (fun _ => rfl) H (s15 _ _ ?_)
  exact (read4 l.length 0 0 (by omega) (by omega)).1 0 (by simp) (readV_eq l).symm

/-! ### the chapter's examples -/

theorem awake_spec (H : List AObj) : ASpec Tryd.prog 14 [] H (fun r H' => r = .bool true ∧ H' = H) := by
  refine pd (.bool true) (fun _ => rfl) (fun _ => rfl) H (s14 _ ?_)
  refine ASpec.call (place_spec 1 2 3 _) (Les.refl _) ⟨_, rfl, rfl, ASpec.call (read_spec [48, 49, 46, 50, 46, 51] _) (Les.refl _) ⟨_, rfl, rfl, ?_⟩⟩
  have e1 : placeM 1 2 3 = (1002003, true) := by decide
  have e2 : readV [48, 49, 46, 50, 46, 51] = (0, false) := by decide
  rw [e1, e2]
  refine ASpec.call (text_spec 1002003 _) (Les.refl _) ⟨_, rfl, rfl, ?_⟩
  have e3 : textM 1002003 = [49, 46, 50, 46, 51] := by decide
  rw [e3]
  refine condS (fun _ => ?_) fun h => absurd rfl h
  refine ASpec.call (after_spec 1002003 1 _) (Les.refl _) ⟨_, rfl, rfl, ?_⟩
  have e4 : afterM 1002003 1 = 1003000 := by decide
  rw [e4]
  exact rfl

/-! ### the laws -/

theorem verReads_spec (l : List UInt8) : ASpec Tryd.prog 4 [.str (B l)] [] (fun r H' => r = .bool true ∧ H' = []) := by
  refine pd (.bool true) (fun _ => rfl) (fun _ => rfl) [] (s4 _ _ ?_)
  refine ASpec.call (read_spec l _) (Les.refl _) ⟨_, rfl, rfl, ASpec.call (rread_spec l _) (Les.refl _) ⟨_, rfl, rfl, ?_⟩⟩
  rw [← read_same]
  have hs := @readV_sound l
  generalize readV l = q at hs
  obtain ⟨v, ok⟩ := q
  have hA := awake_spec []
  refine condE (fun _ => ?_) fun h => absurd rfl h
  cases ok with
  | false => exact ASpec.call hA (Les.refl _) ⟨_, rfl, rfl, rfl⟩
  | true =>
    obtain ⟨h1, h2⟩ := hs rfl
    refine ASpec.call (text_spec v _) (Les.refl _) ⟨_, rfl, rfl, ?_⟩
    exact condS (fun _ => ASpec.call hA (Les.refl _) ⟨_, rfl, rfl, rfl⟩) fun h => absurd h2 h

theorem verPlaces_spec (a b c p k : Int) : ASpec Tryd.prog 3 [.agg [.int .i64 a, .int .i64 b, .int .i64 c], .int .i64 p, .int .i64 k] [] (fun r H' => r = .bool true ∧ H' = []) := by
  refine pd (.bool true) (fun _ => rfl) (fun _ => rfl) [] (s3 _ _ _ _ _ _ ?_)
  refine ASpec.call (place_spec a b c _) (Les.refl _) ⟨_, rfl, rfl, ASpec.call (rplace_spec a b c _) (Les.refl _) ⟨_, rfl, rfl, ASpec.call (parts_spec p _) (Les.refl _) ⟨_, rfl, rfl,
    ASpec.call (rparts_spec p _) (Les.refl _) ⟨_, rfl, rfl, ?_⟩⟩⟩⟩
  refine condE (fun _ => ?_) fun h => absurd rfl h
  refine condB (fun _ => ?_) fun h => by simp at h
  refine condB (fun _ => ?_) fun h => by simp at h
  refine condB (fun _ => ?_) fun h => by simp at h
  refine ASpec.call (text_spec p _) (Les.refl _) ⟨_, rfl, rfl, ASpec.call (rtext_spec p _) (Les.refl _) ⟨_, rfl, rfl, condS (fun _ => ?_) fun h => absurd rfl h⟩⟩
  refine ASpec.call (after_spec p k _) (Les.refl _) ⟨_, rfl, rfl, ASpec.call (rafter_spec p k _) (Les.refl _) ⟨_, rfl, rfl, condE (fun _ => ?_) fun h => absurd rfl h⟩⟩
  exact ASpec.call (awake_spec _) (Les.refl _) ⟨_, rfl, rfl, rfl⟩

end D
