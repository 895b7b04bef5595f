/- What the code of the versions computes. -/
import Derived.Test.YtifbfcljgagacaaDoorDVc
import Derived.Test.YtifbfcljgagacaaDoorDBytes
import Derived.Test.YtifbfcljgagacaaDoorDShelf
import Derived.Test.YtifbfcljgagacaaDoorAbShelf
set_option linter.unusedVariables false
set_option linter.unusedSimpArgs false
set_option maxRecDepth 100000
open Go Go.Ab Go.Proofs Ve
namespace D

theorem tdv {p : Int} (h : 0 ≤ p) (d : Int) : Int.tdiv p d = p / d := Int.tdiv_eq_ediv_of_nonneg h
theorem tmd {p : Int} (h : 0 ≤ p) (d : Int) : Int.tmod p d = p % d := Int.tmod_eq_emod_of_nonneg h
theorem condBn {b : Bool} {A C : Prop} (h1 : b = false → A) (h2 : b = true → C) : condP (!b) A C := by cases b <;> simp_all [condP]

/-- what is left behind in the heap is nobody's -/
theorem drop0 {P : Program} {f : FuncId} {args : List AV} {r0 : AV} (hren : ∀ n, AV.ren (selR [] n) r0 = r0) (k : ASpec P f args [] (fun r _ => r = r0)) : ASpec P f args [] (fun r H' => r = r0 ∧ H' = []) :=
  ASpec.sel (k.mono fun r H' e => ⟨[], [], r0, Sel.none, by subst e; rw [hren]; exact Le.refl _, rfl, rfl⟩)

theorem pd {f : FuncId} {args : List AV} (r0 : AV) (hr : ∀ q, AV.ren q r0 = r0) (ha : ∀ q, args.map (AV.ren q) = args) (H : List AObj) (k : ASpec Tryd.prog f args [] (fun r _ => r = r0)) :
    ASpec Tryd.prog f args H (fun r H' => r = r0 ∧ H' = H) :=
  ASpec.pureH H (drop0 (fun _ => hr _) k) _ _ (ha _) (hr _)

def placeM (a b c : Int) : Int × Bool := if 0 ≤ a ∧ a < 1000 ∧ 0 ≤ b ∧ b < 1000 ∧ 0 ≤ c ∧ c < 1000 then (a * 1000000 + b * 1000 + c, true) else (0, false)
def fitB (p : Int) : Bool := decide (0 ≤ p ∧ p < 1000000000)
def partsM (p : Int) : (Int × Int × Int) × Bool := if 0 ≤ p ∧ p < 1000000000 then ((p / 1000000, p / 1000 % 1000, p % 1000), true) else ((0, 0, 0), false)
def wt (k : Int) : Int := if k = 0 then 1000000 else if k = 1 then 1000 else 1
def afterM (p k : Int) : Int := if (0 ≤ p ∧ p < 1000000000) ∧ 0 ≤ k ∧ k ≤ 2 then (p / wt k + 1) * wt k else 0

theorem weights_spec (H : List AObj) : ASpec Tryd.prog 17 [] H (fun r H' => r = .agg [.int .i64 1000000, .int .i64 1000, .int .i64 1] ∧ H' = H) :=
  pd (.agg [.int .i64 1000000, .int .i64 1000, .int .i64 1]) (fun _ => rfl) (fun _ => rfl) H (s17 _ rfl)

theorem fit_spec (p : Int) (H : List AObj) : ASpec Tryd.prog 18 [.int .i64 p] H (fun r H' => r = .bool (fitB p) ∧ H' = H) := by
  refine pd (.bool (fitB p)) (fun _ => rfl) (fun _ => rfl) H (s18 _ _ (condD (fun h => ?_) fun h => ?_))
  all_goals (congr 1; unfold fitB)
  · apply decide_eq_decide.2; omega
  · exact (decide_eq_false (by omega)).symm

theorem rfit_spec (p : Int) (H : List AObj) : ASpec Tryd.prog 19 [.int .i64 p] H (fun r H' => r = .bool (fitB p) ∧ H' = H) := by
  refine pd (.bool (fitB p)) (fun _ => rfl) (fun _ => rfl) H (s19 _ _ (condD (fun h => ?_) fun h => ?_))
  all_goals (congr 1; unfold fitB)
  · apply decide_eq_decide.2; omega
  · exact (decide_eq_false (by omega)).symm

abbrev tupB (x : Int × Bool) : AV := .tup [.int .i64 x.1, .bool x.2]
abbrev a3 (x : Int × Int × Int) : AV := .agg [.int .i64 x.1, .int .i64 x.2.1, .int .i64 x.2.2]
abbrev tup3 (x : (Int × Int × Int) × Bool) : AV := .tup [a3 x.1, .bool x.2]

theorem place_no {a b c : Int} (h : ¬ (0 ≤ a ∧ a < 1000 ∧ 0 ≤ b ∧ b < 1000 ∧ 0 ≤ c ∧ c < 1000)) : tupB (placeM a b c) = .tup [.int .i64 0, .bool false] := by
  unfold placeM; rw [if_neg h]

theorem place_spec (a b c : Int) (H : List AObj) : ASpec Tryd.prog 6 [.agg [.int .i64 a, .int .i64 b, .int .i64 c]] H (fun r H' => r = tupB (placeM a b c) ∧ H' = H) := by
  have e3 : (0 : Int) ≤ 0 ∧ (0 : Int) < 3 := by decide
  have e4 : (0 : Int) ≤ 1 ∧ (1 : Int) < 3 := by decide
  have e5 : (0 : Int) ≤ 2 ∧ (2 : Int) < 3 := by decide
  refine pd (tupB (placeM a b c)) (fun _ => rfl) (fun _ => rfl) H (s6 _ _ _ _ (ASpec.call (weights_spec _) (Les.refl _) ⟨(), rfl, rfl, ?_⟩))
  refine v6_3a _ _ _ _ _ _ (needJ e3 (needJ e3 (condD (fun h => (place_no (by omega)).symm) fun h1 => needJ e3 (condD (fun h => (place_no (by omega)).symm) fun h2 => needJ e3 ?_))))
  refine v6_3b _ _ _ _ _ _ (needJ e4 (needJ e4 (condD (fun h => (place_no (by omega)).symm) fun h3 => needJ e4 (condD (fun h => (place_no (by omega)).symm) fun h4 => needJ e4 ?_))))
  refine v6_3c _ _ _ _ _ _ (needJ e5 (needJ e5 (condD (fun h => (place_no (by omega)).symm) fun h5 => needJ e5 (condD (fun h => (place_no (by omega)).symm) fun h6 => needJ e5 ?_))))
  refine v6_3d _ _ _ _ _ _ ?_
  unfold placeM
  rw [if_pos (by omega)]
  rw [wrap64 (x := a * 1000000) (by omega) (by omega), wrap64 (x := 0 + a * 1000000) (by omega) (by omega), wrap64 (x := b * 1000) (by omega) (by omega), wrap64 (x := 0 + a * 1000000 + b * 1000) (by omega) (by omega),
    wrap64 (x := c * 1) (by omega) (by omega), wrap64 (by omega) (by omega), Int.zero_add, Int.mul_one]

theorem rplace_spec (a b c : Int) (H : List AObj) : ASpec Tryd.prog 7 [.agg [.int .i64 a, .int .i64 b, .int .i64 c]] H (fun r H' => r = tupB (placeM a b c) ∧ H' = H) := by
  have e3 : (0 : Int) ≤ 0 ∧ (0 : Int) < 3 := by decide
  have e4 : (0 : Int) ≤ 1 ∧ (1 : Int) < 3 := by decide
  have e5 : (0 : Int) ≤ 2 ∧ (2 : Int) < 3 := by decide
  refine pd (tupB (placeM a b c)) (fun _ => rfl) (fun _ => rfl) H (s7 _ _ _ _ ?_)
  refine v7_3a _ _ _ _ _ _ (needJ e3 (condD (fun h => (place_no (by omega)).symm) fun h1 => needJ e3 (condD (fun h => (place_no (by omega)).symm) fun h2 => needJ e3 ?_)))
  refine v7_3b _ _ _ _ _ _ (needJ e4 (condD (fun h => (place_no (by omega)).symm) fun h3 => needJ e4 (condD (fun h => (place_no (by omega)).symm) fun h4 => needJ e4 ?_)))
  refine v7_3c _ _ _ _ _ _ (needJ e5 (condD (fun h => (place_no (by omega)).symm) fun h5 => needJ e5 (condD (fun h => (place_no (by omega)).symm) fun h6 => needJ e5 ?_)))
  refine v7_3d _ _ _ _ _ _ ?_
  unfold placeM
  rw [if_pos (by omega)]
  rw [wrap64 (x := 0 * 1000) (by omega) (by omega), wrap64 (x := 0 * 1000 + a) (by omega) (by omega), wrap64 (x := (0 * 1000 + a) * 1000) (by omega) (by omega), wrap64 (x := (0 * 1000 + a) * 1000 + b) (by omega) (by omega),
    wrap64 (x := ((0 * 1000 + a) * 1000 + b) * 1000) (by omega) (by omega), wrap64 (by omega) (by omega)]
  congr 2
  congr 1
  omega

theorem parts_spec (p : Int) (H : List AObj) : ASpec Tryd.prog 8 [.int .i64 p] H (fun r H' => r = tup3 (partsM p) ∧ H' = H) := by
  have e3 : (0 : Int) ≤ 0 ∧ (0 : Int) < 3 := by decide
  have e4 : (0 : Int) ≤ 1 ∧ (1 : Int) < 3 := by decide
  have e5 : (0 : Int) ≤ 2 ∧ (2 : Int) < 3 := by decide
  refine pd (tup3 (partsM p)) (fun _ => rfl) (fun _ => rfl) H (s8 _ _ (ASpec.call (fit_spec p _) (Les.refl _) ⟨_, rfl, rfl, condBn (fun h => ?_) fun h => ?_⟩))
  · have : ¬ (0 ≤ p ∧ p < 1000000000) := by simpa [fitB] using h
    unfold partsM; rw [if_neg this]
  · have hp : 0 ≤ p ∧ p < 1000000000 := by simpa [fitB] using h
    refine ASpec.call (weights_spec _) (Les.refl _) ⟨(), rfl, rfl, ?_⟩
    refine v8_5a _ _ _ _ _ _ (needJ e3 (needJ (by decide) (needJ (by decide) (needJ e3 ?_))))
    refine v8_5b _ _ _ _ _ _ (needJ e4 (needJ (by decide) (needJ (by decide) (needJ e4 ?_))))
    refine v8_5c _ _ _ _ _ _ (needJ e5 (needJ (by decide) (needJ (by decide) (needJ e5 ?_))))
    refine v8_5d _ _ _ _ _ _ ?_
    rw [tdv hp.1, tdv hp.1, tdv hp.1, wrap64 (x := p / 1000000) (by omega) (by omega), wrap64 (x := p / 1000) (by omega) (by omega), wrap64 (x := p / 1) (by omega) (by omega), tmd (by omega), tmd (by omega), tmd (by omega)]
    unfold partsM; rw [if_pos hp, Int.ediv_one, Int.emod_eq_of_lt (a := p / 1000000) (by omega) (by omega)]

theorem rparts_spec (p : Int) (H : List AObj) : ASpec Tryd.prog 9 [.int .i64 p] H (fun r H' => r = tup3 (partsM p) ∧ H' = H) := by
  refine pd (tup3 (partsM p)) (fun _ => rfl) (fun _ => rfl) H (s9 _ _ (ASpec.call (rfit_spec p _) (Les.refl _) ⟨_, rfl, rfl, condBn (fun h => ?_) fun h => ?_⟩))
  · have : ¬ (0 ≤ p ∧ p < 1000000000) := by simpa [fitB] using h
    unfold partsM; rw [if_neg this]
  · have hp : 0 ≤ p ∧ p < 1000000000 := by simpa [fitB] using h
    refine needJ (by decide) (needJ (by decide) (needJ (by decide) (needJ (by decide) ?_)))
    rw [tdv hp.1, tdv hp.1, wrap64 (x := p / 1000000) (by omega) (by omega), wrap64 (x := p / 1000) (by omega) (by omega), tmd (by omega), tmd (by omega)]
    unfold partsM; rw [if_pos hp]

theorem after_spec (p k : Int) (H : List AObj) : ASpec Tryd.prog 12 [.int .i64 p, .int .i64 k] H (fun r H' => r = .int .i64 (afterM p k) ∧ H' = H) := by
  have e3 : (0 : Int) ≤ 0 ∧ (0 : Int) < 3 := by decide
  have e4 : (0 : Int) ≤ 1 ∧ (1 : Int) < 3 := by decide
  have e5 : (0 : Int) ≤ 2 ∧ (2 : Int) < 3 := by decide
  have hno : ¬ ((0 ≤ p ∧ p < 1000000000) ∧ 0 ≤ k ∧ k ≤ 2) → AV.int .i64 0 = .int .i64 (afterM p k) := fun h => by unfold afterM; rw [if_neg h]
  refine pd (.int .i64 (afterM p k)) (fun _ => rfl) (fun _ => rfl) H (s12 _ _ _ (ASpec.call (fit_spec p _) (Les.refl _) ⟨_, rfl, rfl, condBn (fun h => ?_) fun h => ?_⟩))
  · have : ¬ (0 ≤ p ∧ p < 1000000000) := by simpa [fitB] using h
    exact hno (by omega)
  · have hp : 0 ≤ p ∧ p < 1000000000 := by simpa [fitB] using h
    refine condD (fun h => hno (by omega)) fun h1 => condD (fun h => hno (by omega)) fun h2 => ?_
    have hk : k = 0 ∨ k = 1 ∨ k = 2 := by omega
    have hA : afterM p k = (p / wt k + 1) * wt k := by unfold afterM; rw [if_pos (by omega)]
    rw [hA]
    rcases hk with rfl | rfl | rfl
    · refine v12_3a _ _ _ (ASpec.call (weights_spec _) (Les.refl _) ⟨(), rfl, rfl, needJ e3 (needJ (by decide) ?_)⟩)
      rw [tdv hp.1, wrap64 (x := p / 1000000) (by omega) (by omega), wrap64 (x := p / 1000000 + 1) (by omega) (by omega), wrap64 (by omega) (by omega)]; rfl
    · refine v12_3b _ _ _ (ASpec.call (weights_spec _) (Les.refl _) ⟨(), rfl, rfl, needJ e4 (needJ (by decide) ?_)⟩)
      rw [tdv hp.1, wrap64 (x := p / 1000) (by omega) (by omega), wrap64 (x := p / 1000 + 1) (by omega) (by omega), wrap64 (by omega) (by omega)]; rfl
    · refine v12_3c _ _ _ (ASpec.call (weights_spec _) (Les.refl _) ⟨(), rfl, rfl, needJ e5 (needJ (by decide) ?_)⟩)
      rw [tdv hp.1, wrap64 (x := p / 1) (by omega) (by omega), wrap64 (x := p / 1 + 1) (by omega) (by omega), wrap64 (by omega) (by omega)]; rfl

theorem rafter_spec (p k : Int) (H : List AObj) : ASpec Tryd.prog 13 [.int .i64 p, .int .i64 k] H (fun r H' => r = .int .i64 (afterM p k) ∧ H' = H) := by
  have hno : ¬ ((0 ≤ p ∧ p < 1000000000) ∧ 0 ≤ k ∧ k ≤ 2) → AV.int .i64 0 = .int .i64 (afterM p k) := fun h => by unfold afterM; rw [if_neg h]
  refine pd (.int .i64 (afterM p k)) (fun _ => rfl) (fun _ => rfl) H (s13 _ _ _ (ASpec.call (rfit_spec p _) (Les.refl _) ⟨_, rfl, rfl, condBn (fun h => ?_) fun h => ?_⟩))
  · have : ¬ (0 ≤ p ∧ p < 1000000000) := by simpa [fitB] using h
    exact hno (by omega)
  · have hp : 0 ≤ p ∧ p < 1000000000 := by simpa [fitB] using h
    refine condD (fun h => hno (by omega)) fun h1 => condD (fun h => hno (by omega)) fun h2 => ?_
    have hk : k = 0 ∨ k = 1 ∨ k = 2 := by omega
    have hA : afterM p k = (p / wt k + 1) * wt k := by unfold afterM; rw [if_pos (by omega)]
    rw [hA]
    have w1 : IntKind.wrap .i64 (1 * 1000) = 1000 := by decide
    have w2 : IntKind.wrap .i64 (1000 * 1000) = 1000000 := by decide
    have w3 : IntKind.wrap .i64 (0 + 1) = 1 := by decide
    have w4 : IntKind.wrap .i64 (1 + 1) = 2 := by decide
    rcases hk with rfl | rfl | rfl
    · refine v13_5 _ _ _ _ _ (condD (fun _ => ?_) fun h => absurd (show (0 : Int) < 2 by decide) h)
      rw [w1, w3]
      refine v13_5 _ _ _ _ _ (condD (fun _ => ?_) fun h => absurd (show (1 : Int) < 2 by decide) h)
      rw [w2, w4]
      refine v13_5 _ _ _ _ _ (condD (fun h => absurd h (by decide)) fun _ => needJ (by decide) ?_)
      rw [tdv hp.1, wrap64 (x := p / 1000000) (by omega) (by omega), wrap64 (x := p / 1000000 + 1) (by omega) (by omega), wrap64 (by omega) (by omega)]; rfl
    · refine v13_5 _ _ _ _ _ (condD (fun _ => ?_) fun h => absurd (show (1 : Int) < 2 by decide) h)
      rw [w1, w4]
      refine v13_5 _ _ _ _ _ (condD (fun h => absurd h (by decide)) fun _ => needJ (by decide) ?_)
      rw [tdv hp.1, wrap64 (x := p / 1000) (by omega) (by omega), wrap64 (x := p / 1000 + 1) (by omega) (by omega), wrap64 (by omega) (by omega)]; rfl
    · refine v13_5 _ _ _ _ _ (condD (fun h => absurd h (by decide)) fun _ => needJ (by decide) ?_)
      rw [tdv hp.1, wrap64 (x := p / 1) (by omega) (by omega), wrap64 (x := p / 1 + 1) (by omega) (by omega), wrap64 (by omega) (by omega)]; rfl

/-! ### texts -/

theorem decD {n : Nat} (h : n < 1000) : Go.Lib.decDigits n = dg n := by
  unfold dg
  by_cases h10 : n < 10
  · rw [Go.Lib.decDigits, dif_pos h10, if_pos h10]
  · rw [Go.Lib.decDigits, dif_neg h10, if_neg h10]
    by_cases h100 : n < 100
    · rw [if_pos h100, Go.Lib.decDigits, dif_pos (show n / 10 < 10 by omega)]; rfl
    · rw [if_neg h100, Go.Lib.decDigits, dif_neg (show ¬ n / 10 < 10 by omega), Go.Lib.decDigits, dif_pos (show n / 10 / 10 < 10 by omega), show n / 10 / 10 = n / 100 by omega]; rfl

theorem tabIs {M : Mem} {w : World} (h : Tabs Tryd.prog M w) : Lib.TabIs Tryd.prog w "internal/strconv.uint64pow10" .u64 Lib.pow10Tab := by
  have hg : (Tryd.prog.globalNamed "internal/strconv.uint64pow10").isSome = true := by kernel_rfl
  obtain ⟨g, hg⟩ := Option.isSome_iff_exists.1 hg
  obtain ⟨_, T, fr, hc⟩ := h g hg
  unfold Lib.TabIs World.var?
  rw [hg]
  simp only [Option.bind_some, hc]
  congr 1

theorem itoa_spec {n : Int} (h0 : 0 ≤ n) (h1 : n < 1000) (H : List AObj) : ASpec Tryd.prog 20 [.int .i64 n] H (fun r H' => r = .str (B (dg n.toNat)) ∧ H' = H) := by
  refine ASpec.of_calls fun M loc w vs ht hv => ?_
  obtain ⟨hs, hv⟩ := hv
  have hv0 := hv 0 (by simp)
  have hvs : vs = #[vs[0]'(by simp at hs; omega)] := by
    apply Array.ext
    · simpa using hs
    · intro i h1 h2
      have : i < 1 := by simpa using h2
      match i, this with
      | 0, _ => rfl
  rw [hvs]
  simp only [List.getElem_cons_zero] at hv0
  generalize vs[0]'(by simp at hs; omega) = v0 at hv0
  cases hv0
  refine (Tryd.strconv_Itoa n (by omega) (by omega) w (tabIs ht)).mono fun e w' ⟨he, k, os, hw⟩ => ?_
  refine ⟨_, he, ?_, ?_⟩
  · have : Go.Lib.itoa n = dg n.toNat := by unfold Go.Lib.itoa; rw [if_neg (by omega), decD (by omega)]
    rw [this]
    exact .str _
  · subst hw
    refine ⟨by simp [Sort.grow, World.drewN], fun b hb => ?_, rfl, rfl, rfl⟩
    simp only [Sort.grow, World.drewN]
    rw [Array.getElem?_append_left hb]

theorem digits_spec {n : Int} (h0 : 0 ≤ n) (h1 : n < 1000) (H : List AObj) : ASpec Tryd.prog 21 [.int .i64 n] H (fun r H' => r = .str (B (dg n.toNat)) ∧ H' = H) := by
  have hb : ∀ n : Int, 0 ≤ n → bytesOf (.raw [[.int .u8 (IntKind.wrap .u8 (IntKind.wrap .i64 (48 + Int.tmod n 10)))]]) = B [UInt8.ofNat (48 + n.toNat % 10)] := by
    intro n h
    rw [tmd h, wrap64 (by omega) (by omega), wrapU8, Int.emod_eq_of_lt (by omega) (by omega), bytesOf_one]
    congr 2; congr 1; omega
  have k1 : ∀ n : Int, 0 ≤ n → n < 10 → ∀ H, ASpec Tryd.prog 21 [.int .i64 n] H (fun r H' => r = .str (B (dg n.toNat)) ∧ H' = H) := by
    intro n h0 h1 H
    refine pd (.str (B (dg n.toNat))) (fun _ => rfl) (fun _ => rfl) H (s21 _ _ (needJ (by decide) (needJ allBytes_one (condD (fun _ => ?_) fun h => absurd h1 h))))
    rw [hb n h0]
    unfold dg; rw [if_pos (by omega), show n.toNat % 10 = n.toNat by omega]
  have k2 : ∀ n : Int, 0 ≤ n → n < 100 → ∀ H, ASpec Tryd.prog 21 [.int .i64 n] H (fun r H' => r = .str (B (dg n.toNat)) ∧ H' = H) := by
    intro n h0 h1 H
    by_cases h10 : n < 10
    · exact k1 n h0 h10 H
    refine pd (.str (B (dg n.toNat))) (fun _ => rfl) (fun _ => rfl) H (s21 _ _ (needJ (by decide) (needJ allBytes_one (condD (fun h => absurd h h10) fun h => needJ (by decide) ?_))))
    rw [tdv h0, wrap64 (by omega) (by omega)]
    refine ASpec.call (k1 (n / 10) (by omega) (by omega) _) (Les.refl _) ⟨_, rfl, rfl, ?_⟩
    rw [hb n h0, B_append]
    refine needJ ?_ ?_
    · rw [B_size, B_size]; have := (dg_len (n / 10).toNat); simp; omega
    · congr 2
      unfold dg; rw [if_pos (by omega), if_neg (by omega), if_pos (by omega), show (n / 10).toNat = n.toNat / 10 by omega]; rfl
  by_cases h100 : n < 100
  · exact k2 n h0 h100 H
  refine pd (.str (B (dg n.toNat))) (fun _ => rfl) (fun _ => rfl) H (s21 _ _ (needJ (by decide) (needJ allBytes_one (condD (fun h => by omega) fun h => needJ (by decide) ?_))))
  rw [tdv h0, wrap64 (by omega) (by omega)]
  refine ASpec.call (k2 (n / 10) (by omega) (by omega) _) (Les.refl _) ⟨_, rfl, rfl, ?_⟩
  rw [hb n h0, B_append]
  refine needJ ?_ ?_
  · rw [B_size, B_size]; have := (dg_len (n / 10).toNat); simp; omega
  · congr 2
    unfold dg; rw [if_neg (by omega), if_pos (by omega), if_neg (by omega), if_neg (by omega), show (n / 10).toNat = n.toNat / 10 by omega, show n.toNat / 10 / 10 = n.toNat / 100 by omega]; rfl

end D
