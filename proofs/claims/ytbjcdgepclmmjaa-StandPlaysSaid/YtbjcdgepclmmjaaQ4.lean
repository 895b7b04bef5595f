/- Q4: several of this proof's own texts, one behind the other: what each proves stands at its head. -/
import Derived.Test.YtbjcdgepclmmjaaQ2
import Derived.Test.YtbjcdgepclmmjaaQ3
import Derived.Sort.Walk0
import Derived.Lib.Bytealg
import Derived.Shelf.Lays
import Derived.Shelf.Small.Strs
import Derived.Test.YtbjcdgepclmmjaaProg
import Derived.Test.YtbjcdgepclmmjaaA1
import Derived.Test.YtbjcdgepclmmjaaChecked
import Derived.KernelRfl
import Derived.JoinedOf
section
/- Stamps: what the code and the document sum up, close and open. -/

set_option linter.unusedVariables false
set_option linter.unusedSimpArgs false
open Go Go.Ab Go.Proofs V
namespace Go.Ab

theorem Le.tup {l r : List AV} (h : Les l r) : Le (.tup l) (.tup r) := by
  intro M w loc v hv
  cases hv with
  | tup _ vs hs hr =>
    have hl := h.len
    exact .tup _ vs (by omega) fun i hi => h.get i (by omega) hi M w loc _ (hr i (by omega))

theorem Le.agg {l r : List AV} (h : Les l r) : Le (.agg l) (.agg r) := by
  intro M w loc v hv
  cases hv with
  | agg _ vs hs hr =>
    have hl := h.len
    exact .agg _ vs (by omega) fun i hi => h.get i (by omega) hi M w loc _ (hr i (by omega))

theorem wrapU32 {x : Int} : IntKind.wrap .u32 x = x % 4294967296 := by
  simp only [IntKind.wrap, IntKind.bits, IntKind.signed]
  have e : (2 : Int) ^ 32 = 4294967296 := by decide
  simp only [e, Bool.false_and]
  simp

theorem wrapU32N {n : Nat} (h : n < 4294967296) : IntKind.wrap .u32 (n : Int) = n := by
  rw [wrapU32]; omega

theorem wrapU8N (n : Nat) : IntKind.wrap .u8 (n : Int) = ((n % 256 : Nat) : Int) := by
  rw [wrapU8]; omega

theorem bvx {x c : Nat} (hx : x < 4294967296) (hc : c < 4294967296) : (BitVec.ofInt 32 (x : Int) ^^^ BitVec.ofInt 32 (c : Int)).toNat = x ^^^ c := by
  rw [BitVec.ofInt_natCast, BitVec.ofInt_natCast, BitVec.toNat_xor, BitVec.toNat_ofNat, BitVec.toNat_ofNat, Nat.mod_eq_of_lt (by simpa using hx), Nat.mod_eq_of_lt (by simpa using hc)]

theorem fdivN (n k : Nat) : Int.fdiv (n : Int) (k : Int) = ((n / k : Nat) : Int) := by
  rw [Int.fdiv_eq_ediv_of_nonneg _ (by omega)]; simp

end Go.Ab
namespace S

def fnv : Nat → List UInt8 → Nat
  | n, [] => n
  | n, c :: l => fnv ((n ^^^ c.toNat) * 16777619 % 4294967296) l

theorem fnv_lt : ∀ (l : List UInt8) (n : Nat), n < 4294967296 → fnv n l < 4294967296
  | [], n, h => h
  | c :: l, n, h => fnv_lt l _ (Nat.mod_lt _ (by omega))

abbrev sum (l : List UInt8) : Nat := fnv 2166136261 l
theorem sum_lt (l : List UInt8) : sum l < 4294967296 := fnv_lt l _ (by omega)

def be4 (n : Nat) : List UInt8 := [UInt8.ofNat (n / 16777216), UInt8.ofNat (n / 65536), UInt8.ofNat (n / 256), UInt8.ofNat n]
def sealM (l : List UInt8) : List UInt8 := l ++ be4 (sum l)
def openM (l : List UInt8) : List UInt8 × Bool :=
  if l.length < 4 then ([], false) else if sealM (l.take (l.length - 4)) = l then (l.take (l.length - 4), true) else ([], false)

theorem u8_ext {a b : UInt8} (h : a.toNat = b.toNat) : a = b := UInt8.toNat_inj.1 h

/-! ### xor, bit by bit -/

theorem xor_step (a b : Nat) : a ^^^ b = 2 * ((a / 2) ^^^ (b / 2)) + (if a % 2 ≠ b % 2 then 1 else 0) := by
  have h1 := Nat.xor_div_two (a := a) (b := b)
  have h2 := Nat.xor_mod_two_eq_one (a := a) (b := b)
  split <;> omega

set_option maxRecDepth 100000 in
theorem xor3 {Post : AV → List AObj → Prop} : ∀ (m a b n w : Nat), m ≤ 8 → w * 2 ^ m = 256 → a < 2 ^ m → b < 2 ^ m → n < w → Post (.int .i64 ((n + w * (a ^^^ b) : Nat) : Int)) [] →
    AWP Try.prog 24 0 c373_3 [(0, .int .i64 a), (1, .int .i64 b), (5, .int .i64 n), (6, .int .i64 w)] [] (q373_2 0 Post) := by
  intro m
  induction m with
  | zero =>
    intro a b n w _ hw ha hb hn h
    refine v373_3 _ _ _ _ _ _ (condD (fun hc => by simp at hw; omega) fun _ => ?_)
    have ha0 : a = 0 := by simpa using ha
    have hb0 : b = 0 := by simpa using hb
    subst ha0; subst hb0
    simpa using h
  | succ m ih =>
    intro a b n w hm hw ha hb hn h
    rw [Nat.pow_succ] at hw ha hb
    have hp : 1 ≤ 2 ^ m := Nat.one_le_two_pow
    have hw2 : w ≤ 128 := by
      have : w * 2 ≤ 256 := by
        rw [← hw, ← Nat.mul_assoc]
        calc w * 2 = w * 1 * 2 := by omega
          _ ≤ w * 2 ^ m * 2 := Nat.mul_le_mul_right _ (Nat.mul_le_mul_left _ hp)
      omega
    have e := xor_step a b
    have ha9 : a < 2 ^ 8 := Nat.lt_of_lt_of_le ha (by rw [← Nat.pow_succ]; exact Nat.pow_le_pow_right (by omega) hm)
    have hb9 : b < 2 ^ 8 := Nat.lt_of_lt_of_le hb (by rw [← Nat.pow_succ]; exact Nat.pow_le_pow_right (by omega) hm)
    have tail : ∀ (n' : Nat), n' < w * 2 → n' + w * 2 * ((a / 2) ^^^ (b / 2)) = n + w * (a ^^^ b) → AWP Try.prog 24 0 c373_6 [(0, .int .i64 a), (1, .int .i64 b), (5, .int .i64 n'), (6, .int .i64 w)] [] (q373_4 0 Post) := by
      intro n' hn' hq
      refine v373_6 _ _ _ _ _ _ (needJ (by decide) (needJ (by decide) ?_))
      rw [show (2 : Int) = ((2 : Nat) : Int) from rfl, tdivN, tdivN, wrapN (by omega), wrapN (by omega), ← Int.natCast_mul, wrapN (by omega)]
      refine ih (a / 2) (b / 2) n' (w * 2) (by omega) (by rw [← hw, Nat.mul_assoc, Nat.mul_comm 2]) (by omega) (by omega) hn' ?_
      rw [hq]; exact h
    refine v373_3 _ _ _ _ _ _ (condD (fun _ => needJ (by decide) (needJ (by decide) ?_)) fun hc => by omega)
    rw [show (2 : Int) = ((2 : Nat) : Int) from rfl, tmodN, tmodN]
    refine condNe (fun hne => ?_) fun heq => ?_
    · rw [← Int.natCast_add, wrapN (by omega)]
      refine tail (n + w) (by omega) ?_
      rw [if_pos (by omega)] at e
      rw [e, Nat.mul_add, ← Nat.mul_assoc]
      omega
    · refine tail n (by omega) ?_
      rw [if_neg (by omega)] at e
      rw [e, Nat.mul_add, ← Nat.mul_assoc]
      omega

theorem xor_spec (a b : Nat) (ha : a < 256) (hb : b < 256) (H : List AObj) : ASpec Try.prog 373 [.int .i64 a, .int .i64 b] H (fun r H' => r = .int .i64 ((a ^^^ b : Nat) : Int) ∧ H' = H) := by
  have k : ASpec Try.prog 373 [.int .i64 a, .int .i64 b] [] (fun r H' => r = .int .i64 ((a ^^^ b : Nat) : Int) ∧ H' = []) :=
    s373 _ _ _ (xor3 8 a b 0 1 (by omega) (by decide) ha hb (by omega) ⟨by simp, rfl⟩)
  exact ASpec.pureH H k _ _ rfl rfl

theorem xor_low (n c : Nat) (hc : c < 256) : n - n % 256 + (n % 256 ^^^ c) = n ^^^ c := by
  have h1 : (n ^^^ c) / 2 ^ 8 = (n / 2 ^ 8) ^^^ (c / 2 ^ 8) := Nat.xor_div_two_pow
  have h2 : (n ^^^ c) % 2 ^ 8 = (n % 2 ^ 8) ^^^ (c % 2 ^ 8) := Nat.xor_mod_two_pow
  have e : (2 : Nat) ^ 8 = 256 := by decide
  rw [e] at h1 h2
  rw [Nat.div_eq_of_lt hc, Nat.xor_zero] at h1
  rw [Nat.mod_eq_of_lt hc] at h2
  rw [← h2]
  omega

theorem xor_lt {n c : Nat} (hn : n < 4294967296) (hc : c < 256) : n ^^^ c < 4294967296 := by
  have : n ^^^ c < 2 ^ 32 := Nat.xor_lt_two_pow (by omega) (by omega)
  omega

/-! ### sums -/

theorem rof3 {l : List UInt8} {Post : AV → List AObj → Prop} (hl : l.length ≤ 10 * big) : ∀ (m i n : Nat), m + i = l.length → n < 4294967296 → Post (.int .i64 (fnv n (l.drop i) : Nat)) [] →
    AWP Try.prog 28 0 c324_3 [(0, .str (B l)), (3, .int .i64 n), (4, .int .i64 i)] [] (q324_2 0 Post) := by
  unfold big at hl
  intro m
  induction m with
  | zero =>
    intro i n hm hn h
    refine v324_3 _ _ _ _ _ (condD (fun hc => by rw [B_size] at hc; omega) fun _ => ?_)
    rw [List.drop_eq_nil_of_le (by omega)] at h
    exact h
  | succ m ih =>
    intro i n hm hn h
    refine v324_3 _ _ _ _ _ (condD (fun hc => needJ (by decide) (needJ ⟨by omega, hc⟩ ?_)) fun hc => by rw [B_size] at hc; omega)
    have hg : (B l).data.toList.getD (Int.toNat (i : Int)) 0 = l.getD i 0 := rfl
    rw [hg]
    rw [getD_drop l i (by omega)] at h
    simp only [fnv] at h
    generalize l.getD i 0 = c at h ⊢
    have hc8 : c.toNat < 256 := c.toNat_lt
    rw [wrapN (n := c.toNat) (by omega), show (256 : Int) = ((256 : Nat) : Int) from rfl, tmodN]
    refine ASpec.call (xor_spec (n % 256) c.toNat (by omega) hc8 _) (Les.refl _) ⟨_, rfl, rfl, needJ (by decide) ?_⟩
    have hx := xor_low n c.toNat hc8
    have hx2 := xor_lt (n := n) (c := c.toNat) hn hc8
    have hx3 : n % 256 ^^^ c.toNat < 256 := by
      have : n % 256 ^^^ c.toNat < 2 ^ 8 := Nat.xor_lt_two_pow (by omega) (by omega)
      omega
    generalize n % 256 ^^^ c.toNat = y at hx hx3 ⊢
    generalize n ^^^ c.toNat = z at hx hx2 h
    rw [wrap64 (x := (n : Int) - ((n % 256 : Nat) : Int)) (by omega) (by omega), wrap64 (x := (n : Int) - ((n % 256 : Nat) : Int) + (y : Int)) (by omega) (by omega)]
    have e1 : ((n : Int) - ((n % 256 : Nat) : Int) + (y : Int)) = (z : Int) := by omega
    rw [e1, wrap64 (x := (z : Int) * 16777619) (by omega) (by omega)]
    have e2 : (z : Int) * 16777619 = ((z * 16777619 : Nat) : Int) := by simp
    rw [e2, show (4294967296 : Int) = ((4294967296 : Nat) : Int) from rfl, tmodN]
    rw [show IntKind.wrap .i64 ((i : Int) + 1) = ((i + 1 : Nat) : Int) by rw [wrap64 (by omega) (by omega)]; simp]
    exact ih (i + 1) _ (by omega) (Nat.mod_lt _ (by omega)) h

theorem rof_spec (l : List UInt8) (hl : l.length ≤ 10 * big) (H : List AObj) : ASpec Try.prog 324 [.str (B l)] H (fun r H' => r = .int .i64 (sum l : Nat) ∧ H' = H) := by
  have k : ASpec Try.prog 324 [.str (B l)] [] (fun r H' => r = .int .i64 (sum l : Nat) ∧ H' = []) :=
    s324 _ _ (rof3 hl l.length 0 2166136261 (by omega) (by omega) ⟨rfl, rfl⟩)
  exact ASpec.pureH H k _ _ rfl rfl

theorem on2 {l : List UInt8} {Post : AV → List AObj → Prop} (hl : l.length ≤ 10 * big) : ∀ (m i n : Nat), m + i = l.length → n < 4294967296 → Post (.int .u32 (fnv n (l.drop i) : Nat)) [] →
    AWP Try.prog 20 0 c393_2 [(0, .int .u32 n), (7, .sl 1 (.map encB 0 l) .none), (8, .int .i64 l.length), (9, .int .i64 i)] [] (q393_2 0 Post) := by
  unfold big at hl
  intro m
  induction m with
  | zero =>
    intro i n hm hn h
    refine v393_2 _ _ _ _ _ _ (condD (fun hc => by omega) fun _ => ?_)
    rw [List.drop_eq_nil_of_le (by omega)] at h
    exact h
  | succ m ih =>
    intro i n hm hn h
    refine v393_2 _ _ _ _ _ _ (condD (fun hc => needJ ⟨by omega, by omega⟩ ?_) fun hc => by omega)
    rw [Int.toNat_natCast]
    rw [getD_drop l i (by omega)] at h
    simp only [fnv] at h
    generalize l.getD i 0 = c at h ⊢
    have hc8 : c.toNat < 256 := c.toNat_lt
    have hx2 := xor_lt (n := n) (c := c.toNat) hn hc8
    rw [wrapU32N (n := c.toNat) (by omega), bvx hn (by omega), wrapU32N hx2]
    generalize n ^^^ c.toNat = z at hx2 h ⊢
    have e2 : IntKind.wrap .u32 ((z : Int) * 16777619) = ((z * 16777619 % 4294967296 : Nat) : Int) := by rw [wrapU32]; omega
    rw [e2]
    rw [show IntKind.wrap .i64 ((i : Int) + 1) = ((i + 1 : Nat) : Int) by rw [wrap64 (by omega) (by omega)]; simp]
    exact ih (i + 1) _ (by omega) (Nat.mod_lt _ (by omega)) h

theorem of_spec (l : List UInt8) (hl : l.length ≤ 10 * big) (H : List AObj) : ASpec Try.prog 372 [.sl 1 (.map encB 0 l) .none] H (fun r H' => r = .int .u32 (sum l : Nat) ∧ H' = H) := by
  have k1 : ASpec Try.prog 393 [.int .u32 2166136261, .sl 1 (.map encB 0 l) .none] [] (fun r H' => r = .int .u32 (sum l : Nat) ∧ H' = []) :=
    s393 _ _ _ (on2 hl l.length 0 2166136261 (by omega) (by omega) ⟨rfl, rfl⟩)
  have k : ASpec Try.prog 372 [.sl 1 (.map encB 0 l) .none] [] (fun r H' => r = .int .u32 (sum l : Nat) ∧ H' = []) :=
    s372 _ _ (ASpec.call k1 (Les.refl _) ⟨_, rfl, rfl, rfl, rfl⟩)
  exact ASpec.pureH H k _ _ rfl rfl

/-! ### sealing -/

theorem encB_mod (k : Nat) : [AV.int .u8 ((k % 256 : Nat) : Int)] = encB (UInt8.ofNat k) := by
  simp only [encB]
  rw [UInt8.toNat_ofNat']

theorem ofNat_mod (k : Nat) : UInt8.ofNat (k % 256) = UInt8.ofNat k := u8_ext (by rw [UInt8.toNat_ofNat', UInt8.toNat_ofNat']; omega)

theorem sealLe {q : Seq} {tip : Tip} {ρ : Nat → Nat} (l : List UInt8) (h : q.toList = l.map encB) : Le (.sl 1 q tip) (AV.ren ρ (.sl 1 (.map encB 0 l) .none)) :=
  Le.sl (s' := Seq.ren ρ (.map encB 0 l)) (by rw [h]; simp [Ab.Seq.toList, Seq.ren, encB, renL, AV.ren]) (.inl rfl) (.inr rfl)

theorem seal_spec (l : List UInt8) (hl : l.length + 100 ≤ big) (H : List AObj) : ASpec Try.prog 323 [.sl 1 (.map encB 0 l) .none] H (fun r H' => r = .sl 1 (.map encB 0 (sealM l)) .none ∧ H' = H) := by
  have k : ASpec Try.prog 323 [.sl 1 (.map encB 0 l) .none] [] (fun r H' => r = .sl 1 (.map encB 0 (sealM l)) .none ∧ H' = []) := by
    unfold big at hl
    have hs := sum_lt l
    refine ASpec.sel (s323 _ _ (ASpec.call (of_spec l (by unfold big; omega) []) (Les.refl _) ⟨_, rfl, rfl, ?_⟩))
    rw [show IntKind.wrap .i64 ((l.length : Int) + 4) = ((l.length + 4 : Nat) : Int) by rw [wrap64 (by omega) (by omega)]; simp]
    refine needJ (by omega) (needJ oneB (needJ (by omega) (needJ (by decide) (needJ (by decide) (needJ (by decide) (needJ (by omega) ?_))))))
    refine ⟨[], [], .sl 1 (.map encB 0 (sealM l)) .none, Sel.none, sealLe _ ?_, rfl, rfl⟩
    unfold sealM
    generalize sum l = v at hs
    rw [show (16777216 : Int) = ((16777216 : Nat) : Int) from rfl, show (65536 : Int) = ((65536 : Nat) : Int) from rfl, show (256 : Int) = ((256 : Nat) : Int) from rfl,
      fdivN, fdivN, fdivN, wrapU8N, wrapU8N, wrapU8N, wrapU8N, encB_mod, encB_mod, encB_mod, encB_mod]
    simp [Ab.Seq.toList, be4]
  exact ASpec.pureH H k _ _ rfl rfl

theorem rseal_spec (l : List UInt8) (hl : l.length + 100 ≤ big) (H : List AObj) : ASpec Try.prog 263 [.str (B l)] H (fun r H' => r = .str (B (sealM l)) ∧ H' = H) := by
  have k : ASpec Try.prog 263 [.str (B l)] [] (fun r H' => r = .str (B (sealM l)) ∧ H' = []) := by
    unfold big at hl
    have hs := sum_lt l
    refine s263 _ _ (ASpec.call (rof_spec l (by unfold big; omega) []) (Les.refl _) ⟨_, rfl, rfl, ?_⟩)
    unfold sealM
    generalize sum l = v at hs
    have d1 : Int.tdiv (v : Int) 16777216 = ((v / 16777216 : Nat) : Int) := tdivN v 16777216
    have d2 : Int.tdiv (v : Int) 65536 = ((v / 65536 : Nat) : Int) := tdivN v 65536
    have d3 : Int.tdiv (v : Int) 256 = ((v / 256 : Nat) : Int) := tdivN v 256
    have m2 : Int.tmod ((v / 65536 : Nat) : Int) 256 = ((v / 65536 % 256 : Nat) : Int) := tmodN (v / 65536) 256
    have m3 : Int.tmod ((v / 256 : Nat) : Int) 256 = ((v / 256 % 256 : Nat) : Int) := tmodN (v / 256) 256
    have m4 : Int.tmod (v : Int) 256 = ((v % 256 : Nat) : Int) := tmodN v 256
    have e : bytesOf (.raw [[.int .u8 ((v / 16777216 % 256 : Nat) : Int)], [.int .u8 ((v / 65536 % 256 % 256 : Nat) : Int)], [.int .u8 ((v / 256 % 256 % 256 : Nat) : Int)], [.int .u8 ((v % 256 % 256 : Nat) : Int)]]) = B (be4 v) := by
      simp only [bytesOf, Ab.Seq.toList, List.map, cellByte, Int.toNat_natCast, ofNat_mod, be4]
    rw [d1, d2, d3, wrapN (n := v / 16777216) (by omega), wrapN (n := v / 65536) (by omega), wrapN (n := v / 256) (by omega), m2, m3, m4, wrapU8N, wrapU8N, wrapU8N, wrapU8N, e]
    refine needJ (by decide) (needJ (by decide) (needJ (by decide) (needJ (by decide) (needJ (by decide) (needJ (by decide) (needJ ?_ (needJ ?_ ⟨?_, rfl⟩)))))))
    · intro x hx
      simp only [Ab.Seq.toList, List.mem_cons, List.not_mem_nil, or_false] at hx
      rcases hx with rfl | rfl | rfl | rfl <;> exact ⟨_, rfl⟩
    · rw [B_size, B_size]
      have : (be4 v).length = 4 := rfl
      omega
    · rw [B_append]
  exact ASpec.pureH H k _ _ rfl rfl

/-! ### opening -/

theorem rsopen_spec (l : List UInt8) (hl : l.length + 100 ≤ big) (H : List AObj) :
    ASpec Try.prog 170 [.str (B l)] H (fun r H' => r = .tup [.str (B (openM l).1), .bool (openM l).2] ∧ H' = H) := by
  have k : ASpec Try.prog 170 [.str (B l)] [] (fun r H' => r = .tup [.str (B (openM l).1), .bool (openM l).2] ∧ H' = []) := by
    have hl' := hl
    unfold big at hl'
    refine s170 _ _ ?_
    rw [B_size, wrap64 (x := (l.length : Int) - 4) (by omega) (by omega)]
    refine condD (fun hc => ?_) fun hc => needJ ⟨by omega, by omega⟩ ?_
    · rw [show openM l = ([], false) by unfold openM; rw [if_pos (by omega)]]
      exact ⟨rfl, rfl⟩
    · rw [show ((l.length : Int) - 4) = ((l.length - 4 : Nat) : Int) by omega, Int.toNat_natCast, B_extract _ _ _ (by omega), List.drop_zero]
      refine ASpec.call (rseal_spec (l.take (l.length - 4)) (by simp; omega) []) (Les.refl _) ⟨_, rfl, rfl, condSn (fun hne => ?_) fun heq => needJ ⟨by omega, by omega⟩ ?_⟩
      · rw [show openM l = ([], false) by unfold openM; rw [if_neg (by omega), if_neg hne]]
        exact ⟨rfl, rfl⟩
      · rw [show openM l = (l.take (l.length - 4), true) by unfold openM; rw [if_neg (by omega), if_pos heq]]
        exact ⟨rfl, rfl⟩
  exact ASpec.pureH H k _ _ rfl rfl

end S
end

section
/- Labels: runes, kinds, and which names may be. -/

set_option linter.unusedVariables false
set_option linter.unusedSimpArgs false
set_option maxRecDepth 100000
open Go Go.Ab Go.Proofs V
namespace S

def kindM (c : Int) : Int := if 97 ≤ c ∧ c ≤ 122 then 0 else if 945 ≤ c ∧ c ≤ 969 then 1 else if 48 ≤ c ∧ c ≤ 57 then 2 else if c = 45 then 3 else 4

theorem kind_spec (c : Int) (H : List AObj) : ASpec Try.prog 253 [.int .i32 c] H (fun r H' => r = .int .i64 (kindM c) ∧ H' = H) := by
  have k : ASpec Try.prog 253 [.int .i32 c] [] (fun r H' => r = .int .i64 (kindM c) ∧ H' = []) := by
    refine s253 _ _ ?_
    repeat' (first | refine condD (fun _ => ?_) fun _ => ?_ | refine condE (fun _ => ?_) fun _ => ?_)
    all_goals (refine ⟨?_, rfl⟩; congr 1; unfold kindM; repeat' split)
    all_goals omega
  exact ASpec.pureH H k _ _ rfl rfl

theorem rkind_spec (c : Int) (H : List AObj) : ASpec Try.prog 165 [.int .i64 c] H (fun r H' => r = .int .i64 (kindM c) ∧ H' = H) := by
  have k : ASpec Try.prog 165 [.int .i64 c] [] (fun r H' => r = .int .i64 (kindM c) ∧ H' = []) := by
    refine s165 _ _ ?_
    repeat' (first | refine condD (fun _ => ?_) fun _ => ?_ | refine condE (fun _ => ?_) fun _ => ?_)
    all_goals (refine ⟨?_, rfl⟩; congr 1; unfold kindM; repeat' split)
    all_goals omega
  exact ASpec.pureH H k _ _ rfl rfl

theorem kindM_range (c : Int) : 0 ≤ kindM c ∧ kindM c ≤ 4 := by
  unfold kindM; repeat' split
  all_goals omega

/-! ### the rune at a place -/

/-- a byte behind a place -/
abbrev bt (l : List UInt8) (p k : Nat) : Nat := (l.getD (p + k) 0).toNat

theorem bt_lt (l : List UInt8) (p k : Nat) : bt l p k < 256 := (l.getD (p + k) 0).toNat_lt

theorem get_B (l : List UInt8) (j : Nat) : (B l).get! j = l.getD j 0 := by
  show l.toArray[j]! = _
  rw [getElem!_def]
  simp [List.getD]
  rfl

abbrev wideC (a b0 b1 b2 b3 : Nat) : Nat :=
  if 194 ≤ b0 ∧ b0 ≤ 223 then (if 2 ≤ a ∧ (128 ≤ b1 ∧ b1 ≤ 191) then 2 else 0)
  else if 224 ≤ b0 ∧ b0 ≤ 239 then (if 3 ≤ a ∧ (128 ≤ b1 ∧ b1 ≤ 191) ∧ (128 ≤ b2 ∧ b2 ≤ 191) ∧ ¬ (b0 = 224 ∧ b1 < 160) ∧ ¬ (b0 = 237 ∧ 159 < b1) then 3 else 0)
  else if 240 ≤ b0 ∧ b0 ≤ 244 then (if 4 ≤ a ∧ (128 ≤ b1 ∧ b1 ≤ 191) ∧ (128 ≤ b2 ∧ b2 ≤ 191) ∧ (128 ≤ b3 ∧ b3 ≤ 191) ∧ ¬ (b0 = 240 ∧ b1 < 144) ∧ ¬ (b0 = 244 ∧ 143 < b1) then 4 else 0)
  else 0

def wideM (l : List UInt8) (p : Nat) : Nat := wideC (l.length - p) (bt l p 0) (bt l p 1) (bt l p 2) (bt l p 3)

abbrev runeC (w b0 b1 b2 b3 : Nat) : Nat × Nat :=
  if b0 < 128 then (b0, 1) else if w = 0 then (65533, 1) else if w = 2 then (b0 % 32 * 64 + b1 % 64, 2)
  else if w = 3 then ((b0 % 16 * 64 + b1 % 64) * 64 + b2 % 64, 3) else (((b0 % 8 * 64 + b1 % 64) * 64 + b2 % 64) * 64 + b3 % 64, 4)

def runeM (l : List UInt8) (p : Nat) : Nat × Nat := runeC (wideM l p) (bt l p 0) (bt l p 1) (bt l p 2) (bt l p 3)

theorem decode_core (a b0 b1 b2 b3 : Nat) (h0 : b0 < 256) (h1 : b1 < 256) (h2 : b2 < 256) (h3 : b3 < 256) :
    (if b0 < 128 then (b0, 1)
     else if b0 / 32 = 6 ∧ (1 < a ∧ b1 / 64 = 2) then (if 128 ≤ b0 % 32 * 64 + b1 % 64 then (b0 % 32 * 64 + b1 % 64, 2) else (65533, 1))
     else if b0 / 16 = 14 ∧ (1 < a ∧ b1 / 64 = 2) ∧ (2 < a ∧ b2 / 64 = 2) then
       (if 2048 ≤ b0 % 16 * 4096 + b1 % 64 * 64 + b2 % 64 ∧ (b0 % 16 * 4096 + b1 % 64 * 64 + b2 % 64 < 55296 ∨ (57344 ≤ b0 % 16 * 4096 + b1 % 64 * 64 + b2 % 64 ∧ b0 % 16 * 4096 + b1 % 64 * 64 + b2 % 64 ≤ 1114111))
        then (b0 % 16 * 4096 + b1 % 64 * 64 + b2 % 64, 3) else (65533, 1))
     else if b0 / 8 = 30 ∧ (1 < a ∧ b1 / 64 = 2) ∧ (2 < a ∧ b2 / 64 = 2) ∧ (3 < a ∧ b3 / 64 = 2) then
       (if 65536 ≤ b0 % 8 * 262144 + b1 % 64 * 4096 + b2 % 64 * 64 + b3 % 64 ∧ (b0 % 8 * 262144 + b1 % 64 * 4096 + b2 % 64 * 64 + b3 % 64 < 55296 ∨ (57344 ≤ b0 % 8 * 262144 + b1 % 64 * 4096 + b2 % 64 * 64 + b3 % 64 ∧ b0 % 8 * 262144 + b1 % 64 * 4096 + b2 % 64 * 64 + b3 % 64 ≤ 1114111))
        then (b0 % 8 * 262144 + b1 % 64 * 4096 + b2 % 64 * 64 + b3 % 64, 4) else (65533, 1))
     else ((65533 : Nat), (1 : Nat))) = runeC (wideC a b0 b1 b2 b3) b0 b1 b2 b3 := by
  have e2 : ∀ w : Nat, w = 0 ∨ w = 2 ∨ w = 3 ∨ w = 4 ∨ 4 < w ∨ w = 1 := by omega
  by_cases c0 : b0 < 128
  · rw [if_pos c0]; unfold runeC; rw [if_pos c0]
  rw [if_neg c0]
  unfold runeC
  rw [if_neg c0]
  by_cases c1 : 194 ≤ b0 ∧ b0 ≤ 223
  · unfold wideC
    rw [if_pos c1]
    by_cases d : 1 < a ∧ b1 / 64 = 2
    · rw [if_pos ⟨by omega, d⟩, if_pos (by omega), if_pos (show 2 ≤ a ∧ (128 ≤ b1 ∧ b1 ≤ 191) by omega)]; rfl
    · rw [if_neg (fun h => d h.2), if_neg (fun h => d h.2.1), if_neg (fun h => d h.2.1), if_neg (show ¬ (2 ≤ a ∧ (128 ≤ b1 ∧ b1 ≤ 191)) by omega)]; rfl
  by_cases c2 : 224 ≤ b0 ∧ b0 ≤ 239
  · unfold wideC
    rw [if_neg c1, if_pos c2]
    rw [if_neg (show ¬ (b0 / 32 = 6 ∧ (1 < a ∧ b1 / 64 = 2)) by omega)]
    by_cases d : (1 < a ∧ b1 / 64 = 2) ∧ (2 < a ∧ b2 / 64 = 2)
    · rw [if_pos ⟨by omega, d⟩]
      by_cases f : ¬ (b0 = 224 ∧ b1 < 160) ∧ ¬ (b0 = 237 ∧ 159 < b1)
      · rw [if_pos (show 3 ≤ a ∧ (128 ≤ b1 ∧ b1 ≤ 191) ∧ (128 ≤ b2 ∧ b2 ≤ 191) ∧ ¬ (b0 = 224 ∧ b1 < 160) ∧ ¬ (b0 = 237 ∧ 159 < b1) by omega), if_pos (by omega)]
        simp only [if_neg (show ¬ (3 = 0) by omega), if_neg (show ¬ (3 = 2) by omega), if_true]
        rw [show b0 % 16 * 4096 + b1 % 64 * 64 + b2 % 64 = (b0 % 16 * 64 + b1 % 64) * 64 + b2 % 64 by omega]
      · rw [if_neg (show ¬ (3 ≤ a ∧ (128 ≤ b1 ∧ b1 ≤ 191) ∧ (128 ≤ b2 ∧ b2 ≤ 191) ∧ ¬ (b0 = 224 ∧ b1 < 160) ∧ ¬ (b0 = 237 ∧ 159 < b1)) by omega), if_neg (by omega)]; rfl
    · rw [if_neg (fun h => d h.2), if_neg (show ¬ (b0 / 8 = 30 ∧ (1 < a ∧ b1 / 64 = 2) ∧ (2 < a ∧ b2 / 64 = 2) ∧ (3 < a ∧ b3 / 64 = 2)) by omega),
        if_neg (show ¬ (3 ≤ a ∧ (128 ≤ b1 ∧ b1 ≤ 191) ∧ (128 ≤ b2 ∧ b2 ≤ 191) ∧ ¬ (b0 = 224 ∧ b1 < 160) ∧ ¬ (b0 = 237 ∧ 159 < b1)) by omega)]; rfl
  by_cases c3 : 240 ≤ b0 ∧ b0 ≤ 244
  · unfold wideC
    rw [if_neg c1, if_neg c2, if_pos c3]
    rw [if_neg (show ¬ (b0 / 32 = 6 ∧ (1 < a ∧ b1 / 64 = 2)) by omega), if_neg (show ¬ (b0 / 16 = 14 ∧ (1 < a ∧ b1 / 64 = 2) ∧ (2 < a ∧ b2 / 64 = 2)) by omega)]
    by_cases d : (1 < a ∧ b1 / 64 = 2) ∧ (2 < a ∧ b2 / 64 = 2) ∧ (3 < a ∧ b3 / 64 = 2)
    · rw [if_pos ⟨by omega, d⟩]
      by_cases f : ¬ (b0 = 240 ∧ b1 < 144) ∧ ¬ (b0 = 244 ∧ 143 < b1)
      · rw [if_pos (show 4 ≤ a ∧ (128 ≤ b1 ∧ b1 ≤ 191) ∧ (128 ≤ b2 ∧ b2 ≤ 191) ∧ (128 ≤ b3 ∧ b3 ≤ 191) ∧ ¬ (b0 = 240 ∧ b1 < 144) ∧ ¬ (b0 = 244 ∧ 143 < b1) by omega), if_pos (by omega)]
        simp only [if_neg (show ¬ (4 = 0) by omega), if_neg (show ¬ (4 = 2) by omega), if_neg (show ¬ (4 = 3) by omega)]
        rw [show b0 % 8 * 262144 + b1 % 64 * 4096 + b2 % 64 * 64 + b3 % 64 = ((b0 % 8 * 64 + b1 % 64) * 64 + b2 % 64) * 64 + b3 % 64 by omega]
      · rw [if_neg (show ¬ (4 ≤ a ∧ (128 ≤ b1 ∧ b1 ≤ 191) ∧ (128 ≤ b2 ∧ b2 ≤ 191) ∧ (128 ≤ b3 ∧ b3 ≤ 191) ∧ ¬ (b0 = 240 ∧ b1 < 144) ∧ ¬ (b0 = 244 ∧ 143 < b1)) by omega), if_neg (by omega)]; rfl
    · rw [if_neg (fun h => d h.2), if_neg (show ¬ (4 ≤ a ∧ (128 ≤ b1 ∧ b1 ≤ 191) ∧ (128 ≤ b2 ∧ b2 ≤ 191) ∧ (128 ≤ b3 ∧ b3 ≤ 191) ∧ ¬ (b0 = 240 ∧ b1 < 144) ∧ ¬ (b0 = 244 ∧ 143 < b1)) by omega)]; rfl
  · unfold wideC
    rw [if_neg c1, if_neg c2, if_neg c3]
    by_cases d : b0 / 32 = 6 ∧ (1 < a ∧ b1 / 64 = 2)
    · rw [if_pos d, if_neg (by omega)]; rfl
    rw [if_neg d, if_neg (show ¬ (b0 / 16 = 14 ∧ (1 < a ∧ b1 / 64 = 2) ∧ (2 < a ∧ b2 / 64 = 2)) by omega)]
    by_cases f : b0 / 8 = 30 ∧ (1 < a ∧ b1 / 64 = 2) ∧ (2 < a ∧ b2 / 64 = 2) ∧ (3 < a ∧ b3 / 64 = 2)
    · rw [if_pos f, if_neg (by omega)]; rfl
    · rw [if_neg f]; rfl

theorem validN (n : Nat) : Utf8.valid (n : Int) = (decide (n < 55296) || (decide (57344 ≤ n) && decide (n ≤ 1114111))) := by
  unfold Utf8.valid
  rw [Bool.eq_iff_iff]
  simp only [Bool.and_eq_true, Bool.or_eq_true, decide_eq_true_eq]
  omega

set_option maxRecDepth 100000 in
theorem decode_eq (l : List UInt8) (p : Nat) (hp : p < l.length) : Utf8.decode (B l) p = runeM l p := by
  unfold runeM wideM
  rw [← decode_core (l.length - p) _ _ _ _ (bt_lt l p 0) (bt_lt l p 1) (bt_lt l p 2) (bt_lt l p 3)]
  have hb : ∀ k, ((B l).get! (p + k)).toNat = bt l p k := fun k => by rw [get_B]
  have hc : ∀ k, decide (p + k < (B l).size) = decide (k < l.length - p) := fun k => by rw [B_size]; apply decide_eq_decide.2; omega
  unfold Utf8.decode
  simp only [hb, hc, validN]
  generalize bt l p 0 = b0
  generalize bt l p 1 = b1
  generalize bt l p 2 = b2
  generalize bt l p 3 = b3
  generalize l.length - p = a
  simp only [Utf8.runeError, Bool.and_eq_true, Bool.or_eq_true, decide_eq_true_eq, beq_iff_eq, ge_iff_le, and_assoc]

theorem runeM_width (l : List UInt8) (p : Nat) : 1 ≤ (runeM l p).2 ∧ (runeM l p).2 ≤ 4 := by
  unfold runeM runeC
  repeat' split
  all_goals simp

theorem wideM_cases (l : List UInt8) (p : Nat) : wideM l p = 0 ∨ (wideM l p = 2 ∧ 194 ≤ bt l p 0 ∧ bt l p 0 ≤ 223 ∧ p + 2 ≤ l.length) ∨
    (wideM l p = 3 ∧ 224 ≤ bt l p 0 ∧ bt l p 0 ≤ 239 ∧ p + 3 ≤ l.length ∧ (128 ≤ bt l p 1 ∧ bt l p 1 ≤ 191) ∧ ¬ (bt l p 0 = 224 ∧ bt l p 1 < 160)) ∨
    (wideM l p = 4 ∧ 240 ≤ bt l p 0 ∧ bt l p 0 ≤ 244 ∧ p + 4 ≤ l.length ∧ (128 ≤ bt l p 1 ∧ bt l p 1 ≤ 191) ∧ ¬ (bt l p 0 = 240 ∧ bt l p 1 < 144)) := by
  unfold wideM wideC
  repeat' split
  all_goals omega

/-- a rune that a name may have has two bytes at most -/
theorem runeM_small {l : List UInt8} {p : Nat} (h : kindM ((runeM l p).1 : Nat) ≤ 3) : (runeM l p).2 ≤ 2 := by
  have hk : ((runeM l p).1 : Int) ≤ 969 := by
    unfold kindM at h
    repeat' split at h
    all_goals omega
  rcases wideM_cases l p with e | ⟨e, h1⟩ | ⟨e, h1, h2, h3, h4, h5⟩ | ⟨e, h1, h2, h3, h4, h5⟩
  · unfold runeM runeC
    repeat' split
    all_goals simp_all
  · unfold runeM runeC
    repeat' split
    all_goals simp_all
  · exfalso
    unfold runeM runeC at hk
    rw [e] at hk
    rw [if_neg (by omega), if_neg (by omega), if_neg (by omega), if_pos rfl] at hk
    simp only at hk
    omega
  · exfalso
    unfold runeM runeC at hk
    rw [e] at hk
    rw [if_neg (by omega), if_neg (by omega), if_neg (by omega), if_neg (by omega)] at hk
    simp only at hk
    omega

/-! ### the document's walk over a rune's bytes -/

section
variable {l : List UInt8} {p : Nat} {Post : AV → List AObj → Prop}

theorem btInt (hl : l.length ≤ 10 * big) (i : Nat) (hp : p + i < l.length) :
    IntKind.wrap .i64 ((p : Int) + (i : Int)) = ((p + i : Nat) : Int) := by
  unfold big at hl
  rw [wrap64 (by omega) (by omega)]; simp

theorem btGet (i : Nat) : ((List.getD (Array.toList (ByteArray.data (B l))) (p + i) 0).toNat : Int) = (bt l p i : Nat) := rfl

def nOf (b0 : Nat) : Nat := if 194 ≤ b0 ∧ b0 ≤ 223 then 2 else if 224 ≤ b0 ∧ b0 ≤ 239 then 3 else if 240 ≤ b0 ∧ b0 ≤ 244 then 4 else 0

theorem nOf_cases (b0 : Nat) : (nOf b0 = 2 ∧ 194 ≤ b0 ∧ b0 ≤ 223) ∨ (nOf b0 = 3 ∧ 224 ≤ b0 ∧ b0 ≤ 239) ∨ (nOf b0 = 4 ∧ 240 ≤ b0 ∧ b0 ≤ 244) ∨ (nOf b0 = 0 ∧ ¬ (194 ≤ b0 ∧ b0 ≤ 244)) := by
  unfold nOf
  repeat' split
  all_goals omega

theorem wide_short (h : l.length - p < nOf (bt l p 0) ∨ nOf (bt l p 0) = 0) : wideM l p = 0 := by
  have := nOf_cases (bt l p 0)
  unfold wideM wideC
  repeat' split
  all_goals omega

theorem wide_bad {i : Nat} (h1 : 1 ≤ i) (h2 : i < nOf (bt l p 0)) (h : bt l p i < 128 ∨ 191 < bt l p i) : wideM l p = 0 := by
  have := nOf_cases (bt l p 0)
  have hi : i = 1 ∨ i = 2 ∨ i = 3 := by omega
  unfold wideM wideC
  rcases hi with rfl | rfl | rfl <;> repeat' split
  all_goals omega

theorem wideC_no {a b0 b1 b2 b3 : Nat} (h : (b0 = 224 ∧ b1 < 160) ∨ (b0 = 237 ∧ 159 < b1) ∨ (b0 = 240 ∧ b1 < 144) ∨ (b0 = 244 ∧ 143 < b1)) : wideC a b0 b1 b2 b3 = 0 := by
  unfold wideC
  repeat' split
  all_goals omega

theorem wideC_yes {a n b0 b1 b2 b3 : Nat} (hcs : (n = 2 ∧ 194 ≤ b0 ∧ b0 ≤ 223) ∨ (n = 3 ∧ 224 ≤ b0 ∧ b0 ≤ 239) ∨ (n = 4 ∧ 240 ≤ b0 ∧ b0 ≤ 244)) (ha : n ≤ a) (hc1 : 128 ≤ b1 ∧ b1 ≤ 191) (hc2 : 2 < n → 128 ≤ b2 ∧ b2 ≤ 191) (hc3 : 3 < n → 128 ≤ b3 ∧ b3 ≤ 191)
    (k1 : ¬ (b0 = 224 ∧ b1 < 160)) (k2 : ¬ (b0 = 237 ∧ 159 < b1)) (k3 : ¬ (b0 = 240 ∧ b1 < 144)) (k4 : ¬ (b0 = 244 ∧ 143 < b1)) : wideC a b0 b1 b2 b3 = n := by
  unfold wideC
  rcases hcs with ⟨rfl, g1, g2⟩ | ⟨rfl, g1, g2⟩ | ⟨rfl, g1, g2⟩
  · rw [if_pos ⟨g1, g2⟩, if_pos ⟨ha, hc1⟩]
  · rw [if_neg (by omega), if_pos ⟨g1, g2⟩, if_pos ⟨ha, hc1, hc2 (by omega), k1, k2⟩]
  · rw [if_neg (by omega), if_neg (by omega), if_pos ⟨g1, g2⟩, if_pos ⟨ha, hc1, hc2 (by omega), hc3 (by omega), k3, k4⟩]

theorem w16 (hl : l.length ≤ 10 * big) (hn : nOf (bt l p 0) ≠ 0) (hp : p + nOf (bt l p 0) ≤ l.length) (hc : ∀ i, 1 ≤ i → i < nOf (bt l p 0) → 128 ≤ bt l p i ∧ bt l p i ≤ 191) (h : Post (.int .i64 (wideM l p : Nat)) []) :
    AWP Try.prog 96 0 c322_16 [(0, .str (B l)), (1, .int .i64 p), (5, .int .i64 (nOf (bt l p 0) : Nat)), (6, .int .i64 (bt l p 0 : Nat))] [] (q322_0 0 Post) := by
  have hcs := nOf_cases (bt l p 0)
  have h256 := bt_lt l p 1
  have e1 : IntKind.wrap .i64 ((p : Int) + 1) = ((p + 1 : Nat) : Int) := by unfold big at hl; rw [wrap64 (by omega) (by omega)]; simp
  have hc1 := hc 1 (by omega) (by omega)
  have hc2 : 2 < nOf (bt l p 0) → 128 ≤ bt l p 2 ∧ bt l p 2 ≤ 191 := hc 2 (by omega)
  have hc3 : 3 < nOf (bt l p 0) → 128 ≤ bt l p 3 ∧ bt l p 3 ≤ 191 := hc 3 (by omega)
  have hcs3 : (nOf (bt l p 0) = 2 ∧ 194 ≤ bt l p 0 ∧ bt l p 0 ≤ 223) ∨ (nOf (bt l p 0) = 3 ∧ 224 ≤ bt l p 0 ∧ bt l p 0 ≤ 239) ∨ (nOf (bt l p 0) = 4 ∧ 240 ≤ bt l p 0 ∧ bt l p 0 ≤ 244) := by omega
  have fin0 : (bt l p 0 = 224 ∧ bt l p 1 < 160) ∨ (bt l p 0 = 237 ∧ 159 < bt l p 1) ∨ (bt l p 0 = 240 ∧ bt l p 1 < 144) ∨ (bt l p 0 = 244 ∧ 143 < bt l p 1) → Post (.int .i64 0) [] := by
    intro hh
    have := wideC_no (a := l.length - p) (b2 := bt l p 2) (b3 := bt l p 3) hh
    unfold wideM at h
    rw [this] at h
    exact h
  have finn : ¬ (bt l p 0 = 224 ∧ bt l p 1 < 160) → ¬ (bt l p 0 = 237 ∧ 159 < bt l p 1) → ¬ (bt l p 0 = 240 ∧ bt l p 1 < 144) → ¬ (bt l p 0 = 244 ∧ 143 < bt l p 1) → Post (.int .i64 (nOf (bt l p 0) : Nat)) [] := by
    intro k1 k2 k3 k4
    have := wideC_yes (a := l.length - p) (b2 := bt l p 2) (b3 := bt l p 3) hcs3 (by omega) hc1 hc2 hc3 k1 k2 k3 k4
    unfold wideM at h
    rw [this] at h
    exact h
  have hn2 : 2 ≤ nOf (bt l p 0) := by omega
  clear hc hcs hcs3 hc2 hc3 h
  refine v322_16 _ _ _ _ _ _ ?_
  rw [e1, Int.toNat_natCast, btGet 1, wrapN (n := bt l p 1) (by omega)]
  refine needJ ⟨by omega, by rw [B_size]; omega⟩ ?_
  generalize nOf (bt l p 0) = n at *
  generalize bt l p 0 = b0 at *
  generalize bt l p 1 = b1 at *
  repeat' (first | refine condD (fun _ => ?_) fun _ => ?_ | refine condE (fun _ => ?_) fun _ => ?_)
  all_goals first
    | exact fin0 (by omega)
    | exact finn (by omega) (by omega) (by omega) (by omega)

theorem w12 (hl : l.length ≤ 10 * big) (hn : nOf (bt l p 0) ≠ 0) (hp : p + nOf (bt l p 0) ≤ l.length) (h : Post (.int .i64 (wideM l p : Nat)) []) :
    ∀ (m i : Nat), m + i = nOf (bt l p 0) → 1 ≤ i → (∀ j, 1 ≤ j → j < i → 128 ≤ bt l p j ∧ bt l p j ≤ 191) →
    AWP Try.prog 96 0 c322_12 [(0, .str (B l)), (1, .int .i64 p), (5, .int .i64 (nOf (bt l p 0) : Nat)), (6, .int .i64 (bt l p 0 : Nat)), (7, .int .i64 i)] [] (q322_2 0 Post) := by
  have hcs := nOf_cases (bt l p 0)
  intro m
  induction m with
  | zero =>
    intro i hm h1 hc
    refine v322_12 _ _ _ _ _ _ _ (condD (fun hi => by omega) fun _ => w16 hl hn hp (fun j a b => hc j a (by omega)) h)
  | succ m ih =>
    intro i hm h1 hc
    have e1 := btInt (p := p) hl i (by omega)
    refine v322_12 _ _ _ _ _ _ _ (condD (fun hi => ?_) fun hi => by omega)
    rw [e1, Int.toNat_natCast, btGet i]
    refine needJ ⟨by omega, by rw [B_size]; omega⟩ (condD (fun hb => ?_) fun hb => needJ ⟨by omega, by rw [B_size]; omega⟩ (condD (fun hb2 => ?_) fun hb2 => ?_))
    · rw [wide_bad (l := l) (p := p) h1 (by omega) (.inl (by omega))] at h; exact h
    · rw [wide_bad (l := l) (p := p) h1 (by omega) (.inr (by omega))] at h; exact h
    · rw [show IntKind.wrap .i64 ((i : Int) + 1) = ((i + 1 : Nat) : Int) by rw [wrap64 (by omega) (by omega)]; simp]
      refine ih (i + 1) (by omega) (by omega) (fun j a b => ?_)
      by_cases e : j = i
      · subst e; omega
      · exact hc j a (by omega)

theorem w9 (hl : l.length ≤ 10 * big) (hp : p < l.length) (h : Post (.int .i64 (wideM l p : Nat)) []) :
    AWP Try.prog 96 0 c322_9 [(0, .str (B l)), (1, .int .i64 p), (5, .int .i64 (nOf (bt l p 0) : Nat)), (6, .int .i64 (bt l p 0 : Nat))] [] (q322_0 0 Post) := by
  have hcs := nOf_cases (bt l p 0)
  have hl' := hl
  unfold big at hl'
  refine v322_9 _ _ _ _ _ _ (condE (fun e => ?_) fun e => ?_)
  · rw [wide_short (l := l) (p := p) (.inr (by omega))] at h; exact h
  rw [B_size, wrap64 (x := (l.length : Int) - (p : Int)) (by omega) (by omega)]
  refine condD (fun e2 => ?_) fun e2 => ?_
  · rw [wide_short (l := l) (p := p) (.inl (by omega))] at h; exact h
  · refine v322_11 _ _ _ _ _ _ ?_
    exact w12 hl (by omega) (by omega) h (nOf (bt l p 0) - 1) 1 (by omega) (by omega) (fun j a b => by omega)

theorem wide_spec0 (hl : l.length ≤ 10 * big) (hp : p < l.length) : ASpec Try.prog 322 [.str (B l), .int .i64 p] [] (fun r H' => r = .int .i64 (wideM l p : Nat) ∧ H' = []) := by
  have h256 := bt_lt l p 0
  have hcs := nOf_cases (bt l p 0)
  have k9 : ∀ n : Int, n = (nOf (bt l p 0) : Nat) → AWP Try.prog 96 0 c322_9 [(0, .str (B l)), (1, .int .i64 p), (5, .int .i64 n), (6, .int .i64 (bt l p 0 : Nat))] [] (q322_0 0 (fun r H' => r = .int .i64 (wideM l p : Nat) ∧ H' = [])) := by
    intro n e; subst e; exact w9 hl hp ⟨rfl, rfl⟩
  refine s322 _ _ _ (needJ ⟨by omega, by rw [B_size]; omega⟩ ?_)
  rw [Int.toNat_natCast, show ((List.getD (Array.toList (ByteArray.data (B l))) p 0).toNat : Int) = (bt l p 0 : Nat) from rfl, wrapN (n := bt l p 0) (by omega)]
  generalize nOf (bt l p 0) = n at *
  generalize bt l p 0 = b0 at *
  have k7 : ∀ m : Int, m = (if 240 ≤ b0 ∧ b0 ≤ 244 then m else (n : Int)) → AWP Try.prog 96 0 c322_7 [(0, .str (B l)), (1, .int .i64 p), (5, .int .i64 m), (6, .int .i64 (b0 : Nat))] [] (q322_0 0 (fun r H' => r = .int .i64 (wideM l p : Nat) ∧ H' = [])) := by
    intro m hm
    refine v322_7 _ _ _ _ _ _ (condD (fun _ => condD (fun _ => k9 _ (by omega)) fun _ => k9 _ ?_) fun _ => k9 _ ?_)
    · rw [if_neg (by omega)] at hm; exact hm
    · rw [if_neg (by omega)] at hm; exact hm
  have k5 : ∀ m : Int, m = (if 224 ≤ b0 ∧ b0 ≤ 244 then m else (n : Int)) → AWP Try.prog 96 0 c322_5 [(0, .str (B l)), (1, .int .i64 p), (5, .int .i64 m), (6, .int .i64 (b0 : Nat))] [] (q322_0 0 (fun r H' => r = .int .i64 (wideM l p : Nat) ∧ H' = [])) := by
    intro m hm
    refine v322_5 _ _ _ _ _ _ (condD (fun _ => condD (fun _ => k7 _ ?_) fun _ => k7 _ ?_) fun _ => k7 _ ?_)
    · rw [if_neg (by omega)]; omega
    · split
      · rfl
      · rw [if_neg (by omega)] at hm; exact hm
    · split
      · rfl
      · rw [if_neg (by omega)] at hm; exact hm
  refine condD (fun _ => condD (fun _ => k5 _ ?_) fun _ => k5 _ ?_) fun _ => k5 _ ?_
  · rw [if_neg (by omega)]; omega
  · split
    · rfl
    · omega
  · split
    · rfl
    · omega

theorem wide_spec (hl : l.length ≤ 10 * big) (hp : p < l.length) (H : List AObj) : ASpec Try.prog 322 [.str (B l), .int .i64 p] H (fun r H' => r = .int .i64 (wideM l p : Nat) ∧ H' = H) :=
  ASpec.pureH H (wide_spec0 hl hp) _ _ rfl rfl

end
end S
end

section
/- Which names may be: the code's walk and the document's. -/

set_option linter.unusedVariables false
set_option linter.unusedSimpArgs false
set_option maxRecDepth 100000
open Go Go.Ab Go.Proofs V
namespace S
theorem condBn {b : Bool} {A C : Prop} (h1 : b = false → A) (h2 : b = true → C) : condP (!b) A C := by cases b <;> simp_all [condP]
section
variable {l : List UInt8} {p : Nat}

def foldx (l : List UInt8) (p : Nat) : Nat → Nat → Nat → Nat
  | 0, _, x => x
  | m + 1, i, x => foldx l p m (i + 1) (x * 64 + bt l p i % 64)

theorem u12 {Post : AV → List AObj → Prop} (hl : l.length ≤ 10 * big) {n : Nat} (hn : n ≤ 4) (hp : p + n ≤ l.length) : ∀ (m i x : Nat), m + i = n → x < 64 ^ i → Post (.tup [.int .i64 (foldx l p m i x : Nat), .int .i64 n]) [] →
    AWP Try.prog 58 0 c261_12 [(0, .str (B l)), (1, .int .i64 p), (6, .int .i64 n), (7, .int .i64 x), (8, .int .i64 i)] [] (q261_2 0 Post) := by
  intro m
  induction m with
  | zero =>
    intro i x hm hx h
    exact v261_12 _ _ _ _ _ _ _ (condD (fun hi => by omega) fun _ => h)
  | succ m ih =>
    intro i x hm hx h
    have e1 := btInt (p := p) hl i (by omega)
    have h256 := bt_lt l p i
    have h4 : (64 : Nat) ^ i ≤ 64 ^ 4 := Nat.pow_le_pow_right (by omega) (by omega)
    have e4 : (64 : Nat) ^ 4 = 16777216 := by decide
    have hn := ih (i + 1) (x * 64 + bt l p i % 64) (by omega) (by rw [Nat.pow_succ]; omega) h
    refine v261_12 _ _ _ _ _ _ _ (condD (fun hi => ?_) fun hi => by omega)
    rw [e1, Int.toNat_natCast, btGet i]
    refine needJ ⟨by omega, by rw [B_size]; omega⟩ (needJ (by decide) ?_)
    generalize bt l p i = b at h256 hn ⊢
    have m64 : Int.tmod (b : Int) 64 = ((b % 64 : Nat) : Int) := tmodN b 64
    rw [wrapN (n := b) (by omega), m64, wrap64 (x := (x : Int) * 64) (by omega) (by omega), wrap64 (x := (x : Int) * 64 + ((b % 64 : Nat) : Int)) (by omega) (by omega)]
    rw [show IntKind.wrap .i64 ((i : Int) + 1) = ((i + 1 : Nat) : Int) by rw [wrap64 (by omega) (by omega)]; simp]
    rw [show (x : Int) * 64 + ((b % 64 : Nat) : Int) = ((x * 64 + b % 64 : Nat) : Int) by simp]
    exact hn

theorem rune_spec0 (hl : l.length ≤ 10 * big) (hp : p < l.length) :
    ASpec Try.prog 261 [.str (B l), .int .i64 p] [] (fun r H' => r = .tup [.int .i64 ((runeM l p).1 : Nat), .int .i64 ((runeM l p).2 : Nat)] ∧ H' = []) := by
  have h256 := bt_lt l p 0
  have hin : (0 : Int) ≤ (p : Int) ∧ (p : Int) < ((B l).size : Int) := ⟨by omega, by rw [B_size]; omega⟩
  have hcs := wideM_cases l p
  have hR : runeM l p = runeC (wideM l p) (bt l p 0) (bt l p 1) (bt l p 2) (bt l p 3) := rfl
  refine s261 _ _ _ (needJ hin ?_)
  rw [Int.toNat_natCast, show ((List.getD (Array.toList (ByteArray.data (B l))) p 0).toNat : Int) = (bt l p 0 : Nat) from rfl, wrapN (n := bt l p 0) (by omega)]
  have m32 : Int.tmod (bt l p 0 : Nat) 32 = ((bt l p 0 % 32 : Nat) : Int) := tmodN _ 32
  have m16 : Int.tmod (bt l p 0 : Nat) 16 = ((bt l p 0 % 16 : Nat) : Int) := tmodN _ 16
  have m8 : Int.tmod (bt l p 0 : Nat) 8 = ((bt l p 0 % 8 : Nat) : Int) := tmodN _ 8
  refine condD (fun hc => needJ hin ?_) fun hc => ?_
  · rw [hR, runeC, if_pos (by omega)]
    exact ⟨rfl, rfl⟩
  refine ASpec.call (wide_spec hl hp []) (Les.refl _) ⟨_, rfl, rfl, condE (fun h0 => ?_) fun h0 => needJ hin (needJ (by decide) ?_)⟩
  · rw [hR, runeC, if_neg (by omega), if_pos (by omega)]
    exact ⟨rfl, rfl⟩
  have key : ∀ (n x0 : Nat), n = wideM l p → x0 < 64 → foldx l p (n - 1) 1 x0 = (runeM l p).1 → n = (runeM l p).2 →
      AWP Try.prog 58 0 c261_11 [(0, .str (B l)), (1, .int .i64 p), (6, .int .i64 n), (7, .int .i64 x0)] [] (q261_0 0 (fun r H' => r = .tup [.int .i64 ((runeM l p).1 : Nat), .int .i64 ((runeM l p).2 : Nat)] ∧ H' = [])) := by
    intro n x0 hn hx e1 e2
    refine v261_11 _ _ _ _ _ _ (u12 hl (n := n) (by omega) (by omega) (n - 1) 1 x0 (by omega) hx ?_)
    rw [e1, e2]
    exact ⟨rfl, rfl⟩
  refine condE (fun h3 => needJ hin (needJ (by decide) ?_)) fun h3 => ?_
  · have hw : wideM l p = 3 := by omega
    rw [m16]
    refine v261_9 _ _ _ _ _ _ (condE (fun h => by omega) fun _ => key _ _ rfl (by omega) ?_ ?_)
    · rw [hR, runeC, if_neg (by omega), if_neg (by omega), if_neg (by omega), if_pos hw, hw]; rfl
    · rw [hR, runeC, if_neg (by omega), if_neg (by omega), if_neg (by omega), if_pos hw, hw]
  · rw [m32]
    refine v261_9 _ _ _ _ _ _ (condE (fun h => needJ hin (needJ (by decide) ?_)) fun h => key _ _ rfl (by omega) ?_ ?_)
    · have hw : wideM l p = 4 := by omega
      rw [Int.toNat_natCast, show ((List.getD (Array.toList (ByteArray.data (B l))) p 0).toNat : Int) = (bt l p 0 : Nat) from rfl, wrapN (n := bt l p 0) (by omega), m8]
      refine key _ _ rfl (by omega) ?_ ?_
      · rw [hR, runeC, if_neg (by omega), if_neg (by omega), if_neg (by omega), if_neg (by omega), hw]; rfl
      · rw [hR, runeC, if_neg (by omega), if_neg (by omega), if_neg (by omega), if_neg (by omega), hw]
    · have hw : wideM l p = 2 := by omega
      rw [hR, runeC, if_neg (by omega), if_neg (by omega), if_pos hw, hw]; rfl
    · have hw : wideM l p = 2 := by omega
      rw [hR, runeC, if_neg (by omega), if_neg (by omega), if_pos hw, hw]

theorem rune_spec (hl : l.length ≤ 10 * big) (hp : p < l.length) (H : List AObj) :
    ASpec Try.prog 261 [.str (B l), .int .i64 p] H (fun r H' => r = .tup [.int .i64 ((runeM l p).1 : Nat), .int .i64 ((runeM l p).2 : Nat)] ∧ H' = H) :=
  ASpec.pureH H (rune_spec0 hl hp) _ _ rfl rfl

/-! ### all runes -/

def runesF : Nat → List UInt8 → Nat → List Int
  | 0, _, _ => []
  | f + 1, l, p => if p < l.length then ((runeM l p).1 : Int) :: runesF f l (p + (runeM l p).2) else []
def runesM (l : List UInt8) : List Int := runesF l.length l 0

theorem leAppI {l : List Int} {x : Int} {H : List AObj} : Le (.sl 1 (.app (.map encI 0 l) (.raw [[.int .i64 x]])) (.tok 1)) (AV.ren (selR [1] H.length) (.sl 1 (.map encI 0 (l ++ [x])) (.tok 0))) := by
  refine Le.sl ?_ (.inl rfl) (.inl rfl)
  simp [Ab.Seq.toList, Seq.ren, encI, renL, AV.ren]

theorem runes3 {Post : AV → List AObj → Prop} (hl : l.length ≤ 1000000) : ∀ (f p : Nat) (acc : List Int), l.length - p ≤ f → acc.length ≤ p → p ≤ l.length + 4 → Post (.sl 1 (.map encI 0 (acc ++ runesF f l p)) (.tok 0)) [.tok] →
    AWP Try.prog 25 0 c164_3 [(0, .str (B l)), (3, .sl 1 (.map encI 0 acc) (.tok 0)), (4, .int .i64 p)] [.tok] (q164_2 0 Post) := by
  intro f
  induction f with
  | zero =>
    intro p acc hf ha hp h
    refine v164_3 _ _ _ _ _ (condD (fun hc => by rw [B_size] at hc; omega) fun _ => ?_)
    simpa [runesF] using h
  | succ f ih =>
    intro p acc hf ha hp h
    refine v164_3 _ _ _ _ _ (condD (fun hc => ?_) fun hc => ?_)
    · rw [B_size] at hc
      have hpl : p < l.length := by omega
      have hw := runeM_width l p
      refine ASpec.call (rune_spec (by unfold big; omega) hpl _) (Les.refl _) ⟨(((runeM l p).1 : Int), ((runeM l p).2 : Int)), rfl, rfl, needJ (by omega) ?_⟩
      rw [show IntKind.wrap .i64 ((p : Int) + ((runeM l p).2 : Int)) = ((p + (runeM l p).2 : Nat) : Int) by rw [wrap64 (by omega) (by omega)]; simp]
      refine AWP.shape [1] [(0, .str (B l)), (3, .sl 1 (.map encI 0 (acc ++ [((runeM l p).1 : Int)])) (.tok 0)), (4, .int .i64 (p + (runeM l p).2 : Nat))] _ selTok ⟨rfl, Le.refl _, rfl, leAppI, rfl, Le.refl _, trivial⟩ (ih (p + (runeM l p).2) (acc ++ [((runeM l p).1 : Int)]) (by omega) (by simp; omega) (by omega) ?_)
      simp only [runesF, if_pos hpl] at h
      simpa using h
    · rw [B_size] at hc
      simp only [runesF, if_neg (show ¬ p < l.length by omega)] at h
      simpa using h

theorem runes_spec (hl : l.length ≤ 1000000) (H : List AObj) : ASpec Try.prog 164 [.str (B l)] H (fun r H' => r = .sl 1 (.map encI 0 (runesM l)) .none ∧ H' = H) := by
  have k : ASpec Try.prog 164 [.str (B l)] [] (fun r H' => r = .sl 1 (.map encI 0 (runesM l)) .none ∧ H' = []) := by
    refine ASpec.sel (s164 _ _ ?_)
    refine AWP.re (ReSt.tok (k := 3) (q' := .map encI 0 []) (sz' := 1) (s2 := [(0, .str (B l)), (3, .sl 1 (.map encI 0 []) (.tok 0)), (4, .int .i64 0)]) rfl (.inl rfl) rfl (.inr rfl) (fun d hd => ?_) rfl) ?_
    · simp only [Ab.get]
      have e : Nat.beq 3 d = false := by
        cases hx : Nat.beq 3 d with
        | false => rfl
        | true => exact absurd (Nat.eq_of_beq_eq_true hx).symm hd
      rw [e]; rfl
    · refine runes3 hl l.length 0 [] (by omega) (by simp) (by omega) ?_
      refine ⟨[], [], .sl 1 (.map encI 0 (runesM l)) .none, Sel.none, ?_, rfl, rfl⟩
      exact Le.sl (s' := Seq.ren _ (.map encI 0 (runesM l))) (by simp [Ab.Seq.toList, Seq.ren, encI, renL, AV.ren, runesM]) (.inl rfl) (.inr rfl)
  exact ASpec.pureH H k _ _ rfl rfl

/-! ### names -/

def fitF (n : Nat) : List Int → Bool
  | [] => decide (0 < n)
  | c :: r => if 3 < kindM c ∨ (n = 0 ∧ 1 < kindM c) ∨ n = 12 then false else fitF (n + 1) r

def fitM (l : List UInt8) : Bool := fitF 0 (runesM l)

theorem fit3 {Post : AV → List AObj → Prop} (hl : l.length ≤ 10 * big) : ∀ (f p n : Nat), l.length - p ≤ f → n ≤ 12 → (∀ q, Post (.bool (fitF n (runesF f l p))) [.siter (B l) q]) →
    AWP Try.prog 32 0 c154_3 [(3, .int .i64 n), (8, .ptr 0 0)] [.siter (B l) p] (q154_2 0 Post) := by
  intro f
  induction f with
  | zero =>
    intro p n hf hn h
    refine v154_3 _ _ _ _ _ (condD (fun hc => by rw [B_size] at hc; omega) fun _ => ?_)
    have := h p
    simp only [runesF, fitF] at this
    rw [show decide ((n : Int) > 0) = decide (0 < n) from decide_eq_decide.2 (by omega)]
    exact this
  | succ f ih =>
    intro p n hf hn h
    refine v154_3 _ _ _ _ _ (condD (fun hc => ?_) fun hc => ?_)
    · rw [B_size] at hc
      rw [decode_eq l p hc]
      have hw := runeM_width l p
      simp only [runesF, if_pos hc, fitF] at h
      refine ASpec.call (kind_spec _ _) (Les.refl _) ⟨_, rfl, rfl, ?_⟩
      generalize kindM ((runeM l p).1 : Nat) = k at h ⊢
      have no : (3 < k ∨ (n = 0 ∧ 1 < k) ∨ n = 12) → Post (.bool false) [.siter (B l) (p + (runeM l p).2)] := by
        intro hh
        have := h (p + (runeM l p).2)
        rw [if_pos hh] at this
        exact this
      have yes : ¬ (3 < k ∨ (n = 0 ∧ 1 < k) ∨ n = 12) → AWP Try.prog 32 0 c154_3 [(3, .int .i64 (IntKind.wrap .i64 ((n : Int) + 1))), (8, .ptr 0 0)] [.siter (B l) (p + (runeM l p).2)] (q154_2 0 Post) := by
        intro hh
        rw [show IntKind.wrap .i64 ((n : Int) + 1) = ((n + 1 : Nat) : Int) by rw [wrap64 (by omega) (by omega)]; simp]
        refine ih (p + (runeM l p).2) (n + 1) (by omega) (by omega) (fun q => ?_)
        have := h q
        rw [if_neg hh] at this
        exact this
      refine condD (fun h1 => no (.inl h1)) fun h1 => condE (fun h2 => condD (fun h3 => no (.inr (.inl ⟨by omega, h3⟩))) fun h3 => condE (fun h4 => no (.inr (.inr (by omega)))) fun h4 => yes (by omega)) fun h2 => condE (fun h4 => no (.inr (.inr (by omega)))) fun h4 => yes (by omega)
    · rw [B_size] at hc
      have := h p
      simp only [runesF, if_neg hc, fitF] at this
      rw [show decide ((n : Int) > 0) = decide (0 < n) from decide_eq_decide.2 (by omega)]
      exact this

theorem fit_spec (hl : l.length ≤ 10 * big) (H : List AObj) : ASpec Try.prog 154 [.str (B l)] H (fun r H' => r = .bool (fitM l) ∧ H' = H) := by
  have k : ASpec Try.prog 154 [.str (B l)] [] (fun r H' => r = .bool (fitM l) ∧ H' = []) := by
    refine ASpec.sel (s154 _ _ (fit3 hl l.length 0 0 (by omega) (by omega) (fun q => ⟨[], [], .bool (fitM l), Sel.none, Le.refl _, rfl, rfl⟩)))
  exact ASpec.pureH H k _ _ rfl rfl

theorem fitF_short (hl : True) : ∀ (f p n : Nat), l.length - p ≤ f → n ≤ 12 → fitF n (runesF f l p) = true → l.length - p ≤ 2 * (12 - n) := by
  intro f
  induction f with
  | zero => intro p n hf hn h; omega
  | succ f ih =>
    intro p n hf hn h
    by_cases hc : p < l.length
    · simp only [runesF, if_pos hc, fitF] at h
      split at h
      · cases h
      rename_i hh
      have hw := runeM_small (l := l) (p := p) (by omega)
      have := ih (p + (runeM l p).2) (n + 1) (by have := runeM_width l p; omega) (by omega) h
      omega
    · omega

theorem fitM_short (h : fitM l = true) : l.length ≤ 24 := by
  have := fitF_short (l := l) trivial l.length 0 0 (by omega) (by omega) h
  omega

/-- the document's: by places in a list -/
def fitD (i : Nat) : List Int → Bool
  | [] => true
  | c :: r => if kindM c = 4 ∨ (i = 0 ∧ 1 < kindM c) then false else fitD (i + 1) r

theorem fitF_fitD : ∀ (r : List Int) (i : Nat), i ≤ 12 → fitF i r = (fitD i r && decide (1 ≤ i + r.length) && decide (i + r.length ≤ 12))
  | [], i, hi => by
    simp only [fitF, fitD, List.length_nil, Nat.add_zero, Bool.true_and]
    rw [Bool.eq_iff_iff]; simp; omega
  | c :: r, i, hi => by
    have hk := kindM_range c
    simp only [fitF, fitD, List.length_cons]
    by_cases h1 : kindM c = 4 ∨ (i = 0 ∧ 1 < kindM c)
    · rw [if_pos h1, if_pos (by omega)]; rfl
    · rw [if_neg h1]
      by_cases h2 : i = 12
      · rw [if_pos (by omega)]
        rw [Bool.eq_iff_iff]; simp; omega
      · rw [if_neg (by omega), fitF_fitD r (i + 1) (by omega), show i + 1 + r.length = i + (r.length + 1) by omega]

theorem rfit5 {ls : List Int} {Post : AV → List AObj → Prop} (hl : ls.length ≤ 1000000) : ∀ (m i : Nat), m + i = ls.length → Post (.bool (fitD i (ls.drop i) && (decide (1 ≤ ls.length) && decide (ls.length ≤ 12)))) [] →
    AWP Try.prog 42 0 c39_5 [(3, .sl 1 (.map encI 0 ls) .none), (4, .int .i64 i)] [] (q39_2 0 Post) := by
  intro m
  induction m with
  | zero =>
    intro i hm h
    refine v39_5 _ _ _ _ (condD (fun hc => by omega) fun _ => ?_)
    rw [List.drop_eq_nil_of_le (by omega)] at h
    simp only [fitD, Bool.true_and] at h
    refine condD (fun h1 => ?_) fun h1 => ?_
    · rw [decide_eq_true (show 1 ≤ ls.length by omega), Bool.true_and] at h
      rw [show decide ((ls.length : Int) ≤ 12) = decide (ls.length ≤ 12) from decide_eq_decide.2 (by omega)]
      exact h
    · rw [decide_eq_false (show ¬ 1 ≤ ls.length by omega), Bool.false_and] at h
      exact h
  | succ m ih =>
    intro i hm h
    refine v39_5 _ _ _ _ (condD (fun hc => needJ ⟨by omega, by omega⟩ ?_) fun hc => by omega)
    rw [Int.toNat_natCast]
    have hg : ls.drop i = ls.getD i 0 :: ls.drop (i + 1) := by
      rw [List.drop_eq_getElem_cons (by omega)]
      simp [List.getD, List.getElem?_eq_getElem (show i < ls.length by omega)]
    rw [hg] at h
    simp only [fitD] at h
    generalize ls.getD i 0 = c at h ⊢
    have hn : ¬ (kindM c = 4 ∨ (i = 0 ∧ 1 < kindM c)) → AWP Try.prog 42 0 c39_5 [(3, .sl 1 (.map encI 0 ls) .none), (4, .int .i64 (IntKind.wrap .i64 ((i : Int) + 1)))] [] (q39_2 0 Post) := by
      intro hh
      rw [if_neg hh] at h
      rw [show IntKind.wrap .i64 ((i : Int) + 1) = ((i + 1 : Nat) : Int) by rw [wrap64 (by omega) (by omega)]; simp]
      exact ih (i + 1) (by omega) h
    have hy : (kindM c = 4 ∨ (i = 0 ∧ 1 < kindM c)) → Post (.bool false) [] := by
      intro hh
      rw [if_pos hh] at h
      simpa using h
    refine ASpec.call (rkind_spec c []) (Les.refl _) ⟨_, rfl, rfl, condE (fun h1 => hy (.inl h1)) fun h1 => condE (fun h2 => needJ ⟨by omega, by omega⟩ ?_) fun h2 => hn (by omega)⟩
    refine ASpec.call (rkind_spec c []) (Les.refl _) ⟨_, rfl, rfl, condD (fun h3 => hy (.inr ⟨by omega, h3⟩)) fun h3 => hn (by omega)⟩

theorem runesF_len : ∀ (f p : Nat), (runesF f l p).length ≤ f
  | 0, p => by simp [runesF]
  | f + 1, p => by
    simp only [runesF]
    split
    · have := runesF_len f (p + (runeM l p).2)
      simp; omega
    · simp

theorem rfit_spec (hl : l.length ≤ 10 * big) (H : List AObj) : ASpec Try.prog 39 [.str (B l)] H (fun r H' => r = .bool (fitM l) ∧ H' = H) := by
  have k : ASpec Try.prog 39 [.str (B l)] [] (fun r H' => r = .bool (fitM l) ∧ H' = []) := by
    refine s39 _ _ ?_
    rw [B_size]
    refine condD (fun h1 => ?_) fun h1 => ?_
    · have : fitM l = false := by
        cases h : fitM l with
        | false => rfl
        | true => have := fitM_short h; omega
      rw [this]; exact ⟨rfl, rfl⟩
    · have hlen := runesF_len (l := l) l.length 0
      refine ASpec.call (runes_spec (by omega) []) (Les.refl _) ⟨_, rfl, rfl, rfit5 (ls := runesM l) (by unfold runesM; omega) (runesM l).length 0 (by omega) ?_⟩
      unfold fitM
      rw [fitF_fitD _ 0 (by omega), List.drop_zero, Nat.zero_add, Bool.and_assoc]
      exact ⟨rfl, rfl⟩
  exact ASpec.pureH H k _ _ rfl rfl

end
end S
end

section
/- Which spans, needs and manifests may be: the code's walks and the document's. -/

set_option linter.unusedVariables false
set_option linter.unusedSimpArgs false
set_option maxRecDepth 100000
open Go Go.Ab Go.Proofs V S T
namespace C

/-- the answer c, whatever lies in the heap -/
abbrev PB (c : Bool) : AV → List AObj → Prop := fun r H' => ∃ l H2 r2, Sel 0 l H' H2 ∧ Le r (AV.ren (selR l H'.length) r2) ∧ (r2 = .bool c ∧ H2 = [])
theorem pb {b c : Bool} {H' : List AObj} (h : b = c) : PB c (.bool b) H' := ⟨[], [], .bool c, Sel.none, h ▸ Le.refl _, rfl, rfl⟩

theorem dropD {α : Type} (l : List α) (d : α) (i : Nat) (h : i < l.length) : l.drop i = l.getD i d :: l.drop (i + 1) := by
  rw [List.drop_eq_getElem_cons h]
  simp [List.getD, List.getElem?_eq_getElem h]

theorem memD {α : Type} (l : List α) (d : α) (i : Nat) (h : i < l.length) : l.getD i d ∈ l := by
  simp [List.getD, List.getElem?_eq_getElem h]

theorem succ64 {i : Nat} (h : i ≤ 10000000) : IntKind.wrap .i64 ((i : Int) + 1) = ((i + 1 : Nat) : Int) := by rw [wrap64 (by omega) (by omega)]; simp
theorem pred64 {i : Nat} (h : i ≤ 10000000) (h1 : 0 < i) : IntKind.wrap .i64 ((i : Int) - 1) = ((i - 1 : Nat) : Int) := by rw [wrap64 (by omega) (by omega)]; omega

abbrev lim : Nat := 1000000

/-! ### spans -/

def chkS (e : Int) : List Span → Bool
  | [] => true
  | x :: r => if x.1 ≤ e ∨ x.2 ≤ x.1 ∨ 1000000000 < x.2 then false else chkS x.2 r
def spanOk (l : List Span) : Bool := chkS (-1) l

theorem chk3 {l : List Span} {c : Bool} (hl : l.length ≤ lim) : ∀ (m i : Nat) (e : Int), m + i = l.length → chkS e (l.drop i) = c →
    AWP Try.prog 31 0 c256_3 [(3, .int .i64 e), (6, .sl 2 (.map encS (0, 0) l) .none), (7, .int .i64 l.length), (8, .int .i64 i)] [] (q256_2 0 (PB c)) := by
  intro m
  induction m with
  | zero =>
    intro i e hm h
    refine v256_3 _ _ _ _ _ _ (condD (fun hc => by omega) fun _ => pb ?_)
    rw [List.drop_eq_nil_of_le (by omega)] at h
    exact h
  | succ m ih =>
    intro i e hm h
    rw [dropD l (0, 0) i (by omega)] at h
    simp only [chkS] at h
    refine v256_3 _ _ _ _ _ _ (condD (fun hc => needJ ⟨by omega, by omega⟩ ?_) fun hc => by omega)
    rw [Int.toNat_natCast]
    generalize l.getD i (0, 0) = x at h ⊢
    refine condD (fun h1 => pb ?_) fun h1 => condD (fun h2 => pb ?_) fun h2 => condD (fun h3 => pb ?_) fun h3 => ?_
    · rw [if_pos (.inl h1)] at h; exact h
    · rw [if_pos (.inr (.inl h2))] at h; exact h
    · rw [if_pos (.inr (.inr h3))] at h; exact h
    · rw [if_neg (by omega)] at h
      rw [succ64 (by unfold lim at hl; omega)]
      exact AWP.shape [] [(3, .int .i64 x.2), (6, .sl 2 (.map encS (0, 0) l) .none), (7, .int .i64 l.length), (8, .int .i64 (i + 1 : Nat))] [] Sel.none ⟨rfl, Le.refl _, rfl, Le.refl _, rfl, Le.refl _, rfl, Le.refl _, trivial⟩ (ih (i + 1) x.2 (by omega) h)

theorem spanCheck_spec (l : List Span) (hl : l.length ≤ lim) (H : List AObj) : ASpec Try.prog 256 [.sl 2 (.map encS (0, 0) l) .none] H (fun r H' => r = .bool (spanOk l) ∧ H' = H) :=
  ASpec.pureH H (ASpec.sel (s256 _ _ (chk3 hl l.length 0 (-1) (by omega) rfl))) _ _ rfl rfl

theorem rchk2 {l : List Span} {c : Bool} (hl : l.length ≤ lim) : ∀ (m i : Nat) (e : Int), m + i = l.length → (i = 0 → e = -1) → (0 < i → e = (l.getD (i - 1) (0, 0)).2 ∧ 0 ≤ e) → chkS e (l.drop i) = c →
    AWP Try.prog 55 0 c285_2 [(0, .sl 2 (.map encS (0, 0) l) .none), (3, .int .i64 i)] [] (q285_2 0 (PB c)) := by
  intro m
  induction m with
  | zero =>
    intro i e hm _ _ h
    refine v285_2 _ _ _ _ (condD (fun hc => by omega) fun _ => pb ?_)
    rw [List.drop_eq_nil_of_le (by omega)] at h
    exact h
  | succ m ih =>
    intro i e hm h0 he h
    have hin : (0 : Int) ≤ (i : Int) ∧ (i : Int) < (l.length : Int) := ⟨by omega, by omega⟩
    rw [dropD l (0, 0) i (by omega)] at h
    simp only [chkS] at h
    have hnext : ∀ x, x = l.getD i (0, 0) → ¬ (x.1 ≤ e ∨ x.2 ≤ x.1 ∨ 1000000000 < x.2) → AWP Try.prog 55 0 c285_2 [(0, .sl 2 (.map encS (0, 0) l) .none), (3, .int .i64 (IntKind.wrap .i64 ((i : Int) + 1)))] [] (q285_2 0 (PB c)) := by
      intro x hx hn
      rw [← hx, if_neg hn] at h
      rw [succ64 (by unfold lim at hl; omega)]
      have hge : -1 ≤ e := by
        rcases Nat.eq_zero_or_pos i with z | z
        · have := h0 z; omega
        · have := he z; omega
      exact ih (i + 1) x.2 (by omega) (fun hh => by omega) (fun _ => ⟨by rw [hx]; rfl, by omega⟩) h
    have hbad : ∀ x, x = l.getD i (0, 0) → (x.1 ≤ e ∨ x.2 ≤ x.1 ∨ 1000000000 < x.2) → PB c (.bool false) [] := by
      intro x hx hh
      rw [← hx, if_pos hh] at h
      exact pb h
    refine v285_2 _ _ _ _ (condD (fun hc => needJ hin ?_) fun hc => by omega)
    rw [Int.toNat_natCast]
    generalize hx : l.getD i (0, 0) = x at h ⊢
    refine condD (fun h1 => hbad x hx.symm (.inl ?_)) fun h1 => needJ hin (condD (fun h2 => hbad x hx.symm (.inr (.inr h2))) fun h2 => needJ hin (needJ hin (condD (fun h3 => hbad x hx.symm (.inr (.inl h3))) fun h3 => condD (fun h4 => needJ hin (needJ ?_ (condD (fun h5 => hbad x hx.symm (.inl ?_)) fun h5 => hnext x hx.symm ?_))) fun h4 => hnext x hx.symm ?_)))
    · rcases Nat.eq_zero_or_pos i with z | z
      · have := h0 z; omega
      · have := he z; omega
    · rw [pred64 (by unfold lim at hl; omega) (by omega)]; omega
    · rw [pred64 (by unfold lim at hl; omega) (by omega), Int.toNat_natCast] at h5
      have := he (by omega); omega
    · rw [pred64 (by unfold lim at hl; omega) (by omega), Int.toNat_natCast] at h5
      have := he (by omega); omega
    · have := h0 (by omega); omega

theorem rspanCheck_spec (l : List Span) (hl : l.length ≤ lim) (H : List AObj) : ASpec Try.prog 285 [.sl 2 (.map encS (0, 0) l) .none] H (fun r H' => r = .bool (spanOk l) ∧ H' = H) :=
  ASpec.pureH H (ASpec.sel (s285 _ _ (rchk2 hl l.length 0 (-1) (by omega) (fun _ => rfl) (fun h => by omega) rfl))) _ _ rfl rfl

/-! ### needs -/

def leB (a b : List UInt8) : Bool := Op.bytesLess a b || a == b

def needsF (last : List UInt8) : List Need → Bool
  | [] => true
  | x :: r => if fitM x.1 = false ∨ leB x.1 last = true ∨ 6 < x.2.length ∨ spanOk x.2 = false then false else needsF x.1 r
def needOk (l : List Need) : Bool := needsF [] l && decide (l.length ≤ 6)

theorem fit_nil : fitM [] = false := rfl
theorem leB_nil {a : List UInt8} (h : fitM a = true) : leB a [] = false := by
  cases a with
  | nil => rw [fit_nil] at h; cases h
  | cons c a => simp [leB, Op.bytesLess]

def okN (l : List Need) : Prop := l.length ≤ lim ∧ ∀ n ∈ l, n.1.length ≤ lim ∧ n.2.length ≤ lim

theorem need3 {l : List Need} {c : Bool} (hl : okN l) : ∀ (m i : Nat) (last : List UInt8), m + i = l.length → (needsF last (l.drop i) && decide (l.length ≤ 6)) = c →
    AWP Try.prog 40 0 c232_3 [(0, .sl 2 (.map encN ([], []) l) .none), (3, .str (B last)), (6, .sl 2 (.map encN ([], []) l) .none), (7, .int .i64 l.length), (8, .int .i64 i)] [] (q232_2 0 (PB c)) := by
  obtain ⟨hl1, hl2⟩ := hl
  intro m
  induction m with
  | zero =>
    intro i last hm h
    refine v232_3 _ _ _ _ _ _ (condD (fun hc => by omega) fun _ => pb ?_)
    rw [List.drop_eq_nil_of_le (by omega)] at h
    simp only [needsF, Bool.true_and] at h
    rw [show decide ((l.length : Int) ≤ 6) = decide (l.length ≤ 6) from decide_eq_decide.2 (by omega)]
    exact h
  | succ m ih =>
    intro i last hm h
    have hx := hl2 _ (memD l ([], []) i (by omega))
    rw [dropD l ([], []) i (by omega)] at h
    simp only [needsF] at h
    refine v232_3 _ _ _ _ _ _ (condD (fun hc => needJ ⟨by omega, by omega⟩ ?_) fun hc => by omega)
    rw [Int.toNat_natCast]
    generalize l.getD i ([], []) = x at h hx ⊢
    have bad : ∀ {H' : List AObj}, (fitM x.1 = false ∨ leB x.1 last = true ∨ 6 < x.2.length ∨ spanOk x.2 = false) → PB c (.bool false) H' := by
      intro H' hh
      rw [if_pos hh] at h
      exact pb h
    refine ASpec.call (fit_spec (l := x.1) (by unfold big; unfold lim at hx; omega) _) (Les.refl _) ⟨_, rfl, rfl, condBn (fun h1 => bad (.inl h1)) fun h1 => ?_⟩
    rw [B_toList, B_toList]
    refine condB (fun h2 => bad (.inr (.inl h2))) fun h2 => condD (fun h3 => bad (.inr (.inr (.inl (by omega))))) fun h3 => ?_
    refine ASpec.call (spanCheck_spec x.2 hx.2 _) (Les.refl _) ⟨_, rfl, rfl, condBn (fun h4 => bad (.inr (.inr (.inr h4)))) fun h4 => ?_⟩
    have h2' : leB x.1 last = false := h2
    rw [if_neg (by rw [h1, h2', h4]; simp; omega)] at h
    rw [succ64 (by unfold lim at hl1; omega)]
    exact AWP.shape [] [(0, .sl 2 (.map encN ([], []) l) .none), (3, .str (B x.1)), (6, .sl 2 (.map encN ([], []) l) .none), (7, .int .i64 l.length), (8, .int .i64 (i + 1 : Nat))] [] Sel.none
      ⟨rfl, Le.refl _, rfl, Le.refl _, rfl, Le.refl _, rfl, Le.refl _, rfl, Le.refl _, trivial⟩ (ih (i + 1) x.1 (by omega) h)

theorem needCheck_spec (l : List Need) (hl : okN l) (H : List AObj) : ASpec Try.prog 232 [.sl 2 (.map encN ([], []) l) .none] H (fun r H' => r = .bool (needOk l) ∧ H' = H) :=
  ASpec.pureH H (ASpec.sel (s232 _ _ (need3 hl l.length 0 [] (by omega) rfl))) _ _ rfl rfl

theorem rneed2 {l : List Need} {c : Bool} (hl : okN l) : ∀ (m i : Nat) (last : List UInt8), m + i = l.length → (i = 0 → last = []) → (0 < i → last = (l.getD (i - 1) ([], [])).1) → (needsF last (l.drop i) && decide (l.length ≤ 6)) = c →
    AWP Try.prog 56 0 c239_2 [(0, .sl 2 (.map encN ([], []) l) .none), (3, .int .i64 i)] [] (q239_2 0 (PB c)) := by
  obtain ⟨hl1, hl2⟩ := hl
  intro m
  induction m with
  | zero =>
    intro i last hm _ _ h
    refine v239_2 _ _ _ _ (condD (fun hc => by omega) fun _ => pb ?_)
    rw [List.drop_eq_nil_of_le (by omega)] at h
    simp only [needsF, Bool.true_and] at h
    rw [show decide ((l.length : Int) ≤ 6) = decide (l.length ≤ 6) from decide_eq_decide.2 (by omega)]
    exact h
  | succ m ih =>
    intro i last hm h0 he h
    have hin : (0 : Int) ≤ (i : Int) ∧ (i : Int) < (l.length : Int) := ⟨by omega, by omega⟩
    have hx := hl2 _ (memD l ([], []) i (by omega))
    rw [dropD l ([], []) i (by omega)] at h
    simp only [needsF] at h
    have hnext : ¬ (fitM (l.getD i ([], [])).1 = false ∨ leB (l.getD i ([], [])).1 last = true ∨ 6 < (l.getD i ([], [])).2.length ∨ spanOk (l.getD i ([], [])).2 = false) →
        AWP Try.prog 56 0 c239_2 [(0, .sl 2 (.map encN ([], []) l) .none), (3, .int .i64 (IntKind.wrap .i64 ((i : Int) + 1)))] [] (q239_2 0 (PB c)) := by
      intro hn
      rw [if_neg hn] at h
      rw [succ64 (by unfold lim at hl1; omega)]
      exact ih (i + 1) _ (by omega) (fun hh => by omega) (fun _ => rfl) h
    have bad : (fitM (l.getD i ([], [])).1 = false ∨ leB (l.getD i ([], [])).1 last = true ∨ 6 < (l.getD i ([], [])).2.length ∨ spanOk (l.getD i ([], [])).2 = false) → PB c (.bool false) [] := by
      intro hh
      rw [if_pos hh] at h
      exact pb h
    refine v239_2 _ _ _ _ (condD (fun hc => needJ hin ?_) fun hc => by omega)
    rw [Int.toNat_natCast]
    clear h ih
    generalize l.getD i ([], []) = x at hx hnext bad ⊢
    refine ASpec.call (rfit_spec (l := x.1) (by unfold big; unfold lim at hx; omega) _) (Les.refl _) ⟨_, rfl, rfl, condBn (fun h1 => bad (.inl h1)) fun h1 => needJ hin ?_⟩
    refine ASpec.call (rspanCheck_spec x.2 hx.2 _) (Les.refl _) ⟨_, rfl, rfl, condBn (fun h2 => bad (.inr (.inr (.inr h2)))) fun h2 => needJ hin (condD (fun h3 => bad (.inr (.inr (.inl (by omega))))) fun h3 => condD (fun h4 => needJ hin ?_) fun h4 => hnext ?_)⟩
    · rw [pred64 (by unfold lim at hl1; omega) (by omega), Int.toNat_natCast]
      refine needJ ⟨by omega, by omega⟩ ?_
      rw [← he (by omega), B_toList, B_toList]
      refine condB (fun h5 => bad (.inr (.inl h5))) fun h5 => hnext ?_
      have h5' : leB x.1 last = false := h5
      rw [h1, h2, h5']; simp; omega
    · rw [h0 (by omega), h1, h2, leB_nil h1]; simp; omega

theorem rneedCheck_spec (l : List Need) (hl : okN l) (H : List AObj) : ASpec Try.prog 239 [.sl 2 (.map encN ([], []) l) .none] H (fun r H' => r = .bool (needOk l) ∧ H' = H) :=
  ASpec.pureH H (ASpec.sel (s239 _ _ (rneed2 hl l.length 0 [] (by omega) (fun _ => rfl) (fun h => by omega) rfl))) _ _ rfl rfl

/-! ### manifests -/

def relF (e : Int) : List Rel → Bool
  | [] => true
  | x :: r => if x.1 ≤ e ∨ 1000000000 ≤ x.1 ∨ needOk x.2 = false then false else relF x.1 r
def manOk (m : Mani) : Bool := relF (-1) m.2 && (fitM m.1 && decide (m.2.length ≤ 8))

def okM (m : Mani) : Prop := m.1.length ≤ lim ∧ m.2.length ≤ lim ∧ ∀ r ∈ m.2, okN r.2

theorem mani3 {m : Mani} {c : Bool} (hl : okM m) : ∀ (k i : Nat) (e : Int), k + i = m.2.length → (relF e (m.2.drop i) && (fitM m.1 && decide (m.2.length ≤ 8))) = c →
    AWP Try.prog 40 0 c185_3 [(1, .ptr 0 0), (3, .int .i64 e), (7, .sl 2 (.map T.encR (0, []) m.2) .none), (8, .int .i64 m.2.length), (9, .int .i64 i)] [.cells (encM m)] (q185_2 0 (PB c)) := by
  obtain ⟨hl1, hl2, hl3⟩ := hl
  intro k
  induction k with
  | zero =>
    intro i e hm h
    refine v185_3 _ _ _ _ _ _ (condD (fun hc => by omega) fun _ => ?_)
    rw [List.drop_eq_nil_of_le (by omega)] at h
    simp only [relF, Bool.true_and] at h
    refine ASpec.call (fit_spec (l := m.1) (by unfold big; unfold lim at hl1; omega) _) (Les.refl _) ⟨_, rfl, rfl, condB (fun h1 => pb ?_) fun h1 => pb ?_⟩
    · rw [h1, Bool.true_and] at h
      rw [show decide ((m.2.length : Int) ≤ 8) = decide (m.2.length ≤ 8) from decide_eq_decide.2 (by omega)]
      exact h
    · rw [h1, Bool.false_and] at h
      exact h
  | succ k ih =>
    intro i e hm h
    have hx := hl3 _ (memD m.2 (0, []) i (by omega))
    rw [dropD m.2 (0, []) i (by omega)] at h
    simp only [relF] at h
    refine v185_3 _ _ _ _ _ _ (condD (fun hc => needJ ⟨by omega, by omega⟩ ?_) fun hc => by omega)
    rw [Int.toNat_natCast]
    generalize m.2.getD i (0, []) = x at h hx ⊢
    have bad : ∀ {H' : List AObj}, (x.1 ≤ e ∨ 1000000000 ≤ x.1 ∨ needOk x.2 = false) → PB c (.bool false) H' := by
      intro H' hh
      rw [if_pos hh] at h
      exact pb h
    refine condD (fun h1 => bad (.inl h1)) fun h1 => condD (fun h2 => bad (.inr (.inl h2))) fun h2 => ?_
    refine ASpec.call (needCheck_spec x.2 hx _) (Les.refl _) ⟨_, rfl, rfl, condBn (fun h3 => bad (.inr (.inr h3))) fun h3 => ?_⟩
    rw [if_neg (by rw [h3]; simp; omega)] at h
    rw [succ64 (by unfold lim at hl2; omega)]
    exact AWP.shape [0] [(1, .ptr 0 0), (3, .int .i64 x.1), (7, .sl 2 (.map T.encR (0, []) m.2) .none), (8, .int .i64 m.2.length), (9, .int .i64 (i + 1 : Nat))] [.cells (encM m)] (Sel.one 0 rfl rfl)
      ⟨rfl, Le.refl _, rfl, Le.refl _, rfl, Le.refl _, rfl, Le.refl _, rfl, Le.refl _, trivial⟩ (ih (i + 1) x.1 (by omega) h)

theorem maniCheck_spec (m : Mani) (hl : okM m) (H : List AObj) : ASpec Try.prog 185 [.agg (encM m)] H (fun r H' => r = .bool (manOk m) ∧ H' = H) :=
  ASpec.pureH H (ASpec.sel (s185 _ _ (mani3 hl m.2.length 0 (-1) (by omega) rfl))) _ _ rfl rfl

theorem verFit_spec (x : Int) (H : List AObj) : ASpec Try.prog 231 [.int .i64 x] H (fun r H' => r = .bool (decide (0 ≤ x ∧ x < 1000000000)) ∧ H' = H) := by
  have k : ASpec Try.prog 231 [.int .i64 x] [] (fun r H' => r = .bool (decide (0 ≤ x ∧ x < 1000000000)) ∧ H' = []) := by
    refine s231 _ _ (condD (fun h => ⟨?_, rfl⟩) fun h => ⟨?_, rfl⟩)
    · congr 1; exact decide_eq_decide.2 (by omega)
    · rw [decide_eq_false (by omega)]
  exact ASpec.pureH H k _ _ rfl rfl

theorem rmani2 {m : Mani} {c : Bool} (hl : okM m) : ∀ (k i : Nat) (e : Int), k + i = m.2.length → (i = 0 → e = -1) → (0 < i → e = (m.2.getD (i - 1) (0, [])).1 ∧ 0 ≤ e) → (relF e (m.2.drop i) && (fitM m.1 && decide (m.2.length ≤ 8))) = c →
    AWP Try.prog 52 0 c186_2 [(1, .ptr 0 0), (3, .int .i64 i)] [.cells (encM m)] (q186_2 0 (PB c)) := by
  obtain ⟨hl1, hl2, hl3⟩ := hl
  intro k
  induction k with
  | zero =>
    intro i e hm _ _ h
    refine v186_2 _ _ _ _ (condD (fun hc => by omega) fun _ => ?_)
    rw [List.drop_eq_nil_of_le (by omega)] at h
    simp only [relF, Bool.true_and] at h
    refine ASpec.call (rfit_spec (l := m.1) (by unfold big; unfold lim at hl1; omega) _) (Les.refl _) ⟨_, rfl, rfl, condB (fun h1 => pb ?_) fun h1 => pb ?_⟩
    · rw [h1, Bool.true_and] at h
      rw [show decide ((m.2.length : Int) ≤ 8) = decide (m.2.length ≤ 8) from decide_eq_decide.2 (by omega)]
      exact h
    · rw [h1, Bool.false_and] at h
      exact h
  | succ k ih =>
    intro i e hm h0 he h
    have hin : (0 : Int) ≤ (i : Int) ∧ (i : Int) < (m.2.length : Int) := ⟨by omega, by omega⟩
    have hx := hl3 _ (memD m.2 (0, []) i (by omega))
    rw [dropD m.2 (0, []) i (by omega)] at h
    simp only [relF] at h
    have hge : -1 ≤ e := by
      rcases Nat.eq_zero_or_pos i with z | z
      · have := h0 z; omega
      · have := he z; omega
    have hnext : ∀ (q : List AObj), ¬ ((m.2.getD i (0, [])).1 ≤ e ∨ 1000000000 ≤ (m.2.getD i (0, [])).1 ∨ needOk (m.2.getD i (0, [])).2 = false) →
        AWP Try.prog 52 0 c186_2 [(1, .ptr 0 0), (3, .int .i64 (IntKind.wrap .i64 ((i : Int) + 1)))] (.cells (encM m) :: q) (q186_2 0 (PB c)) := by
      intro q hn
      rw [if_neg hn] at h
      rw [succ64 (by unfold lim at hl2; omega)]
      exact AWP.shape [0] [(1, .ptr 0 0), (3, .int .i64 (i + 1 : Nat))] [.cells (encM m)] (Sel.one 0 rfl rfl)
        ⟨rfl, Le.refl _, rfl, Le.refl _, trivial⟩ (ih (i + 1) (m.2.getD i (0, [])).1 (by omega) (fun hh => by omega) (fun _ => ⟨rfl, by omega⟩) h)
    have bad : ∀ {H' : List AObj}, ((m.2.getD i (0, [])).1 ≤ e ∨ 1000000000 ≤ (m.2.getD i (0, [])).1 ∨ needOk (m.2.getD i (0, [])).2 = false) → PB c (.bool false) H' := by
      intro H' hh
      rw [if_pos hh] at h
      exact pb h
    refine v186_2 _ _ _ _ (condD (fun hc => needJ hin ?_) fun hc => by omega)
    rw [Int.toNat_natCast]
    clear h ih
    generalize m.2.getD i (0, []) = x at hx hnext bad ⊢
    refine ASpec.call (verFit_spec x.1 _) (Les.refl _) ⟨_, rfl, rfl, condBn (fun h1 => bad ?_) fun h1 => ?_⟩
    · have := of_decide_eq_false h1; omega
    have h1 := of_decide_eq_true h1
    refine ASpec.call (rneedCheck_spec x.2 hx _) (Les.refl _) ⟨_, rfl, rfl, condBn (fun h2 => bad (.inr (.inr h2))) fun h2 => condD (fun h4 => ?_) fun h4 => hnext _ ?_⟩
    · rw [pred64 (by unfold lim at hl2; omega) (by omega), Int.toNat_natCast]
      have hh := he (by omega)
      refine needJ ⟨by omega, by omega⟩ (condD (fun h5 => bad (.inl (by omega))) fun h5 => hnext _ ?_)
      rw [h2]; simp; omega
    · have := h0 (by omega)
      rw [h2]; simp; omega

theorem rmaniCheck_spec (m : Mani) (hl : okM m) (H : List AObj) : ASpec Try.prog 186 [.agg (encM m)] H (fun r H' => r = .bool (manOk m) ∧ H' = H) :=
  ASpec.pureH H (ASpec.sel (s186 _ _ (rmani2 hl m.2.length 0 (-1) (by omega) (fun _ => rfl) (fun h => by omega) rfl))) _ _ rfl rfl

/-! ### are they large? -/

end C
end

section
/- The order of names, and looking for one by halves: plain laws. -/

set_option linter.unusedVariables false
set_option linter.unusedSimpArgs false
open Go Go.Ab Go.Proofs V S T C
namespace Dp

theorem less_iff {a b : List UInt8} : Op.bytesLess a b = true ↔ a < b := by rw [bytesLess_eq]; simp
theorem less_trans {a b c : List UInt8} (h : Op.bytesLess a b = true) (k : Op.bytesLess b c = true) : Op.bytesLess a c = true := by
  rw [less_iff] at *; exact List.lt_trans h k
theorem less_irrefl (a : List UInt8) : Op.bytesLess a a = false := by
  rw [bytesLess_eq, decide_eq_false_iff_not]; exact List.lt_irrefl a
theorem less_tri : ∀ {a b : List UInt8}, Op.bytesLess a b = false → a ≠ b → Op.bytesLess b a = true
  | [], [], _, h => absurd rfl h
  | [], _ :: _, h, _ => by simp [Op.bytesLess] at h
  | _ :: _, [], _, _ => by simp [Op.bytesLess]
  | x :: a, y :: b, h, hne => by
    simp only [Op.bytesLess, Bool.or_eq_false_iff, decide_eq_false_iff_not, Bool.and_eq_false_iff, beq_eq_false_iff_ne] at h
    simp only [Op.bytesLess, Bool.or_eq_true, decide_eq_true_eq, Bool.and_eq_true, beq_iff_eq]
    by_cases e : x = y
    · subst e
      rcases h.2 with h2 | h2
      · exact absurd rfl h2
      · exact .inr ⟨rfl, less_tri h2 (fun h3 => hne (by rw [h3]))⟩
    · left
      have h1 := h.1
      rw [UInt8.not_lt] at h1
      exact UInt8.lt_of_le_of_ne h1 (fun h => e h.symm)
theorem leB_false {a b : List UInt8} : leB a b = false ↔ Op.bytesLess b a = true := by
  unfold leB
  rw [Bool.or_eq_false_iff, beq_eq_false_iff_ne]
  constructor
  · rintro ⟨h1, h2⟩; exact less_tri h1 h2
  · intro h
    refine ⟨?_, ?_⟩
    · cases hx : Op.bytesLess a b with
      | false => rfl
      | true => have := less_trans h hx; rw [less_irrefl] at this; cases this
    · rintro rfl; rw [less_irrefl] at h; cases h

theorem cmp_less : ∀ (a b : List UInt8), (Lib.compareBytes a b < 0) ↔ Op.bytesLess a b = true
  | [], [] => by simp [Lib.compareBytes, Op.bytesLess]
  | [], _ :: _ => by simp [Lib.compareBytes, Op.bytesLess]
  | _ :: _, [] => by simp [Lib.compareBytes, Op.bytesLess]
  | x :: a, y :: b => by
    simp only [Lib.compareBytes, Op.bytesLess, Bool.or_eq_true, decide_eq_true_eq, Bool.and_eq_true, beq_iff_eq]
    by_cases h1 : x < y
    · simp [h1]
    · by_cases h2 : y < x
      · rw [if_neg h1, if_pos h2]
        constructor
        · intro h; omega
        · rintro (h | ⟨rfl, _⟩)
          · exact absurd h h1
          · exact absurd h2 h1
      · rw [if_neg h1, if_neg h2, cmp_less a b]
        have e : x = y := UInt8.le_antisymm (UInt8.not_lt.1 h2) (UInt8.not_lt.1 h1)
        simp [h1, e]
theorem cmp_zero : ∀ (a b : List UInt8), (Lib.compareBytes a b = 0) ↔ a = b
  | [], [] => by simp [Lib.compareBytes]
  | [], _ :: _ => by simp [Lib.compareBytes]
  | _ :: _, [] => by simp [Lib.compareBytes]
  | x :: a, y :: b => by
    simp only [Lib.compareBytes, List.cons.injEq]
    by_cases h1 : x < y
    · rw [if_pos h1]
      constructor
      · intro h; omega
      · rintro ⟨rfl, _⟩; exact absurd h1 (UInt8.lt_irrefl _)
    · by_cases h2 : y < x
      · rw [if_neg h1, if_pos h2]
        constructor
        · intro h; omega
        · rintro ⟨rfl, _⟩; exact absurd h2 (UInt8.lt_irrefl _)
      · rw [if_neg h1, if_neg h2, cmp_zero a b]
        have e : x = y := UInt8.le_antisymm (UInt8.not_lt.1 h2) (UInt8.not_lt.1 h1)
        simp [e]

/-! ### entries that may be -/

def depF (last : List UInt8) : List Ent → Bool
  | [] => true
  | x :: r => if fitM x.1 = false ∨ leB x.1 last = true ∨ 8192 < x.2.length then false else depF x.1 r
def depOk (l : List Ent) : Bool := depF [] l && decide (l.length ≤ 24)

theorem depF_ok : ∀ (l : List Ent) (last : List UInt8), depF last l = true → ∀ i, i < l.length →
    fitM (l.getD i ([], [])).1 = true ∧ (l.getD i ([], [])).2.length ≤ 8192 ∧ Op.bytesLess last (l.getD i ([], [])).1 = true ∧ ∀ j, j < i → Op.bytesLess (l.getD j ([], [])).1 (l.getD i ([], [])).1 = true
  | [], _, _, i, hi => by simp at hi
  | x :: r, last, h, i, hi => by
    simp only [depF] at h
    split at h
    · cases h
    · rename_i hx
      simp only [not_or, Bool.not_eq_false, Bool.not_eq_true, Nat.not_lt] at hx
      obtain ⟨h1, h2, h3⟩ := hx
      rw [leB_false] at h2
      match i, hi with
      | 0, _ => exact ⟨h1, h3, h2, fun j hj => by omega⟩
      | i + 1, hi =>
        obtain ⟨k1, k2, k3, k4⟩ := depF_ok r x.1 h i (by simpa using hi)
        simp only [List.getD_cons_succ]
        refine ⟨k1, k2, less_trans h2 k3, fun j hj => ?_⟩
        match j, hj with
        | 0, _ => exact k3
        | j + 1, hj => exact k4 j (by omega)

theorem depOk_ok {l : List Ent} (h : depOk l = true) : l.length ≤ 24 ∧ ∀ i, i < l.length → fitM (l.getD i ([], [])).1 = true ∧ (l.getD i ([], [])).2.length ≤ 8192 ∧ ∀ j, j < i → Op.bytesLess (l.getD j ([], [])).1 (l.getD i ([], [])).1 = true := by
  simp only [depOk, Bool.and_eq_true, decide_eq_true_eq] at h
  refine ⟨h.2, fun i hi => ?_⟩
  obtain ⟨a, b, _, d⟩ := depF_ok l [] h.1 i hi
  exact ⟨a, b, d⟩

/-- how many names stand ahead -/
def cnt (nm : List UInt8) : List Ent → Nat
  | [] => 0
  | x :: r => if Op.bytesLess x.1 nm = true then cnt nm r + 1 else 0

theorem cnt_le (nm : List UInt8) : ∀ l : List Ent, cnt nm l ≤ l.length
  | [] => Nat.le_refl _
  | x :: r => by
    simp only [cnt]
    split
    · have := cnt_le nm r; simp; omega
    · simp
theorem cnt_lt (nm : List UInt8) : ∀ (l : List Ent) (i : Nat), i < cnt nm l → Op.bytesLess (l.getD i ([], [])).1 nm = true
  | [], i, h => by simp [cnt] at h
  | x :: r, i, h => by
    simp only [cnt] at h
    split at h
    · rename_i hx
      match i, h with
      | 0, _ => exact hx
      | i + 1, h => exact cnt_lt nm r i (by omega)
    · omega
theorem cnt_at (nm : List UInt8) : ∀ (l : List Ent), cnt nm l < l.length → Op.bytesLess (l.getD (cnt nm l) ([], [])).1 nm = false
  | [], h => by simp at h
  | x :: r, h => by
    simp only [cnt] at h ⊢
    split
    · rename_i hx
      rw [if_pos hx] at h
      exact cnt_at nm r (by simpa using h)
    · rename_i hx
      simpa using hx
theorem cnt_ge {nm : List UInt8} {l : List Ent} (hs : ∀ i, i < l.length → ∀ j, j < i → Op.bytesLess (l.getD j ([], [])).1 (l.getD i ([], [])).1 = true) {i : Nat} (h : cnt nm l ≤ i) (hi : i < l.length) :
    Op.bytesLess (l.getD i ([], [])).1 nm = false := by
  have h0 := cnt_at nm l (by omega)
  rcases Nat.eq_or_lt_of_le h with e | e
  · rw [← e]; exact h0
  · cases hx : Op.bytesLess (l.getD i ([], [])).1 nm with
    | false => rfl
    | true =>
      have := less_trans (hs i hi _ e) hx
      rw [h0] at this; cases this

/-- a name's body, if it is there -/
def getE (nm : List UInt8) : List Ent → Option (List UInt8)
  | [] => none
  | x :: r => if x.1 = nm then some x.2 else getE nm r

theorem getE_at {nm : List UInt8} : ∀ {l : List Ent}, (∀ i, i < l.length → ∀ j, j < i → Op.bytesLess (l.getD j ([], [])).1 (l.getD i ([], [])).1 = true) →
    (cnt nm l < l.length ∧ (l.getD (cnt nm l) ([], [])).1 = nm → getE nm l = some (l.getD (cnt nm l) ([], [])).2) ∧ (¬ (cnt nm l < l.length ∧ (l.getD (cnt nm l) ([], [])).1 = nm) → getE nm l = none)
  | [], _ => ⟨fun h => by simp at h, fun _ => rfl⟩
  | x :: r, hs => by
    have hr : ∀ i, i < r.length → ∀ j, j < i → Op.bytesLess (r.getD j ([], [])).1 (r.getD i ([], [])).1 = true := fun i hi j hj => by
      have := hs (i + 1) (by simpa using hi) (j + 1) (by omega)
      simpa using this
    obtain ⟨k1, k2⟩ := getE_at (nm := nm) hr
    simp only [cnt, getE]
    by_cases hx : Op.bytesLess x.1 nm = true
    · rw [if_pos hx]
      have hne : ¬ x.1 = nm := by rintro rfl; rw [less_irrefl] at hx; cases hx
      rw [if_neg hne]
      simp only [List.length_cons, List.getD_cons_succ, Nat.add_lt_add_iff_right]
      exact ⟨k1, k2⟩
    · rw [if_neg hx]
      simp only [List.length_cons, List.getD_cons_zero]
      constructor
      · intro h
        rw [if_pos h.2]
      · intro h
        have hne : ¬ x.1 = nm := fun e => h ⟨by omega, e⟩
        rw [if_neg hne]
        apply k2
        rintro ⟨h1, h2⟩
        have h3 := hs (cnt nm r + 1) (by simpa using h1) 0 (by omega)
        simp only [List.getD_cons_zero, List.getD_cons_succ, h2] at h3
        rw [h3] at hx; exact hx rfl
end Dp
end

section
/- strings.Compare, by the library's contract at this program (the laying was written by the kit's lay-plain tool). -/

set_option linter.unusedVariables false
set_option linter.unusedSimpArgs false
namespace Go.Proofs
open Go.Shelf
def Try.lays106_ren : Go.Shelf.Ren := ⟨fun | 106 => 280 | 213 => 327 | 265 => 374 | n => n, fun | 9 => 9 | 3 => 3 | n => n, fun | n => n⟩
theorem Try.lays106 : Go.Proofs.Lays.n106 Try.prog Try.lays106_ren := {
  mixed := by kernel_rfl
  f106 := Try.func280.trans (congrArg some (by kernel_rfl))
  f213 := Try.func327.trans (congrArg some (by kernel_rfl))
  f265 := Try.func374.trans (congrArg some (by kernel_rfl))
  t3 := Try.underlying3
  a3 := Try.isAgg3
  z3 := Try.sizeOf3
  v3 := Try.zeroValue3
  t9 := Try.underlying9
  a9 := Try.isAgg9
  z9 := Try.sizeOf9
  v9 := Try.zeroValue9 }
end Go.Proofs
open Go Go.Ab Go.Proofs V S T C
namespace Dp
theorem cmp_spec (a b : List UInt8) (H : List AObj) : ASpec Try.prog 280 [.str (B a), .str (B b)] H (fun r H' => r = .int .i64 (Lib.compareBytes a b) ∧ H' = H) := by
  refine ASpec.of_calls fun M loc w vs ht hv => ?_
  obtain ⟨hs, hv⟩ := hv
  have hv0 := hv 0 (by simp)
  have hv1 := hv 1 (by simp)
  simp only [List.getElem_cons_zero, List.getElem_cons_succ] at hv0 hv1
  have hvs : vs = #[vs[0]'(by simp at hs; omega), vs[1]'(by simp at hs; omega)] := by
    apply Array.ext
    · simpa using hs
    · intro i h1 h2
      have : i < 2 := by simpa using h2
      match i, this with
      | 0, _ => rfl
      | 1, _ => rfl
  generalize vs[0]'(by simp at hs; omega) = v0 at hv0 hvs
  generalize vs[1]'(by simp at hs; omega) = v1 at hv1 hvs
  subst hvs
  cases hv0
  cases hv1
  refine (Any.strings_Compare Try.lays106 (B a) (B b) w).mono ?_
  rintro e w' ⟨rfl, rfl⟩
  exact ⟨_, rfl, .int _ _, Grown.refl _⟩
end Dp
end

section
/- Manifests as bytes: what the code puts, and the document. -/

set_option linter.unusedVariables false
set_option linter.unusedSimpArgs false
set_option maxRecDepth 100000
open Go Go.Ab Go.Proofs V S T C
namespace W

def numB (x : Int) : List UInt8 := enc (held x)
def text (s : List UInt8) : List UInt8 := enc (held s.length) ++ s
def spanB (s : Span) : List UInt8 := numB s.1 ++ numB (IntKind.wrap .i64 (s.2 - s.1))
def needB (n : Need) : List UInt8 := text n.1 ++ numB n.2.length ++ n.2.flatMap spanB
def relB (r : Rel) : List UInt8 := numB r.1 ++ numB r.2.length ++ r.2.flatMap needB
def maniB (m : Mani) : List UInt8 := text m.1 ++ numB m.2.length ++ m.2.flatMap relB
def putMan (m : Mani) : List UInt8 := if manOk m = true then maniB m else []

theorem numB_len (x : Int) : (numB x).length ≤ 6 := enc_length _ (held_le _)
theorem text_len (s : List UInt8) : (text s).length ≤ s.length + 6 := by
  have := enc_length (held s.length) (held_le _)
  simp [text]; omega

theorem flat_len {α : Type} (f : α → List UInt8) (k : Nat) : ∀ (l : List α), (∀ x ∈ l, (f x).length ≤ k) → (l.flatMap f).length ≤ l.length * k
  | [], _ => by simp
  | x :: r, h => by
    have h1 := h x (by simp)
    have h2 := flat_len f k r (fun y hy => h y (by simp [hy]))
    rw [List.flatMap_cons, List.length_append, List.length_cons, Nat.add_mul]
    omega

theorem spanB_len (s : Span) : (spanB s).length ≤ 12 := by
  have h1 := numB_len s.1
  have h2 := numB_len (IntKind.wrap .i64 (s.2 - s.1))
  simp only [spanB, List.length_append]; omega

theorem needB_len {n : Need} (h1 : n.1.length ≤ 24) (h2 : n.2.length ≤ 6) : (needB n).length ≤ 108 := by
  have a := text_len n.1
  have b := numB_len n.2.length
  have c := flat_len spanB 12 n.2 (fun x _ => spanB_len x)
  have d : n.2.length * 12 ≤ 6 * 12 := Nat.mul_le_mul_right _ h2
  simp only [needB, List.length_append]; omega

theorem needsF_ok : ∀ (l : List Need) (last : List UInt8), needsF last l = true → ∀ n ∈ l, n.1.length ≤ 24 ∧ n.2.length ≤ 6 ∧ spanOk n.2 = true ∧ fitM n.1 = true
  | [], _, _, n, hn => by simp at hn
  | x :: r, last, h, n, hn => by
    simp only [needsF] at h
    split at h
    · cases h
    · rename_i hh
      rcases List.mem_cons.1 hn with rfl | hn
      · have hf : fitM n.1 = true := by
          cases hq : fitM n.1 with
          | true => rfl
          | false => exact (hh (.inl hq)).elim
        have hs : spanOk n.2 = true := by
          cases hq : spanOk n.2 with
          | true => rfl
          | false => exact (hh (.inr (.inr (.inr hq)))).elim
        exact ⟨fitM_short hf, by omega, hs, hf⟩
      · exact needsF_ok r _ h n hn

theorem needOk_ok {l : List Need} (h : needOk l = true) : l.length ≤ 6 ∧ ∀ n ∈ l, n.1.length ≤ 24 ∧ n.2.length ≤ 6 ∧ spanOk n.2 = true ∧ fitM n.1 = true := by
  unfold needOk at h
  rw [Bool.and_eq_true] at h
  exact ⟨of_decide_eq_true h.2, needsF_ok l _ h.1⟩

theorem relB_len {r : Rel} (h : needOk r.2 = true) : (relB r).length ≤ 660 := by
  obtain ⟨h1, h2⟩ := needOk_ok h
  have a := numB_len r.1
  have b := numB_len r.2.length
  have c := flat_len needB 108 r.2 (fun x hx => needB_len (h2 x hx).1 (h2 x hx).2.1)
  have d : r.2.length * 108 ≤ 6 * 108 := Nat.mul_le_mul_right _ h1
  simp only [relB, List.length_append]; omega

theorem relF_ok : ∀ (l : List Rel) (e : Int), relF e l = true → ∀ r ∈ l, needOk r.2 = true ∧ e < r.1 ∧ r.1 < 1000000000
  | [], _, _, n, hn => by simp at hn
  | x :: r, e, h, n, hn => by
    simp only [relF] at h
    split at h
    · cases h
    · rename_i hh
      rcases List.mem_cons.1 hn with rfl | hn
      · refine ⟨?_, by omega, by omega⟩
        cases hq : needOk n.2 with
        | true => rfl
        | false => exact (hh (.inr (.inr hq))).elim
      · have := relF_ok r _ h n hn
        exact ⟨this.1, by omega, this.2.2⟩

theorem manOk_ok {m : Mani} (h : manOk m = true) : fitM m.1 = true ∧ m.1.length ≤ 24 ∧ m.2.length ≤ 8 ∧ ∀ r ∈ m.2, needOk r.2 = true ∧ -1 < r.1 ∧ r.1 < 1000000000 := by
  unfold manOk at h
  rw [Bool.and_eq_true, Bool.and_eq_true] at h
  exact ⟨h.2.1, fitM_short h.2.1, of_decide_eq_true h.2.2, relF_ok _ _ h.1⟩

theorem maniB_len {m : Mani} (h : manOk m = true) : (maniB m).length ≤ 5316 := by
  obtain ⟨-, h1, h2, h3⟩ := manOk_ok h
  have a := text_len m.1
  have b := numB_len m.2.length
  have c := flat_len relB 660 m.2 (fun x hx => relB_len (h3 x hx).1)
  have d : m.2.length * 660 ≤ 8 * 660 := Nat.mul_le_mul_right _ h2
  simp only [maniB, List.length_append]; omega

theorem lenL {α : Type} {a c P : List α} (h : a ++ c = P) : a.length ≤ P.length := by rw [← h]; simp

theorem leTwo (a b : Int) : Le (.sl 1 (.raw [[.int .i64 a], [.int .i64 b]]) .full) (.sl 1 (.map encI 0 [a, b]) .none) := Le.sl rfl (.inl rfl) (.inr rfl)
theorem leTok {l : List UInt8} {t : Tip} : Le (.sl 1 (.map encB 0 l) t) (.sl 1 (.map encB 0 l) .none) := Le.sl rfl (.inl rfl) (.inr rfl)
theorem put1M (b : List UInt8) (x : Int) : putM b [x] = b ++ numB x := by simp [putM, numB]
theorem put2M (b : List UInt8) (x y : Int) : putM b [x, y] = b ++ (numB x ++ numB y) := by simp [putM, numB]

section
variable {Post : AV → List AObj → Prop}

abbrev sl1 (b : List UInt8) : AV := .sl 1 (.map encB 0 b) .none
noncomputable abbrev slR (l : List Rel) : AV := .sl 2 (.map T.encR (0, []) l) .none
noncomputable abbrev slN (l : List Need) : AV := .sl 2 (.map encN ([], []) l) .none
noncomputable abbrev slS (l : List Span) : AV := .sl 2 (.map encS (0, 0) l) .none

theorem p13 {rs : List Rel} {ns : List Need} {ss : List Span} {n i i2 : Int} {n2 : Int} (hs : ss.length ≤ lim) {P : List UInt8} (hP : P.length ≤ 100000)
    (k : AWP Try.prog 73 0 c184_9 [(3, sl1 P), (22, slR rs), (23, .int .i64 n), (24, .int .i64 i), (37, slN ns), (38, .int .i64 n2), (39, .int .i64 (IntKind.wrap .i64 (i2 + 1)))] [] (q184_6 0 Post)) :
    ∀ (m j : Nat) (b : List UInt8), m + j = ss.length → b ++ (ss.drop j).flatMap spanB = P →
    AWP Try.prog 73 0 c184_13 [(3, sl1 b), (22, slR rs), (23, .int .i64 n), (24, .int .i64 i), (37, slN ns), (38, .int .i64 n2), (39, .int .i64 i2), (53, slS ss), (54, .int .i64 ss.length), (55, .int .i64 j)] [] (q184_10 0 Post) := by
  unfold lim at hs
  intro m
  induction m with
  | zero =>
    intro j b hm h
    refine v184_13 _ _ _ _ _ _ _ _ _ _ _ _ (condD (fun hc => by omega) fun _ => ?_)
    rw [List.drop_eq_nil_of_le (by omega)] at h
    simp only [List.flatMap_nil, List.append_nil] at h
    subst h; exact k
  | succ m ih =>
    intro j b hm h
    have hbl : b.length ≤ P.length := lenL h
    rw [dropD ss (0, 0) j (by omega), List.flatMap_cons, ← List.append_assoc] at h
    refine v184_13 _ _ _ _ _ _ _ _ _ _ _ _ (condD (fun hc => needJ ⟨by omega, by omega⟩ ?_) fun hc => by omega)
    rw [Int.toNat_natCast]
    generalize ss.getD j (0, 0) = x at h ⊢
    refine put_spec' (bs := b) (ns := [x.1, IntKind.wrap .i64 (x.2 - x.1)]) ⟨Le.refl _, leTwo _ _, trivial⟩ (by unfold big; simp; omega) ⟨_, rfl, rfl, ?_⟩
    rw [put2M]
    rw [succ64 (by omega)]
    exact AWP.shape [] [(3, sl1 (b ++ spanB x)), (22, slR rs), (23, .int .i64 n), (24, .int .i64 i), (37, slN ns), (38, .int .i64 n2), (39, .int .i64 i2), (53, slS ss), (54, .int .i64 ss.length), (55, .int .i64 (j + 1 : Nat))] [] Sel.none
      ⟨rfl, sealLe _ rfl, rfl, Le.refl _, rfl, Le.refl _, rfl, Le.refl _, rfl, Le.refl _, rfl, Le.refl _, rfl, Le.refl _, rfl, Le.refl _, rfl, Le.refl _, rfl, Le.refl _, trivial⟩ (ih (j + 1) _ (by omega) h)

theorem p9 {rs : List Rel} {ns : List Need} {n i : Int} (hs : ∀ x ∈ ns, x.2.length ≤ lim ∧ x.1.length ≤ lim) (hn : ns.length ≤ lim) {P : List UInt8} (hP : P.length ≤ 100000)
    (k : AWP Try.prog 73 0 c184_5 [(3, sl1 P), (22, slR rs), (23, .int .i64 n), (24, .int .i64 (IntKind.wrap .i64 (i + 1)))] [] (q184_2 0 Post)) :
    ∀ (m j : Nat) (b : List UInt8), m + j = ns.length → b ++ (ns.drop j).flatMap needB = P →
    AWP Try.prog 73 0 c184_9 [(3, sl1 b), (22, slR rs), (23, .int .i64 n), (24, .int .i64 i), (37, slN ns), (38, .int .i64 ns.length), (39, .int .i64 j)] [] (q184_6 0 Post) := by
  unfold lim at hs hn
  intro m
  induction m with
  | zero =>
    intro j b hm h
    refine v184_9 _ _ _ _ _ _ _ _ _ (condD (fun hc => by omega) fun _ => ?_)
    rw [List.drop_eq_nil_of_le (by omega)] at h
    simp only [List.flatMap_nil, List.append_nil] at h
    subst h; exact k
  | succ m ih =>
    intro j b hm h
    have hbl : b.length ≤ P.length := lenL h
    have hx := hs _ (memD ns ([], []) j (by omega))
    rw [dropD ns ([], []) j (by omega), List.flatMap_cons, ← List.append_assoc] at h
    refine v184_9 _ _ _ _ _ _ _ _ _ (condD (fun hc => needJ ⟨by omega, by omega⟩ ?_) fun hc => by omega)
    rw [Int.toNat_natCast]
    generalize ns.getD j ([], []) = x at h hx ⊢
    have hb2 : (b ++ needB x).length ≤ P.length := lenL h
    have hb3 : (b ++ text x.1).length ≤ (b ++ needB x).length := by simp [needB]
    have etx : b ++ enc (held x.1.length) ++ x.1 = b ++ text x.1 := by simp [text]
    refine ASpec.call (text_spec b x.1 (by unfold big; omega) _) (Les.refl _) ⟨b ++ text x.1, by rw [etx]; rfl, rfl, ⟨rfl, rfl⟩, ⟨rfl, rfl⟩, ?_⟩
    refine put_spec' (bs := b ++ text x.1) (ns := [(x.2.length : Int)]) ⟨leTok, leOne _, trivial⟩ (by unfold big; simp only [List.length_cons, List.length_nil]; omega) ⟨_, rfl, rfl, ?_⟩
    rw [put1M]
    refine AWP.shape [] [(3, sl1 (b ++ text x.1 ++ numB x.2.length)), (22, slR rs), (23, .int .i64 n), (24, .int .i64 i), (37, slN ns), (38, .int .i64 ns.length), (39, .int .i64 j), (53, slS x.2), (54, .int .i64 x.2.length), (55, .int .i64 (0 : Nat))] [] Sel.none
      ⟨rfl, sealLe _ rfl, rfl, Le.refl _, rfl, Le.refl _, rfl, Le.refl _, rfl, Le.refl _, rfl, Le.refl _, rfl, Le.refl _, rfl, Le.refl _, rfl, Le.refl _, rfl, Le.refl _, trivial⟩ ?_
    refine p13 (P := b ++ needB x) (by unfold lim; omega) (by omega) ?_ x.2.length 0 _ (by omega) (by simp [needB])
    rw [succ64 (by omega)]
    exact ih (j + 1) _ (by omega) h

theorem p5 {rs : List Rel} (hs : ∀ r ∈ rs, okN r.2) (hn : rs.length ≤ lim) {P : List UInt8} (hP : P.length ≤ 100000) (h : Post (sl1 P) []) :
    ∀ (m j : Nat) (b : List UInt8), m + j = rs.length → b ++ (rs.drop j).flatMap relB = P →
    AWP Try.prog 73 0 c184_5 [(3, sl1 b), (22, slR rs), (23, .int .i64 rs.length), (24, .int .i64 j)] [] (q184_2 0 Post) := by
  unfold lim at hn
  intro m
  induction m with
  | zero =>
    intro j b hm hb
    refine v184_5 _ _ _ _ _ _ (condD (fun hc => by omega) fun _ => ?_)
    rw [List.drop_eq_nil_of_le (by omega)] at hb
    simp only [List.flatMap_nil, List.append_nil] at hb
    subst hb; exact h
  | succ m ih =>
    intro j b hm hb
    have hbl : b.length ≤ P.length := lenL hb
    have hx := hs _ (memD rs (0, []) j (by omega))
    rw [dropD rs (0, []) j (by omega), List.flatMap_cons, ← List.append_assoc] at hb
    refine v184_5 _ _ _ _ _ _ (condD (fun hc => needJ ⟨by omega, by omega⟩ ?_) fun hc => by omega)
    rw [Int.toNat_natCast]
    generalize rs.getD j (0, []) = x at hb hx ⊢
    have hb2 : (b ++ relB x).length ≤ P.length := lenL hb
    refine put_spec' (bs := b) (ns := [x.1, (x.2.length : Int)]) ⟨Le.refl _, leTwo _ _, trivial⟩ (by unfold big; simp; omega) ⟨_, rfl, rfl, ?_⟩
    rw [put2M]
    refine AWP.shape [] [(3, sl1 (b ++ (numB x.1 ++ numB x.2.length))), (22, slR rs), (23, .int .i64 rs.length), (24, .int .i64 j), (37, slN x.2), (38, .int .i64 x.2.length), (39, .int .i64 (0 : Nat))] [] Sel.none
      ⟨rfl, sealLe _ rfl, rfl, Le.refl _, rfl, Le.refl _, rfl, Le.refl _, rfl, Le.refl _, rfl, Le.refl _, rfl, Le.refl _, trivial⟩ ?_
    refine p9 (P := b ++ relB x) (fun y hy => ⟨(hx.2 y hy).2, (hx.2 y hy).1⟩) hx.1 (by omega) ?_ x.2.length 0 _ (by omega) (by simp [relB])
    rw [succ64 (by omega)]
    exact ih (j + 1) _ (by omega) hb

theorem put_spec (m : Mani) (hm : okM m) (H : List AObj) : ASpec Try.prog 184 [.agg (encM m)] H (fun r H' => r = sl1 (putMan m) ∧ H' = H) := by
  have k : ASpec Try.prog 184 [.agg (encM m)] [] (fun r H' => r = sl1 (putMan m) ∧ H' = []) := by
    obtain ⟨hm1, hm2, hm3⟩ := hm
    unfold lim at hm1 hm2
    refine ASpec.sel (s184 _ _ (ASpec.call (maniCheck_spec m ⟨hm1, hm2, hm3⟩ _) (Les.refl _) ⟨_, rfl, rfl, condBn (fun h => ?_) fun h => ?_⟩))
    · refine ⟨[], [], sl1 [], Sel.none, Le.sl (s' := Seq.ren _ (.map encB 0 [])) rfl (.inr ⟨rfl, fun _ h => by cases h⟩) (.inr rfl), ?_, rfl⟩
      rw [putMan, if_neg (by rw [h]; simp)]
    have hlen := maniB_len h
    have hb3 : (text m.1).length ≤ (maniB m).length := by simp [maniB] <;> omega
    have etx : ([] : List UInt8) ++ enc (held m.1.length) ++ m.1 = text m.1 := by simp [text]
    refine ASpec.call (text_spec [] m.1 (by unfold big; simp; omega) _) ⟨leNil, Le.refl _, trivial⟩ ⟨text m.1, by rw [etx]; rfl, rfl, ⟨rfl, rfl⟩, ⟨rfl, rfl⟩, ?_⟩
    refine put_spec' (bs := text m.1) (ns := [(m.2.length : Int)]) ⟨leTok, leOne _, trivial⟩ (by unfold big; simp only [List.length_cons, List.length_nil]; omega) ⟨_, rfl, rfl, ?_⟩
    rw [put1M]
    refine AWP.shape [] [(3, sl1 (text m.1 ++ numB m.2.length)), (22, slR m.2), (23, .int .i64 m.2.length), (24, .int .i64 (0 : Nat))] [] Sel.none
      ⟨rfl, sealLe _ rfl, rfl, Le.refl _, rfl, Le.refl _, rfl, Le.refl _, trivial⟩ ?_
    refine p5 (P := maniB m) hm3 hm2 (by omega) ?_ m.2.length 0 _ (by omega) (by simp [maniB])
    refine ⟨[], [], sl1 (putMan m), Sel.none, ?_, rfl, rfl⟩
    rw [putMan, if_pos h]
    exact sealLe _ rfl
  exact ASpec.pureH H k _ _ rfl rfl

/-! ### the document's -/

theorem d7 {l : List Need} {i : Nat} {x : Need} (hl : l.length ≤ lim) (hi : i < l.length) (hx : l.getD i ([], []) = x) (hxs : x.2.length ≤ lim) {P : List UInt8} (hP : P.length ≤ 100000)
    (k : AWP Try.prog 63 0 c264_3 [(0, slN l), (3, .str (B P)), (4, .int .i64 (i + 1 : Nat))] [] (q264_2 0 Post)) :
    ∀ (m j : Nat) (b : List UInt8), m + j = x.2.length → b ++ (x.2.drop j).flatMap spanB = P →
    AWP Try.prog 63 0 c264_7 [(0, slN l), (3, .str (B b)), (4, .int .i64 i), (5, .int .i64 j)] [] (q264_6 0 Post) := by
  unfold lim at hl hxs
  have hin : (0 : Int) ≤ (i : Int) ∧ (i : Int) < (l.length : Int) := ⟨by omega, by omega⟩
  intro m
  induction m with
  | zero =>
    intro j b hm h
    refine v264_7 _ _ _ _ _ _ (needJ hin ?_)
    rw [Int.toNat_natCast, hx]
    refine condD (fun hc => by omega) fun _ => ?_
    rw [List.drop_eq_nil_of_le (by omega)] at h
    simp only [List.flatMap_nil, List.append_nil] at h
    subst h
    rw [succ64 (by omega)]; exact k
  | succ m ih =>
    intro j b hm h
    have hbl : b.length ≤ P.length := lenL h
    rw [dropD x.2 (0, 0) j (by omega), List.flatMap_cons, ← List.append_assoc] at h
    refine v264_7 _ _ _ _ _ _ (needJ hin ?_)
    rw [Int.toNat_natCast, hx]
    refine condD (fun hc => needJ hin (needJ ⟨by omega, by omega⟩ ?_)) fun hc => by omega
    rw [Int.toNat_natCast]
    generalize x.2.getD j (0, 0) = y at h ⊢
    have n1 := numB_len y.1
    have n2 := numB_len (IntKind.wrap .i64 (y.2 - y.1))
    refine ASpec.call (rnum_spec y.1 _) (Les.refl _) ⟨B (numB y.1), rfl, rfl, ⟨rfl, rfl⟩, ⟨rfl, rfl⟩, needJ (by rw [B_size, B_size]; omega) ?_⟩
    rw [B_append]
    refine ASpec.call (rnum_spec _ _) (Les.refl _) ⟨B (numB (IntKind.wrap .i64 (y.2 - y.1))), rfl, rfl, needJ (by rw [B_size, B_size, List.length_append]; omega) ?_⟩
    rw [B_append, succ64 (by omega)]
    refine AWP.shape [] [(0, slN l), (3, .str (B (b ++ spanB y))), (4, .int .i64 i), (5, .int .i64 (j + 1 : Nat))] [] Sel.none ⟨rfl, Le.refl _, rfl, ?_, rfl, Le.refl _, rfl, Le.refl _, trivial⟩ (ih (j + 1) _ (by omega) h)
    rw [show b ++ numB y.1 ++ numB (IntKind.wrap .i64 (y.2 - y.1)) = b ++ spanB y by simp [spanB]]
    exact Le.refl _

theorem d3 {l : List Need} (hl : okN l) {P : List UInt8} (hP : P.length ≤ 100000) (h : Post (.str (B P)) []) :
    ∀ (m i : Nat) (b : List UInt8), m + i = l.length → b ++ (l.drop i).flatMap needB = P →
    AWP Try.prog 63 0 c264_3 [(0, slN l), (3, .str (B b)), (4, .int .i64 i)] [] (q264_2 0 Post) := by
  obtain ⟨hl1, hl2⟩ := hl
  unfold lim at hl1
  intro m
  induction m with
  | zero =>
    intro i b hm hb
    refine v264_3 _ _ _ _ _ (condD (fun hc => by omega) fun _ => ?_)
    rw [List.drop_eq_nil_of_le (by omega)] at hb
    simp only [List.flatMap_nil, List.append_nil] at hb
    subst hb; exact h
  | succ m ih =>
    intro i b hm hb
    have hin : (0 : Int) ≤ (i : Int) ∧ (i : Int) < (l.length : Int) := ⟨by omega, by omega⟩
    have hbl : b.length ≤ P.length := lenL hb
    have hx := hl2 _ (memD l ([], []) i (by omega))
    rw [dropD l ([], []) i (by omega), List.flatMap_cons, ← List.append_assoc] at hb
    refine v264_3 _ _ _ _ _ (condD (fun hc => needJ hin (needJ hin ?_)) fun hc => by omega)
    rw [Int.toNat_natCast]
    generalize hxe : l.getD i ([], []) = x at hb hx ⊢
    have hb2 : (b ++ needB x).length ≤ P.length := lenL hb
    have hb3 : (b ++ text x.1).length ≤ (b ++ needB x).length := by simp [needB]
    have hb4 : (text x.1).length ≤ (b ++ text x.1).length := by simp
    have hb5 : x.1.length ≤ (text x.1).length := by simp [text]
    have n1 := numB_len x.2.length
    refine ASpec.call (rtext_spec x.1 (by unfold big; omega) _) (Les.refl _) ⟨B (text x.1), rfl, rfl, ⟨rfl, rfl⟩, ⟨rfl, rfl⟩, needJ (by rw [B_size, B_size]; omega) ?_⟩
    rw [B_append]
    refine ASpec.call (rnum_spec _ _) (Les.refl _) ⟨B (numB x.2.length), rfl, rfl, needJ (by rw [B_size, B_size]; omega) ?_⟩
    rw [B_append]
    unfold lim at hx
    exact d7 (x := x) (P := b ++ needB x) (by unfold lim; omega) (by omega) hxe (by unfold lim; omega) (by omega) (ih (i + 1) _ (by omega) hb) x.2.length 0 _ (by omega) (by simp [needB])

theorem dneeds_spec (l : List Need) (hl : okN l) (hP : (numB l.length ++ l.flatMap needB).length ≤ 100000) (H : List AObj) :
    ASpec Try.prog 264 [slN l] H (fun r H' => r = .str (B (numB l.length ++ l.flatMap needB)) ∧ H' = H) := by
  have k : ASpec Try.prog 264 [slN l] [] (fun r H' => r = .str (B (numB l.length ++ l.flatMap needB)) ∧ H' = []) :=
    s264 _ _ (ASpec.call (rnum_spec _ _) (Les.refl _) ⟨B (numB l.length), rfl, rfl, d3 hl hP ⟨rfl, rfl⟩ l.length 0 _ (by omega) rfl⟩)
  exact ASpec.pureH H k _ _ rfl rfl

theorem d5 {m : Mani} (hm : okM m) {P : List UInt8} (hP : P.length ≤ 100000) (h : Post (.str (B P)) [.cells (encM m)]) :
    ∀ (k i : Nat) (b : List UInt8), k + i = m.2.length → b ++ (m.2.drop i).flatMap relB = P →
    AWP Try.prog 41 0 c172_5 [(1, .ptr 0 0), (3, .str (B b)), (4, .int .i64 i)] [.cells (encM m)] (q172_2 0 Post) := by
  obtain ⟨hm1, hm2, hm3⟩ := hm
  unfold lim at hm2
  intro k
  induction k with
  | zero =>
    intro i b hk hb
    refine v172_5 _ _ _ _ _ (condD (fun hc => by omega) fun _ => ?_)
    rw [List.drop_eq_nil_of_le (by omega)] at hb
    simp only [List.flatMap_nil, List.append_nil] at hb
    subst hb; exact h
  | succ k ih =>
    intro i b hk hb
    have hin : (0 : Int) ≤ (i : Int) ∧ (i : Int) < (m.2.length : Int) := ⟨by omega, by omega⟩
    have hbl : b.length ≤ P.length := lenL hb
    have hx := hm3 _ (memD m.2 (0, []) i (by omega))
    rw [dropD m.2 (0, []) i (by omega), List.flatMap_cons, ← List.append_assoc] at hb
    refine v172_5 _ _ _ _ _ (condD (fun hc => needJ hin (needJ hin ?_)) fun hc => by omega)
    rw [Int.toNat_natCast]
    generalize m.2.getD i (0, []) = x at hb hx ⊢
    have hb2 : (b ++ relB x).length ≤ P.length := lenL hb
    have hb3 : b.length + (numB x.1).length + (numB x.2.length ++ x.2.flatMap needB).length = (b ++ relB x).length := by simp [relB]; omega
    refine ASpec.call (rnum_spec x.1 _) (Les.refl _) ⟨B (numB x.1), rfl, rfl, ⟨rfl, rfl⟩, ⟨rfl, rfl⟩, needJ (by rw [B_size, B_size]; omega) ?_⟩
    rw [B_append]
    refine ASpec.call (dneeds_spec x.2 hx (by omega) _) (Les.refl _) ⟨_, rfl, rfl, needJ (by rw [B_size, B_size, List.length_append]; omega) ?_⟩
    rw [B_append, succ64 (by omega)]
    refine ih (i + 1) _ (by omega) ?_
    rw [← hb]
    simp [relB]

theorem rput_spec (m : Mani) (hm : okM m) (H : List AObj) : ASpec Try.prog 172 [.agg (encM m)] H (fun r H' => r = .str (B (putMan m)) ∧ H' = H) := by
  have k : ASpec Try.prog 172 [.agg (encM m)] [] (fun r H' => r = .str (B (putMan m)) ∧ H' = []) := by
    have hm' := hm
    obtain ⟨hm1, hm2, hm3⟩ := hm
    unfold lim at hm1 hm2
    have fin : ∀ (b : List UInt8) (H' : List AObj), b = putMan m → ∃ l H2 r2, Sel 0 l H' H2 ∧ Le (.str (B b)) (AV.ren (selR l H'.length) r2) ∧ r2 = .str (B (putMan m)) ∧ H2 = [] := by
      intro b H' e; subst e
      exact ⟨[], [], .str (B (putMan m)), Sel.none, Le.refl _, rfl, rfl⟩
    refine ASpec.sel (s172 _ _ (ASpec.call (rmaniCheck_spec m hm' _) (Les.refl _) ⟨_, rfl, rfl, condBn (fun h => ?_) fun h => ?_⟩))
    · exact fin [] _ (by rw [putMan, if_neg (by rw [h]; simp)])
    have hlen := maniB_len h
    have hb3 : (text m.1).length + (numB m.2.length).length ≤ (maniB m).length := by simp [maniB] <;> omega
    have hb5 : m.1.length ≤ (text m.1).length := by simp [text]
    refine ASpec.call (rtext_spec m.1 (by unfold big; omega) _) (Les.refl _) ⟨B (text m.1), rfl, rfl, ⟨rfl, rfl⟩, ⟨rfl, rfl⟩, ?_⟩
    refine ASpec.call (rnum_spec _ _) (Les.refl _) ⟨B (numB m.2.length), rfl, rfl, needJ (by rw [B_size, B_size]; omega) ?_⟩
    rw [B_append]
    exact d5 hm' (P := maniB m) (by omega) (fin _ _ (by rw [putMan, if_pos h])) m.2.length 0 _ (by omega) (by simp [maniB])
  exact ASpec.pureH H k _ _ rfl rfl

end
end W
end

section
/- Manifests out of bytes: what the code reads. -/

set_option linter.unusedVariables false
set_option linter.unusedSimpArgs false
set_option maxRecDepth 100000
open Go Go.Ab Go.Proofs V S T C
namespace W

/-! ### the model -/

def spanR (bs : List UInt8) (p : Nat) (e : Int) : Span × Nat × Int :=
  (((numM bs p e 1000000000).1, IntKind.wrap .i64 ((numM bs p e 1000000000).1 + (numM bs (numM bs p e 1000000000).2.1 (numM bs p e 1000000000).2.2 1000000000).1)),
    (numM bs (numM bs p e 1000000000).2.1 (numM bs p e 1000000000).2.2 1000000000).2)

def listR {α : Type} (one : Nat → Int → α × Nat × Int) : Nat → Nat → Int → List α × Nat × Int
  | 0, p, e => ([], p, e)
  | k + 1, p, e => if e = 0 then ((one p e).1 :: (listR one k (one p e).2.1 (one p e).2.2).1, (listR one k (one p e).2.1 (one p e).2.2).2) else ([], p, e)

def listM {α : Type} (one : Nat → Int → α × Nat × Int) (bs : List UInt8) (p : Nat) (e most : Int) : List α × Nat × Int :=
  listR one (numM bs p e most).1.toNat (numM bs p e most).2.1 (numM bs p e most).2.2

def needR (bs : List UInt8) (p : Nat) (e : Int) : Need × Nat × Int :=
  (((strM bs p e 24).1, (listM (spanR bs) bs (strM bs p e 24).2.1 (strM bs p e 24).2.2 6).1), (listM (spanR bs) bs (strM bs p e 24).2.1 (strM bs p e 24).2.2 6).2)

def relR (bs : List UInt8) (p : Nat) (e : Int) : Rel × Nat × Int :=
  (((numM bs p e 1000000000).1, (listM (needR bs) bs (numM bs p e 1000000000).2.1 (numM bs p e 1000000000).2.2 6).1), (listM (needR bs) bs (numM bs p e 1000000000).2.1 (numM bs p e 1000000000).2.2 6).2)

def maniR (bs : List UInt8) : Mani × Nat × Int :=
  (((strM bs 0 0 24).1, (listM (relR bs) bs (strM bs 0 0 24).2.1 (strM bs 0 0 24).2.2 8).1), (listM (relR bs) bs (strM bs 0 0 24).2.1 (strM bs 0 0 24).2.2 8).2)

def endM (m : Mani) (c : Int) : Mani × Int := if c ≠ 0 then (([], []), c) else if manOk m = true then (m, 0) else (([], []), 3)

def readM (bs : List UInt8) : Mani × Int :=
  if 8192 < bs.length then (([], []), 4) else endM (maniR bs).1 (closeM (maniR bs).2.2 (bs.length - (maniR bs).2.1))

theorem lookM_most (s : List UInt8) (most : Int) (h : 0 ≤ most) : (lookM s most).1 ≤ most := by
  cases s with
  | nil => simpa [lookM] using h
  | cons c s =>
    simp only [lookM]
    split
    · exact h
    · split
      · exact h
      · split
        · exact h
        · simp only; omega

/-! ### the walk -/

section
variable {bs : List UInt8} {p : Nat} {e : Int}

theorem leNone {α : Type} {en : α → List AV} {d : α} (hr : ∀ ρ x, renL ρ (en x) = en x) {acc : List α} {sz : Nat} {tip : Tip} {ρ : Nat → Nat} :
    Le (.sl sz (.map en d acc) tip) (AV.ren ρ (.sl sz (.map en d acc) .none)) :=
  Le.sl (s' := Seq.ren ρ (.map en d acc)) (by simp [Ab.Seq.toList, Seq.ren, hr]) (.inl rfl) (.inr rfl)

theorem renS (ρ : Nat → Nat) (x : Span) : renL ρ (encS x) = encS x := rfl
end

end W
end

section
/- WirePuts: the bytes of any manifest, and the manifest of any bytes, or what is wrong first, are the document's: the law's function returns true. -/

set_option linter.unusedVariables false
set_option linter.unusedSimpArgs false
set_option maxRecDepth 100000
open Go Go.Ab Go.Proofs V S T C
namespace W

/-! ### the document's model -/

def dSpan (l : List UInt8) (e : Int) : Span × List UInt8 × Int :=
  (((dnumM l e 1000000000).1, IntKind.wrap .i64 ((dnumM l e 1000000000).1 + (dnumM (dnumM l e 1000000000).2.1 (dnumM l e 1000000000).2.2 1000000000).1)),
    (dnumM (dnumM l e 1000000000).2.1 (dnumM l e 1000000000).2.2 1000000000).2)

def dF {α : Type} (one : List UInt8 → Int → α × List UInt8 × Int) : Nat → List UInt8 → Int → List α × List UInt8 × Int
  | 0, l, e => ([], l, e)
  | k + 1, l, e => ((one l e).1 :: (dF one k (one l e).2.1 (one l e).2.2).1, (dF one k (one l e).2.1 (one l e).2.2).2)

def dL {α : Type} (one : List UInt8 → Int → α × List UInt8 × Int) (l : List UInt8) (e most : Int) : List α × List UInt8 × Int :=
  dF one (dnumM l e most).1.toNat (dnumM l e most).2.1 (dnumM l e most).2.2

def dNeed (l : List UInt8) (e : Int) : Need × List UInt8 × Int :=
  (((dstrM l e 24).1, (dL dSpan (dstrM l e 24).2.1 (dstrM l e 24).2.2 6).1), (dL dSpan (dstrM l e 24).2.1 (dstrM l e 24).2.2 6).2)
/-! ### it is the code's -/

/-! ### the document's walk -/

theorem dnumM_len (l : List UInt8) (e most : Int) : (dnumM l e most).2.1.length ≤ l.length := by
  unfold dnumM; split <;> simp
theorem dstrM_len (l : List UInt8) (e most : Int) : (dstrM l e most).2.1.length ≤ l.length := by
  unfold dstrM; repeat' split
  all_goals simp
theorem dnumM_most (l : List UInt8) (e most : Int) (h : 0 ≤ most) : 0 ≤ (dnumM l e most).1 ∧ (dnumM l e most).1 ≤ most := by
  unfold dnumM
  split
  · exact ⟨Int.le_refl _, h⟩
  · exact ⟨(lookM_le _ _).2.1, lookM_most _ _ h⟩
theorem dSpan_len (l : List UInt8) (e : Int) : (dSpan l e).2.1.length ≤ l.length := Nat.le_trans (dnumM_len _ _ _) (dnumM_len _ _ _)
theorem dF_len {α : Type} {one : List UInt8 → Int → α × List UInt8 × Int} (h : ∀ l e, (one l e).2.1.length ≤ l.length) : ∀ (k : Nat) (l : List UInt8) (e : Int), (dF one k l e).2.1.length ≤ l.length
  | 0, l, e => Nat.le_refl _
  | k + 1, l, e => Nat.le_trans (dF_len h k _ _) (h l e)
theorem dL_len {α : Type} {one : List UInt8 → Int → α × List UInt8 × Int} (h : ∀ l e, (one l e).2.1.length ≤ l.length) (l : List UInt8) (e most : Int) : (dL one l e most).2.1.length ≤ l.length :=
  Nat.le_trans (dF_len h _ _ _) (dnumM_len _ _ _)
theorem dNeed_len (l : List UInt8) (e : Int) : (dNeed l e).2.1.length ≤ l.length := Nat.le_trans (dL_len dSpan_len _ _ _) (dstrM_len _ _ _)
section
variable {Post : AV → List AObj → Prop}

theorem q9 {acc : List Need} {n i : Int} {nm : List UInt8} (ha : acc.length ≤ 100) {k : Nat} (hk : k ≤ 100) {R : Need × List UInt8 × Int}
    (K : AWP Try.prog 47 1 c326_4 [(0, .ptr 0 0), (3, .sl 2 (.map encN ([], []) (acc ++ [R.1])) (.tok 1)), (4, .int .i64 n), (5, .int .i64 (IntKind.wrap .i64 (i + 1)))] [dr R.2.1 R.2.2, .tok] (q326_2 1 Post)) :
    ∀ (m j : Nat) (l : List UInt8) (e : Int) (sp : List Span), m + j = k → l.length ≤ 10 * big → sp.length + m ≤ 100 → R = ((nm, sp ++ (dF dSpan m l e).1), (dF dSpan m l e).2) →
    AWP Try.prog 47 1 c326_9 [(0, .ptr 0 0), (3, .sl 2 (.map encN ([], []) acc) (.tok 1)), (4, .int .i64 n), (5, .int .i64 i), (6, .ptr 2 0), (7, .int .i64 k), (8, .int .i64 j)]
      [dr l e, .tok, .cells [.str (B nm), .sl 2 (.map encS (0, 0) sp) (.tok 3)], .tok] (q326_7 1 Post) := by
  intro m
  induction m with
  | zero =>
    intro j l e sp hm hl hs hR
    refine v326_9 _ _ _ _ _ _ _ _ _ _ _ (condD (fun hc => by omega) fun _ => needJ (by omega) ?_)
    simp only [dF, List.append_nil] at hR
    subst hR
    refine AWP.shape [0, 4] [(0, .ptr 0 0), (3, .sl 2 (.map encN ([], []) (acc ++ [(nm, sp)])) (.tok 1)), (4, .int .i64 n), (5, .int .i64 (IntKind.wrap .i64 (i + 1)))] [dr l e, .tok] ?_ ⟨rfl, Le.refl _, rfl, ?_, rfl, Le.refl _, rfl, Le.refl _, trivial⟩ K
    · refine ⟨by decide, rfl, by decide, fun i hi => ?_, fun i hi => .inl ?_⟩
      · match i, hi with
        | 0, _ => rfl
      · match i, hi with
        | 0, _ | 1, _ => rfl
    · exact Le.trans (leAppE (x := (nm, sp)) ⟨Le.refl _, Le.sl rfl (.inl rfl) (.inr rfl), trivial⟩) (Le.refl _)
  | succ m ih =>
    intro j l e sp hm hl hs hR
    refine v326_9 _ _ _ _ _ _ _ _ _ _ _ (condD (fun _ => ?_) fun hc => by omega)
    have h1 := dnumM_len l e 1000000000
    refine ASpec.call (dnum_spec (H := [dr l e, .tok, .cells [.str (B nm), .sl 2 (.map encS (0, 0) sp) (.tok 3)], .tok]) (id := 0) (l := l) (e := e) 1000000000 hl rfl) (Les.refl _)
      ⟨((dnumM l e 1000000000).1, B (dnumM l e 1000000000).2.1, (dnumM l e 1000000000).2.2), rfl, rfl, ?_⟩
    refine ASpec.call (dnum_spec (H := [dr (dnumM l e 1000000000).2.1 (dnumM l e 1000000000).2.2, .tok, .cells [.str (B nm), .sl 2 (.map encS (0, 0) sp) (.tok 3)], .tok]) (id := 0) (l := (dnumM l e 1000000000).2.1) (e := (dnumM l e 1000000000).2.2) 1000000000 (by omega) rfl) (Les.refl _)
      ⟨((dnumM (dnumM l e 1000000000).2.1 (dnumM l e 1000000000).2.2 1000000000).1, B (dnumM (dnumM l e 1000000000).2.1 (dnumM l e 1000000000).2.2 1000000000).2.1, (dnumM (dnumM l e 1000000000).2.1 (dnumM l e 1000000000).2.2 1000000000).2.2), rfl, rfl, needJ (by omega) ?_⟩
    refine AWP.re (ReSt.leCell (id := 2) (cs' := [.str (B nm), .sl 2 (.map encS (0, 0) (sp ++ [(dSpan l e).1])) (.tok 4)]) rfl ⟨Le.refl _, leAppE (Les.refl _), trivial⟩) ?_
    rw [succ64 (by omega)]
    refine AWP.shape [0, 1, 2, 4] [(0, .ptr 0 0), (3, .sl 2 (.map encN ([], []) acc) (.tok 1)), (4, .int .i64 n), (5, .int .i64 i), (6, .ptr 2 0), (7, .int .i64 k), (8, .int .i64 (j + 1 : Nat))]
      [dr (dSpan l e).2.1 (dSpan l e).2.2, .tok, .cells [.str (B nm), .sl 2 (.map encS (0, 0) (sp ++ [(dSpan l e).1])) (.tok 3)], .tok] ?_
      ⟨rfl, Le.refl _, rfl, Le.refl _, rfl, Le.refl _, rfl, Le.refl _, rfl, Le.refl _, rfl, Le.refl _, rfl, Le.refl _, trivial⟩ (ih (j + 1) _ _ _ (by omega) (Nat.le_trans (dSpan_len l e) hl) (by simp; omega) ?_)
    · refine ⟨by decide, rfl, by decide, fun i hi => ?_, fun i hi => .inl ?_⟩
      · match i, hi with
        | 0, _ => rfl
      · match i, hi with
        | 0, _ | 1, _ | 2, _ | 3, _ => rfl
    · rw [hR]; simp [dF]

theorem q4 {n : Nat} (hn : n ≤ 50) : ∀ (m i : Nat) (l : List UInt8) (e : Int) (acc : List Need), m + i = n → l.length ≤ 10 * big → acc.length + m ≤ 100 →
    Post (.sl 2 (.map encN ([], []) (acc ++ (dF dNeed m l e).1)) (.tok 1)) [dr (dF dNeed m l e).2.1 (dF dNeed m l e).2.2, .tok] →
    AWP Try.prog 47 1 c326_4 [(0, .ptr 0 0), (3, .sl 2 (.map encN ([], []) acc) (.tok 1)), (4, .int .i64 n), (5, .int .i64 i)] [dr l e, .tok] (q326_2 1 Post) := by
  intro m
  induction m with
  | zero =>
    intro i l e acc hm hl ha h
    refine v326_4 _ _ _ _ _ _ _ (condD (fun hc => by omega) fun _ => ?_)
    simp only [dF, List.append_nil] at h
    exact h
  | succ m ih =>
    intro i l e acc hm hl ha h
    refine v326_4 _ _ _ _ _ _ _ (condD (fun _ => ?_) fun hc => by omega)
    have h1 := dstrM_len l e 24
    have h2 := dnumM_most (dstrM l e 24).2.1 (dstrM l e 24).2.2 6 (by omega)
    have h3 := dnumM_len (dstrM l e 24).2.1 (dstrM l e 24).2.2 6
    refine ASpec.call (dstr_spec (H := [dr l e, .tok]) (id := 0) (l := l) (e := e) 24 hl rfl) (Les.refl _) ⟨(B (dstrM l e 24).1, B (dstrM l e 24).2.1, (dstrM l e 24).2.2), rfl, rfl, ?_⟩
    refine ASpec.call (dnum_spec (H := [dr (dstrM l e 24).2.1 (dstrM l e 24).2.2, .tok, .cells [.str (B (dstrM l e 24).1), .sl 0 (.raw []) .nil]]) (id := 0) (l := (dstrM l e 24).2.1) (e := (dstrM l e 24).2.2) 6 (by omega) rfl) (Les.refl _)
      ⟨((dnumM (dstrM l e 24).2.1 (dstrM l e 24).2.2 6).1, B (dnumM (dstrM l e 24).2.1 (dstrM l e 24).2.2 6).2.1, (dnumM (dstrM l e 24).2.1 (dstrM l e 24).2.2 6).2.2), rfl, rfl, ?_⟩
    refine AWP.re (ReSt.tokCell (id := 2) (j := 1) (q' := .map encS (0, 0) []) (sz' := 2) rfl rfl (.inl rfl) rfl (.inr rfl)) ?_
    obtain ⟨k, hk⟩ := Int.eq_ofNat_of_zero_le h2.1
    rw [hk]
    refine q9 (nm := (dstrM l e 24).1) (by omega) (k := k) (by omega) (R := dNeed l e) ?_ k 0 _ _ [] (by omega) (by omega) (by simp; omega) ?_
    · rw [succ64 (by omega)]
      refine ih (i + 1) _ _ _ (by omega) (Nat.le_trans (dNeed_len l e) hl) (by simp; omega) ?_
      simp only [dF] at h
      simpa using h
    · rw [dNeed, dL, hk]; rfl

/-! ### are they alike? -/

theorem cons_dec {α : Type} [DecidableEq α] (x y : α) (a b : List α) : decide (x :: a = y :: b) = (decide (x = y) && decide (a = b)) := by
  rw [Bool.eq_iff_iff]; simp

theorem sameS4 {a b : List Span} {c : Bool} (hl : a.length ≤ lim) (he : a.length = b.length) : ∀ (m i : Nat), m + i = a.length → decide (a.drop i = b.drop i) = c →
    AWP Try.prog 26 0 c163_4 [(0, slS a), (1, slS b), (5, .int .i64 i)] [] (q163_2 0 (PB c)) := by
  unfold lim at hl
  intro m
  induction m with
  | zero =>
    intro i hm h
    refine v163_4 _ _ _ _ _ (condD (fun hc => by omega) fun _ => pb ?_)
    rw [List.drop_eq_nil_of_le (by omega), List.drop_eq_nil_of_le (by omega)] at h
    rw [← h]; simp
  | succ m ih =>
    intro i hm h
    rw [dropD a (0, 0) i (by omega), dropD b (0, 0) i (by omega), cons_dec] at h
    refine v163_4 _ _ _ _ _ (condD (fun hc => needJ ⟨by omega, by omega⟩ (needJ ⟨by omega, by omega⟩ ?_)) fun hc => by omega)
    rw [Int.toNat_natCast]
    generalize a.getD i (0, 0) = x at h ⊢
    generalize b.getD i (0, 0) = y at h ⊢
    have e : (x.1 == y.1 && (x.2 == y.2 && true)) = decide (x = y) := by
      obtain ⟨x1, x2⟩ := x
      obtain ⟨y1, y2⟩ := y
      rw [Bool.eq_iff_iff]; simp
    rw [e]
    refine condBn (fun h1 => pb ?_) fun h1 => ?_
    · rw [h1, Bool.false_and] at h; exact h
    · rw [h1, Bool.true_and] at h
      rw [succ64 (by omega)]
      exact ih (i + 1) (by omega) h

theorem sameS_spec (a b : List Span) (hl : a.length ≤ lim) (H : List AObj) : ASpec Try.prog 163 [slS a, slS b] H (fun r H' => r = .bool (decide (a = b)) ∧ H' = H) := by
  have k : ASpec Try.prog 163 [slS a, slS b] [] (fun r H' => r = .bool (decide (a = b)) ∧ H' = []) := by
    refine ASpec.sel (s163 _ _ _ (condNe (fun h => pb ?_) fun h => sameS4 hl (by omega) a.length 0 (by omega) rfl))
    symm
    rw [decide_eq_false]
    rintro rfl; exact h rfl
  exact ASpec.pureH H k _ _ rfl rfl

theorem sameN4 {a b : List Need} {c : Bool} (hl : okN a) (he : a.length = b.length) : ∀ (m i : Nat), m + i = a.length → decide (a.drop i = b.drop i) = c →
    AWP Try.prog 42 0 c173_4 [(0, slN a), (1, slN b), (5, .int .i64 i)] [] (q173_2 0 (PB c)) := by
  obtain ⟨hl1, hl2⟩ := hl
  unfold lim at hl1
  intro m
  induction m with
  | zero =>
    intro i hm h
    refine v173_4 _ _ _ _ _ (condD (fun hc => by omega) fun _ => pb ?_)
    rw [List.drop_eq_nil_of_le (by omega), List.drop_eq_nil_of_le (by omega)] at h
    rw [← h]; simp
  | succ m ih =>
    intro i hm h
    have hx := hl2 _ (memD a ([], []) i (by omega))
    rw [dropD a ([], []) i (by omega), dropD b ([], []) i (by omega), cons_dec] at h
    refine v173_4 _ _ _ _ _ (condD (fun hc => needJ ⟨by omega, by omega⟩ (needJ ⟨by omega, by omega⟩ ?_)) fun hc => by omega)
    rw [Int.toNat_natCast]
    generalize a.getD i ([], []) = x at h hx ⊢
    generalize b.getD i ([], []) = y at h ⊢
    have no : ¬ (x.1 = y.1 ∧ x.2 = y.2) → PB c (.bool false) [] := by
      intro hh
      rw [decide_eq_false (by rintro rfl; exact hh ⟨rfl, rfl⟩), Bool.false_and] at h
      exact pb h
    refine condSn (fun h1 => no (fun hh => h1 hh.1)) fun h1 => needJ ⟨by omega, by omega⟩ (needJ ⟨by omega, by omega⟩ ?_)
    refine ASpec.call (sameS_spec x.2 y.2 hx.2 []) (Les.refl _) ⟨_, rfl, rfl, condBn (fun h2 => no (fun hh => ?_)) fun h2 => ?_⟩
    · rw [hh.2] at h2; simp at h2
    · rw [decide_eq_true (show x = y from Prod.ext h1 (of_decide_eq_true h2)), Bool.true_and] at h
      rw [succ64 (by omega)]
      exact ih (i + 1) (by omega) h

theorem sameN_spec (a b : List Need) (hl : okN a) (H : List AObj) : ASpec Try.prog 173 [slN a, slN b] H (fun r H' => r = .bool (decide (a = b)) ∧ H' = H) := by
  have k : ASpec Try.prog 173 [slN a, slN b] [] (fun r H' => r = .bool (decide (a = b)) ∧ H' = []) := by
    refine ASpec.sel (s173 _ _ _ (condNe (fun h => pb ?_) fun h => sameN4 hl (by omega) a.length 0 (by omega) rfl))
    symm
    rw [decide_eq_false]
    rintro rfl; exact h rfl
  exact ASpec.pureH H k _ _ rfl rfl

/-! ### the law -/

end
end W
end

section
/- What was put of a manifest is read; what is read is put so. -/

set_option linter.unusedVariables false
set_option linter.unusedSimpArgs false
set_option maxRecDepth 100000
open Go Go.Ab Go.Proofs V S T C
namespace W

/-! ### what was put is read -/

def Back {α : Type} (bytes : α → List UInt8) (one : List UInt8 → Nat → Int → α × Nat × Int) (x : α) : Prop :=
  ∀ pre rest, one (pre ++ bytes x ++ rest) pre.length 0 = (x, pre.length + (bytes x).length, 0)

theorem num_back {x most : Int} (h0 : 0 ≤ x) (h1 : x ≤ most) (h2 : most ≤ 1099511627776) : Back numB (fun bs p e => numM bs p e most) x := by
  intro pre rest
  have hh := held_of (x := x) h0 (by omega)
  have hd : (pre ++ numB x ++ rest).drop pre.length = enc (held x) ++ rest := by rw [List.append_assoc, List.drop_left]; rfl
  simp only [numM, if_neg (show ¬ ((0 : Int) ≠ 0) by simp), hd, look_enc rest (v := held x) (most := most) (held_le x) (by omega)]
  rw [hh]; rfl

theorem str_back (pre s rest : List UInt8) (most : Int) (hs : (s.length : Int) ≤ most) (hl : s.length ≤ 1000000) :
    strM (pre ++ text s ++ rest) pre.length 0 most = (s, pre.length + (text s).length, 0) := by
  have hh := held_of (x := (s.length : Int)) (by omega) (by omega)
  have hh : held s.length = s.length := by omega
  have hd : (pre ++ text s ++ rest).drop pre.length = enc s.length ++ (s ++ rest) := by
    rw [List.append_assoc, List.drop_left, text, hh, List.append_assoc]
  have hd2 : (pre ++ text s ++ rest).drop (pre.length + (enc s.length).length) = s ++ rest := by
    rw [← List.drop_drop, hd, List.drop_left]
  have hk := look_enc (s ++ rest) (v := s.length) (most := most) (by omega) hs
  have hlen : (text s).length = (enc s.length).length + s.length := by rw [text, hh, List.length_append]
  simp only [strM, if_neg (show ¬ ((0 : Int) ≠ 0) by simp), hd, hk]
  rw [if_neg (by simp only [List.length_append, hlen]; omega), hd2, hlen]
  simp [Nat.add_assoc]

theorem text_back {s : List UInt8} {most : Int} (h : (s.length : Int) ≤ most) (hl : s.length ≤ 1000000) : Back text (fun bs p e => strM bs p e most) s :=
  fun pre rest => str_back pre s rest most h hl

theorem back2 {α β : Type} {ba : α → List UInt8} {bb : β → List UInt8} {oa : List UInt8 → Nat → Int → α × Nat × Int} {ob : List UInt8 → Nat → Int → β × Nat × Int} {x : α} {y : β}
    (ha : Back ba oa x) (hb : Back bb ob y) (pre rest : List UInt8) :
    oa (pre ++ (ba x ++ bb y) ++ rest) pre.length 0 = (x, pre.length + (ba x).length, 0) ∧ ob (pre ++ (ba x ++ bb y) ++ rest) (pre.length + (ba x).length) 0 = (y, pre.length + (ba x ++ bb y).length, 0) := by
  have e1 := ha pre (bb y ++ rest)
  have e2 := hb (pre ++ ba x) rest
  simp only [List.append_assoc, List.length_append] at e1 e2 ⊢
  exact ⟨e1, by rw [e2, Nat.add_assoc]⟩

theorem span_back {x : Span} (h0 : 0 ≤ x.1) (h1 : x.1 ≤ 1000000000) (h2 : x.1 ≤ x.2) (h3 : x.2 ≤ 1000000000) : Back spanB spanR x := by
  intro pre rest
  have hw : IntKind.wrap .i64 (x.2 - x.1) = x.2 - x.1 := wrap64 (by omega) (by omega)
  obtain ⟨e1, e2⟩ := back2 (num_back (x := x.1) (most := 1000000000) h0 h1 (by omega)) (num_back (x := IntKind.wrap .i64 (x.2 - x.1)) (most := 1000000000) (by omega) (by omega) (by omega)) pre rest
  simp only [spanR, spanB, e1, e2]
  rw [hw, wrap64 (x := x.1 + (x.2 - x.1)) (by omega) (by omega), show x.1 + (x.2 - x.1) = x.2 by omega]

theorem listR_back {α : Type} {bytes : α → List UInt8} {one : List UInt8 → Nat → Int → α × Nat × Int} : ∀ (l : List α), (∀ x ∈ l, Back bytes one x) → ∀ pre rest,
    listR (one (pre ++ l.flatMap bytes ++ rest)) l.length pre.length 0 = (l, pre.length + (l.flatMap bytes).length, 0)
  | [], _, pre, rest => by simp [listR]
  | x :: r, h, pre, rest => by
    have hx := h x (by simp) pre (r.flatMap bytes ++ rest)
    have hr := listR_back r (fun y hy => h y (by simp [hy])) (pre ++ bytes x) rest
    simp only [List.flatMap_cons, List.append_assoc, List.length_append, List.length_cons] at hx hr ⊢
    simp only [listR, if_pos, hx, hr]
    rw [Nat.add_assoc]

theorem listM_back {α : Type} {bytes : α → List UInt8} {one : List UInt8 → Nat → Int → α × Nat × Int} {most : Int} (l : List α) (h : ∀ x ∈ l, Back bytes one x) (hl : (l.length : Int) ≤ most) (h2 : most ≤ 1099511627776) :
    ∀ pre rest, listM (one (pre ++ (numB l.length ++ l.flatMap bytes) ++ rest)) (pre ++ (numB l.length ++ l.flatMap bytes) ++ rest) pre.length 0 most = (l, pre.length + (numB l.length ++ l.flatMap bytes).length, 0) := by
  intro pre rest
  have e1 := num_back (x := (l.length : Int)) (most := most) (by omega) hl h2 pre (l.flatMap bytes ++ rest)
  have e2 := listR_back l h (pre ++ numB l.length) rest
  simp only [List.append_assoc, List.length_append] at e1 e2 ⊢
  simp only [listM, e1, Int.toNat_natCast, e2]
  rw [Nat.add_assoc]

theorem chkS_ok : ∀ (l : List Span) (e : Int), -1 ≤ e → chkS e l = true → ∀ x ∈ l, 0 ≤ x.1 ∧ x.1 ≤ 1000000000 ∧ x.1 ≤ x.2 ∧ x.2 ≤ 1000000000
  | [], _, _, _, x, hx => by simp at hx
  | y :: r, e, he, h, x, hx => by
    simp only [chkS] at h
    split at h
    · cases h
    · rcases List.mem_cons.1 hx with rfl | hx
      · omega
      · exact chkS_ok r _ (by omega) h x hx

theorem need_back {n : Need} (h1 : n.1.length ≤ 24) (h2 : n.2.length ≤ 6) (h3 : spanOk n.2 = true) : Back needB needR n := by
  intro pre rest
  have hs : ∀ x ∈ n.2, Back spanB spanR x := fun x hx => by
    obtain ⟨a, b, c, d⟩ := chkS_ok n.2 (-1) (by omega) h3 x hx
    exact span_back a b c d
  have e1 := text_back (s := n.1) (most := 24) (by omega) (by omega) pre (numB n.2.length ++ n.2.flatMap spanB ++ rest)
  have e2 := listM_back (most := 6) n.2 hs (by omega) (by omega) (pre ++ text n.1) rest
  simp only [List.append_assoc, List.length_append] at e1 e2
  simp only [needR, needB, List.append_assoc, List.length_append, e1, e2]
  rw [Nat.add_assoc]

theorem rel_back {r : Rel} (h0 : 0 ≤ r.1) (h1 : r.1 ≤ 1000000000) (h2 : needOk r.2 = true) : Back relB relR r := by
  intro pre rest
  obtain ⟨hl, hn⟩ := needOk_ok h2
  have hs : ∀ x ∈ r.2, Back needB needR x := fun x hx => by
    obtain ⟨a, b, c, d⟩ := hn x hx
    exact need_back a b c
  have e1 := num_back (x := r.1) (most := 1000000000) h0 h1 (by omega) pre (numB r.2.length ++ r.2.flatMap needB ++ rest)
  have e2 := listM_back (most := 6) r.2 hs (by omega) (by omega) (pre ++ numB r.1) rest
  simp only [List.append_assoc, List.length_append] at e1 e2
  simp only [relR, relB, List.append_assoc, List.length_append, e1, e2]
  rw [Nat.add_assoc]

theorem mani_back {m : Mani} (h : manOk m = true) : maniR (maniB m) = (m, (maniB m).length, 0) := by
  obtain ⟨-, h1, h2, h3⟩ := manOk_ok h
  have hs : ∀ x ∈ m.2, Back relB relR x := fun x hx => by
    obtain ⟨a, b, c⟩ := h3 x hx
    exact rel_back (by omega) (by omega) a
  have e1 := text_back (s := m.1) (most := 24) (by omega) (by omega) [] (numB m.2.length ++ m.2.flatMap relB)
  have e2 := listM_back (most := 8) m.2 hs (by omega) (by omega) (text m.1) []
  simp only [List.append_assoc, List.length_append, List.nil_append, List.length_nil, Nat.zero_add, List.append_nil] at e1 e2
  simp only [maniR, maniB, List.append_assoc, List.length_append, e1, e2]

theorem read_put {m : Mani} (h : manOk m = true) : readM (maniB m) = (m, 0) := by
  have hl := maniB_len h
  rw [readM, if_neg (by omega), mani_back h]
  simp only [Nat.sub_self]
  rw [show closeM 0 0 = 0 from rfl, endM, if_neg (by simp), if_pos h]

/-! ### what is read is put so -/

/-! ### the law -/

section
variable {Post : AV → List AObj → Prop}

end
end W
end

section
/- Depots: what the code and the document's code compute. -/

set_option linter.unusedVariables false
set_option linter.unusedSimpArgs false
set_option maxRecDepth 100000
open Go Go.Ab Go.Proofs V S T C
open W (sl1 slS slN slR leNone readM putMan read_put cons_dec)
namespace Dp

abbrev PA (r0 : AV) : AV → List AObj → Prop := fun r H' => ∃ l H2 r2, Sel 0 l H' H2 ∧ Le r (AV.ren (selR l H'.length) r2) ∧ (r2 = r0 ∧ H2 = [])
theorem pa {r r0 : AV} {H' : List AObj} (h : Le r (AV.ren (selR [] H'.length) r0)) : PA r0 r H' := ⟨[], [], r0, Sel.none, h, rfl, rfl⟩
noncomputable abbrev slEn (l : List Ent) : AV := .sl 2 (.map encEn ([], []) l) .none
def okD (l : List Ent) : Prop := l.length ≤ lim ∧ ∀ x ∈ l, x.1.length ≤ lim ∧ x.2.length ≤ lim

/-! ### large -/

def largeF : List Ent → Bool
  | [] => false
  | x :: r => if 200 < x.1.length ∨ 9000 < x.2.length then true else largeF r
def largeD (l : List Ent) : Bool := if 30 < l.length then true else largeF l

theorem large4 {l : List Ent} {c : Bool} (hl : l.length ≤ 30) : ∀ (m i : Nat), m + i = l.length → largeF (l.drop i) = c →
    AWP Try.prog 29 0 c37_4 [(0, slEn l), (3, .int .i64 i)] [] (q37_2 0 (PB c)) := by
  intro m
  induction m with
  | zero =>
    intro i hm h
    refine v37_4 _ _ _ _ (condD (fun hc => by omega) fun _ => pb ?_)
    rw [List.drop_eq_nil_of_le (by omega)] at h
    exact h
  | succ m ih =>
    intro i hm h
    have hin : (0 : Int) ≤ (i : Int) ∧ (i : Int) < (l.length : Int) := ⟨by omega, by omega⟩
    rw [dropD l ([], []) i (by omega)] at h
    simp only [largeF] at h
    refine v37_4 _ _ _ _ (condD (fun hc => needJ hin ?_) fun hc => by omega)
    rw [Int.toNat_natCast]
    generalize l.getD i ([], []) = x at h ⊢
    rw [B_size]
    refine condD (fun h1 => pb ?_) fun h1 => needJ hin (condD (fun h2 => pb ?_) fun h2 => ?_)
    · rw [if_pos (by omega)] at h; exact h
    · rw [if_pos (by omega)] at h; exact h
    · rw [if_neg (by omega)] at h
      rw [succ64 (by omega)]
      exact ih (i + 1) (by omega) h

theorem largeD_spec (l : List Ent) (H : List AObj) : ASpec Try.prog 37 [slEn l] H (fun r H' => r = .bool (largeD l) ∧ H' = H) := by
  have k : ASpec Try.prog 37 [slEn l] [] (fun r H' => r = .bool (largeD l) ∧ H' = []) := by
    refine ASpec.sel (s37 _ _ (condD (fun h => pb ?_) fun h => large4 (by omega) l.length 0 (by omega) ?_))
    · rw [largeD, if_pos (by omega)]
    · rw [largeD, if_neg (by omega)]; rfl
  exact ASpec.pureH H k _ _ rfl rfl

theorem largeF_ok : ∀ (l : List Ent), largeF l = false → ∀ x ∈ l, x.1.length ≤ 200 ∧ x.2.length ≤ 9000
  | [], _, n, hn => by simp at hn
  | x :: r, h, n, hn => by
    simp only [largeF] at h
    split at h
    · cases h
    · rcases List.mem_cons.1 hn with rfl | hn
      · omega
      · exact largeF_ok r h n hn

theorem largeD_ok {l : List Ent} (h : largeD l = false) : okD l := by
  unfold largeD at h
  split at h
  · cases h
  · refine ⟨by unfold lim; omega, fun x hx => ?_⟩
    have := largeF_ok l h x hx
    unfold lim; omega

/-! ### which may be -/

theorem check3 {l : List Ent} {c : Bool} (hl : okD l) : ∀ (m i : Nat) (last : List UInt8), m + i = l.length → (depF last (l.drop i) && decide (l.length ≤ 24)) = c →
    AWP Try.prog 34 0 c58_3 [(0, slEn l), (3, .str (B last)), (6, slEn l), (7, .int .i64 l.length), (8, .int .i64 i)] [] (q58_2 0 (PB c)) := by
  obtain ⟨hl1, hl2⟩ := hl
  intro m
  induction m with
  | zero =>
    intro i last hm h
    refine v58_3 _ _ _ _ _ _ (condD (fun hc => by omega) fun _ => pb ?_)
    rw [List.drop_eq_nil_of_le (by omega)] at h
    simp only [depF, Bool.true_and] at h
    rw [show decide ((l.length : Int) ≤ 24) = decide (l.length ≤ 24) from decide_eq_decide.2 (by omega)]
    exact h
  | succ m ih =>
    intro i last hm h
    have hx := hl2 _ (memD l ([], []) i (by omega))
    rw [dropD l ([], []) i (by omega)] at h
    simp only [depF] at h
    refine v58_3 _ _ _ _ _ _ (condD (fun hc => needJ ⟨by omega, by omega⟩ ?_) fun hc => by omega)
    rw [Int.toNat_natCast]
    generalize l.getD i ([], []) = x at h hx ⊢
    have bad : ∀ {H' : List AObj}, (fitM x.1 = false ∨ leB x.1 last = true ∨ 8192 < x.2.length) → PB c (.bool false) H' := by
      intro H' hh
      rw [if_pos hh] at h
      exact pb h
    refine ASpec.call (fit_spec (l := x.1) (by unfold big; unfold lim at hx; omega) _) (Les.refl _) ⟨_, rfl, rfl, condBn (fun h1 => bad (.inl h1)) fun h1 => ?_⟩
    rw [B_toList, B_toList]
    refine condB (fun h2 => bad (.inr (.inl h2))) fun h2 => condD (fun h3 => bad (.inr (.inr (by omega)))) fun h3 => ?_
    have h2' : leB x.1 last = false := h2
    rw [if_neg (by rw [h1, h2']; simp; omega)] at h
    rw [succ64 (by unfold lim at hl1; omega)]
    exact AWP.shape [] [(0, slEn l), (3, .str (B x.1)), (6, slEn l), (7, .int .i64 l.length), (8, .int .i64 (i + 1 : Nat))] [] Sel.none
      ⟨rfl, Le.refl _, rfl, Le.refl _, rfl, Le.refl _, rfl, Le.refl _, rfl, Le.refl _, trivial⟩ (ih (i + 1) x.1 (by omega) h)

theorem check_spec (l : List Ent) (hl : okD l) (H : List AObj) : ASpec Try.prog 58 [slEn l] H (fun r H' => r = .bool (depOk l) ∧ H' = H) :=
  ASpec.pureH H (ASpec.sel (s58 _ _ (check3 hl l.length 0 [] (by omega) rfl))) _ _ rfl rfl

theorem rcheck2 {l : List Ent} {c : Bool} (hl : okD l) : ∀ (m i : Nat) (last : List UInt8), m + i = l.length → (i = 0 → last = []) → (0 < i → last = (l.getD (i - 1) ([], [])).1) → (depF last (l.drop i) && decide (l.length ≤ 24)) = c →
    AWP Try.prog 47 0 c38_2 [(0, slEn l), (3, .int .i64 i)] [] (q38_2 0 (PB c)) := by
  obtain ⟨hl1, hl2⟩ := hl
  intro m
  induction m with
  | zero =>
    intro i last hm _ _ h
    refine v38_2 _ _ _ _ (condD (fun hc => by omega) fun _ => pb ?_)
    rw [List.drop_eq_nil_of_le (by omega)] at h
    simp only [depF, Bool.true_and] at h
    rw [show decide ((l.length : Int) ≤ 24) = decide (l.length ≤ 24) from decide_eq_decide.2 (by omega)]
    exact h
  | succ m ih =>
    intro i last hm h0 he h
    have hin : (0 : Int) ≤ (i : Int) ∧ (i : Int) < (l.length : Int) := ⟨by omega, by omega⟩
    have hx := hl2 _ (memD l ([], []) i (by omega))
    rw [dropD l ([], []) i (by omega)] at h
    simp only [depF] at h
    have hnext : ¬ (fitM (l.getD i ([], [])).1 = false ∨ leB (l.getD i ([], [])).1 last = true ∨ 8192 < (l.getD i ([], [])).2.length) →
        AWP Try.prog 47 0 c38_2 [(0, slEn l), (3, .int .i64 (IntKind.wrap .i64 ((i : Int) + 1)))] [] (q38_2 0 (PB c)) := by
      intro hn
      rw [if_neg hn] at h
      rw [succ64 (by unfold lim at hl1; omega)]
      exact ih (i + 1) _ (by omega) (fun hh => by omega) (fun _ => rfl) h
    have bad : (fitM (l.getD i ([], [])).1 = false ∨ leB (l.getD i ([], [])).1 last = true ∨ 8192 < (l.getD i ([], [])).2.length) → PB c (.bool false) [] := by
      intro hh
      rw [if_pos hh] at h
      exact pb h
    refine v38_2 _ _ _ _ (condD (fun hc => needJ hin ?_) fun hc => by omega)
    rw [Int.toNat_natCast]
    clear h ih
    generalize l.getD i ([], []) = x at hx hnext bad ⊢
    refine ASpec.call (rfit_spec (l := x.1) (by unfold big; unfold lim at hx; omega) _) (Les.refl _) ⟨_, rfl, rfl, condBn (fun h1 => bad (.inl h1)) fun h1 => needJ hin (condD (fun h3 => bad (.inr (.inr (by omega)))) fun h3 => condD (fun h4 => needJ hin ?_) fun h4 => hnext ?_)⟩
    · rw [pred64 (by unfold lim at hl1; omega) (by omega), Int.toNat_natCast]
      refine needJ ⟨by omega, by omega⟩ ?_
      rw [← he (by omega), B_toList, B_toList]
      refine condB (fun h5 => bad (.inr (.inl h5))) fun h5 => hnext ?_
      have h5' : leB x.1 last = false := h5
      rw [h1, h5']; simp; omega
    · rw [h0 (by omega), h1, leB_nil h1]; simp; omega

theorem rcheck_spec (l : List Ent) (hl : okD l) (H : List AObj) : ASpec Try.prog 38 [slEn l] H (fun r H' => r = .bool (depOk l) ∧ H' = H) :=
  ASpec.pureH H (ASpec.sel (s38 _ _ (rcheck2 hl l.length 0 [] (by omega) (fun _ => rfl) (fun h => by omega) rfl))) _ _ rfl rfl

/-! ### looking for a name -/

abbrev Sorted (l : List Ent) : Prop := ∀ i, i < l.length → ∀ j, j < i → Op.bytesLess (l.getD j ([], [])).1 (l.getD i ([], [])).1 = true

theorem cmpf_spec (x : Ent) (s : List UInt8) (H : List AObj) : ASpec Try.prog 279 [.agg (encEn x), .str (B s)] H (fun r H' => r = .int .i64 (Lib.compareBytes x.1 s) ∧ H' = H) := by
  have k : ASpec Try.prog 279 [.agg (encEn x), .str (B s)] [] (fun r H' => r = .int .i64 (Lib.compareBytes x.1 s) ∧ H' = []) :=
    ASpec.sel (s279 _ _ _ (ASpec.call (cmp_spec x.1 s _) (Les.refl _) ⟨_, rfl, rfl, pa (Le.refl _)⟩))
  exact ASpec.pureH H k _ _ rfl rfl

theorem mid64 {i j : Nat} (h : i + j ≤ 10000000) : IntKind.wrap .i64 (Int.fdiv (IntKind.wrap .u64 (IntKind.wrap .i64 ((i : Int) + j))) 2) = (((i + j) / 2 : Nat) : Int) := by
  rw [wrap64 (x := (i : Int) + j) (by omega) (by omega)]
  have e : IntKind.wrap .u64 ((i : Int) + j) = ((i + j : Nat) : Int) := by
    simp only [IntKind.wrap, IntKind.bits, IntKind.signed]
    have e : (2 : Int) ^ 64 = 18446744073709551616 := by decide
    simp only [e, Bool.false_and]
    rw [if_neg (by simp)]
    omega
  rw [e, show Int.fdiv ((i + j : Nat) : Int) 2 = (((i + j) / 2 : Nat) : Int) by rw [Int.fdiv_eq_ediv_of_nonneg _ (by omega)]; omega]
  rw [wrap64 (by omega) (by omega)]

theorem find3 {l : List Ent} {s : List UInt8} (hl : l.length ≤ lim) (hs : Sorted l) : ∀ (m i j : Nat), j - i ≤ m → i ≤ cnt s l → cnt s l ≤ j → j ≤ l.length →
    AWP Try.prog 49 0 c278_3 [(0, slEn l), (1, .str (B s)), (2, .fn 279 []), (8, .int .i64 l.length), (9, .int .i64 i), (10, .int .i64 j)] []
      (q278_2 0 (PA (.tup [.int .i64 (cnt s l : Nat), .bool (decide (cnt s l < l.length ∧ (l.getD (cnt s l) ([], [])).1 = s))]))) := by
  unfold lim at hl
  have done : ∀ i : Nat, i = cnt s l → condP (decide ((i : Int) < (l.length : Int))) (needP (0 ≤ (i : Int) ∧ (i : Int) < (l.length : Int)) (ASpec Try.prog 279 [.agg (encEn (l.getD (i : Int).toNat ([], []))), .str (B s)] []
      (fun r H' => ∃ x : Int, r = .int .i64 x ∧ H' = [] ∧ PA (.tup [.int .i64 (cnt s l : Nat), .bool (decide (cnt s l < l.length ∧ (l.getD (cnt s l) ([], [])).1 = s))]) (.tup [.int .i64 i, .bool (x == 0)]) [])))
      (PA (.tup [.int .i64 (cnt s l : Nat), .bool (decide (cnt s l < l.length ∧ (l.getD (cnt s l) ([], [])).1 = s))]) (.tup [.int .i64 i, .bool false]) []) := by
    rintro i rfl
    refine condD (fun h => needJ ⟨by omega, h⟩ ?_) fun h => ?_
    · rw [Int.toNat_natCast]
      refine ASpec.call (cmpf_spec _ s _) (Les.refl _) ⟨_, rfl, rfl, pa ?_⟩
      have e : (Lib.compareBytes (l.getD (cnt s l) ([], [])).1 s == 0) = decide (cnt s l < l.length ∧ (l.getD (cnt s l) ([], [])).1 = s) := by
        rw [Bool.eq_iff_iff, beq_iff_eq, cmp_zero, decide_eq_true_iff]
        exact ⟨fun h2 => ⟨by omega, h2⟩, fun h2 => h2.2⟩
      rw [e]; exact Le.refl _
    · rw [show decide (cnt s l < l.length ∧ (l.getD (cnt s l) ([], [])).1 = s) = false from decide_eq_false (fun h2 => h (by omega))]
      exact pa (Le.refl _)
  intro m
  induction m with
  | zero =>
    intro i j h1 h2 h3 h4
    exact v278_3 _ _ _ _ _ _ _ (condD (fun hc => by omega) fun _ => done i (by omega))
  | succ m ih =>
    intro i j h1 h2 h3 h4
    refine v278_3 _ _ _ _ _ _ _ (condD (fun hc => needJ (by omega) ?_) fun _ => done i (by omega))
    rw [mid64 (by omega)]
    have hm1 : i ≤ (i + j) / 2 := by omega
    have hm2 : (i + j) / 2 < j := by omega
    refine needJ ⟨by omega, by omega⟩ ?_
    generalize (i + j) / 2 = h at hm1 hm2 ⊢
    rw [Int.toNat_natCast]
    refine ASpec.call (cmpf_spec _ s _) (Les.refl _) ⟨_, rfl, rfl, condD (fun hc => ?_) fun hc => ?_⟩
    · rw [cmp_less] at hc
      rw [succ64 (by omega)]
      refine ih (h + 1) j (by omega) ?_ h3 h4
      rcases Nat.lt_or_ge h (cnt s l) with hk | hk
      · omega
      · rw [cnt_ge hs hk (by omega)] at hc; cases hc
    · rw [cmp_less] at hc
      refine ih i h (by omega) h2 ?_ (by omega)
      rcases Nat.lt_or_ge h (cnt s l) with hk | hk
      · exact (hc (cnt_lt s l h hk)).elim
      · exact hk

theorem find_spec (l : List Ent) (s : List UInt8) (hl : l.length ≤ lim) (hs : Sorted l) (H : List AObj) :
    ASpec Try.prog 183 [slEn l, .str (B s)] H (fun r H' => r = .tup [.int .i64 (cnt s l : Nat), .bool (decide (cnt s l < l.length ∧ (l.getD (cnt s l) ([], [])).1 = s))] ∧ H' = H) := by
  have k : ASpec Try.prog 183 [slEn l, .str (B s)] [] (fun r H' => r = .tup [.int .i64 (cnt s l : Nat), .bool (decide (cnt s l < l.length ∧ (l.getD (cnt s l) ([], [])).1 = s))] ∧ H' = []) := by
    have k2 : ASpec Try.prog 278 [slEn l, .str (B s), .fn 279 []] [] (fun r H' => r = .tup [.int .i64 (cnt s l : Nat), .bool (decide (cnt s l < l.length ∧ (l.getD (cnt s l) ([], [])).1 = s))] ∧ H' = []) :=
      ASpec.sel (s278 _ _ _ (find3 hl hs l.length 0 l.length (by omega) (by omega) (cnt_le s l) (by omega)))
    exact s183 _ _ _ (ASpec.call k2 (Les.refl _) ⟨(((cnt s l : Nat) : Int), _), rfl, rfl, rfl, rfl⟩)
  exact ASpec.pureH H k _ _ rfl rfl

theorem leBt {ρ : Nat → Nat} : Le (.sl 0 (.raw []) .nil) (AV.ren ρ (sl1 [])) := Le.sl (s' := Seq.ren ρ (.map encB 0 [])) rfl (.inr ⟨rfl, fun _ h => by cases h⟩) (.inr rfl)
theorem leR0 : Le (.sl 0 (.raw []) .nil) (slR []) := Le.sl rfl (.inr ⟨rfl, fun _ h => by cases h⟩) (.inr rfl)

theorem cloneB_spec (b : List UInt8) (hb : b.length ≤ lim) (H : List AObj) : ASpec Try.prog 166 [sl1 b] H (fun r H' => r = sl1 b ∧ H' = H) := by
  unfold lim at hb
  have k : ASpec Try.prog 166 [sl1 b] [] (fun r H' => r = sl1 b ∧ H' = []) := by
    refine ASpec.sel (s166 _ _ fun c hc => condB (fun h => pa ?_) fun h => needJ (fun x => rfl) (needJ (by omega) (pa ?_)))
    · have := hc h
      simp only [Ab.Seq.toList, List.map_eq_nil_iff] at this
      subst this
      exact leBt
    · exact sealLe _ (by simp [Ab.Seq.toList])
  exact ASpec.pureH H k _ _ rfl rfl

/-! ### bodies and manifests -/

def bodyM (l : List Ent) (s : List UInt8) : List UInt8 := match getE s l with
  | some b => b
  | none => putMan (s, [])
theorem okM0 {s : List UInt8} (h : s.length ≤ lim) : okM (s, []) := ⟨h, by simp, fun r hr => by simp at hr⟩

theorem getE_mem {s b : List UInt8} : ∀ {l : List Ent}, getE s l = some b → ∃ x ∈ l, x.1 = s ∧ x.2 = b
  | [], h => by cases h
  | x :: r, h => by
    simp only [getE] at h
    split at h
    · rename_i e; cases h; exact ⟨x, by simp, e, rfl⟩
    · obtain ⟨y, h1, h2⟩ := getE_mem h
      exact ⟨y, by simp [h1], h2⟩

theorem putMan_len (m : Mani) : (putMan m).length ≤ 5316 := by
  unfold putMan
  split
  · rename_i h; exact W.maniB_len h
  · simp

theorem body_spec (l : List Ent) (s : List UInt8) (hl : okD l) (hs : Sorted l) (hn : s.length ≤ lim) (H : List AObj) : ASpec Try.prog 61 [slEn l, .str (B s)] H (fun r H' => r = sl1 (bodyM l s) ∧ H' = H) := by
  have k : ASpec Try.prog 61 [slEn l, .str (B s)] [] (fun r H' => r = sl1 (bodyM l s) ∧ H' = []) := by
    obtain ⟨g1, g2⟩ := getE_at (nm := s) hs
    refine s61 _ _ _ (ASpec.call (find_spec l s hl.1 hs _) (Les.refl _) ⟨(((cnt s l : Nat) : Int), _), rfl, rfl, condD (fun h => needJ ⟨by omega, by omega⟩ ?_) fun h => ?_⟩)
    · rw [Int.toNat_natCast]
      have hx := hl.2 _ (memD l ([], []) (cnt s l) h.1)
      refine ASpec.call (cloneB_spec _ hx.2 _) (Les.refl _) ⟨_, rfl, rfl, ?_, rfl⟩
      rw [bodyM, g1 h]
    · refine ASpec.call (W.put_spec (s, []) (okM0 hn) _) ⟨Le.agg ⟨Le.refl _, leR0, trivial⟩, trivial⟩ ⟨_, rfl, rfl, ?_, rfl⟩
      rw [bodyM, g2 h]
  exact ASpec.pureH H k _ _ rfl rfl

/-! ### the document's -/

theorem rbody2 {l : List Ent} {s : List UInt8} (hl : okD l) (hn : s.length ≤ lim) {R : List UInt8} : ∀ (m i : Nat), m + i = l.length → bodyM (l.drop i) s = R →
    AWP Try.prog 28 0 c47_2 [(0, slEn l), (1, .str (B s)), (5, .int .i64 i)] [] (q47_2 0 (PA (.str (B R)))) := by
  have hl1 := hl.1
  unfold lim at hl1
  intro m
  induction m with
  | zero =>
    intro i hm h
    refine v47_2 _ _ _ _ _ (condD (fun hc => by omega) fun _ => ?_)
    rw [List.drop_eq_nil_of_le (by omega)] at h
    refine ASpec.call (W.rput_spec (s, []) (okM0 hn) _) ⟨Le.agg ⟨Le.refl _, leR0, trivial⟩, trivial⟩ ⟨_, rfl, rfl, pa ?_⟩
    rw [← h]; exact Le.refl _
  | succ m ih =>
    intro i hm h
    have hin : (0 : Int) ≤ (i : Int) ∧ (i : Int) < (l.length : Int) := ⟨by omega, by omega⟩
    rw [dropD l ([], []) i (by omega)] at h
    refine v47_2 _ _ _ _ _ (condD (fun hc => needJ hin ?_) fun hc => by omega)
    rw [Int.toNat_natCast]
    generalize l.getD i ([], []) = x at h ⊢
    simp only [bodyM, getE] at h
    refine condS (fun h1 => needJ hin (needJ (allBytes_map _) (pa ?_))) fun h1 => ?_
    · rw [if_pos h1] at h
      have h : x.2 = R := h
      rw [bytesOf_map, h]; exact Le.refl _
    · rw [if_neg h1] at h
      rw [succ64 (by omega)]
      exact ih (i + 1) (by omega) h

theorem rbody_spec (l : List Ent) (s : List UInt8) (hl : okD l) (hn : s.length ≤ lim) (H : List AObj) : ASpec Try.prog 47 [slEn l, .str (B s)] H (fun r H' => r = .str (B (bodyM l s)) ∧ H' = H) :=
  ASpec.pureH (r0 := .str (B (bodyM l s))) H (ASpec.sel (s47 _ _ _ (rbody2 hl hn l.length 0 (by omega) rfl))) _ _ rfl rfl

/-! ### the examples -/

theorem okD0 : okD [] := ⟨by simp, fun x hx => by simp at hx⟩
theorem leD0 : Le (.sl 0 (.raw []) .nil) (slEn []) := Le.sl rfl (.inr ⟨rfl, fun _ h => by cases h⟩) (.inr rfl)

/-! ### the law -/

end Dp
end

section
/- SealPacks: the bytes of any reply, and the reply of any bytes, are the document's: the law's function returns true. -/

set_option linter.unusedVariables false
set_option linter.unusedSimpArgs false
set_option maxRecDepth 100000
open Go Go.Ab Go.Proofs V
namespace S

def txt (s : List UInt8) : List UInt8 := enc (held s.length) ++ s
def packM (s body : List UInt8) : List UInt8 := if fitM s = true ∧ body.length ≤ 8192 then sealM (txt s ++ txt body) else []

theorem txt_len (s : List UInt8) : (txt s).length ≤ s.length + 6 := by
  have := enc_length (held s.length) (held_le _)
  simp [txt]; omega

def takeM (x : List UInt8) : List UInt8 × List UInt8 × Int :=
  if closeM (strM x (strM x 0 0 24).2.1 (strM x 0 0 24).2.2 8192).2.2 (x.length - (strM x (strM x 0 0 24).2.1 (strM x 0 0 24).2.2 8192).2.1) ≠ 0 then
    ([], [], closeM (strM x (strM x 0 0 24).2.1 (strM x 0 0 24).2.2 8192).2.2 (x.length - (strM x (strM x 0 0 24).2.1 (strM x 0 0 24).2.2 8192).2.1))
  else if fitM (strM x 0 0 24).1 = true then ((strM x 0 0 24).1, (strM x (strM x 0 0 24).2.1 (strM x 0 0 24).2.2 8192).1, 0) else ([], [], 3)

def sOpenM (b : List UInt8) : List UInt8 × List UInt8 × Int := if (openM b).2 = true then takeM (openM b).1 else ([], [], 8)

theorem pack_spec (s body : List UInt8) (hs : s.length ≤ 10000) (hb : body.length ≤ 1000000) (H : List AObj) :
    ASpec Try.prog 262 [.str (B s), .sl 1 (.map encB 0 body) .none] H (fun r H' => r = .sl 1 (.map encB 0 (packM s body)) .none ∧ H' = H) := by
  have k : ASpec Try.prog 262 [.str (B s), .sl 1 (.map encB 0 body) .none] [] (fun r H' => r = .sl 1 (.map encB 0 (packM s body)) .none ∧ H' = []) := by
    have hno : ∀ (h : ¬ (fitM s = true ∧ body.length ≤ 8192)), ∃ l H2 r2, Sel 0 l [] H2 ∧ Le (.sl 0 (.raw []) .nil) (AV.ren (selR l 0) r2) ∧ r2 = .sl 1 (.map encB 0 (packM s body)) .none ∧ H2 = [] := by
      intro h
      refine ⟨[], [], .sl 1 (.map encB 0 (packM s body)) .none, Sel.none, ?_, rfl, rfl⟩
      rw [packM, if_neg h]
      exact Le.sl (s' := Seq.ren _ (.map encB 0 [])) rfl (.inr ⟨rfl, fun _ h => by cases h⟩) (.inr rfl)
    have ht := txt_len s
    refine ASpec.sel (s262 _ _ _ (ASpec.call (fit_spec (by unfold big; omega) []) (Les.refl _) ⟨_, rfl, rfl, condBn (fun hf => hno (by rw [hf]; simp)) fun hf => condD (fun hg => hno (by omega)) fun hg => needJ (allBytes_map _) ?_⟩))
    rw [bytesOf_map]
    refine ASpec.call (text_spec [] s (by unfold big; simp; omega) []) ⟨leNil, Le.refl _, trivial⟩ ⟨_, rfl, rfl, ?_⟩
    have e : ([] : List UInt8) ++ enc (held s.length) ++ s = txt s := by simp [txt]
    rw [e]
    refine ASpec.call (text_spec (txt s) body (by unfold big; omega) [.tok]) ⟨Le.sl rfl (.inl rfl) (.inr rfl), Le.refl _, trivial⟩ ⟨_, rfl, rfl, ?_⟩
    have e2 : txt s ++ enc (held body.length) ++ body = txt s ++ txt body := by simp [txt]
    rw [e2]
    have ht2 := txt_len body
    refine ASpec.call (seal_spec (txt s ++ txt body) (by unfold big; simp; omega) [.tok, .tok]) ⟨Le.sl rfl (.inl rfl) (.inr rfl), trivial⟩ ⟨_, rfl, rfl, [], [], .sl 1 (.map encB 0 (packM s body)) .none, Sel.none, ?_, rfl, rfl⟩
    rw [packM, if_pos ⟨hf, by omega⟩]
    exact sealLe _ rfl
  exact ASpec.pureH H k _ _ rfl rfl

theorem rpack_spec (s body : List UInt8) (hs : s.length ≤ 10000) (hb : body.length ≤ 1000000) (H : List AObj) :
    ASpec Try.prog 325 [.str (B s), .str (B body)] H (fun r H' => r = .str (B (packM s body)) ∧ H' = H) := by
  have k : ASpec Try.prog 325 [.str (B s), .str (B body)] [] (fun r H' => r = .str (B (packM s body)) ∧ H' = []) := by
    have ht := txt_len s
    have ht2 := txt_len body
    have hno : ∀ (h : ¬ (fitM s = true ∧ body.length ≤ 8192)), B [] = B (packM s body) := by
      intro h; rw [packM, if_neg h]
    refine s325 _ _ _ (ASpec.call (rfit_spec (by unfold big; omega) []) (Les.refl _) ⟨_, rfl, rfl, condBn (fun hf => ⟨by rw [← hno (by rw [hf]; simp)], rfl⟩) fun hf => condD (fun hg => ⟨by rw [← hno (by rw [B_size] at hg; omega)], rfl⟩) fun hg => ?_⟩)
    rw [B_size] at hg
    refine ASpec.call (rtext_spec s (by unfold big; omega) []) (Les.refl _) ⟨_, rfl, rfl, ?_⟩
    refine ASpec.call (rtext_spec body (by unfold big; omega) []) (Les.refl _) ⟨_, rfl, rfl, needJ ?_ ?_⟩
    · have e1 : (enc (held s.length) ++ s).length = (txt s).length := rfl
      have e2 : (enc (held body.length) ++ body).length = (txt body).length := rfl
      simp only [B_size, e1, e2]; omega
    · simp only [B_append]
      refine ASpec.call (rseal_spec (txt s ++ txt body) (by unfold big; simp; omega) []) (Les.refl _) ⟨_, rfl, rfl, ?_⟩
      rw [packM, if_pos ⟨hf, by omega⟩]
      exact ⟨rfl, trivial⟩
  exact ASpec.pureH H k _ _ rfl rfl

theorem openM_len (b : List UInt8) : (openM b).1.length ≤ b.length := by
  unfold openM
  repeat' split
  all_goals simp

theorem ropen_spec (b : List UInt8) (hb : b.length ≤ 1000000) (H : List AObj) :
    ASpec Try.prog 45 [.str (B b)] H (fun r H' => r = .tup [.str (B (sOpenM b).1), .str (B (sOpenM b).2.1), .int .i64 (sOpenM b).2.2] ∧ H' = H) := by
  have k : ASpec Try.prog 45 [.str (B b)] [] (fun r H' => r = .tup [.str (B (sOpenM b).1), .str (B (sOpenM b).2.1), .int .i64 (sOpenM b).2.2] ∧ H' = []) := by
    have hlen := openM_len b
    refine s45 _ _ (ASpec.call (rsopen_spec b (by unfold big; omega) []) (Les.refl _) ⟨(B (openM b).1, (openM b).2), rfl, rfl, condBn (fun h => ?_) fun h => ?_⟩)
    · rw [sOpenM, if_neg (by rw [h]; simp)]
      exact ⟨rfl, rfl⟩
    have hS : sOpenM b = takeM (openM b).1 := by rw [sOpenM, if_pos h]
    generalize (openM b).1 = x at hlen hS ⊢
    have hx : x.length ≤ 10 * big := by unfold big; omega
    have hd := str_doc x 0 0 24 (by omega)
    have hd2 := str_doc x (strM x 0 0 24).2.1 (strM x 0 0 24).2.2 8192 hd.2
    rw [takeM] at hS
    rw [List.drop_zero] at hd
    have c1 := dstr_spec (H := [dr x 0]) (id := 0) (l := x) (e := 0) 24 hx rfl
    rw [hd.1] at c1
    refine ASpec.call c1 (Les.refl _) ⟨(B (strM x 0 0 24).1, B (x.drop (strM x 0 0 24).2.1), (strM x 0 0 24).2.2), rfl, rfl, ?_⟩
    have c2 := dstr_spec (H := [dr (x.drop (strM x 0 0 24).2.1) (strM x 0 0 24).2.2]) (id := 0) (l := x.drop (strM x 0 0 24).2.1) (e := (strM x 0 0 24).2.2) 8192 (by rw [List.length_drop]; omega) rfl
    rw [hd2.1] at c2
    refine ASpec.call c2 (Les.refl _) ⟨(B (strM x (strM x 0 0 24).2.1 (strM x 0 0 24).2.2 8192).1, B (x.drop (strM x (strM x 0 0 24).2.1 (strM x 0 0 24).2.2 8192).2.1), (strM x (strM x 0 0 24).2.1 (strM x 0 0 24).2.2 8192).2.2), rfl, rfl, ?_⟩
    generalize strM x 0 0 24 = a at hS hd hd2 ⊢
    generalize strM x a.2.1 a.2.2 8192 = c at hS hd2 ⊢
    have c3 := dclose_spec (H := [dr (x.drop c.2.1) c.2.2]) (id := 0) (l := x.drop c.2.1) (e := c.2.2) rfl
    rw [List.length_drop] at c3
    refine ASpec.call c3 (Les.refl _) ⟨_, rfl, rfl, ?_⟩
    have ha : a.1.length ≤ x.length := by
      have h1 := congrArg (fun q : List UInt8 × List UInt8 × Int => q.1.length) hd.1
      simp only at h1
      rw [← h1]
      unfold dstrM
      repeat' split
      all_goals (simp; try omega)
    have last : ∀ e : Int, (if e ≠ 0 then ([], [], e) else (a.1, c.1, 0)) = sOpenM b → AWP Try.prog 39 0 c45_10 [(8, .str (B a.1)), (9, .str (B c.1)), (10, .int .i64 e)] [dr (x.drop c.2.1) c.2.2] (q45_0 0 (fun r H' => r = .tup [.str (B (sOpenM b).1), .str (B (sOpenM b).2.1), .int .i64 (sOpenM b).2.2] ∧ H' = [])) := by
      intro e he
      refine AWP.shape [] [(8, .str (B a.1)), (9, .str (B c.1)), (10, .int .i64 e)] [] Sel.none ⟨rfl, Le.refl _, rfl, Le.refl _, rfl, Le.refl _, trivial⟩ (v45_10 (B a.1) (B c.1) e _ _ (condNe (fun hne => ?_) fun heq => ?_))
      · rw [if_pos hne] at he
        rw [← he]; exact ⟨rfl, rfl⟩
      · rw [if_neg (by rw [heq]; simp)] at he
        rw [← he]; exact ⟨rfl, rfl⟩
    refine condE (fun h0 => ?_) fun h0 => last _ ?_
    · rw [if_neg (by rw [h0]; simp)] at hS
      refine ASpec.call (rfit_spec (l := a.1) (by omega) _) (Les.refl _) ⟨_, rfl, rfl, condBn (fun hf => last _ ?_) fun hf => last _ ?_⟩
      · rw [if_pos (by omega), hS, if_neg (by rw [hf]; simp)]
      · rw [if_neg (by rw [h0]; simp), hS, if_pos hf]
    · rw [if_pos h0] at hS
      rw [if_pos h0, hS]
  exact ASpec.pureH H k _ _ rfl rfl

end S
end

section
/- A stand as an object: its functions in any heap; rows that are cut. -/

set_option linter.unusedVariables false
set_option linter.unusedSimpArgs false
set_option maxRecDepth 100000
open Go Go.Ab Go.Proofs V S T C
open W (sl1 slS slN slR)
open Dp (slEn okD Sorted bodyM)
namespace St

/-! ### objects -/
section
variable {H : List AObj} {p a b : Nat} {D D' : List Ent} {W W' : List T.Item} {S S' : List Ev}

abbrev At (H : List AObj) (p a b : Nat) (D : List Ent) (W : List T.Item) (S : List Ev) : Prop :=
  H[p]? = some (stO D W S a b) ∧ H[a]? = some .tok ∧ H[b]? = some .tok ∧ p ≠ a ∧ p ≠ b ∧ a ≠ b

theorem at0 (q : List AObj) : At (HS D W S ++ q) 0 1 2 D W S := ⟨rfl, rfl, rfl, by decide, by decide, by decide⟩

theorem hobjs (h : At H p a b D W S) : ∀ i (hi : i < (HS D W S).length), H[[p, a, b].getD i 0]? = some (AObj.ren (callR [p, a, b] H.length) (HS D W S)[i]) := by
  intro i hi
  match i, hi with
  | 0, _ => exact h.1
  | 1, _ => exact h.2.1
  | 2, _ => exact h.2.2.1
theorem nd (h : At H p a b D W S) : [p, a, b].Nodup := by
  obtain ⟨_, _, _, h1, h2, h3⟩ := h
  simp [h1, h2, h3]

theorem liftG {f : FuncId} {args args' : List AV} {r0 r' : AV} {Hl2 Hx : List AObj} (h : At H p a b D W S) (k : ASpec Try.prog f args (HS D W S) (fun r H' => r = r0 ∧ H' = Hl2))
    (ha : args.map (AV.ren (callR [p, a, b] H.length)) = args') (hr : AV.ren (callR [p, a, b] H.length) r0 = r') (hx : graftH (callR [p, a, b] H.length) [p, a, b] H Hl2 = Hx) :
    ASpec Try.prog f args' H (fun r H' => r = r' ∧ H' = Hx) := ASpec.subH [p, a, b] H Hx k args' r' (nd h) rfl ha hr (hobjs h) hx

theorem gSame (h : At H p a b D W S) : graftH (callR [p, a, b] H.length) [p, a, b] H (HS D W S) = H := by
  have e : graftH (callR [p, a, b] H.length) [p, a, b] H (HS D W S) = ((H.set p (stO D W S a b)).set a .tok).set b .tok ++ [] := rfl
  rw [e, set_same h.1, set_same h.2.1, set_same h.2.2.1, List.append_nil]

noncomputable abbrev hWt (H : List AObj) (p a b : Nat) (D : List Ent) (W : List T.Item) (S : List Ev) : List AObj := (H.set a .gone).set p (stO D W S H.length b) ++ [.tok]
noncomputable abbrev hSt (H : List AObj) (p a b : Nat) (D : List Ent) (W : List T.Item) (S : List Ev) : List AObj := ((H.set a .gone).set b .gone).set p (stO D W S H.length (H.length + 1)) ++ [.tok, .tok]

theorem gW (h : At H p a b D W S) : graftH (callR [p, a, b] H.length) [p, a, b] H [stO D W' S 3 2, .gone, .tok, .tok] = hWt H p a b D W' S := by
  have e : graftH (callR [p, a, b] H.length) [p, a, b] H [stO D W' S 3 2, .gone, .tok, .tok] = ((H.set p (stO D W' S H.length b)).set a .gone).set b .tok ++ [.tok] := rfl
  obtain ⟨_, _, h3, n1, n2, n3⟩ := h
  rw [e, set_same (l := (H.set p (stO D W' S H.length b)).set a .gone) (by rw [List.getElem?_set_ne n3, List.getElem?_set_ne n2]; exact h3), hWt, List.set_comm _ _ n1]

theorem gS (h : At H p a b D W S) : graftH (callR [p, a, b] H.length) [p, a, b] H [stO D W' S' 3 4, .gone, .gone, .tok, .tok] = hSt H p a b D W' S' := by
  have e : graftH (callR [p, a, b] H.length) [p, a, b] H [stO D W' S' 3 4, .gone, .gone, .tok, .tok] = ((H.set p (stO D W' S' H.length (H.length + 1))).set a .gone).set b .gone ++ [.tok, .tok] := rfl
  obtain ⟨_, _, h3, n1, n2, n3⟩ := h
  rw [e, hSt, List.set_comm _ _ n1, List.set_comm _ _ n2]

theorem gM (h : At H p a b D W S) (x : List UInt8) : graftH (callR [p, a, b] H.length) [p, a, b] H (HS D W S ++ [.arr 1 (.map encB 0 x)]) = H ++ [.arr 1 (.map encB 0 x)] := by
  have e : graftH (callR [p, a, b] H.length) [p, a, b] H (HS D W S ++ [.arr 1 (.map encB 0 x)]) = ((H.set p (stO D W S a b)).set a .tok).set b .tok ++ [.arr 1 (.map encB 0 x)] := rfl
  rw [e, set_same h.1, set_same h.2.1, set_same h.2.2.1]

theorem leIt {W : List T.Item} {t : Tip} : Le (.sl 2 (.map encIt (0, []) W) t) (.sl 2 (.map encIt (0, []) W) .none) := Le.sl rfl (.inl rfl) (.inr rfl)

/-- at the end, an object's cells are spelled otherwise -/
theorem ASpec.cellEnd {P : Program} {f : FuncId} {args : List AV} {Post : AV → List AObj → Prop}
    (h : ASpec P f args H (fun r H' => ∃ id cs cs', H'[id]? = some (.cells cs) ∧ Les cs cs' ∧ Post r (H'.set id (.cells cs')))) : ASpec P f args H Post := by
  intro M loc w vs ht hr hv
  refine (h M loc w vs ht hr hv).mono fun e w' hh => ?_
  obtain ⟨v, r, H', M', loc', he, ⟨id, cs, cs', ho, hq, hP⟩, r1, r2, r3⟩ := hh
  have hl := hq.len
  obtain ⟨k1, k2⟩ := r1.respell id (.cells cs) (.cells cs') ho (by intro h; cases h) (by intro h; cases h) (fun hO => by
    obtain ⟨b, vs, T, fr, e1, e2, e3, e4, e5, hs, e6⟩ := hO
    exact ⟨b, vs, T, fr, e1, e2, e3, e4, e5, by omega, fun i hi => hq.get i (by omega) hi _ _ _ _ (e6 i (by omega))⟩)
  exact ⟨v, r, _, M', loc', he, hP, k1, r2.keeps (k2.keeps r1), StepN.trans r3 k2 r3.len⟩

/-! ### small functions -/

theorem len_spec (h : At H p a b D W S) : ASpec Try.prog 49 [.ptr p 0] H (fun r H' => r = .int .i64 W.length ∧ H' = H) := by
  have k : ASpec Try.prog 49 [.ptr 0 0] (HS D W S) (fun r H' => r = .int .i64 W.length ∧ H' = HS D W S) := Sd.s49 _ _ _ _ ⟨rfl, rfl⟩
  exact liftG h k rfl rfl (gSame h)

theorem has_spec (k : Int) (h : At H p a b D W S) : ASpec Try.prog 167 [.ptr p 0, .int .i64 k] H (fun r H' => r = .bool (decide (0 ≤ k ∧ k < (W.length : Int))) ∧ H' = H) := by
  have k0 : ASpec Try.prog 167 [.ptr 0 0, .int .i64 k] (HS D W S) (fun r H' => r = .bool (decide (0 ≤ k ∧ k < (W.length : Int))) ∧ H' = HS D W S) := by
    refine Sd.s167 _ _ _ _ _ (condD (fun h0 => ?_) fun h0 => ?_)
    · refine ASpec.call (len_spec (at0 [])) (Les.refl _) ⟨_, rfl, rfl, ?_, rfl⟩
      congr 1
      rw [decide_eq_decide]; omega
    · refine ⟨?_, rfl⟩
      rw [decide_eq_false (by omega)]
  exact liftG h k0 rfl rfl (gSame h)

theorem clone_spec (l : List T.Item) (h1 : l ≠ []) (hl : l.length ≤ lim) (H : List AObj) :
    ASpec Try.prog 266 [.sl 2 (.map encIt (0, []) l) .none] H (fun r H' => r = .msl 2 H.length 0 l.length ∧ H' = H ++ [.arr 2 (.map encIt (0, []) l)]) := by
  unfold lim at hl
  have hp := List.length_pos_iff.2 h1
  have k : ASpec Try.prog 266 [.sl 2 (.map encIt (0, []) l) .none] [] (fun r H' => r = .msl 2 0 0 l.length ∧ H' = [.arr 2 (.map encIt (0, []) l)]) := by
    refine Sd.s266 _ _ fun c hc => condB (fun h => ?_) fun h => needJ (fun x => rfl) (needJ (by omega) (needJ (by omega) ⟨rfl, rfl⟩))
    have := hc h
    simp only [Ab.Seq.toList, List.map_eq_nil_iff] at this
    exact absurd this h1
  exact ASpec.anyH H k _ _ _ rfl rfl rfl

theorem copied_list (d s : Seq) (off : Nat) : (copied d off s).toList = d.toList.take off ++ (s.toList ++ d.toList.drop (off + s.toList.length)) := rfl

theorem one_slot {x y : AV} (d : Nat) (hd : d ≠ 0) : get [(0, x)] d = get [(0, y)] d ∨ get [(0, x)] d = .bad := by
  left
  have : Nat.beq 0 d = false := by
    cases hx : Nat.beq 0 d with
    | false => rfl
    | true => exact absurd (Nat.eq_of_beq_eq_true hx).symm hd
  simp only [Ab.get, this]; rfl

theorem del7 {l : List T.Item} {i m i0 m0 : Nat} {s z : Seq} (hi : i < l.length) (hs : s.toList = (l.drop (i + 1)).map encIt) (hm : m = i + (l.drop (i + 1)).length) (e1 : i = i0) (e2 : m = m0) :
    AWP Try.prog 33 1 Sd.c265_7 [(0, .msl 2 0 0 m)] [.arr 2 (copied (copied (.map encIt (0, []) l) i0 s) m0 z)] (Sd.q265_0 1 (fun r H' => r = .sl 2 (.map encIt (0, []) (l.eraseIdx i)) (.tok 1) ∧ H' = [.gone, .tok])) := by
  subst e1 e2
  have hcl : (copied (.map encIt (0, []) l) i s).toList.length = l.length := by
    rw [copied_list, hs]; simp [Ab.Seq.toList]; omega
  have hml : m = l.length - 1 := by rw [hm, List.length_drop]; omega
  refine AWP.re (ReSt.tokArr (id := 0) (sz := 2) (k := 0) (len := m) (q' := .map encIt (0, []) (l.eraseIdx i)) (s2 := [(0, .sl 2 (.map encIt (0, []) (l.eraseIdx i)) (.tok 1))]) rfl (by simp) rfl ?_ rfl ?_ (fun d hd => one_slot d hd)) (Sd.v265_7 _ _ _ ⟨rfl, rfl⟩)
  · rw [copied_list]
    simp only [List.length_append, List.length_take, hcl]
    omega
  · rw [copied_list, List.take_append_of_le_length (by rw [List.length_take, hcl]; omega), List.take_take, Nat.min_self, copied_list, hs]
    simp only [Ab.Seq.toList]
    rw [← List.append_assoc, List.take_append_of_le_length (by simp; omega), List.take_of_length_le (by simp; omega), List.eraseIdx_eq_take_drop_succ]
    simp

theorem delete0 (l : List T.Item) (i : Nat) (hi : i < l.length) (hl : l.length ≤ lim) :
    ASpec Try.prog 265 [.msl 2 0 0 l.length, .int .i64 i, .int .i64 (i + 1 : Nat)] [.arr 2 (.map encIt (0, []) l)] (fun r H' => r = .sl 2 (.map encIt (0, []) (l.eraseIdx i)) (.tok 1) ∧ H' = [.gone, .tok]) := by
  unfold lim at hl
  have hcl : ∀ s : Seq, s.toList = (l.drop (i + 1)).map encIt → (copied (.map encIt (0, []) l) i s).toList.length = l.length := by
    intro s hs
    rw [copied_list, hs]; simp [Ab.Seq.toList]; omega
  refine Sd.s265 _ _ _ _ _ (needJ ⟨by omega, by omega, by omega, by omega⟩ (condE (fun h => by omega) fun h => needJ ⟨by omega, by omega⟩ (needJ ⟨by omega, by omega⟩ (condD (fun hlt => ?_) fun hlt => ?_))))
  · have hdl : (List.drop (0 + Int.toNat ((i + 1 : Nat) : Int)) (List.take (0 + Int.toNat ((i + 1 : Nat) : Int) + (l.length - Int.toNat ((i + 1 : Nat) : Int))) l)) = l.drop (i + 1) := by
      rw [Int.toNat_natCast, Nat.zero_add, show i + 1 + (l.length - (i + 1)) = l.length by omega, List.take_length]
    rw [hdl]
    simp only [Int.toNat_natCast, Nat.zero_add]
    have hc := hcl (.map encIt (0, []) (l.drop (i + 1))) rfl
    refine needJ (by omega) (needJ (fun x => rfl) (needJ (by rw [List.length_drop]; omega) (needJ ?_ (needJ ?_ (del7 hi rfl rfl rfl rfl)))))
    · refine ⟨by omega, by rw [List.length_drop]; omega, ?_⟩
      simp only [rowLen, List.getElem?_cons_zero, Seq.len_eq, hc]; omega
    · rw [Seq.len_eq, hc, List.length_drop]; omega
  · have hd0 : l.drop (i + 1) = [] := List.drop_eq_nil_of_le (by omega)
    have hc := hcl (.raw []) (by rw [hd0]; rfl)
    simp only [Int.toNat_natCast, Nat.zero_add, Nat.add_zero]
    refine needJ (by omega) (needJ ?_ (needJ ?_ (del7 hi (by rw [hd0]; rfl) (by rw [hd0]; rfl) rfl rfl)))
    · refine ⟨by omega, by omega, ?_⟩
      simp only [rowLen, List.getElem?_cons_zero, Seq.len_eq, hc]; omega
    · rw [Seq.len_eq, hc]; omega

theorem delete_spec (l : List T.Item) (i : Nat) (hi : i < l.length) (hl : l.length ≤ lim) (H : List AObj) (id : Nat) (ho : H[id]? = some (.arr 2 (.map encIt (0, []) l))) :
    ASpec Try.prog 265 [.msl 2 id 0 l.length, .int .i64 i, .int .i64 (i + 1 : Nat)] H (fun r H' => r = .sl 2 (.map encIt (0, []) (l.eraseIdx i)) (.tok H.length) ∧ H' = H.set id .gone ++ [.tok]) := by
  refine ASpec.subH [id] H _ (delete0 l i hi hl) _ _ (by simp) rfl rfl rfl (fun j hj => ?_) rfl
  match j, hj with
  | 0, _ => exact ho

end
end St
end

section
/- What a stand does. -/

set_option linter.unusedVariables false
set_option linter.unusedSimpArgs false
set_option maxRecDepth 100000
open Go Go.Ab Go.Proofs V S T C
open W (sl1 slS slN slR)
open Dp (slEn okD Sorted bodyM)
namespace St

/-- the end of a call, spelled otherwise -/
theorem ASpec.re {P : Program} {f : FuncId} {args : List AV} {H : List AObj} {Post : AV → List AObj → Prop}
    (h : ASpec P f args H (fun r H' => ∃ r2 H2, ReSt H.length [(0, r)] H' [(0, r2)] H2 ∧ Post r2 H2)) : ASpec P f args H Post := by
  intro M loc w vs ht hr hv
  refine (h M loc w vs ht hr hv).mono fun e w' hh => ?_
  obtain ⟨v, r, H', M', loc', he, ⟨r2, H2, hs, hP⟩, r1, r2', r3⟩ := hh
  obtain ⟨M2, loc2, q1, q2, q3⟩ := hs M' loc' w' #[v] r3.len r1 (fun d => by
    by_cases hd : d = 0
    · subst hd; exact r2'
    · have : Nat.beq 0 d = false := by
        cases hx : Nat.beq 0 d with
        | false => rfl
        | true => exact absurd (Nat.eq_of_beq_eq_true hx).symm hd
      simp only [Ab.get, this]
      exact .bad _)
  exact ⟨v, r2, H2, M2, loc2, he, hP, q1, q2 0, StepN.trans r3 q3 (Nat.le_refl _)⟩

section
variable {H : List AObj} {p a b : Nat} {D : List Ent} {W : List T.Item} {S : List Ev}

theorem atL (D : List Ent) (W : List T.Item) (S : List Ev) (q : List AObj) : At (stO D W S 1 2 :: .tok :: .tok :: q) 0 1 2 D W S := ⟨rfl, rfl, rfl, by decide, by decide, by decide⟩

theorem sel4 {o o' : AObj} {x3 x4 x5 : AObj} (h0 : o = AObj.ren (selR [0, 1, 2, 6] 7) o') : Sel 3 [0, 1, 2, 6] [o, .tok, .tok, x3, x4, x5, .tok] [o', .gone, .tok, .tok] := by
  refine ⟨by decide, rfl, by decide, fun i hi => ?_, fun i hi => ?_⟩
  · match i, hi with
    | 0, _ | 1, _ | 2, _ => rfl
  · match i, hi with
    | 0, _ => exact .inl (congrArg some h0)
    | 1, _ => exact .inr ⟨rfl, by show 1 < 7; omega⟩
    | 2, _ => exact .inl rfl
    | 3, _ => exact .inl rfl

theorem take0 (k : Nat) (hk : k < W.length) (hl : W.length ≤ lim) :
    ASpec Try.prog 174 [.ptr 0 0, .int .i64 k] (HS D W S) (fun r H' => r = .agg (encIt (W.getD k (0, []))) ∧ H' = [stO D (W.eraseIdx k) S 3 2, .gone, .tok, .tok]) := by
  have hne : W ≠ [] := by intro h; rw [h] at hk; simp at hk
  refine ASpec.sel (Sd.s174 _ _ _ _ _ (needJ ⟨by omega, by omega⟩ ?_))
  rw [Int.toNat_natCast]
  refine ASpec.call (clone_spec W hne hl _) ⟨leIt, trivial⟩ ⟨W, rfl, rfl, ?_⟩
  rw [succ64 (by unfold lim at hl; omega)]
  refine ASpec.call (delete_spec W k hk hl _ 5 rfl) (Les.refl _) ⟨W.eraseIdx k, rfl, rfl, ?_⟩
  exact ⟨[0, 1, 2, 6], [stO D (W.eraseIdx k) S 3 2, .gone, .tok, .tok], .agg (encIt (W.getD k (0, []))), sel4 rfl, Le.refl _, rfl, rfl⟩

theorem take_spec (h : At H p a b D W S) (k : Nat) (hk : k < W.length) (hl : W.length ≤ lim) :
    ASpec Try.prog 174 [.ptr p 0, .int .i64 k] H (fun r H' => r = .agg (encIt (W.getD k (0, []))) ∧ H' = hWt H p a b D (W.eraseIdx k) S) :=
  liftG h (take0 k hk hl) rfl rfl (gW h)

theorem copied_spec (e : Ev) (hb : e.2.2.2.2.length ≤ lim) (H : List AObj) : ASpec Try.prog 171 [.agg (encE e)] H (fun r H' => r = .agg (encE e) ∧ H' = H) := by
  have k : ASpec Try.prog 171 [.agg (encE e)] [] (fun r H' => r = .agg (encE e) ∧ H' = []) :=
    ASpec.sel (Sd.s171 _ _ (ASpec.call (Dp.cloneB_spec _ hb _) (Les.refl _) ⟨_, rfl, rfl, Dp.pa (Le.refl _)⟩))
  exact ASpec.pureH H k _ _ rfl rfl

theorem leN0 {ρ : Nat → Nat} : Le (.sl 0 (.raw []) .nil) (AV.ren ρ (.sl 2 (.map encN ([], []) []) .none)) := Le.sl (s' := Seq.ren ρ (.map encN ([], []) [])) rfl (.inr ⟨rfl, fun _ h => by cases h⟩) (.inr rfl)
theorem leB0 {ρ : Nat → Nat} : Le (.sl 0 (.raw []) .nil) (AV.ren ρ (.sl 1 (.map encB 0 []) .none)) := Le.sl (s' := Seq.ren ρ (.map encB 0 [])) rfl (.inr ⟨rfl, fun _ h => by cases h⟩) (.inr rfl)

theorem lesE0 {ρ : Nat → Nat} : Les [.int .i64 0, .sl 0 (.raw []) .nil, .int .i64 0, .int .i64 0, .sl 0 (.raw []) .nil] ((encE noEv).map (AV.ren ρ)) := ⟨Le.refl _, leN0, Le.refl _, Le.refl _, leB0, trivial⟩

/-- the reply to one -/
abbrev rep (W : List T.Item) (k : Nat) (b : List UInt8) : Ev := (3, [], 0, (W.getD k (0, [])).1, b)

theorem sel5 {o o' : AObj} {x3 x5 : AObj} (h0 : o = AObj.ren (selR [0, 1, 2, 4, 6] 7) o') : Sel 3 [0, 1, 2, 4, 6] [o, .gone, .gone, x3, .tok, x5, .tok] [o', .gone, .gone, .tok, .tok] := by
  refine ⟨by decide, rfl, by decide, fun i hi => ?_, fun i hi => ?_⟩
  · match i, hi with
    | 0, _ | 1, _ | 2, _ => rfl
  · match i, hi with
    | 0, _ => exact .inl (congrArg some h0)
    | 1, _ => exact .inl rfl
    | 2, _ => exact .inl rfl
    | 3, _ => exact .inl rfl
    | 4, _ => exact .inl rfl

theorem send0 (k : Nat) (x : List UInt8) (hk : k < W.length) (hl : W.length ≤ lim) (hx : x.length ≤ lim) (hS : S.length ≤ lim) :
    ASpec Try.prog 168 [.ptr 0 0, .int .i64 k, sl1 x] (HS D W S) (fun r H' => r = .tup [.agg (encE (rep W k x)), .bool true] ∧ H' = [stO D (W.eraseIdx k) (S ++ [rep W k x]) 3 4, .gone, .gone, .tok, .tok]) := by
  unfold lim at hS
  refine ASpec.sel (ASpec.cellEnd (Sd.s168 _ _ _ _ _ _ (ASpec.call (take_spec (atL D W S _) k hk hl) (Les.refl _) ⟨(W.getD k (0, []), W.eraseIdx k), rfl, rfl, ?_⟩)))
  refine ASpec.call (copied_spec (rep W k x) hx _) ⟨Le.agg ⟨Le.refl _, leN0 (ρ := id), Le.refl _, Le.refl _, Le.refl _, trivial⟩, trivial⟩ ⟨rep W k x, rfl, rfl, ?_⟩
  refine ⟨⟨rfl, rfl⟩, needJ (by omega) ?_⟩
  refine ⟨0, _, [.sl 2 (.map encEn ([], []) D) .none, .sl 2 (.map encIt (0, []) (W.eraseIdx k)) (.tok 4), .sl 1 (.map encSn noEv (S ++ [rep W k x])) (.tok 6)], rfl, ⟨Le.refl _, Le.refl _, leAppE (Les.refl _), trivial⟩, ?_⟩
  exact ⟨[0, 1, 2, 4, 6], [stO D (W.eraseIdx k) (S ++ [rep W k x]) 3 4, .gone, .gone, .tok, .tok], .tup [.agg (encE (rep W k x)), .bool true], sel5 rfl, Le.tup ⟨Le.agg ⟨Le.refl _, leN0, Le.refl _, Le.refl _, Le.refl _, trivial⟩, Le.refl _, trivial⟩, rfl, rfl⟩

theorem send_spec (h : At H p a b D W S) (k : Nat) (x : List UInt8) (hk : k < W.length) (hl : W.length ≤ lim) (hx : x.length ≤ lim) (hS : S.length ≤ lim) :
    ASpec Try.prog 168 [.ptr p 0, .int .i64 k, sl1 x] H (fun r H' => r = .tup [.agg (encE (rep W k x)), .bool true] ∧ H' = hSt H p a b D (W.eraseIdx k) (S ++ [rep W k x])) :=
  liftG h (send0 k x hk hl hx hS) rfl rfl (gS h)

/-! ### replies -/

/-- a stand that may be -/
def okSt (D : List Ent) (W : List T.Item) (S : List Ev) : Prop :=
  okD D ∧ Sorted D ∧ (∀ x ∈ D, x.2.length ≤ 8192) ∧ W.length ≤ lim ∧ (∀ x ∈ W, fitM x.2 = true) ∧ S.length ≤ lim ∧ ∀ e ∈ S, e.2.2.2.2.length ≤ lim

abbrev rightM (D : List Ent) (n : List UInt8) : List UInt8 := packM n (bodyM D n)

theorem getD_mem {α : Type} {l : List α} {d : α} {i : Nat} (h : i < l.length) : l.getD i d ∈ l := by
  rw [List.getD_eq_getElem?_getD, List.getElem?_eq_getElem h]; exact List.getElem_mem h

theorem body_ok (h : okSt D W S) (n : List UInt8) : (bodyM D n).length ≤ 8192 := by
  unfold bodyM
  split
  · rename_i b hb
    obtain ⟨x, hx, _, rfl⟩ := Dp.getE_mem hb
    exact h.2.2.1 x hx
  · have := Dp.putMan_len (n, []); omega

theorem pack_len (n x : List UInt8) (hn : n.length ≤ 24) (hx : x.length ≤ 8192) : (packM n x).length ≤ lim := by
  have h1 := txt_len n
  have h2 := txt_len x
  unfold packM lim
  split
  · simp only [sealM, List.length_append, be4, List.length_cons, List.length_nil]; omega
  · simp

theorem right_spec (h : At H p a b D W S) (ok : okSt D W S) (k : Nat) (hk : k < W.length) :
    ASpec Try.prog 169 [.ptr p 0, .int .i64 k] H (fun r H' => r = sl1 (rightM D (W.getD k (0, [])).2) ∧ H' = H) := by
  have hf := fitM_short (ok.2.2.2.2.1 _ (getD_mem (d := (0, [])) hk))
  have hb := body_ok ok (W.getD k (0, [])).2
  have k0 : ASpec Try.prog 169 [.ptr 0 0, .int .i64 k] (HS D W S) (fun r H' => r = sl1 (rightM D (W.getD k (0, [])).2) ∧ H' = HS D W S) := by
    refine Sd.s169 _ _ _ _ _ (needJ ⟨by omega, by omega⟩ ?_)
    rw [Int.toNat_natCast]
    refine ASpec.call (Dp.body_spec D (W.getD k (0, [])).2 ok.1 ok.2.1 (by unfold lim; omega) _) (Les.refl _) ⟨_, rfl, rfl, ?_⟩
    exact ASpec.call (pack_spec (W.getD k (0, [])).2 _ (by omega) (by omega) _) (Les.refl _) ⟨_, rfl, rfl, rfl, rfl⟩
  exact liftG h k0 rfl rfl (gSame h)

theorem good_no (h : At H p a b D W S) (k : Int) (hk : ¬ (0 ≤ k ∧ k < (W.length : Int))) :
    ASpec Try.prog 43 [.ptr p 0, .int .i64 k] H (fun r H' => r = .tup [.agg (encE noEv), .bool false] ∧ H' = H) := by
  have k0 : ASpec Try.prog 43 [.ptr 0 0, .int .i64 k] (HS D W S) (fun r H' => r = .tup [.agg (encE noEv), .bool false] ∧ H' = HS D W S) := by
    refine ASpec.sel (Sd.s43 _ _ _ _ _ (ASpec.call (has_spec k (atL D W S _)) (Les.refl _) ⟨_, rfl, rfl, condBn (fun _ => ?_) fun h => ?_⟩))
    · refine ⟨[0, 1, 2], HS D W S, .tup [.agg (encE noEv), .bool false], ⟨by decide, rfl, by show 3 ≤ 3; omega, fun i hi => ?_, fun i hi => ?_⟩, Le.tup ⟨Le.agg lesE0, Le.refl _, trivial⟩, rfl, rfl⟩
      · match i, hi with
        | 0, _ | 1, _ | 2, _ => rfl
      · match i, hi with
        | 0, _ | 1, _ | 2, _ => exact .inl rfl
    · exact absurd (of_decide_eq_true h) hk
  exact liftG h k0 rfl rfl (gSame h)

theorem good_spec (h : At H p a b D W S) (ok : okSt D W S) (k : Nat) (hk : k < W.length) :
    ASpec Try.prog 43 [.ptr p 0, .int .i64 k] H (fun r H' => r = .tup [.agg (encE (rep W k (rightM D (W.getD k (0, [])).2))), .bool true] ∧ H' = hSt H p a b D (W.eraseIdx k) (S ++ [rep W k (rightM D (W.getD k (0, [])).2)])) := by
  have hf := fitM_short (ok.2.2.2.2.1 _ (getD_mem (d := (0, [])) hk))
  have hb := body_ok ok (W.getD k (0, [])).2
  have k0 : ASpec Try.prog 43 [.ptr 0 0, .int .i64 k] (HS D W S) (fun r H' => r = .tup [.agg (encE (rep W k (rightM D (W.getD k (0, [])).2))), .bool true] ∧ H' = [stO D (W.eraseIdx k) (S ++ [rep W k (rightM D (W.getD k (0, [])).2)]) 3 4, .gone, .gone, .tok, .tok]) := by
    refine ASpec.sel (Sd.s43 _ _ _ _ _ (ASpec.call (has_spec k (atL D W S _)) (Les.refl _) ⟨_, rfl, rfl, condBn (fun h => ?_) fun _ => ?_⟩))
    · exact absurd ⟨by omega, by omega⟩ (of_decide_eq_false h)
    · refine ASpec.call (right_spec (atL D W S _) ok k hk) (Les.refl _) ⟨_, rfl, rfl, ?_⟩
      refine ASpec.call (send_spec (atL D W S _) k _ hk ok.2.2.2.1 (pack_len _ _ hf hb) ok.2.2.2.2.2.1) (Les.refl _) ⟨(rep W k (rightM D (W.getD k (0, [])).2), true, W.eraseIdx k, S ++ [rep W k (rightM D (W.getD k (0, [])).2)]), rfl, rfl, ?_⟩
      refine ⟨[0, 1, 2, 4, 5], [stO D (W.eraseIdx k) (S ++ [rep W k (rightM D (W.getD k (0, [])).2)]) 3 4, .gone, .gone, .tok, .tok], _, ⟨by decide, rfl, by show 3 ≤ 5; omega, fun i hi => ?_, fun i hi => ?_⟩, Le.refl _, rfl, rfl⟩
      · match i, hi with
        | 0, _ | 1, _ | 2, _ => rfl
      · match i, hi with
        | 0, _ | 1, _ | 2, _ | 3, _ | 4, _ => exact .inl rfl
  exact liftG h k0 rfl rfl (gS h)

end
end St
end

section
/- What a stand does: replies once more, a new one, fetches that are taken. -/

set_option linter.unusedVariables false
set_option linter.unusedSimpArgs false
set_option maxRecDepth 100000
open Go Go.Ab Go.Proofs V S T C
open W (sl1 slS slN slR)
open Dp (slEn okD Sorted bodyM)
namespace St
section
variable {H : List AObj} {p a b : Nat} {D : List Ent} {W : List T.Item} {S : List Ev}

theorem again_no (h : At H p a b D W S) (k : Int) (hk : ¬ (0 ≤ k ∧ k < (S.length : Int))) :
    ASpec Try.prog 46 [.ptr p 0, .int .i64 k] H (fun r H' => r = .tup [.agg (encE noEv), .bool false] ∧ H' = H) := by
  have hz : ∀ q, ∃ l H2 r2, Sel 3 l (stO D W S 1 2 :: .tok :: .tok :: q) H2 ∧ Le (.tup [.agg [.int .i64 0, .sl 0 (.raw []) .nil, .int .i64 0, .int .i64 0, .sl 0 (.raw []) .nil], .bool false]) (AV.ren (selR l (stO D W S 1 2 :: .tok :: .tok :: q).length) r2) ∧ r2 = .tup [.agg (encE noEv), .bool false] ∧ H2 = HS D W S := by
    intro q
    refine ⟨[0, 1, 2], HS D W S, .tup [.agg (encE noEv), .bool false], ⟨by decide, rfl, by decide, fun i hi => ?_, fun i hi => ?_⟩, Le.tup ⟨Le.agg lesE0, Le.refl _, trivial⟩, rfl, rfl⟩
    · match i, hi with
      | 0, _ | 1, _ | 2, _ => rfl
    · match i, hi with
      | 0, _ | 1, _ | 2, _ => exact .inl rfl
  have k0 : ASpec Try.prog 46 [.ptr 0 0, .int .i64 k] (HS D W S) (fun r H' => r = .tup [.agg (encE noEv), .bool false] ∧ H' = HS D W S) :=
    ASpec.sel (Sd.s46 _ _ _ _ _ (condD (fun _ => hz _) fun h1 => condD (fun _ => hz _) fun h2 => absurd ⟨by omega, by omega⟩ hk))
  exact liftG h k0 rfl rfl (gSame h)

theorem again_spec (h : At H p a b D W S) (k : Nat) (hk : k < S.length) (hb : (S.getD k noEv).2.2.2.2.length ≤ lim) :
    ASpec Try.prog 46 [.ptr p 0, .int .i64 k] H (fun r H' => r = .tup [.agg (encE (S.getD k noEv)), .bool true] ∧ H' = H) := by
  have k0 : ASpec Try.prog 46 [.ptr 0 0, .int .i64 k] (HS D W S) (fun r H' => r = .tup [.agg (encE (S.getD k noEv)), .bool true] ∧ H' = HS D W S) := by
    refine ASpec.sel (Sd.s46 _ _ _ _ _ (condD (fun _ => by omega) fun h1 => condD (fun _ => by omega) fun h2 => needJ ⟨by omega, by omega⟩ ?_))
    rw [Int.toNat_natCast]
    refine ASpec.call (copied_spec (S.getD k noEv) hb _) (Les.refl _) ⟨_, rfl, rfl, ?_⟩
    refine ⟨[0, 1, 2], HS D W S, _, ⟨by decide, rfl, by show 3 ≤ 3; omega, fun i hi => ?_, fun i hi => ?_⟩, Le.refl _, rfl, rfl⟩
    · match i, hi with
      | 0, _ | 1, _ | 2, _ => rfl
    · match i, hi with
      | 0, _ | 1, _ | 2, _ => exact .inl rfl
  exact liftG h k0 rfl rfl (gSame h)

/-! ### a new one -/

abbrev PN (r0 : AV) (H0 : List AObj) : AV → List AObj → Prop := fun r H' => ∃ r2 H2, ReSt 0 [(0, r)] H' [(0, r2)] H2 ∧ ∃ q H3 r3, Sel 0 q H2 H3 ∧ Le r2 (AV.ren (selR q H2.length) r3) ∧ (r3 = r0 ∧ H3 = H0)

theorem pnNil : PN .nilp [] .nilp [] := ⟨.nilp, [], ReSt.le (fun d => Le.refl _) (by simp), [], [], .nilp, Sel.none, Le.refl _, rfl, rfl⟩

theorem pnNew (l : List Ent) : PN (.ptr 0 0) (HS l [] []) (.ptr 0 0) [.cells [.sl 2 (.map encEn ([], []) l) (.tok 1), .sl 0 (.raw []) .nil, .sl 0 (.raw []) .nil], .tok] := by
  refine ⟨.ptr 0 0, [.cells [.sl 2 (.map encEn ([], []) l) .none, .sl 2 (.map encIt (0, []) []) (.tok 2), .sl 1 (.map encSn noEv []) (.tok 3)], .tok, .tok, .tok], ?_, [0, 2, 3], HS l [] [], .ptr 0 0, ⟨by decide, rfl, by omega, fun i hi => by omega, fun i hi => ?_⟩, Le.refl _, rfl, rfl⟩
  · refine ReSt.trans (ReSt.leCell (id := 0) (cs' := [.sl 2 (.map encEn ([], []) l) .none, .sl 0 (.raw []) .nil, .sl 0 (.raw []) .nil]) rfl ⟨Le.sl rfl (.inl rfl) (.inr rfl), Le.refl _, Le.refl _, trivial⟩) ?_
    refine ReSt.trans (ReSt.tokCell (id := 0) (j := 1) (sz := 0) (q := .raw []) (tip := .nil) (cs := [.sl 2 (.map encEn ([], []) l) .none, .sl 0 (.raw []) .nil, .sl 0 (.raw []) .nil]) (q' := .map encIt (0, []) []) (sz' := 2) rfl rfl (.inl rfl) rfl (.inr rfl)) ?_
    exact ReSt.tokCell (id := 0) (j := 2) (sz := 0) (q := .raw []) (tip := .nil) (cs := [.sl 2 (.map encEn ([], []) l) .none, .sl 2 (.map encIt (0, []) []) (.tok 2), .sl 0 (.raw []) .nil]) (q' := .map encSn noEv []) (sz' := 1) rfl rfl (.inl rfl) rfl (.inr rfl)
  · match i, hi with
    | 0, _ | 1, _ | 2, _ => exact .inl rfl

theorem new5 {l : List Ent} (hl : okD l) : ∀ (m i : Nat) (acc : List Ent), m + i = l.length → acc.length = i → acc ++ l.drop i = l →
    AWP Try.prog 34 0 Sd.c41_5 [(3, .ptr 0 0), (11, slEn l), (12, .int .i64 l.length), (13, .int .i64 i)] [.cells [.sl 2 (.map encEn ([], []) acc) (.tok 1), .sl 0 (.raw []) .nil, .sl 0 (.raw []) .nil], .tok] (Sd.q41_2 0 (PN (.ptr 0 0) (HS l [] []))) := by
  have hl1 := hl.1
  unfold lim at hl1
  intro m
  induction m with
  | zero =>
    intro i acc hm ha h
    refine Sd.v41_5 _ _ _ _ _ _ (condD (fun hc => by omega) fun _ => ?_)
    rw [List.drop_eq_nil_of_le (by omega), List.append_nil] at h
    subst h
    exact pnNew acc
  | succ m ih =>
    intro i acc hm ha h
    have hin : (0 : Int) ≤ (i : Int) ∧ (i : Int) < (l.length : Int) := ⟨by omega, by omega⟩
    refine Sd.v41_5 _ _ _ _ _ _ (condD (fun hc => needJ hin ?_) fun hc => by omega)
    rw [Int.toNat_natCast]
    have hx := hl.2 _ (getD_mem (d := ([], [])) (show i < l.length by omega))
    rw [dropD l ([], []) i (by omega)] at h
    generalize l.getD i ([], []) = x at h hx ⊢
    refine ASpec.call (Dp.cloneB_spec x.2 hx.2 _) (Les.refl _) ⟨x.2, rfl, rfl, ⟨rfl, rfl⟩, ⟨rfl, rfl⟩, needJ (by omega) ?_⟩
    rw [succ64 (by omega)]
    refine AWP.re (ReSt.leCell (id := 0) (cs' := [.sl 2 (.map encEn ([], []) (acc ++ [x])) (.tok 3), .sl 0 (.raw []) .nil, .sl 0 (.raw []) .nil]) rfl ⟨leAppE (Les.refl _), Le.refl _, Le.refl _, trivial⟩) ?_
    refine AWP.shape [0, 3] [(3, .ptr 0 0), (11, slEn l), (12, .int .i64 l.length), (13, .int .i64 (i + 1 : Nat))] [.cells [.sl 2 (.map encEn ([], []) (acc ++ [x])) (.tok 1), .sl 0 (.raw []) .nil, .sl 0 (.raw []) .nil], .tok]
      ⟨by decide, rfl, by omega, fun j hj => by omega, fun j hj => ?_⟩ ⟨rfl, Le.refl _, rfl, Le.refl _, rfl, Le.refl _, rfl, Le.refl _, trivial⟩ (ih (i + 1) _ (by omega) (by simp; omega) (by simpa using h))
    match j, hj with
    | 0, _ | 1, _ => exact .inl rfl

theorem new_spec (l : List Ent) (hl : okD l) (hd : Dp.depOk l = true) (H : List AObj) :
    ASpec Try.prog 41 [slEn l] H (fun r H' => r = .ptr H.length 0 ∧ H' = H ++ [stO l [] [] (H.length + 1) (H.length + 2), .tok, .tok]) := by
  have k0 : ASpec Try.prog 41 [slEn l] [] (fun r H' => r = .ptr 0 0 ∧ H' = HS l [] []) := by
    refine ASpec.sel (ASpec.re (Sd.s41 _ _ (ASpec.call (Dp.check_spec l hl _) (Les.refl _) ⟨_, rfl, rfl, condBn (fun h => by rw [hd] at h; cases h) fun _ => ?_⟩)))
    refine AWP.re (ReSt.tokCell (id := 0) (j := 0) (q' := .map encEn ([], []) []) (sz' := 2) rfl rfl (.inl rfl) rfl (.inr rfl)) ?_
    exact new5 hl l.length 0 [] (by omega) rfl rfl
  exact ASpec.anyH H k0 _ _ _ rfl rfl rfl

theorem new_no (l : List Ent) (hl : okD l) (hd : Dp.depOk l = false) (H : List AObj) : ASpec Try.prog 41 [slEn l] H (fun r H' => r = .nilp ∧ H' = H) := by
  have k0 : ASpec Try.prog 41 [slEn l] [] (fun r H' => r = .nilp ∧ H' = []) :=
    ASpec.sel (ASpec.re (Sd.s41 _ _ (ASpec.call (Dp.check_spec l hl _) (Les.refl _) ⟨_, rfl, rfl, condBn (fun _ => pnNil) fun h => by rw [hd] at h; cases h⟩)))
  exact ASpec.pureH H k0 _ _ rfl rfl

/-! ### fetches that are taken -/

noncomputable abbrev slA (l : List Ac) : AV := .sl 7 (.map encA (0, 0, []) l) .none

def items : List Ac → List T.Item
  | [] => []
  | x :: r => if x.1 = 1 then (x.2.1, x.2.2) :: items r else items r

theorem takeB {l : List Ac} (hl : l.length ≤ 1000) {Post : AV → List AObj → Prop} : ∀ (m i : Nat) (W : List T.Item) (c : Nat), m + i = l.length → W.length + m ≤ lim → c ≤ i →
    Post (.int .i64 (c + (items (l.drop i)).length : Nat)) (HS2 D (W ++ items (l.drop i)) S) →
    AWP Try.prog 39 3 Sb.c42_3 [(0, .ptr 0 0), (5, .int .i64 c), (8, slA l), (9, .int .i64 l.length), (10, .int .i64 i)] (HS2 D W S) (Sb.q42_2 3 Post) := by
  intro m
  induction m with
  | zero =>
    intro i W c hm hW hc h
    refine Sb.v42_3 _ _ _ _ _ _ _ _ _ (condD (fun hc => by omega) fun _ => ?_)
    rw [List.drop_eq_nil_of_le (by omega)] at h
    simp only [items, List.length_nil, Nat.add_zero, List.append_nil] at h
    exact h
  | succ m ih =>
    intro i W c hm hW hc h
    have hin : (0 : Int) ≤ (i : Int) ∧ (i : Int) < (l.length : Int) := ⟨by omega, by omega⟩
    refine Sb.v42_3 _ _ _ _ _ _ _ _ _ (condD (fun hc => needJ hin ?_) fun hc => by omega)
    rw [Int.toNat_natCast]
    rw [dropD l (0, 0, []) i (by omega)] at h
    generalize l.getD i (0, 0, []) = x at h ⊢
    simp only [items] at h
    rw [succ64 (by omega), succ64 (by omega)]
    refine condE (fun h1 => needJ (by unfold lim at hW; omega) ?_) fun h1 => ?_
    · rw [if_pos h1] at h
      refine AWP.re (ReSt.leCell (id := 0) (cs' := [.sl 2 (.map encEn ([], []) D) .none, .sl 2 (.map encIt (0, []) (W ++ [(x.2.1, x.2.2)])) (.tok 5), .sl 1 (.map encSn noEv S) (.tok 2)]) rfl ⟨Le.refl _, leAppE (Les.refl _), Le.refl _, trivial⟩) ?_
      refine AWP.shape [0, 1, 2, 5] [(0, .ptr 0 0), (5, .int .i64 (c + 1 : Nat)), (8, slA l), (9, .int .i64 l.length), (10, .int .i64 (i + 1 : Nat))] (HS2 D (W ++ [(x.2.1, x.2.2)]) S)
        ⟨by decide, rfl, by decide, fun j hj => ?_, fun j hj => ?_⟩ ⟨rfl, Le.refl _, rfl, Le.refl _, rfl, Le.refl _, rfl, Le.refl _, rfl, Le.refl _, trivial⟩ (ih (i + 1) _ _ (by omega) (by simp; omega) (by omega) ?_)
      · match j, hj with
        | 0, _ | 1, _ | 2, _ => rfl
      · match j, hj with
        | 0, _ | 1, _ | 2, _ | 3, _ => exact .inl rfl
      · simpa [Nat.add_assoc, Nat.add_comm, Nat.add_left_comm] using h
    · rw [if_neg h1] at h
      refine AWP.shape [0, 1, 2, 3] [(0, .ptr 0 0), (5, .int .i64 c), (8, slA l), (9, .int .i64 l.length), (10, .int .i64 (i + 1 : Nat))] (HS2 D W S)
        ⟨by decide, rfl, by decide, fun j hj => ?_, fun j hj => ?_⟩ ⟨rfl, Le.refl _, rfl, Le.refl _, rfl, Le.refl _, rfl, Le.refl _, rfl, Le.refl _, trivial⟩ (ih (i + 1) _ _ (by omega) (by omega) (by omega) h)
      · match j, hj with
        | 0, _ | 1, _ | 2, _ => rfl
      · match j, hj with
        | 0, _ | 1, _ | 2, _ | 3, _ => exact .inl rfl

theorem takeL_spec (h : At H p a b D W S) (t : Int) (n : List UInt8) (r : List Ac) (hr : r.length ≤ 100) (hW : W.length ≤ 100000) :
    ASpec Try.prog 42 [.ptr p 0, slA ((1, t, n) :: r)] H (fun v H' => v = .int .i64 ((1 + (items r).length : Nat)) ∧ H' = hWt H p a b D (W ++ (t, n) :: items r) S) := by
  have k0 : ASpec Try.prog 42 [.ptr 0 0, slA ((1, t, n) :: r)] (HS D W S) (fun v H' => v = .int .i64 ((1 + (items r).length : Nat)) ∧ H' = HS2 D (W ++ (t, n) :: items r) S) := by
    refine Sd.s42 _ _ _ _ _ (Sd.v42_3 _ _ _ _ _ _ _ _ _ (condD (fun _ => needJ ⟨by omega, by simp⟩ (condE (fun _ => needJ (by omega) ?_) fun h => absurd rfl h)) fun h => by simp at h))
    refine AWP.re (ReSt.leCell (id := 0) (cs' := [.sl 2 (.map encEn ([], []) D) .none, .sl 2 (.map encIt (0, []) (W ++ [(t, n)])) (.tok 4), .sl 1 (.map encSn noEv S) (.tok 2)]) rfl ⟨Le.refl _, leAppE (Les.refl _), Le.refl _, trivial⟩) ?_
    refine AWP.shape [0, 1, 2, 4] [(0, .ptr 0 0), (5, .int .i64 (1 : Nat)), (8, slA ((1, t, n) :: r)), (9, .int .i64 ((1, t, n) :: r).length), (10, .int .i64 (1 : Nat))] (HS2 D (W ++ [(t, n)]) S)
      ⟨by decide, rfl, by decide, fun j hj => ?_, fun j hj => ?_⟩ ⟨rfl, Le.refl _, rfl, Le.refl _, rfl, Le.refl _, rfl, Le.refl _, rfl, Le.refl _, trivial⟩ (takeB (by simp; omega) r.length 1 _ 1 (by simp) (by unfold lim; simp; omega) (by omega) ?_)
    · match j, hj with
      | 0, _ | 1, _ | 2, _ => rfl
    · match j, hj with
      | 0, _ | 1, _ | 2, _ | 3, _ => exact .inl rfl
    · refine ⟨rfl, ?_⟩
      simp
  exact liftG h k0 rfl rfl (gW h)

end
end St
end

section
/- Printed: what the code of functions 393, 372 asks for, by the framework's own reading of it; each line is checked against the code. -/

set_option linter.unusedVariables false
set_option maxRecDepth 100000
set_option maxHeartbeats 4000000
open Go Go.Ab Go.Proofs
namespace SM
noncomputable section

end
end SM
end

section
/- SealBack: what was packed is opened; with one byte that is another one it is ErrSum: the law's function returns true. -/

set_option linter.unusedVariables false
set_option linter.unusedSimpArgs false
set_option maxRecDepth 100000
open Go Go.Ab Go.Proofs V S
namespace SM

/-! ### the plain law -/

theorem be4_len (n : Nat) : (be4 n).length = 4 := rfl
theorem seal_len (x : List UInt8) : (sealM x).length = x.length + 4 := by simp [sealM, be4_len]

theorem open_seal (x : List UInt8) : openM (sealM x) = (x, true) := by
  unfold openM
  rw [if_neg (by rw [seal_len]; omega)]
  have e : (sealM x).take ((sealM x).length - 4) = x := by
    rw [seal_len, Nat.add_sub_cancel]
    unfold sealM
    rw [List.take_left]
  rw [e, if_pos rfl]

theorem str_back (pre s rest : List UInt8) (most : Int) (hs : (s.length : Int) ≤ most) (hl : s.length ≤ 1000000) :
    strM (pre ++ txt s ++ rest) pre.length 0 most = (s, pre.length + (txt s).length, 0) := by
  have hh := held_of (x := (s.length : Int)) (by omega) (by omega)
  have hh : held s.length = s.length := by omega
  have hd : (pre ++ txt s ++ rest).drop pre.length = enc s.length ++ (s ++ rest) := by
    rw [List.append_assoc, List.drop_left, txt, hh, List.append_assoc]
  have hd2 : (pre ++ txt s ++ rest).drop (pre.length + (enc s.length).length) = s ++ rest := by
    rw [← List.drop_drop, hd, List.drop_left]
  have hk := look_enc (s ++ rest) (v := s.length) (most := most) (by omega) hs
  have hlen : (txt s).length = (enc s.length).length + s.length := by rw [txt, hh, List.length_append]
  simp only [strM, if_neg (show ¬ ((0 : Int) ≠ 0) by simp), hd, hk]
  rw [if_neg (by simp only [List.length_append, hlen]; omega), hd2, hlen]
  simp [Nat.add_assoc]

theorem take_back (s body : List UInt8) (hf : fitM s = true) (hb : body.length ≤ 8192) : takeM (txt s ++ txt body) = (s, body, 0) := by
  have hs := fitM_short hf
  have e1 := str_back [] s (txt body) 24 (by omega) (by omega)
  have e2 := str_back (txt s) body [] 8192 (by omega) (by omega)
  simp only [List.nil_append, List.length_nil, Nat.zero_add, List.append_nil] at e1 e2
  unfold takeM
  rw [e1]
  simp only [e2]
  have hc : closeM 0 ((txt s ++ txt body).length - ((txt s).length + (txt body).length)) = 0 := by
    rw [List.length_append, Nat.sub_self]; rfl
  rw [if_neg (by rw [hc]; simp), if_pos hf]

theorem sopen_back (s body : List UInt8) (hf : fitM s = true) (hb : body.length ≤ 8192) : sOpenM (packM s body) = (s, body, 0) := by
  rw [packM, if_pos ⟨hf, hb⟩, sOpenM, open_seal, if_pos rfl, take_back s body hf hb]

/-! ### the walk over a row that may be written -/

section
variable {l : List UInt8} {Post : AV → List AObj → Prop}

end

/-! ### the law -/

end SM
end

section
/- What a stand does: a bad reply; the law's own functions. -/

set_option linter.unusedVariables false
set_option linter.unusedSimpArgs false
set_option maxRecDepth 100000
open Go Go.Ab Go.Proofs V S T C
open W (sl1 slS slN slR)
open Dp (slEn okD Sorted bodyM)
namespace St
section
variable {H : List AObj} {p a b : Nat} {D : List Ent} {W : List T.Item} {S : List Ev}

/-! ### a row of bytes that may be written -/

theorem seal_len4 (l : List UInt8) : (sealM l).length = 0 + l.length + 4 := by simp [sealM, be4]

theorem sealMu_spec (l : List UInt8) (hl : l.length + 100 ≤ big) (H : List AObj) :
    ASpec Try.prog 323 [.sl 1 (.map encB 0 l) .none] H (fun r H' => r = .msl 1 H.length 0 (sealM l).length ∧ H' = H ++ [.arr 1 (.map encB 0 (sealM l))]) := by
  have k : ASpec Try.prog 323 [.sl 1 (.map encB 0 l) .none] [] (fun r H' => r = .msl 1 0 0 (sealM l).length ∧ H' = [.arr 1 (.map encB 0 (sealM l))]) := by
    unfold big at hl
    have hs := sum_lt l
    refine ASpec.sel (ASpec.arrEnd (Sb.s323 _ _ (ASpec.call (S.of_spec l (by unfold big; omega) []) (Les.refl _) ⟨_, rfl, rfl, ?_⟩)))
    rw [show IntKind.wrap .i64 ((l.length : Int) + 4) = ((l.length + 4 : Nat) : Int) by rw [wrap64 (by omega) (by omega)]; simp]
    refine needJ (by omega) (needJ oneB (needJ (by omega) (needJ (by decide) (needJ (by decide) (needJ (by decide) (needJ (by omega) ?_))))))
    refine ⟨2, 1, _, .map encB 0 (sealM l), rfl, ?_, [2], [.arr 1 (.map encB 0 (sealM l))], .msl 1 0 0 (0 + l.length + 4), Sel.one 2 rfl rfl, Le.refl _, by rw [seal_len4], rfl⟩
    unfold sealM
    generalize sum l = v at hs
    rw [show (16777216 : Int) = ((16777216 : Nat) : Int) from rfl, show (65536 : Int) = ((65536 : Nat) : Int) from rfl, show (256 : Int) = ((256 : Nat) : Int) from rfl,
      fdivN, fdivN, fdivN, wrapU8N, wrapU8N, wrapU8N, wrapU8N, encB_mod, encB_mod, encB_mod, encB_mod]
    simp [Ab.Seq.toList, be4]
  exact ASpec.anyH H k _ _ _ rfl rfl rfl

theorem packMu_spec (s body : List UInt8) (hf : fitM s = true) (hb : body.length ≤ 8192) (H : List AObj) :
    ASpec Try.prog 262 [.str (B s), .sl 1 (.map encB 0 body) .none] H (fun r H' => r = .msl 1 H.length 0 (packM s body).length ∧ H' = H ++ [.arr 1 (.map encB 0 (packM s body))]) := by
  have hs := fitM_short hf
  have k : ASpec Try.prog 262 [.str (B s), .sl 1 (.map encB 0 body) .none] [] (fun r H' => r = .msl 1 0 0 (packM s body).length ∧ H' = [.arr 1 (.map encB 0 (packM s body))]) := by
    have ht := txt_len s
    refine ASpec.sel (Sb.s262 _ _ _ (ASpec.call (fit_spec (by unfold big; omega) []) (Les.refl _) ⟨_, rfl, rfl, condBn (fun h => by rw [hf] at h; cases h) fun _ => condD (fun hg => by omega) fun hg => needJ (allBytes_map _) ?_⟩))
    rw [bytesOf_map]
    refine ASpec.call (text_spec [] s (by unfold big; simp; omega) []) ⟨leNil, Le.refl _, trivial⟩ ⟨_, rfl, rfl, ?_⟩
    have e : ([] : List UInt8) ++ enc (held s.length) ++ s = txt s := by simp [txt]
    rw [e]
    refine ASpec.call (text_spec (txt s) body (by unfold big; omega) [.tok]) ⟨Le.sl rfl (.inl rfl) (.inr rfl), Le.refl _, trivial⟩ ⟨_, rfl, rfl, ?_⟩
    have e2 : txt s ++ enc (held body.length) ++ body = txt s ++ txt body := by simp [txt]
    rw [e2]
    have ht2 := txt_len body
    have e3 : packM s body = sealM (txt s ++ txt body) := by rw [packM, if_pos ⟨hf, hb⟩]
    rw [e3]
    exact ASpec.call (sealMu_spec (txt s ++ txt body) (by unfold big; simp; omega) [.tok, .tok]) ⟨Le.sl rfl (.inl rfl) (.inr rfl), trivial⟩
      ⟨_, rfl, rfl, [2], [.arr 1 (.map encB 0 (sealM (txt s ++ txt body)))], .msl 1 0 0 (sealM (txt s ++ txt body)).length, Sel.one 2 rfl rfl, Le.refl _, rfl, rfl⟩
  exact ASpec.anyH H k _ _ _ rfl rfl rfl

theorem rightMu_spec (h : At H p a b D W S) (ok : okSt D W S) (k : Nat) (hk : k < W.length) :
    ASpec Try.prog 169 [.ptr p 0, .int .i64 k] H (fun r H' => r = .msl 1 H.length 0 (rightM D (W.getD k (0, [])).2).length ∧ H' = H ++ [.arr 1 (.map encB 0 (rightM D (W.getD k (0, [])).2))]) := by
  have hf := ok.2.2.2.2.1 _ (getD_mem (d := (0, [])) hk)
  have hf' := fitM_short hf
  have hb := body_ok ok (W.getD k (0, [])).2
  have k0 : ASpec Try.prog 169 [.ptr 0 0, .int .i64 k] (HS D W S) (fun r H' => r = .msl 1 3 0 (rightM D (W.getD k (0, [])).2).length ∧ H' = HS D W S ++ [.arr 1 (.map encB 0 (rightM D (W.getD k (0, [])).2))]) := by
    refine Sb.s169 _ _ _ _ _ (needJ ⟨by omega, by omega⟩ ?_)
    rw [Int.toNat_natCast]
    refine ASpec.call (Dp.body_spec D (W.getD k (0, [])).2 ok.1 ok.2.1 (by unfold lim; omega) _) (Les.refl _) ⟨_, rfl, rfl, ?_⟩
    exact ASpec.call (packMu_spec (W.getD k (0, [])).2 _ hf hb _) (Les.refl _) ⟨_, rfl, rfl, rfl, rfl⟩
  exact liftG h k0 rfl rfl (gM h _)

/-! ### a bad reply -/

def idxM (x : List UInt8) (t : Int) : Nat := t.toNat % x.length
def badM (x : List UInt8) (t : Int) (y : UInt8) : List UInt8 := x.set (idxM x t) (UInt8.ofNat ((x.getD (idxM x t) 0).toNat + max y.toNat 1))

theorem badM_len (x : List UInt8) (t : Int) (y : UInt8) : (badM x t y).length = x.length := by simp [badM]

theorem pack_pos (n x : List UInt8) (hf : fitM n = true) (hb : x.length ≤ 8192) : 0 < (packM n x).length := by
  rw [packM, if_pos ⟨hf, hb⟩, seal_len4]; omega

theorem bad_no (h : At H p a b D W S) (k t : Int) (y : UInt8) (hk : ¬ (0 ≤ k ∧ k < (W.length : Int))) :
    ASpec Try.prog 44 [.ptr p 0, .int .i64 k, .int .i64 t, .int .u8 (y.toNat : Int)] H (fun r H' => r = .tup [.agg (encE noEv), .bool false] ∧ H' = H) := by
  have k0 : ASpec Try.prog 44 [.ptr 0 0, .int .i64 k, .int .i64 t, .int .u8 (y.toNat : Int)] (HS D W S) (fun r H' => r = .tup [.agg (encE noEv), .bool false] ∧ H' = HS D W S) := by
    refine ASpec.sel (Sb.s44 _ _ _ _ _ _ _ (ASpec.call (has_spec k (atL D W S _)) (Les.refl _) ⟨_, rfl, rfl, condBn (fun _ => ?_) fun h => ?_⟩))
    · refine ⟨[0, 1, 2], HS D W S, .tup [.agg (encE noEv), .bool false], ⟨by decide, rfl, by show 3 ≤ 3; omega, fun i hi => ?_, fun i hi => ?_⟩, Le.tup ⟨Le.agg lesE0, Le.refl _, trivial⟩, rfl, rfl⟩
      · match i, hi with
        | 0, _ | 1, _ | 2, _ => rfl
      · match i, hi with
        | 0, _ | 1, _ | 2, _ => exact .inl rfl
    · exact absurd (of_decide_eq_true h) hk
  exact liftG h k0 rfl rfl (gSame h)

theorem bad6 {x : List UInt8} (ok : okSt D W S) (k : Nat) (hk : k < W.length) (hx : x.length ≤ lim) :
    AWP Try.prog 40 3 Sb.c44_6 [(0, .ptr 0 0), (1, .int .i64 k), (8, .ptr 3 0), (10, .sl 1 (.map encB 0 x) .none)] (HS D W S ++ [.cells [.int .i64 0, .sl 0 (.raw []) .nil, .int .i64 0, .int .i64 0, .sl 0 (.raw []) .nil]])
      (Sb.q44_0 3 (fun r H' => ∃ l H2 r2, Sel (HS D W S).length l H' H2 ∧ Le r (AV.ren (selR l H'.length) r2) ∧ (r2 = .tup [.agg (encE (rep W k x)), .bool true] ∧ H2 = [stO D (W.eraseIdx k) (S ++ [rep W k x]) 3 4, .gone, .gone, .tok, .tok]))) := by
  refine Sb.v44_6 _ _ _ _ _ _ _ (ASpec.call (send_spec (atL D W S _) k _ hk ok.2.2.2.1 hx ok.2.2.2.2.2.1) (Les.refl _) ⟨(rep W k x, true, W.eraseIdx k, S ++ [rep W k x]), rfl, rfl, ?_⟩)
  refine ⟨[0, 1, 2, 4, 5], [stO D (W.eraseIdx k) (S ++ [rep W k x]) 3 4, .gone, .gone, .tok, .tok], _, ⟨by decide, rfl, by show 3 ≤ 5; omega, fun i hi => ?_, fun i hi => ?_⟩, Le.refl _, rfl, rfl⟩
  · match i, hi with
    | 0, _ | 1, _ | 2, _ => rfl
  · match i, hi with
    | 0, _ | 1, _ | 2, _ | 3, _ | 4, _ => exact .inl rfl

theorem bad_spec (h : At H p a b D W S) (ok : okSt D W S) (k : Nat) (t : Int) (y : UInt8) (hk : k < W.length) :
    ASpec Try.prog 44 [.ptr p 0, .int .i64 k, .int .i64 t, .int .u8 (y.toNat : Int)] H (fun r H' => r = .tup [.agg (encE (rep W k (badM (rightM D (W.getD k (0, [])).2) t y))), .bool true] ∧ H' = hSt H p a b D (W.eraseIdx k) (S ++ [rep W k (badM (rightM D (W.getD k (0, [])).2) t y)])) := by
  have hf := ok.2.2.2.2.1 _ (getD_mem (d := (0, [])) hk)
  have hf' := fitM_short hf
  have hb := body_ok ok (W.getD k (0, [])).2
  have hp := pack_pos _ _ hf hb
  have hl := pack_len _ _ hf' hb
  have hr := rightMu_spec (atL D W S [.cells [.int .i64 0, .sl 0 (.raw []) .nil, .int .i64 0, .int .i64 0, .sl 0 (.raw []) .nil]]) ok k hk
  have k0 : ASpec Try.prog 44 [.ptr 0 0, .int .i64 k, .int .i64 t, .int .u8 (y.toNat : Int)] (HS D W S) (fun r H' => r = .tup [.agg (encE (rep W k (badM (rightM D (W.getD k (0, [])).2) t y))), .bool true] ∧ H' = [stO D (W.eraseIdx k) (S ++ [rep W k (badM (rightM D (W.getD k (0, [])).2) t y)]) 3 4, .gone, .gone, .tok, .tok]) := by
    refine ASpec.sel (Sb.s44 _ _ _ _ _ _ _ (ASpec.call (has_spec k (atL D W S _)) (Les.refl _) ⟨_, rfl, rfl, condBn (fun h => ?_) fun _ => ?_⟩))
    · exact absurd ⟨by omega, by omega⟩ (of_decide_eq_false h)
    · refine ASpec.call hr (Les.refl _) ⟨rightM D (W.getD k (0, [])).2, rfl, rfl, ?_⟩
      have hbl := badM_len (rightM D (W.getD k (0, [])).2) t y
      have hbd : badM (rightM D (W.getD k (0, [])).2) t y = (rightM D (W.getD k (0, [])).2).set (idxM (rightM D (W.getD k (0, [])).2) t) (UInt8.ofNat (((rightM D (W.getD k (0, [])).2).getD (idxM (rightM D (W.getD k (0, [])).2) t) 0).toNat + max y.toNat 1)) := rfl
      generalize hxd : badM (rightM D (W.getD k (0, [])).2) t y = xb at hbl hbd ⊢
      clear hr
      change 0 < (rightM D (W.getD k (0, [])).2).length at hp
      change (rightM D (W.getD k (0, [])).2).length ≤ lim at hl
      generalize rightM D (W.getD k (0, [])).2 = x at hp hl hbl hbd ⊢
      have hm : (if (0 : Int) > t then (0 : Int) else t) = ((t.toNat : Nat) : Int) := by split <;> omega
      have hmod : Int.tmod (if (0 : Int) > t then (0 : Int) else t) (x.length : Int) = ((idxM x t : Nat) : Int) := by rw [hm, tmodN]; rfl
      have hix : idxM x t < x.length := Nat.mod_lt _ hp
      refine condD (fun _ => needJ (by omega) ?_) fun h => by omega
      rw [hmod]
      simp only [Int.toNat_natCast, Nat.zero_add]
      refine needJ ⟨by omega, by omega⟩ (needJ hix (needJ ⟨by omega, by omega⟩ (needJ hix ?_)))
      refine AWP.re (ReSt.freeze (id := 4) (sz := 1) (q := .raw ((x.map encB).set (idxM x t) [.int .u8 (IntKind.wrap .u8 (((x.getD (idxM x t) 0).toNat : Int) + if (1 : Int) > (y.toNat : Int) then (1 : Int) else (y.toNat : Int)))]))
        (s2 := [(0, .ptr 0 0), (1, .int .i64 k), (8, .ptr 3 0), (10, .sl 1 (.map encB 0 xb) .none)]) rfl (by simp) (fun d => ?_)) ?_
      · by_cases e : d = 10
        · subst e
          right; right
          refine ⟨0, x.length, .map encB 0 xb, rfl, by simp [Ab.Seq.toList], rfl, ?_⟩
          have hz : (((x.getD (idxM x t) 0).toNat : Int) + if (1 : Int) > (y.toNat : Int) then (1 : Int) else (y.toNat : Int)) = (((x.getD (idxM x t) 0).toNat + max y.toNat 1 : Nat) : Int) := by split <;> omega
          rw [hz, wrapU8N, encB_mod, hbd]
          simp only [Ab.Seq.toList, Nat.zero_add, List.drop_zero]
          rw [List.take_of_length_le (by simp), List.map_set]
        · left
          have : Nat.beq 10 d = false := by
            cases hx : Nat.beq 10 d with
            | false => rfl
            | true => exact absurd (Nat.eq_of_beq_eq_true hx).symm e
          simp only [Ab.get, this]; rfl
      · refine AWP.shape [0, 1, 2, 3] [(0, .ptr 0 0), (1, .int .i64 k), (8, .ptr 3 0), (10, .sl 1 (.map encB 0 xb) .none)] (HS D W S ++ [.cells [.int .i64 0, .sl 0 (.raw []) .nil, .int .i64 0, .int .i64 0, .sl 0 (.raw []) .nil]])
          ⟨by decide, rfl, by show 3 ≤ 4; omega, fun j hj => ?_, fun j hj => ?_⟩ ⟨rfl, Le.refl _, rfl, Le.refl _, rfl, Le.refl _, rfl, Le.refl _, trivial⟩ (bad6 ok k hk (by omega))
        · match j, hj with
          | 0, _ | 1, _ | 2, _ => rfl
        · match j, hj with
          | 0, _ | 1, _ | 2, _ | 3, _ => exact .inl rfl
  exact liftG h k0 rfl rfl (gS h)

/-! ### alike -/

theorem ev_dec (a b : Ev) (h1 : a.1 = b.1) (h2 : a.2.2.1 = b.2.2.1) (h3 : a.2.2.2.1 = b.2.2.2.1) : decide (a = b) = (decide (a.2.1 = b.2.1) && decide (a.2.2.2.2 = b.2.2.2.2)) := by
  obtain ⟨a1, a2, a3, a4, a5⟩ := a
  obtain ⟨b1, b2, b3, b4, b5⟩ := b
  simp only at h1 h2 h3 ⊢
  subst h1 h2 h3
  rw [Bool.eq_iff_iff]; simp

theorem bytesBeq (a b : List UInt8) : ((bytesOf (.map encB 0 a)).toList == (bytesOf (.map encB 0 b)).toList) = decide (a = b) := by
  rw [bytesOf_map, bytesOf_map, B_beq, Bool.eq_iff_iff]; simp

theorem rsame_spec (x y : Ev) (hl : okN x.2.1) (H : List AObj) : ASpec Try.prog 48 [.agg (encE x), .agg (encE y)] H (fun r H' => r = .bool (decide (x = y)) ∧ H' = H) := by
  have k : ASpec Try.prog 48 [.agg (encE x), .agg (encE y)] [] (fun r H' => r = .bool (decide (x = y)) ∧ H' = []) := by
    refine ASpec.sel (Sd.s48 _ _ _ (condE (fun h1 => ?_) fun h => Dp.pa ?_))
    · refine ASpec.call (W.sameN_spec _ _ hl _) (Les.refl _) ⟨_, rfl, rfl, condB (fun h4 => condE (fun h2 => condE (fun h3 => ?_) fun h => Dp.pa ?_) fun h => Dp.pa ?_) fun h4 => Dp.pa ?_⟩
      · refine needJ (allBytes_map _) (needJ (allBytes_map _) (Dp.pa ?_))
        rw [bytesBeq, ev_dec x y h1 h2 h3, h4, Bool.true_and]
        exact Le.refl _
      · rw [decide_eq_false (by rintro rfl; exact h rfl)]; exact Le.refl _
      · rw [decide_eq_false (by rintro rfl; exact h rfl)]; exact Le.refl _
      · rw [decide_eq_false (by rintro rfl; simp at h4)]; exact Le.refl _
    · rw [decide_eq_false (by rintro rfl; exact h rfl)]; exact Le.refl _
  exact ASpec.pureH H k _ _ rfl rfl

end
end St
end

section
/- The document's stand. -/

set_option linter.unusedVariables false
set_option linter.unusedSimpArgs false
set_option maxRecDepth 100000
open Go Go.Ab Go.Proofs V S T C
open W (sl1 slS slN slR)
open Dp (slEn okD Sorted bodyM)
namespace Sx
section
variable {H : List AObj} {p a b : Nat} {D : List Ent} {W W' : List T.Item} {S S' : List Ev}

abbrev At (H : List AObj) (p a b : Nat) (D : List Ent) (W : List T.Item) (S : List Ev) : Prop :=
  H[p]? = some (xO D W S a b) ∧ H[a]? = some .tok ∧ H[b]? = some .tok ∧ p ≠ a ∧ p ≠ b ∧ a ≠ b

theorem hobjs (h : At H p a b D W S) : ∀ i (hi : i < (HXr D W S).length), H[[p, a, b].getD i 0]? = some (AObj.ren (callR [p, a, b] H.length) (HXr D W S)[i]) := by
  intro i hi
  match i, hi with
  | 0, _ => exact h.1
  | 1, _ => exact h.2.1
  | 2, _ => exact h.2.2.1
theorem nd (h : At H p a b D W S) : [p, a, b].Nodup := by
  obtain ⟨_, _, _, h1, h2, h3⟩ := h
  simp [h1, h2, h3]

theorem liftG {f : FuncId} {args args' : List AV} {r0 r' : AV} {Hl2 Hx : List AObj} (h : At H p a b D W S) (k : ASpec Try.prog f args (HXr D W S) (fun r H' => r = r0 ∧ H' = Hl2))
    (ha : args.map (AV.ren (callR [p, a, b] H.length)) = args') (hr : AV.ren (callR [p, a, b] H.length) r0 = r') (hx : graftH (callR [p, a, b] H.length) [p, a, b] H Hl2 = Hx) :
    ASpec Try.prog f args' H (fun r H' => r = r' ∧ H' = Hx) := ASpec.subH [p, a, b] H Hx k args' r' (nd h) rfl ha hr (hobjs h) hx

noncomputable abbrev hWt (H : List AObj) (p a b : Nat) (D : List Ent) (W : List T.Item) (S : List Ev) : List AObj := (H.set a .gone).set p (xO D W S H.length b) ++ [.tok]
noncomputable abbrev hSt (H : List AObj) (p a b : Nat) (D : List Ent) (W : List T.Item) (S : List Ev) : List AObj := ((H.set a .gone).set b .gone).set p (xO D W S H.length (H.length + 1)) ++ [.tok, .tok]

theorem gSame (h : At H p a b D W S) : graftH (callR [p, a, b] H.length) [p, a, b] H (HXr D W S) = H := by
  have e : graftH (callR [p, a, b] H.length) [p, a, b] H (HXr D W S) = ((H.set p (xO D W S a b)).set a .tok).set b .tok ++ [] := rfl
  rw [e, set_same h.1, set_same h.2.1, set_same h.2.2.1, List.append_nil]

theorem gW (h : At H p a b D W S) : graftH (callR [p, a, b] H.length) [p, a, b] H [xO D W' S 3 2, .gone, .tok, .tok] = hWt H p a b D W' S := by
  have e : graftH (callR [p, a, b] H.length) [p, a, b] H [xO D W' S 3 2, .gone, .tok, .tok] = ((H.set p (xO D W' S H.length b)).set a .gone).set b .tok ++ [.tok] := rfl
  obtain ⟨_, _, h3, n1, n2, n3⟩ := h
  rw [e, set_same (l := (H.set p (xO D W' S H.length b)).set a .gone) (by rw [List.getElem?_set_ne n3, List.getElem?_set_ne n2]; exact h3), hWt, List.set_comm _ _ n1]

theorem gS (h : At H p a b D W S) : graftH (callR [p, a, b] H.length) [p, a, b] H [xO D W' S' 3 4, .gone, .gone, .tok, .tok] = hSt H p a b D W' S' := by
  have e : graftH (callR [p, a, b] H.length) [p, a, b] H [xO D W' S' 3 4, .gone, .gone, .tok, .tok] = ((H.set p (xO D W' S' H.length (H.length + 1))).set a .gone).set b .gone ++ [.tok, .tok] := rfl
  obtain ⟨_, _, h3, n1, n2, n3⟩ := h
  rw [e, hSt, List.set_comm _ _ n1, List.set_comm _ _ n2]

theorem atL (D : List Ent) (W : List T.Item) (S : List Ev) (q : List AObj) : At (xO D W S 1 2 :: .tok :: .tok :: q) 0 1 2 D W S := ⟨rfl, rfl, rfl, by decide, by decide, by decide⟩

/-! ### cut, send -/

theorem cut2 {k : Nat} (hl : W.length ≤ lim) {R : List T.Item} : ∀ (m i : Nat) (acc : List T.Item), m + i = W.length → acc.length ≤ i → acc ++ (if i ≤ k then (W.drop i).eraseIdx (k - i) else W.drop i) = R →
    AWP Try.prog 32 3 c269_2 [(0, .ptr 0 0), (1, .int .i64 k), (4, .sl 2 (.map encIt (0, []) acc) (.tok 3)), (5, .int .i64 i)] (HXr D W S ++ [.tok])
      (q269_2 3 (fun r H' => ∃ l H2 r2, Sel (HXr D W S).length l H' H2 ∧ Le r (AV.ren (selR l H'.length) r2) ∧ (r2 = .tup [] ∧ H2 = [xO D R S 3 2, .gone, .tok, .tok]))) := by
  unfold lim at hl
  intro m
  induction m with
  | zero =>
    intro i acc hm ha h
    refine v269_2 _ _ _ _ _ _ _ _ (condD (fun hc => by omega) fun _ => ?_)
    rw [List.drop_eq_nil_of_le (by omega)] at h
    have h' : acc = R := by rw [← h]; simp
    subst h'
    refine ⟨[0, 1, 2, 3], [xO D acc S 3 2, .gone, .tok, .tok], .tup [], ⟨by decide, rfl, by show 3 ≤ 4; omega, fun j hj => ?_, fun j hj => ?_⟩, Le.refl _, rfl, rfl⟩
    · match j, hj with
      | 0, _ | 1, _ | 2, _ => rfl
    · match j, hj with
      | 0, _ => exact .inl rfl
      | 1, _ => exact .inr ⟨rfl, by show 1 < 4; omega⟩
      | 2, _ | 3, _ => exact .inl rfl
  | succ m ih =>
    intro i acc hm ha h
    refine v269_2 _ _ _ _ _ _ _ _ (condD (fun hc => condNe (fun hne => needJ ⟨by omega, by omega⟩ (needJ (by omega) ?_)) fun heq => ?_) fun hc => by omega)
    · rw [Int.toNat_natCast]
      have hd := dropD W (0, []) i (by omega)
      rw [hd] at h
      generalize W.getD i (0, []) = x at h ⊢
      rw [succ64 (by omega)]
      refine AWP.shape [0, 1, 2, 4] [(0, .ptr 0 0), (1, .int .i64 k), (4, .sl 2 (.map encIt (0, []) (acc ++ [x])) (.tok 3)), (5, .int .i64 (i + 1 : Nat))] (HXr D W S ++ [.tok])
        ⟨by decide, rfl, by decide, fun j hj => ?_, fun j hj => ?_⟩ ⟨rfl, Le.refl _, rfl, Le.refl _, rfl, Le.sl (s' := Seq.ren _ (.map encIt (0, []) (acc ++ [x]))) (by simp [Ab.Seq.toList, Seq.ren, encIt, renL, AV.ren]) (.inl rfl) (.inl rfl), rfl, Le.refl _, trivial⟩ (ih (i + 1) _ (by omega) (by simp; omega) ?_)
      · match j, hj with
        | 0, _ | 1, _ | 2, _ => rfl
      · match j, hj with
        | 0, _ | 1, _ | 2, _ | 3, _ => exact .inl rfl
      · have hik : i ≠ k := fun e => hne (by rw [e])
        rw [List.append_assoc]
        by_cases c : i ≤ k
        · rw [if_pos c, show k - i = (k - (i + 1)) + 1 by omega, List.eraseIdx_cons_succ] at h
          rw [if_pos (by omega)]; exact h
        · rw [if_neg c] at h
          rw [if_neg (by omega)]; exact h
    · have hik : i = k := by omega
      subst hik
      rw [succ64 (by omega)]
      refine ih (i + 1) acc (by omega) (by omega) ?_
      rw [if_pos (Nat.le_refl _), Nat.sub_self, dropD W (0, []) i (by omega), List.eraseIdx_cons_zero] at h
      rw [if_neg (by omega)]; exact h

theorem cut0 (k : Nat) (hl : W.length ≤ lim) : ASpec Try.prog 269 [.ptr 0 0, .int .i64 k] (HXr D W S) (fun r H' => r = .tup [] ∧ H' = [xO D (W.eraseIdx k) S 3 2, .gone, .tok, .tok]) := by
  refine ASpec.sel (s269 _ _ _ _ _ ?_)
  refine AWP.re (ReSt.tok (H := HXr D W S) (k := 4) (q' := .map encIt (0, []) []) (sz' := 2) (s2 := [(0, .ptr 0 0), (1, .int .i64 k), (4, .sl 2 (.map encIt (0, []) []) (.tok 3)), (5, .int .i64 (0 : Nat))]) rfl (.inl rfl) rfl (.inr rfl) (fun d hd => ?_) rfl) ?_
  · simp only [Ab.get]
    have e : Nat.beq 4 d = false := by
      cases hx : Nat.beq 4 d with
      | false => rfl
      | true => exact absurd (Nat.eq_of_beq_eq_true hx).symm hd
    rw [e]; rfl
  · exact cut2 hl W.length 0 [] (by omega) (by simp) (by simp)

theorem cut_spec (h : At H p a b D W S) (k : Nat) (hl : W.length ≤ lim) : ASpec Try.prog 269 [.ptr p 0, .int .i64 k] H (fun r H' => r = .tup [] ∧ H' = hWt H p a b D (W.eraseIdx k) S) :=
  liftG h (cut0 k hl) rfl rfl (gW h)

theorem send0 (k : Nat) (x : List UInt8) (hk : k < W.length) (hl : W.length ≤ lim) (hS : S.length ≤ lim) :
    ASpec Try.prog 267 [.ptr 0 0, .int .i64 k, .str (B x)] (HXr D W S) (fun r H' => r = .tup [.agg (encE (St.rep W k x)), .bool true] ∧ H' = [xO D (W.eraseIdx k) (S ++ [St.rep W k x]) 3 4, .gone, .gone, .tok, .tok]) := by
  unfold lim at hS
  refine ASpec.sel (St.ASpec.cellEnd (s267 _ _ _ _ _ _ (needJ ⟨by omega, by omega⟩ ?_)))
  rw [Int.toNat_natCast]
  refine ASpec.call (cut_spec (atL D W S _) k hl) (Les.refl _) ⟨W.eraseIdx k, rfl, rfl, needJ (by omega) ?_⟩
  have hle : ∀ ρ, Les [.int .i64 3, .sl 0 (.raw []) .nil, .int .i64 0, .int .i64 (W.getD k (0, [])).1, .sl 1 (bytesSeq (B x)) .none] ((encE (St.rep W k x)).map (AV.ren ρ)) := fun ρ => ⟨Le.refl _, St.leN0, Le.refl _, Le.refl _, Le.refl _, trivial⟩
  refine ⟨0, _, [.sl 2 (.map encEn ([], []) D) .none, .sl 2 (.map encIt (0, []) (W.eraseIdx k)) (.tok 5), .sl 5 (.map encE noEv (S ++ [St.rep W k x])) (.tok 6)], rfl, ⟨Le.refl _, Le.refl _, leAppE (hle id), trivial⟩, ?_⟩
  exact ⟨[0, 1, 2, 5, 6], [xO D (W.eraseIdx k) (S ++ [St.rep W k x]) 3 4, .gone, .gone, .tok, .tok], .tup [.agg (encE (St.rep W k x)), .bool true],
    ⟨by decide, rfl, by show 3 ≤ 5; omega, fun j hj => by
      match j, hj with
      | 0, _ | 1, _ | 2, _ => rfl, fun j hj => by
      match j, hj with
      | 0, _ | 1, _ | 2, _ | 3, _ | 4, _ => exact .inl rfl⟩, Le.tup ⟨Le.agg (hle _), Le.refl _, trivial⟩, rfl, rfl⟩

theorem send_spec (h : At H p a b D W S) (k : Nat) (x : List UInt8) (hk : k < W.length) (hl : W.length ≤ lim) (hS : S.length ≤ lim) :
    ASpec Try.prog 267 [.ptr p 0, .int .i64 k, .str (B x)] H (fun r H' => r = .tup [.agg (encE (St.rep W k x)), .bool true] ∧ H' = hSt H p a b D (W.eraseIdx k) (S ++ [St.rep W k x])) :=
  liftG h (send0 k x hk hl hS) rfl rfl (gS h)

/-! ### replies -/

theorem reply_spec (ok : St.okSt D W S) (t : T.Item) (ht : fitM t.2 = true) (H : List AObj) :
    ASpec Try.prog 268 [.agg (encX D W S), .agg (encIt t)] H (fun r H' => r = .str (B (St.rightM D t.2)) ∧ H' = H) := by
  have hf := fitM_short ht
  have hb := St.body_ok ok t.2
  have k0 : ASpec Try.prog 268 [.agg (encX D W S), .agg (encIt t)] [] (fun r H' => r = .str (B (St.rightM D t.2)) ∧ H' = []) := by
    refine ASpec.sel (s268 _ _ _ _ _ (ASpec.call (Dp.rbody_spec D t.2 ok.1 (by unfold lim; omega) _) (Les.refl _) ⟨B (bodyM D t.2), rfl, rfl, ⟨rfl, rfl⟩, ?_⟩))
    refine ASpec.call (rpack_spec t.2 (bodyM D t.2) (by omega) (by omega) _) (Les.refl _) ⟨B (St.rightM D t.2), rfl, rfl, Dp.pa (Le.refl _)⟩
  exact ASpec.pureH H k0 _ _ rfl rfl

theorem leX {t1 t2 : Tip} : Les [.sl 2 (.map encEn ([], []) D) .none, .sl 2 (.map encIt (0, []) W) t1, .sl 5 (.map encE noEv S) t2] (encX D W S) := ⟨Le.refl _, Le.sl rfl (.inl rfl) (.inr rfl), Le.sl rfl (.inl rfl) (.inr rfl), trivial⟩

theorem zero0 (q : List AObj) : ∃ l H2 r2, Sel (HXr D W S).length l (xO D W S 1 2 :: .tok :: .tok :: q) H2 ∧ Le (.tup [.agg [.int .i64 0, .sl 0 (.raw []) .nil, .int .i64 0, .int .i64 0, .sl 0 (.raw []) .nil], .bool false]) (AV.ren (selR l (xO D W S 1 2 :: .tok :: .tok :: q).length) r2) ∧
    r2 = .tup [.agg (encE noEv), .bool false] ∧ H2 = HXr D W S := by
  refine ⟨[0, 1, 2], HXr D W S, .tup [.agg (encE noEv), .bool false], ⟨by decide, rfl, by show 3 ≤ 3; omega, fun i hi => ?_, fun i hi => ?_⟩, Le.tup ⟨Le.agg St.lesE0, Le.refl _, trivial⟩, rfl, rfl⟩
  · match i, hi with
    | 0, _ | 1, _ | 2, _ => rfl
  · match i, hi with
    | 0, _ | 1, _ | 2, _ => exact .inl rfl

theorem good_no (h : At H p a b D W S) (k : Int) (hk : ¬ (0 ≤ k ∧ k < (W.length : Int))) :
    ASpec Try.prog 176 [.ptr p 0, .int .i64 k] H (fun r H' => r = .tup [.agg (encE noEv), .bool false] ∧ H' = H) := by
  have k0 : ASpec Try.prog 176 [.ptr 0 0, .int .i64 k] (HXr D W S) (fun r H' => r = .tup [.agg (encE noEv), .bool false] ∧ H' = HXr D W S) :=
    ASpec.sel (s176 _ _ _ _ _ (condD (fun _ => zero0 _) fun h1 => condD (fun _ => zero0 _) fun h2 => absurd ⟨by omega, by omega⟩ hk))
  exact liftG h k0 rfl rfl (gSame h)

theorem mixed_no (h : At H p a b D W S) (k o : Int) (hk : ¬ (0 ≤ k ∧ k < (W.length : Int))) :
    ASpec Try.prog 178 [.ptr p 0, .int .i64 k, .int .i64 o] H (fun r H' => r = .tup [.agg (encE noEv), .bool false] ∧ H' = H) := by
  have k0 : ASpec Try.prog 178 [.ptr 0 0, .int .i64 k, .int .i64 o] (HXr D W S) (fun r H' => r = .tup [.agg (encE noEv), .bool false] ∧ H' = HXr D W S) :=
    ASpec.sel (s178 _ _ _ _ _ _ (condD (fun _ => zero0 _) fun h1 => condD (fun _ => zero0 _) fun h2 => absurd ⟨by omega, by omega⟩ hk))
  exact liftG h k0 rfl rfl (gSame h)

theorem fail_no (h : At H p a b D W S) (k : Int) (hk : ¬ (0 ≤ k ∧ k < (W.length : Int))) :
    ASpec Try.prog 179 [.ptr p 0, .int .i64 k] H (fun r H' => r = .tup [.agg (encE noEv), .bool false] ∧ H' = H) := by
  have k0 : ASpec Try.prog 179 [.ptr 0 0, .int .i64 k] (HXr D W S) (fun r H' => r = .tup [.agg (encE noEv), .bool false] ∧ H' = HXr D W S) :=
    ASpec.sel (s179 _ _ _ _ _ (condD (fun _ => zero0 _) fun h1 => condD (fun _ => zero0 _) fun h2 => absurd ⟨by omega, by omega⟩ hk))
  exact liftG h k0 rfl rfl (gSame h)

theorem bad_no (h : At H p a b D W S) (k t : Int) (y : UInt8) (hk : ¬ (0 ≤ k ∧ k < (W.length : Int))) :
    ASpec Try.prog 177 [.ptr p 0, .int .i64 k, .int .i64 t, .int .u8 (y.toNat : Int)] H (fun r H' => r = .tup [.agg (encE noEv), .bool false] ∧ H' = H) := by
  have k0 : ASpec Try.prog 177 [.ptr 0 0, .int .i64 k, .int .i64 t, .int .u8 (y.toNat : Int)] (HXr D W S) (fun r H' => r = .tup [.agg (encE noEv), .bool false] ∧ H' = HXr D W S) :=
    ASpec.sel (s177 _ _ _ _ _ _ _ (condD (fun _ => zero0 _) fun h1 => condD (fun _ => zero0 _) fun h2 => absurd ⟨by omega, by omega⟩ hk))
  exact liftG h k0 rfl rfl (gSame h)

theorem sent5 {r : AV} {R : List AObj} {k : Nat} {x : List UInt8} {q : AObj} (hr : r = .tup [.agg (encE (St.rep W k x)), .bool true]) :
    ∃ l H2 r2, Sel (HXr D W S).length l [xO D (W.eraseIdx k) (S ++ [St.rep W k x]) 4 5, .gone, .gone, q, .tok, .tok] H2 ∧
      Le r (AV.ren (selR l [xO D (W.eraseIdx k) (S ++ [St.rep W k x]) 4 5, .gone, .gone, q, .tok, .tok].length) r2) ∧ r2 = .tup [.agg (encE (St.rep W k x)), .bool true] ∧ H2 = [xO D (W.eraseIdx k) (S ++ [St.rep W k x]) 3 4, .gone, .gone, .tok, .tok] := by
  subst hr
  refine ⟨[0, 1, 2, 4, 5], [xO D (W.eraseIdx k) (S ++ [St.rep W k x]) 3 4, .gone, .gone, .tok, .tok], .tup [.agg (encE (St.rep W k x)), .bool true], ⟨by decide, rfl, by show 3 ≤ 5; omega, fun i hi => ?_, fun i hi => ?_⟩, Le.refl _, rfl, rfl⟩
  · match i, hi with
    | 0, _ | 1, _ | 2, _ => rfl
  · match i, hi with
    | 0, _ | 1, _ | 2, _ | 3, _ | 4, _ => exact .inl rfl

theorem good_spec (h : At H p a b D W S) (ok : St.okSt D W S) (k : Nat) (hk : k < W.length) :
    ASpec Try.prog 176 [.ptr p 0, .int .i64 k] H (fun r H' => r = .tup [.agg (encE (St.rep W k (St.rightM D (W.getD k (0, [])).2))), .bool true] ∧ H' = hSt H p a b D (W.eraseIdx k) (S ++ [St.rep W k (St.rightM D (W.getD k (0, [])).2)])) := by
  have hf := ok.2.2.2.2.1 _ (St.getD_mem (d := (0, [])) hk)
  have k0 : ASpec Try.prog 176 [.ptr 0 0, .int .i64 k] (HXr D W S) (fun r H' => r = .tup [.agg (encE (St.rep W k (St.rightM D (W.getD k (0, [])).2))), .bool true] ∧ H' = [xO D (W.eraseIdx k) (S ++ [St.rep W k (St.rightM D (W.getD k (0, [])).2)]) 3 4, .gone, .gone, .tok, .tok]) := by
    refine ASpec.sel (s176 _ _ _ _ _ (condD (fun _ => by omega) fun h1 => condD (fun _ => by omega) fun h2 => needJ ⟨by omega, by omega⟩ ?_))
    rw [Int.toNat_natCast]
    refine ASpec.call (reply_spec ok (W.getD k (0, [])) hf _) ⟨Le.agg leX, Le.refl _, trivial⟩ ⟨_, rfl, rfl, ?_⟩
    exact ASpec.call (send_spec (atL D W S _) k _ hk ok.2.2.2.1 ok.2.2.2.2.2.1) (Les.refl _) ⟨(St.rep W k (St.rightM D (W.getD k (0, [])).2), true, W.eraseIdx k, S ++ [St.rep W k (St.rightM D (W.getD k (0, [])).2)]), rfl, rfl, sent5 (R := []) rfl⟩
  exact liftG h k0 rfl rfl (gS h)

theorem mixed_spec (h : At H p a b D W S) (ok : St.okSt D W S) (k : Nat) (o : Int) (j : Nat) (hk : k < W.length) (hj : j < W.length) (ho : if 0 ≤ o ∧ o < (W.length : Int) then o = j else j = k) :
    ASpec Try.prog 178 [.ptr p 0, .int .i64 k, .int .i64 o] H (fun r H' => r = .tup [.agg (encE (St.rep W k (St.rightM D (W.getD j (0, [])).2))), .bool true] ∧ H' = hSt H p a b D (W.eraseIdx k) (S ++ [St.rep W k (St.rightM D (W.getD j (0, [])).2)])) := by
  have hf := ok.2.2.2.2.1 _ (St.getD_mem (d := (0, [])) hj)
  have k0 : ASpec Try.prog 178 [.ptr 0 0, .int .i64 k, .int .i64 o] (HXr D W S) (fun r H' => r = .tup [.agg (encE (St.rep W k (St.rightM D (W.getD j (0, [])).2))), .bool true] ∧ H' = [xO D (W.eraseIdx k) (S ++ [St.rep W k (St.rightM D (W.getD j (0, [])).2)]) 3 4, .gone, .gone, .tok, .tok]) := by
    have fin : AWP Try.prog 48 3 c178_5 [(0, .ptr 0 0), (1, .int .i64 k), (2, .int .i64 j), (6, .ptr 3 0)] (HXr D W S ++ [.cells [.int .i64 0, .sl 0 (.raw []) .nil, .int .i64 0, .int .i64 0, .sl 0 (.raw []) .nil]]) (q178_0 3 (fun r H' => ∃ l H2 r2, Sel (HXr D W S).length l H' H2 ∧ Le r (AV.ren (selR l H'.length) r2) ∧
        (r2 = .tup [.agg (encE (St.rep W k (St.rightM D (W.getD j (0, [])).2))), .bool true] ∧ H2 = [xO D (W.eraseIdx k) (S ++ [St.rep W k (St.rightM D (W.getD j (0, [])).2)]) 3 4, .gone, .gone, .tok, .tok]))) := by
      refine v178_5 _ _ _ _ _ _ _ (needJ ⟨by omega, by omega⟩ ?_)
      rw [Int.toNat_natCast]
      refine ASpec.call (reply_spec ok (W.getD j (0, [])) hf _) ⟨Le.agg leX, Le.refl _, trivial⟩ ⟨_, rfl, rfl, ?_⟩
      exact ASpec.call (send_spec (atL D W S _) k _ hk ok.2.2.2.1 ok.2.2.2.2.2.1) (Les.refl _) ⟨(St.rep W k (St.rightM D (W.getD j (0, [])).2), true, W.eraseIdx k, S ++ [St.rep W k (St.rightM D (W.getD j (0, [])).2)]), rfl, rfl, sent5 (R := []) rfl⟩
    refine ASpec.sel (s178 _ _ _ _ _ _ (condD (fun _ => by omega) fun h1 => condD (fun _ => by omega) fun h2 => condD (fun c1 => ?_) fun c1 => condD (fun c2 => ?_) fun c2 => ?_))
    · rw [if_neg (by omega)] at ho; subst ho; exact fin
    · rw [if_neg (by omega)] at ho; subst ho; exact fin
    · rw [if_pos ⟨by omega, by omega⟩] at ho; rw [ho]; exact fin
  exact liftG h k0 rfl rfl (gS h)

/-- the event of a failure -/
abbrev failE (W : List T.Item) (k : Nat) : Ev := (4, [], 0, (W.getD k (0, [])).1, [])

theorem lesF {ρ : Nat → Nat} {t : Int} : Les [.int .i64 4, .sl 0 (.raw []) .nil, .int .i64 0, .int .i64 t, .sl 0 (.raw []) .nil] ((encE (4, [], 0, t, [])).map (AV.ren ρ)) := ⟨Le.refl _, St.leN0, Le.refl _, Le.refl _, St.leB0, trivial⟩

theorem fail_spec (h : At H p a b D W S) (ok : St.okSt D W S) (k : Nat) (hk : k < W.length) :
    ASpec Try.prog 179 [.ptr p 0, .int .i64 k] H (fun r H' => r = .tup [.agg (encE (failE W k)), .bool true] ∧ H' = hWt H p a b D (W.eraseIdx k) S) := by
  have k0 : ASpec Try.prog 179 [.ptr 0 0, .int .i64 k] (HXr D W S) (fun r H' => r = .tup [.agg (encE (failE W k)), .bool true] ∧ H' = [xO D (W.eraseIdx k) S 3 2, .gone, .tok, .tok]) := by
    refine ASpec.sel (s179 _ _ _ _ _ (condD (fun _ => by omega) fun h1 => condD (fun _ => by omega) fun h2 => needJ ⟨by omega, by omega⟩ ?_))
    rw [Int.toNat_natCast]
    refine ASpec.call (cut_spec (atL D W S _) k ok.2.2.2.1) (Les.refl _) ⟨W.eraseIdx k, rfl, rfl, ?_⟩
    refine ⟨[0, 1, 2, 5], [xO D (W.eraseIdx k) S 3 2, .gone, .tok, .tok], .tup [.agg (encE (failE W k)), .bool true], ⟨by decide, rfl, by show 3 ≤ 4; omega, fun i hi => ?_, fun i hi => ?_⟩, Le.tup ⟨Le.agg lesF, Le.refl _, trivial⟩, rfl, rfl⟩
    · match i, hi with
      | 0, _ | 1, _ | 2, _ => rfl
    · match i, hi with
      | 0, _ | 1, _ | 2, _ | 3, _ => exact .inl rfl
  exact liftG h k0 rfl rfl (gW h)

end
end Sx
end

section
/- What is done to a stand, by the program and by the document. -/

set_option linter.unusedVariables false
set_option linter.unusedSimpArgs false
set_option maxRecDepth 100000
open Go Go.Ab Go.Proofs V S T C
open W (sl1 slS slN slR)
open Dp (slEn okD Sorted bodyM)
namespace Sy

/-- one thing that is done: its event, whether it is, what waits, what was sent -/
def inR {α : Type} (l : List α) (k : Int) : Prop := 0 ≤ k ∧ k < (l.length : Int)
instance {α : Type} (l : List α) (k : Int) : Decidable (inR l k) := inferInstanceAs (Decidable (_ ∧ _))

abbrev Res := Ev × Bool × List T.Item × List Ev
def sentR (W : List T.Item) (S : List Ev) (k : Nat) (x : List UInt8) : Res := (St.rep W k x, true, W.eraseIdx k, S ++ [St.rep W k x])
def stepM (D : List Ent) (W : List T.Item) (S : List Ev) (d : Do) : Res :=
  if d.1 = 0 then (noEv, true, W ++ [(d.2.1, d.2.2.2.2)], S)
  else if d.1 = 5 ∨ ¬ (d.1 = 1 ∨ d.1 = 2 ∨ d.1 = 3 ∨ d.1 = 4) then (if inR S d.2.1 then (S.getD d.2.1.toNat noEv, true, W, S) else (noEv, false, W, S))
  else if inR W d.2.1 then
    (if d.1 = 1 then sentR W S d.2.1.toNat (St.rightM D (W.getD d.2.1.toNat (0, [])).2)
    else if d.1 = 2 then sentR W S d.2.1.toNat (St.badM (St.rightM D (W.getD d.2.1.toNat (0, [])).2) d.2.2.1 d.2.2.2.1)
    else if d.1 = 3 then sentR W S d.2.1.toNat (St.rightM D (W.getD (if inR W d.2.2.1 then d.2.2.1.toNat else d.2.1.toNat) (0, [])).2)
    else (Sx.failE W d.2.1.toNat, true, W.eraseIdx d.2.1.toNat, S))
  else (noEv, false, W, S)

/-! ### ends -/
section
variable {O : Nat → Nat → AObj} {r r0 : AV} {q e : AObj}

abbrev Fin (O : Nat → Nat → AObj) (r0 : AV) : AV → List AObj → Prop := fun r H' => ∃ l gb H2 r2, SelM 3 l gb H' H2 ∧ Le r (AV.ren (selR l H'.length) r2) ∧ (r2 = r0 ∧ H2 = [O 3 4, .gone, .gone, .tok, .tok])

theorem fin1 {O1 : AObj} (h1 : O1 = AObj.ren (selR [0, 1, 2, 5, 6] 7) (O 3 4)) (hng : isGone (O 3 4) = false) (hle : ∀ ρ, Le r (AV.ren ρ r0)) : Fin O r0 r [O1, .gone, .gone, q, e, .tok, .tok] := by
  refine ⟨[0, 1, 2, 5, 6], [false, true, true, false, false], [O 3 4, .gone, .gone, .tok, .tok], r0, ⟨by decide, by show [isGone (O 3 4), true, true, false, false] = _; rw [hng], rfl, by decide, fun j hj => ?_, fun j hj => ?_⟩, hle _, rfl, rfl⟩
  · match j, hj with
    | 0, _ | 1, _ | 2, _ => rfl
  · match j, hj with
    | 0, _ => exact .inl (congrArg some h1)
    | 1, _ | 2, _ | 3, _ | 4, _ => exact .inl rfl

theorem fin2 {O1 : AObj} (h1 : O1 = AObj.ren (selR [0, 1, 2, 5, 2] 6) (O 3 4)) (hng : isGone (O 3 4) = false) (hle : ∀ ρ, Le r (AV.ren ρ r0)) : Fin O r0 r [O1, .gone, .tok, q, e, .tok] := by
  refine ⟨[0, 1, 2, 5, 2], [false, true, true, false, false], [O 3 4, .gone, .gone, .tok, .tok], r0, ⟨by decide, by show [isGone (O 3 4), true, true, false, false] = _; rw [hng], rfl, by decide, fun j hj => ?_, fun j hj => ?_⟩, hle _, rfl, rfl⟩
  · match j, hj with
    | 0, _ | 1, _ | 2, _ => rfl
  · match j, hj with
    | 0, _ => exact .inl (congrArg some h1)
    | 1, _ | 3, _ | 4, _ => exact .inl rfl
    | 2, _ => exact .inr rfl

theorem fin3 {O1 : AObj} (h1 : O1 = AObj.ren (selR [0, 1, 2, 1, 2] 5) (O 3 4)) (hng : isGone (O 3 4) = false) (hle : ∀ ρ, Le r (AV.ren ρ r0)) : Fin O r0 r [O1, .tok, .tok, q, e] := by
  refine ⟨[0, 1, 2, 1, 2], [false, true, true, false, false], [O 3 4, .gone, .gone, .tok, .tok], r0, ⟨by decide, by show [isGone (O 3 4), true, true, false, false] = _; rw [hng], rfl, by decide, fun j hj => ?_, fun j hj => ?_⟩, hle _, rfl, rfl⟩
  · match j, hj with
    | 0, _ | 1, _ | 2, _ => rfl
  · match j, hj with
    | 0, _ => exact .inl (congrArg some h1)
    | 1, _ | 2, _ => exact .inr rfl
    | 3, _ | 4, _ => exact .inl rfl
end

theorem leE0 (c : Bool) (ρ : Nat → Nat) : Le (.tup [.agg [.int .i64 0, .sl 0 (.raw []) .nil, .int .i64 0, .int .i64 0, .sl 0 (.raw []) .nil], .bool c]) (AV.ren ρ (.tup [.agg (encE noEv), .bool c])) := Le.tup ⟨Le.agg St.lesE0, Le.refl _, trivial⟩
theorem leEv (x : Ev) (c : Bool) (ρ : Nat → Nat) : Le (.tup [.agg (encE x), .bool c]) (AV.ren ρ (.tup [.agg (encE x), .bool c])) := Le.refl _

/-! ### the program's -/
section
variable {H : List AObj} {p a b : Nat} {D : List Ent} {W : List T.Item} {S : List Ev}
open St (At liftG gSame gW gS atL okSt rep rightM hWt hSt has_spec take_spec send_spec right_spec)

theorem zeroS (q : List AObj) : ∃ l H2 r2, Sel (HS D W S).length l (stO D W S 1 2 :: .tok :: .tok :: q) H2 ∧ Le (.tup [.agg [.int .i64 0, .sl 0 (.raw []) .nil, .int .i64 0, .int .i64 0, .sl 0 (.raw []) .nil], .bool false]) (AV.ren (selR l (stO D W S 1 2 :: .tok :: .tok :: q).length) r2) ∧
    r2 = .tup [.agg (encE noEv), .bool false] ∧ H2 = HS D W S := by
  refine ⟨[0, 1, 2], HS D W S, .tup [.agg (encE noEv), .bool false], ⟨by decide, rfl, by show 3 ≤ 3; omega, fun i hi => ?_, fun i hi => ?_⟩, Le.tup ⟨Le.agg St.lesE0, Le.refl _, trivial⟩, rfl, rfl⟩
  · match i, hi with
    | 0, _ | 1, _ | 2, _ => rfl
  · match i, hi with
    | 0, _ | 1, _ | 2, _ => exact .inl rfl

theorem mixed_no (h : At H p a b D W S) (k o : Int) (hk : ¬ (0 ≤ k ∧ k < (W.length : Int))) :
    ASpec Try.prog 51 [.ptr p 0, .int .i64 k, .int .i64 o] H (fun r H' => r = .tup [.agg (encE noEv), .bool false] ∧ H' = H) := by
  have k0 : ASpec Try.prog 51 [.ptr 0 0, .int .i64 k, .int .i64 o] (HS D W S) (fun r H' => r = .tup [.agg (encE noEv), .bool false] ∧ H' = HS D W S) :=
    ASpec.sel (s51 _ _ _ _ _ _ (ASpec.call (has_spec k (atL D W S _)) (Les.refl _) ⟨_, rfl, rfl, condBn (fun _ => zeroS _) fun h => absurd (of_decide_eq_true h) hk⟩))
  exact liftG h k0 rfl rfl (gSame h)

theorem fail_no (h : At H p a b D W S) (k : Int) (hk : ¬ (0 ≤ k ∧ k < (W.length : Int))) :
    ASpec Try.prog 52 [.ptr p 0, .int .i64 k] H (fun r H' => r = .tup [.agg (encE noEv), .bool false] ∧ H' = H) := by
  have k0 : ASpec Try.prog 52 [.ptr 0 0, .int .i64 k] (HS D W S) (fun r H' => r = .tup [.agg (encE noEv), .bool false] ∧ H' = HS D W S) :=
    ASpec.sel (s52 _ _ _ _ _ (ASpec.call (has_spec k (atL D W S _)) (Les.refl _) ⟨_, rfl, rfl, condBn (fun _ => zeroS _) fun h => absurd (of_decide_eq_true h) hk⟩))
  exact liftG h k0 rfl rfl (gSame h)

theorem fail_spec (h : At H p a b D W S) (ok : okSt D W S) (k : Nat) (hk : k < W.length) :
    ASpec Try.prog 52 [.ptr p 0, .int .i64 k] H (fun r H' => r = .tup [.agg (encE (Sx.failE W k)), .bool true] ∧ H' = hWt H p a b D (W.eraseIdx k) S) := by
  have k0 : ASpec Try.prog 52 [.ptr 0 0, .int .i64 k] (HS D W S) (fun r H' => r = .tup [.agg (encE (Sx.failE W k)), .bool true] ∧ H' = [stO D (W.eraseIdx k) S 3 2, .gone, .tok, .tok]) := by
    refine ASpec.sel (s52 _ _ _ _ _ (ASpec.call (has_spec k (atL D W S _)) (Les.refl _) ⟨_, rfl, rfl, condBn (fun h => absurd ⟨by omega, by omega⟩ (of_decide_eq_false h)) fun _ => ?_⟩))
    refine ASpec.call (take_spec (atL D W S _) k hk ok.2.2.2.1) (Les.refl _) ⟨(W.getD k (0, []), W.eraseIdx k), rfl, rfl, ?_⟩
    refine ⟨[0, 1, 2, 4], [stO D (W.eraseIdx k) S 3 2, .gone, .tok, .tok], .tup [.agg (encE (Sx.failE W k)), .bool true], ⟨by decide, rfl, by show 3 ≤ 4; omega, fun i hi => ?_, fun i hi => ?_⟩, Le.tup ⟨Le.agg Sx.lesF, Le.refl _, trivial⟩, rfl, rfl⟩
    · match i, hi with
      | 0, _ | 1, _ | 2, _ => rfl
    · match i, hi with
      | 0, _ | 1, _ | 2, _ | 3, _ => exact .inl rfl
  exact liftG h k0 rfl rfl (gW h)

theorem mixed_spec (h : At H p a b D W S) (ok : okSt D W S) (k : Nat) (o : Int) (j : Nat) (hk : k < W.length) (hj : j < W.length) (ho : if 0 ≤ o ∧ o < (W.length : Int) then o = j else j = k) :
    ASpec Try.prog 51 [.ptr p 0, .int .i64 k, .int .i64 o] H (fun r H' => r = .tup [.agg (encE (rep W k (rightM D (W.getD j (0, [])).2))), .bool true] ∧ H' = hSt H p a b D (W.eraseIdx k) (S ++ [rep W k (rightM D (W.getD j (0, [])).2)])) := by
  have hf := fitM_short (ok.2.2.2.2.1 _ (St.getD_mem (d := (0, [])) hj))
  have hb := St.body_ok ok (W.getD j (0, [])).2
  have k0 : ASpec Try.prog 51 [.ptr 0 0, .int .i64 k, .int .i64 o] (HS D W S) (fun r H' => r = .tup [.agg (encE (rep W k (rightM D (W.getD j (0, [])).2))), .bool true] ∧ H' = [stO D (W.eraseIdx k) (S ++ [rep W k (rightM D (W.getD j (0, [])).2)]) 3 4, .gone, .gone, .tok, .tok]) := by
    have fin : AWP Try.prog 26 3 c51_5 [(0, .ptr 0 0), (1, .int .i64 k), (2, .int .i64 j), (6, .ptr 3 0)] (HS D W S ++ [.cells [.int .i64 0, .sl 0 (.raw []) .nil, .int .i64 0, .int .i64 0, .sl 0 (.raw []) .nil]]) (q51_0 3 (fun r H' => ∃ l H2 r2, Sel (HS D W S).length l H' H2 ∧ Le r (AV.ren (selR l H'.length) r2) ∧
        (r2 = .tup [.agg (encE (rep W k (rightM D (W.getD j (0, [])).2))), .bool true] ∧ H2 = [stO D (W.eraseIdx k) (S ++ [rep W k (rightM D (W.getD j (0, [])).2)]) 3 4, .gone, .gone, .tok, .tok]))) := by
      refine v51_5 _ _ _ _ _ _ _ ?_
      refine ASpec.call (right_spec (atL D W S _) ok j hj) (Les.refl _) ⟨_, rfl, rfl, ?_⟩
      refine ASpec.call (send_spec (atL D W S _) k _ hk ok.2.2.2.1 (St.pack_len _ _ hf hb) ok.2.2.2.2.2.1) (Les.refl _) ⟨(rep W k (rightM D (W.getD j (0, [])).2), true, W.eraseIdx k, S ++ [rep W k (rightM D (W.getD j (0, [])).2)]), rfl, rfl, ?_⟩
      refine ⟨[0, 1, 2, 4, 5], [stO D (W.eraseIdx k) (S ++ [rep W k (rightM D (W.getD j (0, [])).2)]) 3 4, .gone, .gone, .tok, .tok], _, ⟨by decide, rfl, by show 3 ≤ 5; omega, fun i hi => ?_, fun i hi => ?_⟩, Le.refl _, rfl, rfl⟩
      · match i, hi with
        | 0, _ | 1, _ | 2, _ => rfl
      · match i, hi with
        | 0, _ | 1, _ | 2, _ | 3, _ | 4, _ => exact .inl rfl
    refine ASpec.sel (s51 _ _ _ _ _ _ (ASpec.call (has_spec k (atL D W S _)) (Les.refl _) ⟨_, rfl, rfl, condBn (fun h => absurd ⟨by omega, by omega⟩ (of_decide_eq_false h)) fun _ => ?_⟩))
    refine ASpec.call (has_spec o (atL D W S _)) (Les.refl _) ⟨_, rfl, rfl, condBn (fun h => ?_) fun h => ?_⟩
    · rw [if_neg (of_decide_eq_false h)] at ho; subst ho; exact fin
    · rw [if_pos (of_decide_eq_true h)] at ho; rw [ho]; exact fin
  exact liftG h k0 rfl rfl (gS h)

/-- who waits -/
def waitM (W : List T.Item) (k : Int) : Int × List UInt8 × Bool := if inR W k then ((W.getD k.toNat (0, [])).1, (W.getD k.toNat (0, [])).2, true) else (0, [], false)
abbrev waitV (W : List T.Item) (k : Int) : AV := .tup [.int .i64 (waitM W k).1, .str (B (waitM W k).2.1), .bool (waitM W k).2.2]

theorem waits_spec (h : At H p a b D W S) (k : Int) : ASpec Try.prog 53 [.ptr p 0, .int .i64 k] H (fun r H' => r = waitV W k ∧ H' = H) := by
  have k0 : ASpec Try.prog 53 [.ptr 0 0, .int .i64 k] (HS D W S) (fun r H' => r = waitV W k ∧ H' = HS D W S) := by
    refine s53 _ _ _ _ _ (ASpec.call (has_spec k (atL D W S [])) (Les.refl _) ⟨_, rfl, rfl, condBn (fun h => ?_) fun h => ?_⟩)
    · have h : ¬ inR W k := of_decide_eq_false h
      refine ⟨?_, rfl⟩
      rw [waitV, waitM, if_neg h]
    · have h : inR W k := of_decide_eq_true h
      refine needJ h (needJ h ⟨⟨rfl, rfl⟩, ⟨rfl, rfl⟩, ?_, rfl⟩)
      rw [waitV, waitM, if_pos h]
  exact liftG h k0 rfl rfl (gSame h)

end
end Sy
end

section
/- StandRight: a right reply is opened as its name and body, a bad one not at all: the law's function returns true. -/

set_option linter.unusedVariables false
set_option linter.unusedSimpArgs false
set_option maxRecDepth 100000
open Go Go.Ab Go.Proofs V S T C
open W (sl1 slS slN slR)
open Dp (slEn okD Sorted bodyM)
namespace St

abbrev PT : AV → List AObj → Prop := Dp.PA (.bool true)
theorem pt {H' : List AObj} : PT (.bool true) H' := Dp.pa (Le.refl _)

theorem leA (l : List Ac) {q : Seq} {t : Tip} (h : (Seq.map encA (0, 0, []) l).toList = q.toList) : Le (.sl 7 q t) (slA l) := Le.sl h (.inl rfl) (.inr rfl)

theorem okSt_of {D : List Ent} (hd : Dp.depOk D = true) (hl : okD D) (W : List T.Item) (S : List Ev) (hW : W.length ≤ lim) (hf : ∀ x ∈ W, fitM x.2 = true) (hS : S.length ≤ lim) (hb : ∀ e ∈ S, e.2.2.2.2.length ≤ lim) : okSt D W S := by
  obtain ⟨_, h⟩ := Dp.depOk_ok hd
  refine ⟨hl, fun i hi => (h i hi).2.2, fun x hx => ?_, hW, hf, hS, hb⟩
  obtain ⟨i, hi, rfl⟩ := List.getElem_of_mem hx
  have := (h i hi).2.1
  rwa [List.getD_eq_getElem?_getD, List.getElem?_eq_getElem hi] at this

theorem condTrue {A C : Prop} (h : A) : condP true A C := h

theorem awake_spec (H : List AObj) : ASpec Try.prog 40 [] H (fun r H' => r = .bool true ∧ H' = H) := by
  have k : ASpec Try.prog 40 [] [] (fun r H' => r = .bool true ∧ H' = []) := by
    have hf : fitM [97] = true := by decide +kernel
    have h97 : ((B [97]).toList == (⟨#[97]⟩ : ByteArray).toList) = true := by decide +kernel
    have ok : okSt [] [(1, [97])] [] := okSt_of rfl Dp.okD0 _ _ (by unfold lim; simp) (by simp [hf]) (by simp) (by simp)
    have hb := body_ok ok [97]
    have hl := pack_len [97] _ (by simp) hb
    refine ASpec.sel (Sd.s40 _ (ASpec.call (new_spec [] Dp.okD0 rfl _) ⟨Dp.leD0, trivial⟩ (.inl ⟨[], rfl, rfl, ?_⟩)))
    refine ASpec.call (takeL_spec (atL [] [] [] []) 1 [97] [] (by simp) (by simp)) ⟨Le.refl _, leA [(1, 1, [97])] rfl, trivial⟩ ⟨((1 : Int), [(1, [97])]), rfl, rfl, ?_⟩
    refine ASpec.call (good_spec (p := 0) (a := 3) (b := 2) (D := []) (W := [(1, [97])]) (S := []) ⟨rfl, rfl, rfl, by decide, by decide, by decide⟩ ok 0 (by simp)) (Les.refl _)
      (.inl ⟨(rep [(1, [97])] 0 (rightM [] [97]), true, [], [rep [(1, [97])] 0 (rightM [] [97])]), rfl, rfl, needJ (allBytes_map _) ?_⟩)
    rw [bytesOf_map]
    have ho := ropen_spec (rightM [] [97]) (by unfold lim at hl; exact hl)
    rw [SM.sopen_back [97] _ hf hb] at ho
    refine ASpec.call (ho _) (Les.refl _) ⟨(B [97], B (bodyM [] [97]), 0), rfl, rfl, ?_⟩
    exact condE (fun _ => condTrue (condE (fun _ => condB (fun _ => pt) fun h => Bool.noConfusion (h97.symm.trans h)) fun h => absurd rfl h)) fun h => absurd rfl h
  exact ASpec.pureH H k _ _ rfl rfl

/-! ### the law -/
section
variable {l : List Ent} {s : List UInt8}

theorem beqS (s : List UInt8) : ((B s).toList == (B s).toList) = true := by rw [B_beq]; simp

end
end St
end

section
/- What is done to a stand, one thing at a time: the program's and the document's come to the same. -/

set_option linter.unusedVariables false
set_option linter.unusedSimpArgs false
set_option maxRecDepth 100000
open Go Go.Ab Go.Proofs V S T C
open W (sl1 slS slN slR)
open Dp (slEn okD Sorted bodyM)
namespace Sy

section
variable {D : List Ent} {W : List T.Item} {S : List Ev} {t : Int} {y : UInt8} {nm : List UInt8} {k : Nat} {n : Int}

theorem step_take : stepM D W S (0, n, t, y, nm) = (noEv, true, W ++ [(n, nm)], S) := by simp [stepM]
theorem step_good (h : inR W (k : Int)) : stepM D W S (1, (k : Int), t, y, nm) = sentR W S k (St.rightM D (W.getD k (0, [])).2) := by simp [stepM, h]
theorem step_bad (h : inR W (k : Int)) : stepM D W S (2, (k : Int), t, y, nm) = sentR W S k (St.badM (St.rightM D (W.getD k (0, [])).2) t y) := by simp [stepM, h]
theorem step_mixed (h : inR W (k : Int)) : stepM D W S (3, (k : Int), t, y, nm) = sentR W S k (St.rightM D (W.getD (if inR W t then t.toNat else k) (0, [])).2) := by simp [stepM, h]
theorem step_fail (h : inR W (k : Int)) : stepM D W S (4, (k : Int), t, y, nm) = (Sx.failE W k, true, W.eraseIdx k, S) := by simp [stepM, h]
theorem step_no {kd : Int} (hk : kd = 1 ∨ kd = 2 ∨ kd = 3 ∨ kd = 4) (h : ¬ inR W n) : stepM D W S (kd, n, t, y, nm) = (noEv, false, W, S) := by
  rcases hk with rfl | rfl | rfl | rfl <;> simp [stepM, h]
theorem step_again {kd : Int} (h0 : kd ≠ 0) (h1 : kd ≠ 1) (h2 : kd ≠ 2) (h3 : kd ≠ 3) (h4 : kd ≠ 4) (h : inR S (k : Int)) : stepM D W S (kd, (k : Int), t, y, nm) = (S.getD k noEv, true, W, S) := by simp [stepM, h, h0, h1, h2, h3, h4]
theorem step_again_no {kd : Int} (h0 : kd ≠ 0) (h1 : kd ≠ 1) (h2 : kd ≠ 2) (h3 : kd ≠ 3) (h4 : kd ≠ 4) (h : ¬ inR S n) : stepM D W S (kd, n, t, y, nm) = (noEv, false, W, S) := by simp [stepM, h, h0, h1, h2, h3, h4]

theorem inR_nat {α : Type} {l : List α} {n : Int} (h : inR l n) : ∃ k : Nat, n = k ∧ k < l.length := ⟨n.toNat, by have := h.1; omega, by have := h.1; have := h.2; omega⟩
/-- where a mixed reply is of -/
theorem mixJ (hk : k < W.length) : (if inR W t then t.toNat else k) < W.length ∧ (if 0 ≤ t ∧ t < (W.length : Int) then t = (if inR W t then t.toNat else k : Nat) else (if inR W t then t.toNat else k) = k) := by
  by_cases c : inR W t
  · have c' := c
    unfold inR at c'
    rw [if_pos c, if_pos c']; exact ⟨by omega, by omega⟩
  · have c' := c
    unfold inR at c'
    rw [if_neg c, if_neg c']; exact ⟨hk, rfl⟩
end

/-! ### the program's -/
section
variable {H : List AObj} {p a b : Nat} {D : List Ent} {W : List T.Item} {S : List Ev}
open St (At liftG gSame gW gS atL okSt rep rightM hWt hSt)

noncomputable abbrev resV (v : Res) : AV := .tup [.agg (encE v.1), .bool v.2.1]

theorem did0 (ok : okSt D W S) (hW : W.length ≤ 1000) (d : Do) {v : Res} (hv : stepM D W S d = v) :
    ASpec Try.prog 54 [.ptr 0 0, .agg (encDo d)] (HS D W S) (fun r H' => r = resV v ∧ H' = [stO D v.2.2.1 v.2.2.2 3 4, .gone, .gone, .tok, .tok]) := by
  obtain ⟨kd, n, t, y, nm⟩ := d
  refine ASpec.selM (s54 _ _ _ _ _ _ _ _ _ (condE (fun h0 => ?_) fun h0 => condE (fun h1 => ?_) fun h1 => condE (fun h2 => ?_) fun h2 => condE (fun h3 => ?_) fun h3 => condE (fun h4 => ?_) fun h4 => ?_))
  · subst h0; rw [step_take] at hv; subst hv
    exact ASpec.call (St.takeL_spec (atL D W S _) n nm [(2, 0, [])] (by simp) (by omega)) ⟨Le.refl _, St.leA [(1, n, nm), (2, 0, [])] rfl, trivial⟩ ⟨((1 : Int), W ++ [(n, nm)]), rfl, rfl, fin2 (O := stO D (W ++ [(n, nm)]) S) rfl rfl (leE0 true)⟩
  · subst h1
    by_cases c : inR W n
    · obtain ⟨k, rfl, hk⟩ := inR_nat c
      rw [step_good c] at hv; subst hv
      exact ASpec.call (St.good_spec (atL D W S _) ok k hk) (Les.refl _) (.inl ⟨sentR W S k (rightM D (W.getD k (0, [])).2), rfl, rfl, fin1 (O := stO D (W.eraseIdx k) _) rfl rfl (leEv _ _)⟩)
    · rw [step_no (.inl rfl) c] at hv; subst hv
      exact ASpec.call (St.good_no (atL D W S _) n c) (Les.refl _) (.inr ⟨(noEv, false), rfl, rfl, fin3 (O := stO D W S) rfl rfl (leEv _ _)⟩)
  · subst h2
    by_cases c : inR W n
    · obtain ⟨k, rfl, hk⟩ := inR_nat c
      rw [step_bad c] at hv; subst hv
      exact ASpec.call (St.bad_spec (atL D W S _) ok k t y hk) (Les.refl _) (.inl ⟨sentR W S k (St.badM (rightM D (W.getD k (0, [])).2) t y), rfl, rfl, fin1 (O := stO D (W.eraseIdx k) _) rfl rfl (leEv _ _)⟩)
    · rw [step_no (.inr (.inl rfl)) c] at hv; subst hv
      exact ASpec.call (St.bad_no (atL D W S _) n t y c) (Les.refl _) (.inr ⟨(noEv, false), rfl, rfl, fin3 (O := stO D W S) rfl rfl (leEv _ _)⟩)
  · subst h3
    by_cases c : inR W n
    · obtain ⟨k, rfl, hk⟩ := inR_nat c
      rw [step_mixed c] at hv; subst hv
      obtain ⟨j1, j2⟩ := mixJ (t := t) hk
      exact ASpec.call (mixed_spec (atL D W S _) ok k t _ hk j1 j2) (Les.refl _) (.inl ⟨sentR W S k (rightM D (W.getD (if inR W t then t.toNat else k) (0, [])).2), rfl, rfl, fin1 (O := stO D (W.eraseIdx k) _) rfl rfl (leEv _ _)⟩)
    · rw [step_no (.inr (.inr (.inl rfl))) c] at hv; subst hv
      exact ASpec.call (mixed_no (atL D W S _) n t c) (Les.refl _) (.inr ⟨(noEv, false), rfl, rfl, fin3 (O := stO D W S) rfl rfl (leEv _ _)⟩)
  · subst h4
    by_cases c : inR W n
    · obtain ⟨k, rfl, hk⟩ := inR_nat c
      rw [step_fail c] at hv; subst hv
      exact ASpec.call (fail_spec (atL D W S _) ok k hk) (Les.refl _) (.inl ⟨(Sx.failE W k, true, W.eraseIdx k), rfl, rfl, fin2 (O := stO D (W.eraseIdx k) S) rfl rfl (leEv _ _)⟩)
    · rw [step_no (.inr (.inr (.inr rfl))) c] at hv; subst hv
      exact ASpec.call (fail_no (atL D W S _) n c) (Les.refl _) (.inr ⟨(noEv, false), rfl, rfl, fin3 (O := stO D W S) rfl rfl (leEv _ _)⟩)
  · by_cases c : inR S n
    · obtain ⟨k, rfl, hk⟩ := inR_nat c
      rw [step_again h0 h1 h2 h3 h4 c] at hv; subst hv
      exact ASpec.call (St.again_spec (atL D W S _) k hk (ok.2.2.2.2.2.2 _ (St.getD_mem hk))) (Les.refl _) ⟨(S.getD k noEv, true), rfl, rfl, fin3 (O := stO D W S) rfl rfl (leEv _ _)⟩
    · rw [step_again_no h0 h1 h2 h3 h4 c] at hv; subst hv
      exact ASpec.call (St.again_no (atL D W S _) n c) (Les.refl _) ⟨(noEv, false), rfl, rfl, fin3 (O := stO D W S) rfl rfl (leEv _ _)⟩

theorem did_spec (h : At H p a b D W S) (ok : okSt D W S) (hW : W.length ≤ 1000) (d : Do) :
    ASpec Try.prog 54 [.ptr p 0, .agg (encDo d)] H (fun r H' => r = resV (stepM D W S d) ∧ H' = hSt H p a b D (stepM D W S d).2.2.1 (stepM D W S d).2.2.2) :=
  liftG h (did0 ok hW d rfl) rfl rfl (gS h)

end

/-! ### the document's -/
section
variable {H : List AObj} {p a b : Nat} {D : List Ent} {W : List T.Item} {S : List Ev}
open Sx (At liftG gSame gW gS atL hWt hSt)
open St (okSt rep rightM)

theorem xtake_spec (h : At H p a b D W S) (t : Int) (n : List UInt8) (hW : W.length ≤ 100000) :
    ASpec Try.prog 175 [.ptr p 0, St.slA [(1, t, n)]] H (fun v H' => v = .int .i64 1 ∧ H' = hWt H p a b D (W ++ [(t, n)]) S) := by
  have k0 : ASpec Try.prog 175 [.ptr 0 0, St.slA [(1, t, n)]] (HXr D W S) (fun v H' => v = .int .i64 1 ∧ H' = HXr2 D (W ++ [(t, n)]) S) := by
    refine Sx.s175 _ _ _ _ _ ?_
    refine AWP.shapeM [0, 1, 2, 1] [false, true, false, false] [(0, .ptr 0 0), (1, St.slA [(1, t, n)]), (5, .int .i64 0), (6, .int .i64 0)] (HXr2 D W S) ⟨by decide, rfl, rfl, by decide, fun j hj => ?_, fun j hj => ?_⟩
      ⟨rfl, Le.refl _, rfl, Le.refl _, rfl, Le.refl _, rfl, Le.refl _, trivial⟩ ?_
    · match j, hj with
      | 0, _ | 1, _ | 2, _ => rfl
    · match j, hj with
      | 0, _ | 2, _ | 3, _ => exact .inl rfl
      | 1, _ => exact .inr rfl
    refine Sx.v175_3 _ _ _ _ _ _ _ _ (condD (fun _ => needJ ⟨by omega, by simp⟩ (condE (fun _ => needJ ⟨by omega, by simp⟩ (needJ ⟨by omega, by simp⟩ (needJ (by omega) ?_))) fun h => absurd rfl h)) fun h => by simp at h)
    refine AWP.re (ReSt.leCell (id := 0) (cs' := [.sl 2 (.map encEn ([], []) D) .none, .sl 2 (.map encIt (0, []) (W ++ [(t, n)])) (.tok 4), .sl 5 (.map encE noEv S) (.tok 2)]) rfl ⟨Le.refl _, leAppE (Les.refl _), Le.refl _, trivial⟩) ?_
    refine AWP.shape [0, 1, 2, 4] [(0, .ptr 0 0), (1, St.slA [(1, t, n)]), (5, .int .i64 1), (6, .int .i64 1)] (HXr2 D (W ++ [(t, n)]) S) ⟨by decide, rfl, by decide, fun j hj => ?_, fun j hj => ?_⟩
      ⟨rfl, Le.refl _, rfl, Le.refl _, rfl, Le.refl _, rfl, Le.refl _, trivial⟩ (Sx.v175_3 _ _ _ _ _ _ _ _ (condD (fun h => by simp at h) fun _ => ⟨rfl, rfl⟩))
    · match j, hj with
      | 0, _ | 1, _ | 2, _ => rfl
    · match j, hj with
      | 0, _ | 1, _ | 2, _ | 3, _ => exact .inl rfl
  exact liftG h k0 rfl rfl (gW h)

theorem xagain_spec (k : Nat) (hk : k < S.length) (H : List AObj) : ASpec Try.prog 180 [.agg (encX D W S), .int .i64 k] H (fun r H' => r = .tup [.agg (encE (S.getD k noEv)), .bool true] ∧ H' = H) := by
  have k0 : ASpec Try.prog 180 [.agg (encX D W S), .int .i64 k] [] (fun r H' => r = .tup [.agg (encE (S.getD k noEv)), .bool true] ∧ H' = []) := by
    refine ASpec.sel (Sx.s180 _ _ _ _ _ (condD (fun _ => by omega) fun _ => condD (fun _ => by omega) fun _ => needJ ⟨by omega, by omega⟩ ?_))
    rw [Int.toNat_natCast]
    exact Dp.pa (Le.refl _)
  exact ASpec.pureH H k0 _ _ rfl rfl

theorem xagain_no (k : Int) (hk : ¬ inR S k) (H : List AObj) : ASpec Try.prog 180 [.agg (encX D W S), .int .i64 k] H (fun r H' => r = .tup [.agg (encE noEv), .bool false] ∧ H' = H) := by
  have k0 : ASpec Try.prog 180 [.agg (encX D W S), .int .i64 k] [] (fun r H' => r = .tup [.agg (encE noEv), .bool false] ∧ H' = []) :=
    ASpec.sel (Sx.s180 _ _ _ _ _ (condD (fun _ => Dp.pa (leE0 false _)) fun h1 => condD (fun _ => Dp.pa (leE0 false _)) fun h2 => absurd ⟨by omega, by omega⟩ hk))
  exact ASpec.pureH H k0 _ _ rfl rfl

theorem xwaits_spec (k : Int) (H : List AObj) : ASpec Try.prog 56 [.agg (encX D W S), .int .i64 k] H (fun r H' => r = waitV W k ∧ H' = H) := by
  have k0 : ASpec Try.prog 56 [.agg (encX D W S), .int .i64 k] [] (fun r H' => r = waitV W k ∧ H' = []) := by
    have hno : ¬ inR W k → Dp.PA (waitV W k) (.tup [.int .i64 0, .str ⟨#[]⟩, .bool false]) [.cells (encX D W S)] := fun h => by
      rw [waitV, waitM, if_neg h]; exact Dp.pa (Le.refl _)
    refine ASpec.sel (Sx.s56 _ _ _ _ _ (condD (fun h => hno (fun c => by have := c.1; omega)) fun h1 => condD (fun h => hno (fun c => by have := c.2; omega)) fun h2 => ?_))
    have h : inR W k := ⟨by omega, by omega⟩
    refine needJ h (needJ h ⟨⟨rfl, rfl⟩, ⟨rfl, rfl⟩, ?_⟩)
    rw [waitV, waitM, if_pos h]
    exact Dp.pa (Le.refl _)
  exact ASpec.pureH H k0 _ _ rfl rfl

theorem xbad_spec (h : At H p a b D W S) (ok : okSt D W S) (k : Nat) (t : Int) (y : UInt8) (hk : k < W.length) :
    ASpec Try.prog 177 [.ptr p 0, .int .i64 k, .int .i64 t, .int .u8 (y.toNat : Int)] H (fun r H' => r = .tup [.agg (encE (rep W k (St.badM (rightM D (W.getD k (0, [])).2) t y))), .bool true] ∧ H' = hSt H p a b D (W.eraseIdx k) (S ++ [rep W k (St.badM (rightM D (W.getD k (0, [])).2) t y)])) := by
  have hf := ok.2.2.2.2.1 _ (St.getD_mem (d := (0, [])) hk)
  have hb := St.body_ok ok (W.getD k (0, [])).2
  have hp := St.pack_pos _ _ hf hb
  have hr := Sx.reply_spec ok (W.getD k (0, [])) hf
  have k0 : ASpec Try.prog 177 [.ptr 0 0, .int .i64 k, .int .i64 t, .int .u8 (y.toNat : Int)] (HXr D W S) (fun r H' => r = .tup [.agg (encE (rep W k (St.badM (rightM D (W.getD k (0, [])).2) t y))), .bool true] ∧ H' = [xO D (W.eraseIdx k) (S ++ [rep W k (St.badM (rightM D (W.getD k (0, [])).2) t y)]) 3 4, .gone, .gone, .tok, .tok]) := by
    refine ASpec.sel (Sx.s177 _ _ _ _ _ _ _ (condD (fun _ => by omega) fun _ => condD (fun _ => by omega) fun _ => needJ ⟨by omega, by omega⟩ ?_))
    rw [Int.toNat_natCast]
    refine ASpec.call (hr _) ⟨Le.agg Sx.leX, Le.refl _, trivial⟩ ⟨B (rightM D (W.getD k (0, [])).2), rfl, rfl, ?_⟩
    clear hr
    have hbd : St.badM (rightM D (W.getD k (0, [])).2) t y = (rightM D (W.getD k (0, [])).2).set (St.idxM (rightM D (W.getD k (0, [])).2) t) (UInt8.ofNat (((rightM D (W.getD k (0, [])).2).getD (St.idxM (rightM D (W.getD k (0, [])).2) t) 0).toNat + max y.toNat 1)) := rfl
    generalize hxd : St.badM (rightM D (W.getD k (0, [])).2) t y = xb at hbd ⊢
    change 0 < (rightM D (W.getD k (0, [])).2).length at hp
    generalize rightM D (W.getD k (0, [])).2 = x at hp hbd ⊢
    have hm : (if (0 : Int) > t then (0 : Int) else t) = ((t.toNat : Nat) : Int) := by split <;> omega
    have hmod : Int.tmod (if (0 : Int) > t then (0 : Int) else t) (x.length : Int) = ((St.idxM x t : Nat) : Int) := by rw [hm, tmodN]; rfl
    have hix : St.idxM x t < x.length := Nat.mod_lt _ hp
    have hsl : (bytesSeq (B x)).len = x.length := by rw [Seq.len_eq, bytesSeq_toList]; simp
    rw [B_size]
    refine condD (fun _ => needJ (by omega) ?_) fun h => by omega
    rw [hmod]
    simp only [Int.toNat_natCast, Nat.zero_add]
    refine needJ ⟨by omega, by omega⟩ (needJ (by rw [hsl]; exact hix) (needJ ⟨by omega, by omega⟩ (needJ (by rw [hsl]; exact hix) ?_)))
    refine AWP.re (ReSt.freeze (id := 4) (sz := 1) (q := .raw ((x.map encB).set (St.idxM x t) [.int .u8 (IntKind.wrap .u8 (((x.getD (St.idxM x t) 0).toNat : Int) + if (1 : Int) > (y.toNat : Int) then (1 : Int) else (y.toNat : Int)))]))
      (s2 := [(0, .ptr 0 0), (1, .int .i64 k), (8, .ptr 3 0), (10, .sl 1 (.map encB 0 xb) .none)]) ?_ (by simp) (fun d => ?_)) ?_
    · have hen : Seq.getD (bytesSeq (B x)) (St.idxM x t) = encB (x.getD (St.idxM x t) 0) := rfl
      rw [hen]; rfl
    · by_cases e : d = 10
      · subst e
        right; right
        refine ⟨0, x.length, .map encB 0 xb, rfl, by simp [Ab.Seq.toList], rfl, ?_⟩
        have hz : (((x.getD (St.idxM x t) 0).toNat : Int) + if (1 : Int) > (y.toNat : Int) then (1 : Int) else (y.toNat : Int)) = (((x.getD (St.idxM x t) 0).toNat + max y.toNat 1 : Nat) : Int) := by split <;> omega
        rw [hz, wrapU8N, encB_mod, hbd]
        simp only [Ab.Seq.toList, Nat.zero_add, List.drop_zero]
        rw [List.take_of_length_le (by simp), List.map_set]
      · left
        have : Nat.beq 10 d = false := by
          cases hx : Nat.beq 10 d with
          | false => rfl
          | true => exact absurd (Nat.eq_of_beq_eq_true hx).symm e
        simp only [Ab.get, this]; rfl
    · refine AWP.shape [0, 1, 2, 3] [(0, .ptr 0 0), (1, .int .i64 k), (8, .ptr 3 0), (10, .sl 1 (.map encB 0 xb) .none)] (HXr D W S ++ [.cells [.int .i64 0, .sl 0 (.raw []) .nil, .int .i64 0, .int .i64 0, .sl 0 (.raw []) .nil]])
        ⟨by decide, rfl, by show 3 ≤ 4; omega, fun j hj => ?_, fun j hj => ?_⟩ ⟨rfl, Le.refl _, rfl, Le.refl _, rfl, Le.refl _, rfl, Le.refl _, trivial⟩ ?_
      · match j, hj with
        | 0, _ | 1, _ | 2, _ => rfl
      · match j, hj with
        | 0, _ | 1, _ | 2, _ | 3, _ => exact .inl rfl
      · refine Sx.v177_7 _ _ _ _ _ _ _ (needJ (allBytes_map _) ?_)
        rw [bytesOf_map]
        exact ASpec.call (Sx.send_spec (atL D W S _) k _ hk ok.2.2.2.1 ok.2.2.2.2.2.1) (Les.refl _) ⟨(rep W k xb, true, W.eraseIdx k, S ++ [rep W k xb]), rfl, rfl, Sx.sent5 (R := []) rfl⟩
  exact liftG h k0 rfl rfl (gS h)

theorem does0 (ok : okSt D W S) (hW : W.length ≤ 1000) (d : Do) {v : Res} (hv : stepM D W S d = v) :
    ASpec Try.prog 55 [.ptr 0 0, .agg (encDo d)] (HXr D W S) (fun r H' => r = resV v ∧ H' = [xO D v.2.2.1 v.2.2.2 3 4, .gone, .gone, .tok, .tok]) := by
  obtain ⟨kd, n, t, y, nm⟩ := d
  refine ASpec.selM (Sx.s55 _ _ _ _ _ _ _ _ _ (condE (fun h0 => ?_) fun h0 => condE (fun h1 => ?_) fun h1 => condE (fun h2 => ?_) fun h2 => condE (fun h3 => ?_) fun h3 => condE (fun h4 => ?_) fun h4 => ?_))
  · subst h0; rw [step_take] at hv; subst hv
    exact ASpec.call (xtake_spec (atL D W S _) n nm (by omega)) ⟨Le.refl _, St.leA [(1, n, nm)] rfl, trivial⟩ ⟨((1 : Int), W ++ [(n, nm)]), rfl, rfl, fin2 (O := xO D (W ++ [(n, nm)]) S) rfl rfl (leE0 true)⟩
  · subst h1
    by_cases c : inR W n
    · obtain ⟨k, rfl, hk⟩ := inR_nat c
      rw [step_good c] at hv; subst hv
      exact ASpec.call (Sx.good_spec (atL D W S _) ok k hk) (Les.refl _) (.inl ⟨sentR W S k (rightM D (W.getD k (0, [])).2), rfl, rfl, fin1 (O := xO D (W.eraseIdx k) _) rfl rfl (leEv _ _)⟩)
    · rw [step_no (.inl rfl) c] at hv; subst hv
      exact ASpec.call (Sx.good_no (atL D W S _) n c) (Les.refl _) (.inr ⟨(noEv, false), rfl, rfl, fin3 (O := xO D W S) rfl rfl (leEv _ _)⟩)
  · subst h2
    by_cases c : inR W n
    · obtain ⟨k, rfl, hk⟩ := inR_nat c
      rw [step_bad c] at hv; subst hv
      exact ASpec.call (xbad_spec (atL D W S _) ok k t y hk) (Les.refl _) (.inl ⟨sentR W S k (St.badM (rightM D (W.getD k (0, [])).2) t y), rfl, rfl, fin1 (O := xO D (W.eraseIdx k) _) rfl rfl (leEv _ _)⟩)
    · rw [step_no (.inr (.inl rfl)) c] at hv; subst hv
      exact ASpec.call (Sx.bad_no (atL D W S _) n t y c) (Les.refl _) (.inr ⟨(noEv, false), rfl, rfl, fin3 (O := xO D W S) rfl rfl (leEv _ _)⟩)
  · subst h3
    by_cases c : inR W n
    · obtain ⟨k, rfl, hk⟩ := inR_nat c
      rw [step_mixed c] at hv; subst hv
      obtain ⟨j1, j2⟩ := mixJ (t := t) hk
      exact ASpec.call (Sx.mixed_spec (atL D W S _) ok k t _ hk j1 j2) (Les.refl _) (.inl ⟨sentR W S k (rightM D (W.getD (if inR W t then t.toNat else k) (0, [])).2), rfl, rfl, fin1 (O := xO D (W.eraseIdx k) _) rfl rfl (leEv _ _)⟩)
    · rw [step_no (.inr (.inr (.inl rfl))) c] at hv; subst hv
      exact ASpec.call (Sx.mixed_no (atL D W S _) n t c) (Les.refl _) (.inr ⟨(noEv, false), rfl, rfl, fin3 (O := xO D W S) rfl rfl (leEv _ _)⟩)
  · subst h4
    by_cases c : inR W n
    · obtain ⟨k, rfl, hk⟩ := inR_nat c
      rw [step_fail c] at hv; subst hv
      exact ASpec.call (Sx.fail_spec (atL D W S _) ok k hk) (Les.refl _) (.inl ⟨(Sx.failE W k, true, W.eraseIdx k), rfl, rfl, fin2 (O := xO D (W.eraseIdx k) S) rfl rfl (leEv _ _)⟩)
    · rw [step_no (.inr (.inr (.inr rfl))) c] at hv; subst hv
      exact ASpec.call (Sx.fail_no (atL D W S _) n c) (Les.refl _) (.inr ⟨(noEv, false), rfl, rfl, fin3 (O := xO D W S) rfl rfl (leEv _ _)⟩)
  · by_cases c : inR S n
    · obtain ⟨k, rfl, hk⟩ := inR_nat c
      rw [step_again h0 h1 h2 h3 h4 c] at hv; subst hv
      exact ASpec.call (xagain_spec (D := D) (W := W) k hk _) ⟨Le.agg Sx.leX, Le.refl _, trivial⟩ ⟨(S.getD k noEv, true), rfl, rfl, fin3 (O := xO D W S) rfl rfl (leEv _ _)⟩
    · rw [step_again_no h0 h1 h2 h3 h4 c] at hv; subst hv
      exact ASpec.call (xagain_no (D := D) (W := W) n c _) ⟨Le.agg Sx.leX, Le.refl _, trivial⟩ ⟨(noEv, false), rfl, rfl, fin3 (O := xO D W S) rfl rfl (leEv _ _)⟩

theorem does_spec (h : At H p a b D W S) (ok : okSt D W S) (hW : W.length ≤ 1000) (d : Do) :
    ASpec Try.prog 55 [.ptr p 0, .agg (encDo d)] H (fun r H' => r = resV (stepM D W S d) ∧ H' = hSt H p a b D (stepM D W S d).2.2.1 (stepM D W S d).2.2.2) :=
  liftG h (does0 ok hW d rfl) rfl rfl (gS h)

end
end Sy
end

section
/- StandPlays: whatever is taken, replied and sent again, each event, and what waits, is the document's: the law's function returns true. -/

set_option linter.unusedVariables false
set_option linter.unusedSimpArgs false
set_option maxRecDepth 100000
open Go Go.Ab Go.Proofs V S T C
open W (sl1 slS slN slR)
open Dp (slEn okD Sorted bodyM)
namespace Sl
open St (okSt rep rightM PT pt awake_spec)
open Sy (stepM resV did_spec does_spec waits_spec xwaits_spec waitM inR sentR)

noncomputable abbrev slD (m : List Do) : AV := .sl 5 (.map encDo noDo m) .none

/-! ### no stand at all -/

theorem nlen (H : List AObj) : ASpec Try.prog 49 [.nilp] H (fun r H' => r = .int .i64 0 ∧ H' = H) := ASpec.pureH H (Sn.s49 _ ⟨rfl, rfl⟩) _ _ rfl rfl
theorem nhas (k : Int) (H : List AObj) : ASpec Try.prog 167 [.nilp, .int .i64 k] H (fun r H' => r = .bool false ∧ H' = H) := by
  have k0 : ASpec Try.prog 167 [.nilp, .int .i64 k] [] (fun r H' => r = .bool false ∧ H' = []) :=
    Sn.s167 _ _ (condD (fun h => ASpec.call (nlen _) (Les.refl _) ⟨_, rfl, rfl, by rw [decide_eq_false (by omega)], rfl⟩) fun _ => ⟨rfl, rfl⟩)
  exact ASpec.pureH H k0 _ _ rfl rfl

noncomputable abbrev zV : AV := .tup [.agg (encE noEv), .bool false]
theorem zp {H' : List AObj} : Dp.PA zV (.tup [.agg [.int .i64 0, .sl 0 (.raw []) .nil, .int .i64 0, .int .i64 0, .sl 0 (.raw []) .nil], .bool false]) H' := Dp.pa (Sy.leE0 false _)

theorem ngood (k : Int) : ASpec Try.prog 43 [.nilp, .int .i64 k] [] (fun r H' => r = zV ∧ H' = []) :=
  ASpec.sel (Sn.s43 _ _ (ASpec.call (nhas k _) (Les.refl _) ⟨_, rfl, rfl, condBn (fun _ => zp) fun h => by cases h⟩))
theorem nbad (k a y : Int) : ASpec Try.prog 44 [.nilp, .int .i64 k, .int .i64 a, .int .u8 y] [] (fun r H' => r = zV ∧ H' = []) :=
  ASpec.sel (Sn.s44 _ _ _ _ (ASpec.call (nhas k _) (Les.refl _) ⟨_, rfl, rfl, condBn (fun _ => zp) fun h => by cases h⟩))
theorem nmixed (k o : Int) : ASpec Try.prog 51 [.nilp, .int .i64 k, .int .i64 o] [] (fun r H' => r = zV ∧ H' = []) :=
  ASpec.sel (Sn.s51 _ _ _ (ASpec.call (nhas k _) (Les.refl _) ⟨_, rfl, rfl, condBn (fun _ => zp) fun h => by cases h⟩))
theorem nfail (k : Int) : ASpec Try.prog 52 [.nilp, .int .i64 k] [] (fun r H' => r = zV ∧ H' = []) :=
  ASpec.sel (Sn.s52 _ _ (ASpec.call (nhas k _) (Les.refl _) ⟨_, rfl, rfl, condBn (fun _ => zp) fun h => by cases h⟩))
theorem nagain (k : Int) : ASpec Try.prog 46 [.nilp, .int .i64 k] [] (fun r H' => r = zV ∧ H' = []) := ASpec.sel (Sn.s46 _ _ zp)
theorem nwaits (k : Int) : ASpec Try.prog 53 [.nilp, .int .i64 k] [] (fun r H' => r = .tup [.int .i64 0, .str (B []), .bool false] ∧ H' = []) :=
  Sn.s53 _ _ (ASpec.call (nhas k _) (Les.refl _) ⟨_, rfl, rfl, condBn (fun _ => ⟨rfl, rfl⟩) fun h => by cases h⟩)
theorem ntake : ASpec Try.prog 42 [.nilp, St.slA [(1, 0, [])]] [] (fun r H' => r = .int .i64 0 ∧ H' = []) := by
  refine Sn.s42 _ _ (Sn.v42_3 _ _ _ _ _ _ (condD (fun _ => needJ ⟨by omega, by simp⟩ ?_) fun h => by simp at h))
  refine AWP.shape [] [(0, .nilp), (5, .int .i64 0), (8, St.slA [(1, 0, [])]), (9, .int .i64 1), (10, .int .i64 1)] [] Sel.none ⟨rfl, Le.refl _, rfl, Le.refl _, rfl, Le.refl _, rfl, Le.refl _, rfl, Le.refl _, trivial⟩ ?_
  exact Sn.v42_3 _ _ _ _ _ _ (condD (fun h => by simp at h) fun _ => ⟨rfl, rfl⟩)

/-! ### more than is looked at -/

def skipF : List Do → Bool
  | [] => false
  | x :: r => if 60 < x.2.2.2.2.length then true else skipF r
def skipM (l : List Do) : Bool := if 100 < l.length then true else skipF l

theorem skip4 {l : List Do} {c : Bool} (hl : l.length ≤ 100) : ∀ (m i : Nat), m + i = l.length → skipF (l.drop i) = c →
    AWP Try.prog 20 0 Sy.c50_4 [(0, slD l), (3, .int .i64 i)] [] (Sy.q50_2 0 (fun r H' => r = .bool c ∧ H' = [])) := by
  intro m
  induction m with
  | zero =>
    intro i hm h
    refine Sy.v50_4 _ _ _ _ (condD (fun hc => by omega) fun _ => ?_)
    rw [List.drop_eq_nil_of_le (by omega)] at h
    exact ⟨by rw [← h]; rfl, rfl⟩
  | succ m ih =>
    intro i hm h
    rw [dropD l noDo i (by omega)] at h
    simp only [skipF] at h
    refine Sy.v50_4 _ _ _ _ (condD (fun hc => needJ ⟨by omega, by omega⟩ ?_) fun hc => by omega)
    rw [Int.toNat_natCast]
    generalize l.getD i noDo = x at h ⊢
    rw [B_size]
    refine condD (fun h1 => ?_) fun h1 => ?_
    · rw [if_pos (by omega)] at h; exact ⟨by rw [← h], rfl⟩
    · rw [if_neg (by omega)] at h
      rw [succ64 (by omega)]
      exact ih (i + 1) (by omega) h

theorem skip_spec (l : List Do) (H : List AObj) : ASpec Try.prog 50 [slD l] H (fun r H' => r = .bool (skipM l) ∧ H' = H) := by
  have k : ASpec Try.prog 50 [slD l] [] (fun r H' => r = .bool (skipM l) ∧ H' = []) := by
    refine Sy.s50 _ _ (condD (fun h => ⟨?_, rfl⟩) fun h => skip4 (by omega) l.length 0 (by omega) ?_)
    · rw [skipM, if_pos (by omega)]
    · rw [skipM, if_neg (by omega)]; rfl
  exact ASpec.pureH H k _ _ rfl rfl

theorem skipF_ok : ∀ (l : List Do), skipF l = false → ∀ x ∈ l, x.2.2.2.2.length ≤ 60
  | [], _, n, hn => by simp at hn
  | x :: r, h, n, hn => by
    simp only [skipF] at h
    split at h
    · cases h
    · rcases List.mem_cons.1 hn with rfl | hn
      · omega
      · exact skipF_ok r h n hn

/-! ### what stays so -/
section
variable {D : List Ent} {W : List T.Item} {S : List Ev}

def Inv (D : List Ent) (i : Nat) (W : List T.Item) (S : List Ev) : Prop := okSt D W S ∧ W.length ≤ i ∧ S.length ≤ i ∧ ∀ e ∈ S, e.2.1 = []

theorem inv_sent {i k : Nat} (h : Inv D i W S) (hi : i ≤ 1000) {x : List UInt8} (hx : x.length ≤ lim) : Inv D (i + 1) (W.eraseIdx k) (S ++ [rep W k x]) := by
  obtain ⟨⟨o1, o2, o3, o4, o5, o6, o7⟩, hW, hS, hn⟩ := h
  have hl : (W.eraseIdx k).length ≤ W.length := by rw [List.length_eraseIdx]; split <;> omega
  refine ⟨⟨o1, o2, o3, by omega, fun x hx => o5 x (List.mem_of_mem_eraseIdx hx), by unfold lim; simp; omega, fun e he => ?_⟩, by omega, by simp; omega, fun e he => ?_⟩
  · rcases List.mem_append.1 he with he | he
    · exact o7 e he
    · simp only [List.mem_singleton] at he; subst he; exact hx
  · rcases List.mem_append.1 he with he | he
    · exact hn e he
    · simp only [List.mem_singleton] at he; subst he; rfl

theorem inv_same {i : Nat} (h : Inv D i W S) : Inv D (i + 1) W S := ⟨h.1, by have := h.2.1; omega, by have := h.2.2.1; omega, h.2.2.2⟩

theorem step_inv {i : Nat} (h : Inv D i W S) (hi : i ≤ 1000) (d : Do) (hf : d.1 = 0 → fitM d.2.2.2.2 = true) :
    Inv D (i + 1) (stepM D W S d).2.2.1 (stepM D W S d).2.2.2 ∧ (stepM D W S d).1.2.1 = [] := by
  have h' := h
  obtain ⟨⟨o1, o2, o3, o4, o5, o6, o7⟩, hW, hS, hn⟩ := h'
  have hp : ∀ k, k < W.length → (rightM D (W.getD k (0, [])).2).length ≤ lim := fun k hk =>
    St.pack_len _ _ (fitM_short (o5 _ (St.getD_mem (d := (0, [])) hk))) (St.body_ok h.1 _)
  unfold stepM
  split
  · rename_i h0
    refine ⟨⟨⟨o1, o2, o3, by unfold lim; simp; omega, fun x hx => ?_, o6, o7⟩, by simp; omega, by show S.length ≤ i + 1; omega, hn⟩, rfl⟩
    rcases List.mem_append.1 hx with hx | hx
    · exact o5 x hx
    · simp only [List.mem_singleton] at hx; subst hx; exact hf h0
  · split
    · split
      · rename_i c
        obtain ⟨k, hk, hk2⟩ := Sy.inR_nat c
        refine ⟨inv_same h, ?_⟩
        rw [hk, Int.toNat_natCast]
        exact hn _ (St.getD_mem hk2)
      · exact ⟨inv_same h, rfl⟩
    · split
      · rename_i c
        obtain ⟨k, hk, hk2⟩ := Sy.inR_nat c
        rw [hk, Int.toNat_natCast]
        split
        · exact ⟨inv_sent h hi (hp k hk2), rfl⟩
        · split
          · exact ⟨inv_sent h hi (by rw [St.badM_len]; exact hp k hk2), rfl⟩
          · split
            · exact ⟨inv_sent h hi (hp _ (Sy.mixJ (t := d.2.2.1) hk2).1), rfl⟩
            · have hl : (W.eraseIdx k).length ≤ W.length := by rw [List.length_eraseIdx]; split <;> omega
              exact ⟨⟨⟨o1, o2, o3, by show (W.eraseIdx k).length ≤ lim; omega, fun x hx => o5 x (List.mem_of_mem_eraseIdx hx), o6, o7⟩, by show (W.eraseIdx k).length ≤ i + 1; omega, by show S.length ≤ i + 1; omega, hn⟩, rfl⟩
      · exact ⟨inv_same h, rfl⟩

/-! ### the law -/

theorem law23 {m : List Do} {i : Nat} {e : Ev} {c : Bool} {t : Int} {n : List UInt8} {w : Bool} (he : e.2.1 = []) (hi : i ≤ 1000)
    (hnext : AWP Try.prog 215 0 c6_16 [(1, slD m), (5, .ptr 0 0), (19, .ptr 3 0), (20, .int .i64 (i + 1 : Nat))] (HL D W S W S) (q6_3 0 PT)) :
    AWP Try.prog 215 0 c6_23 [(1, slD m), (5, .ptr 0 0), (19, .ptr 3 0), (20, .int .i64 i), (21, .ptr 6 0), (22, .bool c), (23, .ptr 7 0), (24, .bool c), (25, .int .i64 t), (26, .str (B n)), (27, .bool w), (28, .int .i64 t), (29, .str (B n)), (30, .bool w)]
      (HL D W S W S ++ [.cells (encE e), .cells (encE e)]) (q6_6 0 PT) := by
  refine v6_23 _ _ _ _ _ _ _ _ _ _ _ _ _ _ _ _ _ (ASpec.call (St.rsame_spec e e (by rw [he]; exact ⟨by unfold lim; simp, fun n hn => by simp at hn⟩) _) (Les.refl _) ⟨_, rfl, rfl, condBn (fun h => by simp at h) fun _ => condBn (fun h => by simp at h) fun _ => condNe (fun h => absurd rfl h) fun _ =>
    condBn (fun h => Bool.noConfusion ((St.beqS n).symm.trans h)) fun _ => condBn (fun h => by simp at h) fun _ => ?_⟩)
  refine ASpec.call (St.len_spec (St.atL D W S _)) (Les.refl _) ⟨_, rfl, rfl, ⟨rfl, rfl⟩, ⟨rfl, rfl⟩, condNe (fun h => absurd rfl h) fun _ => ?_⟩
  rw [succ64 (by omega)]
  refine AWP.shape [0, 1, 2, 3, 4, 5] [(1, slD m), (5, .ptr 0 0), (19, .ptr 3 0), (20, .int .i64 (i + 1 : Nat))] (HL D W S W S) ⟨by decide, rfl, by omega, fun j hj => by omega, fun j hj => ?_⟩
    ⟨rfl, Le.refl _, rfl, Le.refl _, rfl, Le.refl _, rfl, Le.refl _, trivial⟩ hnext
  match j, hj with
  | 0, _ | 1, _ | 2, _ | 3, _ | 4, _ | 5, _ => exact .inl rfl

theorem law20 {m : List Do} {i : Nat} (hin : i < m.length) (h : Inv D i W S) (hi : i ≤ 1000) (hf : (m.getD i noDo).1 = 0 → fitM (m.getD i noDo).2.2.2.2 = true)
    (hnext : AWP Try.prog 215 0 c6_16 [(1, slD m), (5, .ptr 0 0), (19, .ptr 3 0), (20, .int .i64 (i + 1 : Nat))]
      (HL D (stepM D W S (m.getD i noDo)).2.2.1 (stepM D W S (m.getD i noDo)).2.2.2 (stepM D W S (m.getD i noDo)).2.2.1 (stepM D W S (m.getD i noDo)).2.2.2) (q6_3 0 PT)) :
    AWP Try.prog 215 0 c6_20 [(1, slD m), (5, .ptr 0 0), (19, .ptr 3 0), (20, .int .i64 i), (21, .ptr 6 0), (22, .bool (stepM D W S (m.getD i noDo)).2.1)]
      (HL D (stepM D W S (m.getD i noDo)).2.2.1 (stepM D W S (m.getD i noDo)).2.2.2 W S ++ [.cells (encE (stepM D W S (m.getD i noDo)).1)]) (q6_6 0 PT) := by
  have hin' : (0 : Int) ≤ (i : Int) ∧ (i : Int) < (m.length : Int) := ⟨by omega, by omega⟩
  obtain ⟨hinv, hev⟩ := step_inv h hi _ hf
  refine v6_20 _ _ _ _ _ _ _ _ _ _ _ (needJ hin' ?_)
  rw [Int.toNat_natCast]
  have hd := does_spec (p := 3) (a := 4) (b := 5) (H := HL D (stepM D W S (m.getD i noDo)).2.2.1 (stepM D W S (m.getD i noDo)).2.2.2 W S ++ [.cells (encE (stepM D W S (m.getD i noDo)).1)]) (D := D) (W := W) (S := S)
    ⟨rfl, rfl, rfl, by decide, by decide, by decide⟩ h.1 (by have := h.2.1; omega) (m.getD i noDo)
  generalize m.getD i noDo = d at hd hinv hev hnext hf ⊢
  generalize stepM D W S d = v at hd hinv hev hnext ⊢
  refine ASpec.call hd (Les.refl _) ⟨v, rfl, rfl, ?_⟩
  refine AWP.shape [0, 1, 2, 3, 7, 8, 6, 9] [(1, slD m), (5, .ptr 0 0), (19, .ptr 3 0), (20, .int .i64 i), (21, .ptr 6 0), (22, .bool v.2.1), (23, .ptr 7 0), (24, .bool v.2.1)] (HL D v.2.2.1 v.2.2.2 v.2.2.1 v.2.2.2 ++ [.cells (encE v.1), .cells (encE v.1)])
    ⟨by decide, rfl, by omega, fun j hj => by omega, fun j hj => ?_⟩ ⟨rfl, Le.refl _, rfl, Le.refl _, rfl, Le.refl _, rfl, Le.refl _, rfl, Le.refl _, rfl, Le.refl _, rfl, Le.refl _, rfl, Le.refl _, trivial⟩ ?_
  · match j, hj with
    | 0, _ | 1, _ | 2, _ | 3, _ | 4, _ | 5, _ | 6, _ | 7, _ => exact .inl rfl
  refine v6_21 _ _ _ _ _ _ _ _ _ _ _ (needJ hin' ?_)
  refine ASpec.call (waits_spec (St.atL D v.2.2.1 v.2.2.2 _) _) (Les.refl _) ⟨waitM v.2.2.1 (m.getD (i : Int).toNat noDo).2.1, rfl, rfl, ?_⟩
  refine v6_22 _ _ _ _ _ _ _ _ _ _ _ _ _ _ (needJ hin' ?_)
  refine ASpec.call (xwaits_spec (D := D) (W := v.2.2.1) (S := v.2.2.2) (m.getD (i : Int).toNat noDo).2.1 _) ⟨Le.agg Sx.leX, Le.refl _, trivial⟩ ⟨waitM v.2.2.1 (m.getD (i : Int).toNat noDo).2.1, rfl, rfl, ?_⟩
  exact law23 hev hi hnext

theorem law16 {m : List Do} (hm : m.length ≤ 100) (hn : ∀ x ∈ m, x.2.2.2.2.length ≤ 60) : ∀ (j i : Nat) (W : List T.Item) (S : List Ev), j + i = m.length → Inv D i W S →
    AWP Try.prog 215 0 c6_16 [(1, slD m), (5, .ptr 0 0), (19, .ptr 3 0), (20, .int .i64 i)] (HL D W S W S) (q6_3 0 PT) := by
  intro j
  induction j with
  | zero =>
    intro i W S hm h
    exact v6_16 _ _ _ _ _ _ _ (condD (fun hc => by omega) fun _ => ASpec.call (awake_spec _) (Les.refl _) ⟨(), rfl, rfl, pt⟩)
  | succ j ih =>
    intro i W S hmj h
    have hin' : (0 : Int) ≤ (i : Int) ∧ (i : Int) < (m.length : Int) := ⟨by omega, by omega⟩
    have hmem := St.getD_mem (l := m) (d := noDo) (show i < m.length by omega)
    have hnm := hn _ hmem
    have hrun : ((m.getD i noDo).1 = 0 → fitM (m.getD i noDo).2.2.2.2 = true) → ASpec Try.prog 54 [.ptr 0 0, .agg (encDo (m.getD i noDo))] (HL D W S W S) (fun r H' => ∃ (x : T.Ev × Bool × List T.Item × List T.Ev), r = .tup [.agg (encE x.1), .bool x.2.1] ∧
        H' = [stO D x.2.2.1 x.2.2.2 6 7, .gone, .gone, xO D W S 4 5, .tok, .tok, .tok, .tok] ∧
        AWP Try.prog 215 0 c6_20 [(1, slD m), (5, .ptr 0 0), (19, .ptr 3 0), (20, .int .i64 i), (21, .ptr 8 0), (22, .bool x.2.1)] [stO D x.2.2.1 x.2.2.2 6 7, .gone, .gone, xO D W S 4 5, .tok, .tok, .tok, .tok, .cells (encE x.1)] (q6_6 0 PT)) := by
      intro hf
      have hinv := (step_inv h (by omega) (m.getD i noDo) hf).1
      refine ASpec.call (did_spec (p := 0) (a := 1) (b := 2) (H := HL D W S W S) (D := D) (W := W) (S := S) ⟨rfl, rfl, rfl, by decide, by decide, by decide⟩ h.1 (by have := h.2.1; omega) (m.getD i noDo)) (Les.refl _) ⟨stepM D W S (m.getD i noDo), rfl, rfl, ?_⟩
      refine AWP.shape [0, 6, 7, 3, 4, 5, 8] [(1, slD m), (5, .ptr 0 0), (19, .ptr 3 0), (20, .int .i64 i), (21, .ptr 6 0), (22, .bool (stepM D W S (m.getD i noDo)).2.1)]
        (HL D (stepM D W S (m.getD i noDo)).2.2.1 (stepM D W S (m.getD i noDo)).2.2.2 W S ++ [.cells (encE (stepM D W S (m.getD i noDo)).1)]) ⟨by decide, rfl, by omega, fun j hj => by omega, fun j hj => ?_⟩
        ⟨rfl, Le.refl _, rfl, Le.refl _, rfl, Le.refl _, rfl, Le.refl _, rfl, Le.refl _, rfl, Le.refl _, trivial⟩ (law20 (by omega) h (by omega) hf (ih (i + 1) _ _ (by omega) hinv))
      match j, hj with
      | 0, _ | 1, _ | 2, _ | 3, _ | 4, _ | 5, _ | 6, _ => exact .inl rfl
    refine v6_16 _ _ _ _ _ _ _ (condD (fun hc => needJ hin' ?_) fun hc => by omega)
    rw [Int.toNat_natCast]
    refine condE (fun h0 => needJ hin' ?_) fun h0 => needJ hin' ?_
    · refine ASpec.call (rfit_spec (l := (m.getD i noDo).2.2.2.2) (by unfold big; omega) _) (Les.refl _) ⟨_, rfl, rfl, condBn (fun _ => ?_) fun hf => needJ hin' ?_⟩
      · rw [succ64 (by omega)]
        exact ih (i + 1) W S (by omega) (inv_same h)
      · exact hrun fun _ => hf
    · exact hrun fun e => absurd e h0

theorem standPlays_spec (l : List Ent) (m : List Do) : ASpec Try.prog 6 [slEn l, slD m] [] (fun r H' => r = .bool true ∧ H' = []) := by
  have aw : ∀ H, ASpec Try.prog 40 [] H (fun r H' => ∃ (x : Unit), r = .bool true ∧ H' = H ∧ PT (.bool true) H) := fun H => ASpec.call (awake_spec H) (Les.refl _) ⟨(), rfl, rfl, pt⟩
  refine ASpec.sel (s6 _ _ _ (ASpec.call (Dp.largeD_spec l _) (Les.refl _) ⟨_, rfl, rfl, condB (fun _ => aw _) fun h => ?_⟩))
  have hl := Dp.largeD_ok h
  refine ASpec.call (skip_spec m _) (Les.refl _) ⟨_, rfl, rfl, condB (fun _ => aw _) fun hs => ?_⟩
  have hm : m.length ≤ 100 ∧ skipF m = false := by
    unfold skipM at hs
    split at hs
    · cases hs
    · exact ⟨by omega, hs⟩
  cases hd : Dp.depOk l with
  | true =>
    refine ASpec.call (St.new_spec l hl hd _) (Les.refl _) (.inl ⟨l, rfl, rfl, ?_⟩)
    refine ASpec.call (Dp.rcheck_spec l hl _) (Les.refl _) ⟨_, rfl, rfl, ?_⟩
    rw [hd]
    show AWP Try.prog 215 0 c6_16 _ _ _
    have ok : okSt l [] [] := St.okSt_of hd hl _ _ (by unfold lim; simp) (by simp) (by simp) (by simp)
    refine AWP.re (ReSt.tokCell (id := 3) (j := 1) (sz := 0) (q := .raw []) (tip := .nil) (cs := [.sl 2 (.map encEn ([], []) l) .none, .sl 0 (.raw []) .nil, .sl 0 (.raw []) .nil]) (q' := .map encIt (0, []) []) (sz' := 2) rfl rfl (.inl rfl) rfl (.inr rfl)) ?_
    refine AWP.re (ReSt.tokCell (id := 3) (j := 2) (sz := 0) (q := .raw []) (tip := .nil) (cs := [.sl 2 (.map encEn ([], []) l) .none, .sl 2 (.map encIt (0, []) []) (.tok 4), .sl 0 (.raw []) .nil]) (q' := .map encE noEv []) (sz' := 5) rfl rfl (.inl rfl) rfl (.inr rfl)) ?_
    exact law16 (D := l) hm.1 (skipF_ok m hm.2) m.length 0 [] [] (by omega) ⟨ok, by simp, by simp, by simp⟩
  | false =>
    refine ASpec.call (St.new_no l hl hd _) (Les.refl _) (.inr ⟨(), rfl, rfl, ?_⟩)
    refine ASpec.call (Dp.rcheck_spec l hl _) (Les.refl _) ⟨_, rfl, rfl, ?_⟩
    rw [hd]
    show ASpec Try.prog 43 _ _ _
    refine ASpec.call (ngood 0) (Les.refl _) (.inr ⟨(noEv, false), rfl, rfl, ?_⟩)
    refine AWP.shape [] [(5, .nilp), (7, .bool false)] [] Sel.none ⟨rfl, Le.refl _, rfl, Le.refl _, trivial⟩ (v6_8 _ _ _ ?_)
    refine ASpec.call (nbad 0 0 0) (Les.refl _) (.inr ⟨(noEv, false), rfl, rfl, ?_⟩)
    refine AWP.shape [] [(5, .nilp), (7, .bool false), (9, .bool false)] [] Sel.none ⟨rfl, Le.refl _, rfl, Le.refl _, rfl, Le.refl _, trivial⟩ (v6_9 _ _ _ _ ?_)
    refine ASpec.call (nmixed 0 0) (Les.refl _) (.inr ⟨(noEv, false), rfl, rfl, ?_⟩)
    refine AWP.shape [] [(5, .nilp), (7, .bool false), (9, .bool false), (11, .bool false)] [] Sel.none ⟨rfl, Le.refl _, rfl, Le.refl _, rfl, Le.refl _, rfl, Le.refl _, trivial⟩ (v6_10 _ _ _ _ _ ?_)
    refine ASpec.call (nfail 0) (Les.refl _) (.inr ⟨(noEv, false), rfl, rfl, ?_⟩)
    refine AWP.shape [] [(5, .nilp), (7, .bool false), (9, .bool false), (11, .bool false), (13, .bool false)] [] Sel.none ⟨rfl, Le.refl _, rfl, Le.refl _, rfl, Le.refl _, rfl, Le.refl _, rfl, Le.refl _, trivial⟩ (v6_11 _ _ _ _ _ _ ?_)
    refine ASpec.call (nagain 0) (Les.refl _) ⟨(noEv, false), rfl, rfl, ?_⟩
    refine AWP.shape [] [(5, .nilp), (7, .bool false), (9, .bool false), (11, .bool false), (13, .bool false), (15, .bool false)] [] Sel.none ⟨rfl, Le.refl _, rfl, Le.refl _, rfl, Le.refl _, rfl, Le.refl _, rfl, Le.refl _, rfl, Le.refl _, trivial⟩ (v6_12 _ _ _ _ _ _ _ ?_)
    refine ASpec.call (nwaits 0) (Les.refl _) ⟨((0 : Int), [], false), rfl, rfl, ?_⟩
    refine v6_13 _ _ _ _ _ _ _ _ (condBn (fun _ => condBn (fun _ => condBn (fun _ => condBn (fun _ => condBn (fun _ => condBn (fun _ => ?_) fun h => by cases h) fun h => by cases h) fun h => by cases h) fun h => by cases h) fun h => by cases h) fun h => by cases h)
    refine ASpec.call (nlen _) (Les.refl _) ⟨(0 : Int), rfl, rfl, ?_⟩
    refine ASpec.call ntake ⟨Le.refl _, St.leA [(1, 0, [])] rfl, trivial⟩ ⟨((0 : Int), []), rfl, rfl, condE (fun _ => aw _) fun h => absurd rfl h⟩

end
end Sl
end

section
/- The codecs of this seat's plain arguments. -/

open Go Go.Ab Go.Proofs
namespace Go.Ab

noncomputable def cInt : Codec Try.prog 3 Int := Codec.int .i64 Try.underlying3
noncomputable def cStr : Codec Try.prog 9 ByteArray := Codec.str Try.underlying9
noncomputable def cInts : Codec Try.prog 153 (List Int) := Codec.slice (sz := 1) cInt Try.underlying153 (by kernel_rfl) (by omega) (fun _ => rfl)
/-- a byte -/
noncomputable def cByte : Codec Try.prog 5 UInt8 where
  enc b := encB b
  ok _ := True
  dflt := 0
  opens := by
    intro H e w fuel cs x h
    obtain ⟨n, h1, h2⟩ := (Codec.int .u8 Try.underlying5).opens e w fuel cs x h
    have hn : 0 ≤ n ∧ n ≤ 255 := by simpa [Codec.int, Lit.wf, IntKind.min, IntKind.max, IntKind.signed, IntKind.bits] using h1
    refine ⟨UInt8.ofNat n.toNat, trivial, ?_⟩
    rw [← encB_ofNat hn.1 (by omega)]
    exact h2
noncomputable def cBytes : Codec Try.prog 23 (List UInt8) := Codec.slice (sz := 1) cByte Try.underlying23 (by kernel_rfl) (by omega) (fun _ => rfl)

end Go.Ab
end

section
/- The codecs of manifests. -/

open Go Go.Ab Go.Proofs
namespace Go.Ab

noncomputable def cName : Codec Try.prog 9 (List UInt8) := cStr.iso (fun s => s.data.toList) (fun l => [.str ⟨l.toArray⟩]) (fun _ => True) (fun _ => rfl) (fun _ _ => trivial)
end Go.Ab
end

section
/- The codecs of lists of entries and of manifests. -/

open Go Go.Ab Go.Proofs
namespace Go.Ab
noncomputable def cEnt : Codec Try.prog 163 T.Ent :=
  (Codec.struct (n := 2) Try.underlying163 (FC.cons (k := 1) (n := 1) cName rfl (by kernel_rfl) (FC.cons (k := 1) (n := 0) cBytes rfl (by kernel_rfl) FC.nil)) (by kernel_rfl)).iso (fun x => (x.1, x.2.1)) T.encEn (fun _ => True) (fun _ => rfl) (fun _ _ => trivial)
noncomputable def cEnts : Codec Try.prog 52 (List T.Ent) := Codec.slice (sz := 2) cEnt Try.underlying52 (by kernel_rfl) (by omega) (fun _ => rfl)
end Go.Ab
end

section
/- The codec of lists of what is done to a stand. -/

open Go Go.Ab Go.Proofs
namespace Go.Ab
noncomputable def cDo : Codec Try.prog 54 T.Do :=
  (Codec.struct (n := 5) Try.underlying54 (FC.cons (k := 1) (n := 4) cInt rfl (by kernel_rfl) (FC.cons (k := 1) (n := 3) cInt rfl (by kernel_rfl) (FC.cons (k := 1) (n := 2) cInt rfl (by kernel_rfl) (FC.cons (k := 1) (n := 1) cByte rfl (by kernel_rfl)
    (FC.cons (k := 1) (n := 0) cName rfl (by kernel_rfl) FC.nil))))) (by kernel_rfl)).iso (fun x => (x.1, x.2.1, x.2.2.1, x.2.2.2.1, x.2.2.2.2.1)) T.encDo (fun _ => True) (fun _ => rfl) (fun _ _ => trivial)
noncomputable def cDos : Codec Try.prog 77 (List T.Do) := Codec.slice (sz := 5) cDo Try.underlying77 (by kernel_rfl) (by omega) (fun _ => rfl)
end Go.Ab
end

section
/- What is asked of the program alone, once for all statements. -/

namespace Go.Proofs.Facts
open Go Go.Proofs
theorem andT {a b : Bool} (h : a = true) (k : b = true) : (a && b) = true := by rw [h, k]; rfl
theorem laid : laidOutB Try.prog = true := by kernel_rfl
theorem mapsRowed : Go.mapsRowed Try.prog = true := by kernel_rfl
theorem stops : (Try.prog.stops == []) = true := by kernel_rfl
theorem stopKnobs : (Try.prog.stopKnobs == []) = true := by kernel_rfl
theorem heard : Try.prog.stopsHeard = true := by kernel_rfl
theorem may : Try.prog.mayEnter = true := by kernel_rfl
theorem lifted : (false == Try.prog.liftsFinal) = true := by kernel_rfl
theorem plain : (true == Try.prog.plainKeys) = true := by kernel_rfl
theorem made : (Try.prog.make == some .cut) = true := by kernel_rfl
theorem own : ownKnob Try.prog.godebug = none := by kernel_rfl
end Go.Proofs.Facts
end
