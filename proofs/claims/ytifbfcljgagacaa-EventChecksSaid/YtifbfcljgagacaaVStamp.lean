/- Stamps: what the code and the document sum up, close and open. -/
import Derived.Test.YtifbfcljgagacaaVSeal
import Derived.Test.YtifbfcljgagacaaVDoc
set_option linter.unusedVariables false
set_option linter.unusedSimpArgs false
open Go Go.Ab Go.Proofs V
namespace Go.Ab

theorem Le.tup {l r : List AV} (h : Les l r) : Le (.tup l) (.tup r) := by
  intro M w loc v hv
  cases hv with
  | tup _ vs hs hr =>
    have hl := h.len
    exact .tup _ vs (by omega) fun i hi => h.get i (by omega) hi M w loc _ (hr i (by omega))

theorem Le.agg {l r : List AV} (h : Les l r) : Le (.agg l) (.agg r) := by
  intro M w loc v hv
  cases hv with
  | agg _ vs hs hr =>
    have hl := h.len
    exact .agg _ vs (by omega) fun i hi => h.get i (by omega) hi M w loc _ (hr i (by omega))

theorem wrapU32 {x : Int} : IntKind.wrap .u32 x = x % 4294967296 := by
  simp only [IntKind.wrap, IntKind.bits, IntKind.signed]
  have e : (2 : Int) ^ 32 = 4294967296 := by decide
  simp only [e, Bool.false_and]
  simp

theorem wrapU32N {n : Nat} (h : n < 4294967296) : IntKind.wrap .u32 (n : Int) = n := by
  rw [wrapU32]; omega

theorem wrapU8N (n : Nat) : IntKind.wrap .u8 (n : Int) = ((n % 256 : Nat) : Int) := by
  rw [wrapU8]; omega

theorem bvx {x c : Nat} (hx : x < 4294967296) (hc : c < 4294967296) : (BitVec.ofInt 32 (x : Int) ^^^ BitVec.ofInt 32 (c : Int)).toNat = x ^^^ c := by
  rw [BitVec.ofInt_natCast, BitVec.ofInt_natCast, BitVec.toNat_xor, BitVec.toNat_ofNat, BitVec.toNat_ofNat, Nat.mod_eq_of_lt (by simpa using hx), Nat.mod_eq_of_lt (by simpa using hc)]

theorem bvo {x c : Nat} (hx : x < 4294967296) (hc : c < 4294967296) : (BitVec.ofInt 32 (x : Int) ||| BitVec.ofInt 32 (c : Int)).toNat = x ||| c := by
  rw [BitVec.ofInt_natCast, BitVec.ofInt_natCast, BitVec.toNat_or, BitVec.toNat_ofNat, BitVec.toNat_ofNat, Nat.mod_eq_of_lt (by simpa using hx), Nat.mod_eq_of_lt (by simpa using hc)]

theorem fdivN (n k : Nat) : Int.fdiv (n : Int) (k : Int) = ((n / k : Nat) : Int) := by
  rw [Int.fdiv_eq_ediv_of_nonneg _ (by omega)]; simp

end Go.Ab
namespace S

def fnv : Nat → List UInt8 → Nat
  | n, [] => n
  | n, c :: l => fnv ((n ^^^ c.toNat) * 16777619 % 4294967296) l

theorem fnv_lt : ∀ (l : List UInt8) (n : Nat), n < 4294967296 → fnv n l < 4294967296
  | [], n, h => h
  | c :: l, n, h => fnv_lt l _ (Nat.mod_lt _ (by omega))

abbrev sum (l : List UInt8) : Nat := fnv 2166136261 l
theorem sum_lt (l : List UInt8) : sum l < 4294967296 := fnv_lt l _ (by omega)

def be4 (n : Nat) : List UInt8 := [UInt8.ofNat (n / 16777216), UInt8.ofNat (n / 65536), UInt8.ofNat (n / 256), UInt8.ofNat n]
def beV (l : List UInt8) : Nat := l.foldl (fun s c => s * 256 + c.toNat) 0
def sealM (l : List UInt8) : List UInt8 := l ++ be4 (sum l)
def openM (l : List UInt8) : List UInt8 × Bool :=
  if l.length < 4 then ([], false) else if sealM (l.take (l.length - 4)) = l then (l.take (l.length - 4), true) else ([], false)

theorem u8_ext {a b : UInt8} (h : a.toNat = b.toNat) : a = b := UInt8.toNat_inj.1 h

theorem be4_beV {q : List UInt8} (h : q.length = 4) : be4 (beV q) = q := by
  match q, h with
  | [a, b, c, d], _ =>
    have ha := a.toNat_lt; have hb := b.toNat_lt; have hc := c.toNat_lt; have hd := d.toNat_lt
    simp only [beV, be4, List.foldl]
    refine List.cons_eq_cons.2 ⟨u8_ext ?_, List.cons_eq_cons.2 ⟨u8_ext ?_, List.cons_eq_cons.2 ⟨u8_ext ?_, List.cons_eq_cons.2 ⟨u8_ext ?_, rfl⟩⟩⟩⟩ <;> (rw [UInt8.toNat_ofNat']; omega)

theorem beV_be4 {v : Nat} (h : v < 4294967296) : beV (be4 v) = v := by
  simp only [beV, be4, List.foldl, UInt8.toNat_ofNat']
  omega

theorem seal_iff {l : List UInt8} (h : 4 ≤ l.length) : sealM (l.take (l.length - 4)) = l ↔ sum (l.take (l.length - 4)) = beV (l.drop (l.length - 4)) := by
  have hd : (l.drop (l.length - 4)).length = 4 := by simp; omega
  constructor
  · intro e
    have : be4 (sum (l.take (l.length - 4))) = l.drop (l.length - 4) := by
      have e2 : l.take (l.length - 4) ++ be4 (sum (l.take (l.length - 4))) = l.take (l.length - 4) ++ l.drop (l.length - 4) := by rw [List.take_append_drop]; exact e
      exact List.append_cancel_left e2
    rw [← this, beV_be4 (sum_lt _)]
  · intro e
    unfold sealM
    rw [e, be4_beV hd, List.take_append_drop]

/-! ### xor, bit by bit -/

theorem xor_step (a b : Nat) : a ^^^ b = 2 * ((a / 2) ^^^ (b / 2)) + (if a % 2 ≠ b % 2 then 1 else 0) := by
  have h1 := Nat.xor_div_two (a := a) (b := b)
  have h2 := Nat.xor_mod_two_eq_one (a := a) (b := b)
  split <;> omega

set_option maxRecDepth 100000 in
theorem xor3 {Post : AV → List AObj → Prop} : ∀ (m a b n w : Nat), m ≤ 8 → w * 2 ^ m = 256 → a < 2 ^ m → b < 2 ^ m → n < w → Post (.int .i64 ((n + w * (a ^^^ b) : Nat) : Int)) [] →
    AWP Try.prog 24 0 c166_3 [(0, .int .i64 a), (1, .int .i64 b), (5, .int .i64 n), (6, .int .i64 w)] [] (q166_2 0 Post) := by
  intro m
  induction m with
  | zero =>
    intro a b n w _ hw ha hb hn h
    refine v166_3 _ _ _ _ _ _ (condD (fun hc => by simp at hw; omega) fun _ => ?_)
    have ha0 : a = 0 := by simpa using ha
    have hb0 : b = 0 := by simpa using hb
    subst ha0; subst hb0
    simpa using h
  | succ m ih =>
    intro a b n w hm hw ha hb hn h
    rw [Nat.pow_succ] at hw ha hb
    have hp : 1 ≤ 2 ^ m := Nat.one_le_two_pow
    have hw2 : w ≤ 128 := by
      have : w * 2 ≤ 256 := by
        rw [← hw, ← Nat.mul_assoc]
        calc w * 2 = w * 1 * 2 := by omega
          _ ≤ w * 2 ^ m * 2 := Nat.mul_le_mul_right _ (Nat.mul_le_mul_left _ hp)
      omega
    have e := xor_step a b
    have ha9 : a < 2 ^ 8 := Nat.lt_of_lt_of_le ha (by rw [← Nat.pow_succ]; exact Nat.pow_le_pow_right (by omega) hm)
    have hb9 : b < 2 ^ 8 := Nat.lt_of_lt_of_le hb (by rw [← Nat.pow_succ]; exact Nat.pow_le_pow_right (by omega) hm)
    have tail : ∀ (n' : Nat), n' < w * 2 → n' + w * 2 * ((a / 2) ^^^ (b / 2)) = n + w * (a ^^^ b) → AWP Try.prog 24 0 c166_6 [(0, .int .i64 a), (1, .int .i64 b), (5, .int .i64 n'), (6, .int .i64 w)] [] (q166_4 0 Post) := by
      intro n' hn' hq
      refine v166_6 _ _ _ _ _ _ (needJ (by decide) (needJ (by decide) ?_))
      rw [show (2 : Int) = ((2 : Nat) : Int) from rfl, tdivN, tdivN, wrapN (by omega), wrapN (by omega), ← Int.natCast_mul, wrapN (by omega)]
      refine ih (a / 2) (b / 2) n' (w * 2) (by omega) (by rw [← hw, Nat.mul_assoc, Nat.mul_comm 2]) (by omega) (by omega) hn' ?_
      rw [hq]; exact h
    refine v166_3 _ _ _ _ _ _ (condD (fun _ => needJ (by decide) (needJ (by decide) ?_)) fun hc => by omega)
    rw [show (2 : Int) = ((2 : Nat) : Int) from rfl, tmodN, tmodN]
    refine condNe (fun hne => ?_) fun heq => ?_
    · rw [← Int.natCast_add, wrapN (by omega)]
      refine tail (n + w) (by omega) ?_
      rw [if_pos (by omega)] at e
      rw [e, Nat.mul_add, ← Nat.mul_assoc]
      omega
    · refine tail n (by omega) ?_
      rw [if_neg (by omega)] at e
      rw [e, Nat.mul_add, ← Nat.mul_assoc]
      omega

theorem xor_spec (a b : Nat) (ha : a < 256) (hb : b < 256) (H : List AObj) : ASpec Try.prog 166 [.int .i64 a, .int .i64 b] H (fun r H' => r = .int .i64 ((a ^^^ b : Nat) : Int) ∧ H' = H) := by
  have k : ASpec Try.prog 166 [.int .i64 a, .int .i64 b] [] (fun r H' => r = .int .i64 ((a ^^^ b : Nat) : Int) ∧ H' = []) :=
    s166 _ _ _ (xor3 8 a b 0 1 (by omega) (by decide) ha hb (by omega) ⟨by simp, rfl⟩)
  exact ASpec.pureH H k _ _ rfl rfl

theorem xor_low (n c : Nat) (hc : c < 256) : n - n % 256 + (n % 256 ^^^ c) = n ^^^ c := by
  have h1 : (n ^^^ c) / 2 ^ 8 = (n / 2 ^ 8) ^^^ (c / 2 ^ 8) := Nat.xor_div_two_pow
  have h2 : (n ^^^ c) % 2 ^ 8 = (n % 2 ^ 8) ^^^ (c % 2 ^ 8) := Nat.xor_mod_two_pow
  have e : (2 : Nat) ^ 8 = 256 := by decide
  rw [e] at h1 h2
  rw [Nat.div_eq_of_lt hc, Nat.xor_zero] at h1
  rw [Nat.mod_eq_of_lt hc] at h2
  rw [← h2]
  omega

theorem xor_lt {n c : Nat} (hn : n < 4294967296) (hc : c < 256) : n ^^^ c < 4294967296 := by
  have : n ^^^ c < 2 ^ 32 := Nat.xor_lt_two_pow (by omega) (by omega)
  omega

/-! ### sums -/

theorem rof3 {l : List UInt8} {Post : AV → List AObj → Prop} (hl : l.length ≤ 10 * big) : ∀ (m i n : Nat), m + i = l.length → n < 4294967296 → Post (.int .i64 (fnv n (l.drop i) : Nat)) [] →
    AWP Try.prog 28 0 c142_3 [(0, .str (B l)), (3, .int .i64 n), (4, .int .i64 i)] [] (q142_2 0 Post) := by
  unfold big at hl
  intro m
  induction m with
  | zero =>
    intro i n hm hn h
    refine v142_3 _ _ _ _ _ (condD (fun hc => by rw [B_size] at hc; omega) fun _ => ?_)
    rw [List.drop_eq_nil_of_le (by omega)] at h
    exact h
  | succ m ih =>
    intro i n hm hn h
    refine v142_3 _ _ _ _ _ (condD (fun hc => needJ (by decide) (needJ ⟨by omega, hc⟩ ?_)) fun hc => by rw [B_size] at hc; omega)
    have hg : (B l).data.toList.getD (Int.toNat (i : Int)) 0 = l.getD i 0 := rfl
    rw [hg]
    rw [getD_drop l i (by omega)] at h
    simp only [fnv] at h
    generalize l.getD i 0 = c at h ⊢
    have hc8 : c.toNat < 256 := c.toNat_lt
    rw [wrapN (n := c.toNat) (by omega), show (256 : Int) = ((256 : Nat) : Int) from rfl, tmodN]
    refine ASpec.call (xor_spec (n % 256) c.toNat (by omega) hc8 _) (Les.refl _) ⟨_, rfl, rfl, needJ (by decide) ?_⟩
    have hx := xor_low n c.toNat hc8
    have hx2 := xor_lt (n := n) (c := c.toNat) hn hc8
    have hx3 : n % 256 ^^^ c.toNat < 256 := by
      have : n % 256 ^^^ c.toNat < 2 ^ 8 := Nat.xor_lt_two_pow (by omega) (by omega)
      omega
    generalize n % 256 ^^^ c.toNat = y at hx hx3 ⊢
    generalize n ^^^ c.toNat = z at hx hx2 h
    rw [wrap64 (x := (n : Int) - ((n % 256 : Nat) : Int)) (by omega) (by omega), wrap64 (x := (n : Int) - ((n % 256 : Nat) : Int) + (y : Int)) (by omega) (by omega)]
    have e1 : ((n : Int) - ((n % 256 : Nat) : Int) + (y : Int)) = (z : Int) := by omega
    rw [e1, wrap64 (x := (z : Int) * 16777619) (by omega) (by omega)]
    have e2 : (z : Int) * 16777619 = ((z * 16777619 : Nat) : Int) := by simp
    rw [e2, show (4294967296 : Int) = ((4294967296 : Nat) : Int) from rfl, tmodN]
    rw [show IntKind.wrap .i64 ((i : Int) + 1) = ((i + 1 : Nat) : Int) by rw [wrap64 (by omega) (by omega)]; simp]
    exact ih (i + 1) _ (by omega) (Nat.mod_lt _ (by omega)) h

theorem rof_spec (l : List UInt8) (hl : l.length ≤ 10 * big) (H : List AObj) : ASpec Try.prog 142 [.str (B l)] H (fun r H' => r = .int .i64 (sum l : Nat) ∧ H' = H) := by
  have k : ASpec Try.prog 142 [.str (B l)] [] (fun r H' => r = .int .i64 (sum l : Nat) ∧ H' = []) :=
    s142 _ _ (rof3 hl l.length 0 2166136261 (by omega) (by omega) ⟨rfl, rfl⟩)
  exact ASpec.pureH H k _ _ rfl rfl

theorem on2 {l : List UInt8} {Post : AV → List AObj → Prop} (hl : l.length ≤ 10 * big) : ∀ (m i n : Nat), m + i = l.length → n < 4294967296 → Post (.int .u32 (fnv n (l.drop i) : Nat)) [] →
    AWP Try.prog 20 0 c165_2 [(0, .int .u32 n), (7, .sl 1 (.map encB 0 l) .none), (8, .int .i64 l.length), (9, .int .i64 i)] [] (q165_2 0 Post) := by
  unfold big at hl
  intro m
  induction m with
  | zero =>
    intro i n hm hn h
    refine v165_2 _ _ _ _ _ _ (condD (fun hc => by omega) fun _ => ?_)
    rw [List.drop_eq_nil_of_le (by omega)] at h
    exact h
  | succ m ih =>
    intro i n hm hn h
    refine v165_2 _ _ _ _ _ _ (condD (fun hc => needJ ⟨by omega, by omega⟩ ?_) fun hc => by omega)
    rw [Int.toNat_natCast]
    rw [getD_drop l i (by omega)] at h
    simp only [fnv] at h
    generalize l.getD i 0 = c at h ⊢
    have hc8 : c.toNat < 256 := c.toNat_lt
    have hx2 := xor_lt (n := n) (c := c.toNat) hn hc8
    rw [wrapU32N (n := c.toNat) (by omega), bvx hn (by omega), wrapU32N hx2]
    generalize n ^^^ c.toNat = z at hx2 h ⊢
    have e2 : IntKind.wrap .u32 ((z : Int) * 16777619) = ((z * 16777619 % 4294967296 : Nat) : Int) := by rw [wrapU32]; omega
    rw [e2]
    rw [show IntKind.wrap .i64 ((i : Int) + 1) = ((i + 1 : Nat) : Int) by rw [wrap64 (by omega) (by omega)]; simp]
    exact ih (i + 1) _ (by omega) (Nat.mod_lt _ (by omega)) h

theorem of_spec (l : List UInt8) (hl : l.length ≤ 10 * big) (H : List AObj) : ASpec Try.prog 140 [.sl 1 (.map encB 0 l) .none] H (fun r H' => r = .int .u32 (sum l : Nat) ∧ H' = H) := by
  have k1 : ASpec Try.prog 165 [.int .u32 2166136261, .sl 1 (.map encB 0 l) .none] [] (fun r H' => r = .int .u32 (sum l : Nat) ∧ H' = []) :=
    s165 _ _ _ (on2 hl l.length 0 2166136261 (by omega) (by omega) ⟨rfl, rfl⟩)
  have k : ASpec Try.prog 140 [.sl 1 (.map encB 0 l) .none] [] (fun r H' => r = .int .u32 (sum l : Nat) ∧ H' = []) :=
    s140 _ _ (ASpec.call k1 (Les.refl _) ⟨_, rfl, rfl, rfl, rfl⟩)
  exact ASpec.pureH H k _ _ rfl rfl

/-! ### sealing -/

theorem encB_mod (k : Nat) : [AV.int .u8 ((k % 256 : Nat) : Int)] = encB (UInt8.ofNat k) := by
  simp only [encB]
  rw [UInt8.toNat_ofNat']

theorem ofNat_mod (k : Nat) : UInt8.ofNat (k % 256) = UInt8.ofNat k := u8_ext (by rw [UInt8.toNat_ofNat', UInt8.toNat_ofNat']; omega)

theorem sealLe {q : Seq} {tip : Tip} {ρ : Nat → Nat} (l : List UInt8) (h : q.toList = l.map encB) : Le (.sl 1 q tip) (AV.ren ρ (.sl 1 (.map encB 0 l) .none)) :=
  Le.sl (s' := Seq.ren ρ (.map encB 0 l)) (by rw [h]; simp [Ab.Seq.toList, Seq.ren, encB, renL, AV.ren]) (.inl rfl) (.inr rfl)

theorem seal_spec (l : List UInt8) (hl : l.length + 100 ≤ big) (H : List AObj) : ASpec Try.prog 93 [.sl 1 (.map encB 0 l) .none] H (fun r H' => r = .sl 1 (.map encB 0 (sealM l)) .none ∧ H' = H) := by
  have k : ASpec Try.prog 93 [.sl 1 (.map encB 0 l) .none] [] (fun r H' => r = .sl 1 (.map encB 0 (sealM l)) .none ∧ H' = []) := by
    unfold big at hl
    have hs := sum_lt l
    refine ASpec.sel (s93 _ _ (ASpec.call (of_spec l (by unfold big; omega) []) (Les.refl _) ⟨_, rfl, rfl, ?_⟩))
    rw [show IntKind.wrap .i64 ((l.length : Int) + 4) = ((l.length + 4 : Nat) : Int) by rw [wrap64 (by omega) (by omega)]; simp]
    refine needJ (by omega) (needJ oneB (needJ (by omega) (needJ (by decide) (needJ (by decide) (needJ (by decide) (needJ (by omega) ?_))))))
    refine ⟨[], [], .sl 1 (.map encB 0 (sealM l)) .none, Sel.none, sealLe _ ?_, rfl, rfl⟩
    unfold sealM
    generalize sum l = v at hs
    rw [show (16777216 : Int) = ((16777216 : Nat) : Int) from rfl, show (65536 : Int) = ((65536 : Nat) : Int) from rfl, show (256 : Int) = ((256 : Nat) : Int) from rfl,
      fdivN, fdivN, fdivN, wrapU8N, wrapU8N, wrapU8N, wrapU8N, encB_mod, encB_mod, encB_mod, encB_mod]
    simp [Ab.Seq.toList, be4]
  exact ASpec.pureH H k _ _ rfl rfl

theorem rseal_spec (l : List UInt8) (hl : l.length + 100 ≤ big) (H : List AObj) : ASpec Try.prog 94 [.str (B l)] H (fun r H' => r = .str (B (sealM l)) ∧ H' = H) := by
  have k : ASpec Try.prog 94 [.str (B l)] [] (fun r H' => r = .str (B (sealM l)) ∧ H' = []) := by
    unfold big at hl
    have hs := sum_lt l
    refine s94 _ _ (ASpec.call (rof_spec l (by unfold big; omega) []) (Les.refl _) ⟨_, rfl, rfl, ?_⟩)
    unfold sealM
    generalize sum l = v at hs
    have d1 : Int.tdiv (v : Int) 16777216 = ((v / 16777216 : Nat) : Int) := tdivN v 16777216
    have d2 : Int.tdiv (v : Int) 65536 = ((v / 65536 : Nat) : Int) := tdivN v 65536
    have d3 : Int.tdiv (v : Int) 256 = ((v / 256 : Nat) : Int) := tdivN v 256
    have m2 : Int.tmod ((v / 65536 : Nat) : Int) 256 = ((v / 65536 % 256 : Nat) : Int) := tmodN (v / 65536) 256
    have m3 : Int.tmod ((v / 256 : Nat) : Int) 256 = ((v / 256 % 256 : Nat) : Int) := tmodN (v / 256) 256
    have m4 : Int.tmod (v : Int) 256 = ((v % 256 : Nat) : Int) := tmodN v 256
    have e : bytesOf (.raw [[.int .u8 ((v / 16777216 % 256 : Nat) : Int)], [.int .u8 ((v / 65536 % 256 % 256 : Nat) : Int)], [.int .u8 ((v / 256 % 256 % 256 : Nat) : Int)], [.int .u8 ((v % 256 % 256 : Nat) : Int)]]) = B (be4 v) := by
      simp only [bytesOf, Ab.Seq.toList, List.map, cellByte, Int.toNat_natCast, ofNat_mod, be4]
    rw [d1, d2, d3, wrapN (n := v / 16777216) (by omega), wrapN (n := v / 65536) (by omega), wrapN (n := v / 256) (by omega), m2, m3, m4, wrapU8N, wrapU8N, wrapU8N, wrapU8N, e]
    refine needJ (by decide) (needJ (by decide) (needJ (by decide) (needJ (by decide) (needJ (by decide) (needJ (by decide) (needJ ?_ (needJ ?_ ⟨?_, rfl⟩)))))))
    · intro x hx
      simp only [Ab.Seq.toList, List.mem_cons, List.not_mem_nil, or_false] at hx
      rcases hx with rfl | rfl | rfl | rfl <;> exact ⟨_, rfl⟩
    · rw [B_size, B_size]
      have : (be4 v).length = 4 := rfl
      omega
    · rw [B_append]
  exact ASpec.pureH H k _ _ rfl rfl

/-! ### opening -/

theorem beV_lt : ∀ (l : List UInt8), beV l < 256 ^ l.length := by
  intro l
  have key : ∀ (l : List UInt8) (s k : Nat), s < 256 ^ k → l.foldl (fun s c => s * 256 + c.toNat) s < 256 ^ (k + l.length) := by
    intro l
    induction l with
    | nil => intro s k h; exact h
    | cons c l ih =>
      intro s k h
      have hc : c.toNat < 256 := c.toNat_lt
      have := ih (s * 256 + c.toNat) (k + 1) (by rw [Nat.pow_succ]; omega)
      rw [List.foldl_cons, List.length_cons, show k + (l.length + 1) = k + 1 + l.length by omega]
      exact this
  have := key l 0 0 (by simp)
  rw [Nat.zero_add] at this
  exact this

theorem or_low {s c : Nat} (hc : c < 256) : s * 256 ||| c = s * 256 + c := by
  have := Nat.two_pow_add_eq_or_of_lt (i := 8) (b := c) (by omega) s
  rw [show (2 : Nat) ^ 8 = 256 by decide, Nat.mul_comm] at this
  exact this.symm

theorem leNilT (ρ : Nat → Nat) : Le (.tup [.sl 0 (.raw []) .nil, .bool false]) (AV.ren ρ (.tup [.sl 1 (.map encB 0 []) .none, .bool false])) :=
  Le.tup ⟨Le.sl (s' := Seq.ren ρ (.map encB 0 [])) rfl (.inr ⟨rfl, fun _ h => by cases h⟩) (.inr rfl), Le.refl _, trivial⟩

theorem open6 {l q : List UInt8} {R : AV → List AObj → Prop} (hl : l.length + 100 ≤ big) (h4 : 4 ≤ l.length) (hq : q = l.drop (l.length - 4))
    (hR : ∀ r H', r = .tup [.sl 1 (.map encB 0 (openM l).1) .none, .bool (openM l).2] ∧ H' = [] → R r H') :
    ∀ (m i : Nat), m + i = 4 → AWP Try.prog 38 0 c90_6 [(0, .sl 1 (.map encB 0 l) .none), (4, .int .i64 (l.length - 4 : Nat)), (5, .int .u32 (beV (q.take i) : Nat)), (15, .sl 1 (.map encB 0 q) .none), (16, .int .i64 4), (17, .int .i64 i)] []
      (q90_2 0 (fun r H' => ∃ l2 H2 r2, Sel 0 l2 H' H2 ∧ Le r (AV.ren (selR l2 H'.length) r2) ∧ R r2 H2)) := by
  unfold big at hl
  have hql : q.length = 4 := by rw [hq]; simp; omega
  intro m
  induction m with
  | zero =>
    intro i hm
    refine v90_6 _ _ _ _ _ _ _ _ (condD (fun hc => by omega) fun _ => needJ ⟨by omega, by omega⟩ ?_)
    rw [Int.toNat_natCast, List.drop_zero, List.take_of_length_le (show q.length ≤ i by omega)]
    refine ASpec.call (of_spec (l.take (l.length - 4)) (by simp; unfold big; omega) []) (Les.refl _) ⟨_, rfl, rfl, ?_⟩
    refine condNe (fun hne => ?_) fun heq => needJ ⟨by omega, by omega⟩ (needJ oneB (needJ (by simp; omega) ?_))
    · refine ⟨[], [], .tup [.sl 1 (.map encB 0 []) .none, .bool false], Sel.none, leNilT _, hR _ _ ⟨?_, rfl⟩⟩
      rw [show openM l = ([], false) by
        unfold openM
        rw [if_neg (by omega), if_neg]
        rw [seal_iff h4]
        intro e; rw [hq] at hne; exact hne (by rw [e])]
    · refine ⟨[], [], .tup [.sl 1 (.map encB 0 (l.take (l.length - 4))) .none, .bool true], Sel.none, ?_, hR _ _ ⟨?_, rfl⟩⟩
      · exact Le.tup ⟨sealLe _ (by simp [Ab.Seq.toList]), Le.refl _, trivial⟩
      · rw [show openM l = (l.take (l.length - 4), true) by
          unfold openM
          rw [if_neg (by omega), if_pos]
          rw [seal_iff h4, ← hq]
          omega]
  | succ m ih =>
    intro i hm
    refine v90_6 _ _ _ _ _ _ _ _ (condD (fun hc => needJ ⟨by omega, by omega⟩ (needJ (by decide) ?_)) fun hc => by omega)
    have hb := beV_lt (q.take i)
    have hlen : (q.take i).length = i := by simp; omega
    rw [hlen] at hb
    have hi3 : (256 : Nat) ^ i ≤ 256 ^ 3 := Nat.pow_le_pow_right (by omega) (by omega)
    have e3 : (256 : Nat) ^ 3 = 16777216 := by decide
    have e : beV (q.take (i + 1)) = beV (q.take i) * 256 + (q.getD i 0).toNat := by
      have : q.take (i + 1) = q.take i ++ [q.getD i 0] := by
        rw [List.take_add_one]
        simp [List.getElem?_eq_getElem (show i < q.length by omega)]
      rw [this]
      simp [beV]
    have hn := ih (i + 1) (by omega)
    rw [e] at hn
    rw [Int.toNat_natCast]
    generalize beV (q.take i) = s at hb hn ⊢
    generalize q.getD i 0 = c at hn ⊢
    have hc8 : c.toNat < 256 := c.toNat_lt
    have e4 : IntKind.wrap .u32 ((s : Int) * 256) = ((s * 256 : Nat) : Int) := by rw [wrapU32]; omega
    rw [e4, wrapU32N (n := c.toNat) (by omega), bvo (by omega) (by omega), or_low hc8, wrapU32N (by omega)]
    rw [show IntKind.wrap .i64 ((i : Int) + 1) = ((i + 1 : Nat) : Int) by rw [wrap64 (by omega) (by omega)]; simp]
    exact hn

theorem sopen_spec (l : List UInt8) (hl : l.length + 100 ≤ big) (H : List AObj) :
    ASpec Try.prog 90 [.sl 1 (.map encB 0 l) .none] H (fun r H' => r = .tup [.sl 1 (.map encB 0 (openM l).1) .none, .bool (openM l).2] ∧ H' = H) := by
  have k : ASpec Try.prog 90 [.sl 1 (.map encB 0 l) .none] [] (fun r H' => r = .tup [.sl 1 (.map encB 0 (openM l).1) .none, .bool (openM l).2] ∧ H' = []) := by
    have hl' := hl
    unfold big at hl'
    refine ASpec.sel (s90 _ _ ?_)
    rw [wrap64 (x := (l.length : Int) - 4) (by omega) (by omega)]
    refine condD (fun hc => ?_) fun hc => needJ ⟨by omega, by omega⟩ ?_
    · refine ⟨[], [], .tup [.sl 1 (.map encB 0 []) .none, .bool false], Sel.none, leNilT _, ?_, rfl⟩
      rw [show openM l = ([], false) by unfold openM; rw [if_pos (by omega)]]
    · rw [show ((l.length : Int) - 4) = ((l.length - 4 : Nat) : Int) by omega, Int.toNat_natCast, List.take_length]
      have hd : (l.drop (l.length - 4)).length = 4 := by simp; omega
      rw [hd]
      exact open6 hl (by omega) rfl (fun r H' h => h) 4 0 rfl
  exact ASpec.pureH H k _ _ rfl rfl

theorem rsopen_spec (l : List UInt8) (hl : l.length + 100 ≤ big) (H : List AObj) :
    ASpec Try.prog 92 [.str (B l)] H (fun r H' => r = .tup [.str (B (openM l).1), .bool (openM l).2] ∧ H' = H) := by
  have k : ASpec Try.prog 92 [.str (B l)] [] (fun r H' => r = .tup [.str (B (openM l).1), .bool (openM l).2] ∧ H' = []) := by
    have hl' := hl
    unfold big at hl'
    refine s92 _ _ ?_
    rw [B_size, wrap64 (x := (l.length : Int) - 4) (by omega) (by omega)]
    refine condD (fun hc => ?_) fun hc => needJ ⟨by omega, by omega⟩ ?_
    · rw [show openM l = ([], false) by unfold openM; rw [if_pos (by omega)]]
      exact ⟨rfl, rfl⟩
    · rw [show ((l.length : Int) - 4) = ((l.length - 4 : Nat) : Int) by omega, Int.toNat_natCast, B_extract _ _ _ (by omega), List.drop_zero]
      refine ASpec.call (rseal_spec (l.take (l.length - 4)) (by simp; omega) []) (Les.refl _) ⟨_, rfl, rfl, condSn (fun hne => ?_) fun heq => needJ ⟨by omega, by omega⟩ ?_⟩
      · rw [show openM l = ([], false) by unfold openM; rw [if_neg (by omega), if_neg hne]]
        exact ⟨rfl, rfl⟩
      · rw [show openM l = (l.take (l.length - 4), true) by unfold openM; rw [if_neg (by omega), if_pos heq]]
        exact ⟨rfl, rfl⟩
  exact ASpec.pureH H k _ _ rfl rfl

end S
