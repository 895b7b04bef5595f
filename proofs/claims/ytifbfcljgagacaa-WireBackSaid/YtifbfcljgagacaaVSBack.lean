/- SealBack: what was packed is opened; with one byte that is another one it is ErrSum: the law's function returns true. -/
import Derived.Test.YtifbfcljgagacaaVSealM
import Derived.Test.YtifbfcljgagacaaVPacks
set_option linter.unusedVariables false
set_option linter.unusedSimpArgs false
set_option maxRecDepth 100000
open Go Go.Ab Go.Proofs V S
namespace SM

/-! ### the plain law -/

theorem mul_back {x : Nat} (hx : x < 4294967296) : x * 16777619 % 4294967296 * 899433627 % 4294967296 = x := by
  rw [Nat.mul_mod, Nat.mod_mod, ← Nat.mul_mod, Nat.mul_assoc, show 16777619 * 899433627 = 4294967296 * 3513497 + 1 by decide, Nat.mul_add, Nat.mul_one,
    Nat.mul_left_comm, Nat.mul_add_mod, Nat.mod_eq_of_lt hx]

theorem mul_inj {a b : Nat} (ha : a < 4294967296) (hb : b < 4294967296) (h : a * 16777619 % 4294967296 = b * 16777619 % 4294967296) : a = b := by
  rw [← mul_back ha, h, mul_back hb]

theorem xor_inj {a b c : Nat} (h : a ^^^ c = b ^^^ c) : a = b := by
  have := congrArg (· ^^^ c) h
  simpa [Nat.xor_assoc] using this

theorem xor_inj' {a b c : Nat} (h : c ^^^ a = c ^^^ b) : a = b := by
  rw [Nat.xor_comm c a, Nat.xor_comm c b] at h
  exact xor_inj h

theorem fnv_inj : ∀ (l : List UInt8) (a b : Nat), a < 4294967296 → b < 4294967296 → fnv a l = fnv b l → a = b
  | [], a, b, _, _, h => h
  | c :: l, a, b, ha, hb, h => by
    have hc : c.toNat < 256 := c.toNat_lt
    have := fnv_inj l _ _ (Nat.mod_lt _ (by omega)) (Nat.mod_lt _ (by omega)) h
    exact xor_inj (mul_inj (xor_lt ha hc) (xor_lt hb hc) this)

theorem fnv_set : ∀ (l : List UInt8) (n i : Nat) (b : UInt8), n < 4294967296 → i < l.length → fnv n (l.set i b) = fnv n l → l.getD i 0 = b
  | [], n, i, b, _, hi, _ => by simp at hi
  | c :: l, n, 0, b, hn, _, h => by
    have hc : c.toNat < 256 := c.toNat_lt
    have hb : b.toNat < 256 := b.toNat_lt
    simp only [List.set_cons_zero, fnv] at h
    have := fnv_inj l _ _ (Nat.mod_lt _ (by omega)) (Nat.mod_lt _ (by omega)) h
    have := xor_inj' (mul_inj (xor_lt hn hb) (xor_lt hn hc) this)
    exact (u8_ext this).symm
  | c :: l, n, i + 1, b, hn, hi, h => by
    simp only [List.set_cons_succ, fnv] at h
    have := fnv_set l _ i b (Nat.mod_lt _ (by omega)) (by simpa using hi) h
    simpa using this

theorem be4_len (n : Nat) : (be4 n).length = 4 := rfl
theorem seal_len (x : List UInt8) : (sealM x).length = x.length + 4 := by simp [sealM, be4_len]

theorem open_seal (x : List UInt8) : openM (sealM x) = (x, true) := by
  unfold openM
  rw [if_neg (by rw [seal_len]; omega)]
  have e : (sealM x).take ((sealM x).length - 4) = x := by
    rw [seal_len, Nat.add_sub_cancel]
    unfold sealM
    rw [List.take_left]
  rw [e, if_pos rfl]

/-- one byte that is another one -/
theorem open_bad (x : List UInt8) (i : Nat) (b : UInt8) (hi : i < (sealM x).length) (hb : (sealM x).getD i 0 ≠ b) : openM ((sealM x).set i b) = ([], false) := by
  unfold openM
  rw [if_neg (by rw [List.length_set, seal_len]; omega), if_neg]
  intro h
  rw [List.length_set, seal_len, Nat.add_sub_cancel] at h
  by_cases c : i < x.length
  · have e1 : ((sealM x).set i b).take x.length = x.set i b := by
      unfold sealM
      rw [List.set_append_left _ _ c, List.take_left' (by simp)]
    rw [e1] at h
    unfold sealM at h
    rw [List.set_append_left _ _ c] at h
    have h2 := List.append_cancel_left h
    have h3 : sum (x.set i b) = sum x := by
      have := congrArg beV h2
      rwa [beV_be4 (sum_lt _), beV_be4 (sum_lt _)] at this
    have h4 := fnv_set x _ i b (by omega) c h3
    apply hb
    unfold sealM
    simp only [List.getD] at h4 ⊢
    rw [List.getElem?_append_left c]
    exact h4
  · have e1 : ((sealM x).set i b).take x.length = x := by
      unfold sealM
      rw [List.set_append_right _ _ (by omega), List.take_left]
    rw [e1] at h
    apply hb
    rw [h]
    simp only [List.getD]
    rw [List.getElem?_set_self hi]
    rfl

theorem str_back (pre s rest : List UInt8) (most : Int) (hs : (s.length : Int) ≤ most) (hl : s.length ≤ 1000000) :
    strM (pre ++ txt s ++ rest) pre.length 0 most = (s, pre.length + (txt s).length, 0) := by
  have hh := held_of (x := (s.length : Int)) (by omega) (by omega)
  have hh : held s.length = s.length := by omega
  have hd : (pre ++ txt s ++ rest).drop pre.length = enc s.length ++ (s ++ rest) := by
    rw [List.append_assoc, List.drop_left, txt, hh, List.append_assoc]
  have hd2 : (pre ++ txt s ++ rest).drop (pre.length + (enc s.length).length) = s ++ rest := by
    rw [← List.drop_drop, hd, List.drop_left]
  have hk := look_enc (s ++ rest) (v := s.length) (most := most) (by omega) hs
  have hlen : (txt s).length = (enc s.length).length + s.length := by rw [txt, hh, List.length_append]
  simp only [strM, if_neg (show ¬ ((0 : Int) ≠ 0) by simp), hd, hk]
  rw [if_neg (by simp only [List.length_append, hlen]; omega), hd2, hlen]
  simp [Nat.add_assoc]

theorem take_back (s body : List UInt8) (hf : fitM s = true) (hb : body.length ≤ 8192) : takeM (txt s ++ txt body) = (s, body, 0) := by
  have hs := fitM_short hf
  have e1 := str_back [] s (txt body) 24 (by omega) (by omega)
  have e2 := str_back (txt s) body [] 8192 (by omega) (by omega)
  simp only [List.nil_append, List.length_nil, Nat.zero_add, List.append_nil] at e1 e2
  unfold takeM
  rw [e1]
  simp only [e2]
  have hc : closeM 0 ((txt s ++ txt body).length - ((txt s).length + (txt body).length)) = 0 := by
    rw [List.length_append, Nat.sub_self]; rfl
  rw [if_neg (by rw [hc]; simp), if_pos hf]

theorem sopen_back (s body : List UInt8) (hf : fitM s = true) (hb : body.length ≤ 8192) : sOpenM (packM s body) = (s, body, 0) := by
  rw [packM, if_pos ⟨hf, hb⟩, sOpenM, open_seal, if_pos rfl, take_back s body hf hb]

/-! ### the walk over a row that may be written -/

theorem selOne {o : AObj} {rest : List AObj} (e : ∀ ρ, AObj.ren ρ o = o) : Sel 1 [0] (o :: rest) [o] := by
  refine ⟨by simp, rfl, by simp, fun i hi => ?_, fun i hi => ?_⟩
  · have : i = 0 := by omega
    subst this; rfl
  · have : i = 0 := by simpa using hi
    subst this
    left
    show some o = some _
    rw [show [o][0] = o from rfl, e]

abbrev AR (l : List UInt8) : AObj := .arr 1 (.map encB 0 l)

section
variable {l : List UInt8} {Post : AV → List AObj → Prop}

theorem on2 {k : Nat} (hl : l.length ≤ 10 * big) (hk : k ≤ l.length) : ∀ (m i n : Nat), m + i = k → n < 4294967296 → Post (.int .u32 (fnv n ((l.take k).drop i) : Nat)) [AR l] →
    AWP Try.prog 20 1 c165_2 [(0, .int .u32 n), (7, .msl 1 0 0 k), (8, .int .i64 k), (9, .int .i64 i)] [AR l] (q165_2 1 Post) := by
  unfold big at hl
  have hlk : (l.take k).length = k := by simp; omega
  intro m
  induction m with
  | zero =>
    intro i n hm hn h
    refine v165_2 _ _ _ _ _ _ _ (condD (fun hc => by omega) fun _ => ?_)
    rw [List.drop_eq_nil_of_le (by omega)] at h
    exact h
  | succ m ih =>
    intro i n hm hn h
    refine v165_2 _ _ _ _ _ _ _ (condD (fun hc => needJ ⟨by omega, by omega⟩ (needJ (by omega) ?_)) fun hc => by omega)
    rw [Int.toNat_natCast, Nat.zero_add]
    rw [getD_drop (l.take k) i (by omega)] at h
    have hg : (l.take k).getD i 0 = l.getD i 0 := by simp [List.getD, List.getElem?_take, show i < k by omega]
    rw [hg] at h
    simp only [fnv] at h
    generalize l.getD i 0 = c at h ⊢
    have hc8 : c.toNat < 256 := c.toNat_lt
    have hx2 := xor_lt (n := n) (c := c.toNat) hn hc8
    rw [wrapU32N (n := c.toNat) (by omega), bvx hn (by omega), wrapU32N hx2]
    generalize n ^^^ c.toNat = z at hx2 h ⊢
    have e2 : IntKind.wrap .u32 ((z : Int) * 16777619) = ((z * 16777619 % 4294967296 : Nat) : Int) := by rw [wrapU32]; omega
    rw [e2]
    rw [show IntKind.wrap .i64 ((i : Int) + 1) = ((i + 1 : Nat) : Int) by rw [wrap64 (by omega) (by omega)]; simp]
    exact ih (i + 1) _ (by omega) (Nat.mod_lt _ (by omega)) h

theorem of_spec {k : Nat} (hl : l.length ≤ 10 * big) (hk : k ≤ l.length) : ASpec Try.prog 140 [.msl 1 0 0 k] [AR l] (fun r H' => r = .int .u32 (sum (l.take k) : Nat) ∧ H' = [AR l]) := by
  have k1 : ASpec Try.prog 165 [.int .u32 2166136261, .msl 1 0 0 k] [AR l] (fun r H' => r = .int .u32 (sum (l.take k) : Nat) ∧ H' = [AR l]) :=
    s165 _ _ _ _ (on2 hl hk k 0 2166136261 (by omega) (by omega) ⟨rfl, rfl⟩)
  exact s140 _ _ _ (ASpec.call k1 (Les.refl _) ⟨_, rfl, rfl, rfl, rfl⟩)

theorem open6 {R : AV → List AObj → Prop} (hl : l.length + 100 ≤ big) (h4 : 4 ≤ l.length)
    (hR : ∀ r H', r = .tup [.sl 1 (.map encB 0 (openM l).1) .none, .bool (openM l).2] ∧ H' = [AR l] → R r H') :
    ∀ (m i : Nat), m + i = 4 → AWP Try.prog 38 1 c90_6 [(0, .msl 1 0 0 l.length), (4, .int .i64 (l.length - 4 : Nat)), (5, .int .u32 (beV ((l.drop (l.length - 4)).take i) : Nat)), (15, .msl 1 0 (l.length - 4) 4), (16, .int .i64 4), (17, .int .i64 i)] [AR l]
      (q90_2 1 (fun r H' => ∃ l2 H2 r2, Sel 1 l2 H' H2 ∧ Le r (AV.ren (selR l2 H'.length) r2) ∧ R r2 H2)) := by
  have hl' := hl
  unfold big at hl'
  generalize hq : l.drop (l.length - 4) = q
  have hql : q.length = 4 := by rw [← hq]; simp; omega
  intro m
  induction m with
  | zero =>
    intro i hm
    refine v90_6 _ _ _ _ _ _ _ _ _ _ (condD (fun hc => by omega) fun _ => needJ ⟨by omega, by omega⟩ ?_)
    rw [Int.toNat_natCast, List.take_of_length_le (show q.length ≤ i by omega)]
    refine ASpec.call (of_spec (l := l) (k := l.length - 4) (by omega) (by omega)) (Les.refl _) ⟨_, rfl, rfl, ?_⟩
    refine condNe (fun hne => ?_) fun heq => needJ ⟨by omega, by omega⟩ (needJ (by omega) (needJ oneB (needJ (by simp; omega) ?_)))
    · refine ⟨[0], [AR l], .tup [.sl 1 (.map encB 0 []) .none, .bool false], selOne (fun ρ => rfl), leNilT _, hR _ _ ⟨?_, rfl⟩⟩
      rw [show openM l = ([], false) by
        unfold openM
        rw [if_neg (by omega), if_neg]
        rw [seal_iff h4, hq]
        omega]
    · refine ⟨[0], [AR l], .tup [.sl 1 (.map encB 0 (l.take (l.length - 4))) .none, .bool true], selOne (fun ρ => rfl), ?_, hR _ _ ⟨?_, rfl⟩⟩
      · exact Le.tup ⟨sealLe _ (by simp [Ab.Seq.toList]), Le.refl _, trivial⟩
      · rw [show openM l = (l.take (l.length - 4), true) by
          unfold openM
          rw [if_neg (by omega), if_pos]
          rw [seal_iff h4, hq]
          omega]
  | succ m ih =>
    intro i hm
    refine v90_6 _ _ _ _ _ _ _ _ _ _ (condD (fun hc => needJ ⟨by omega, by omega⟩ (needJ (by omega) (needJ (by decide) ?_))) fun hc => by omega)
    have hb := beV_lt (q.take i)
    have hlen : (q.take i).length = i := by simp; omega
    rw [hlen] at hb
    have hi3 : (256 : Nat) ^ i ≤ 256 ^ 3 := Nat.pow_le_pow_right (by omega) (by omega)
    have e3 : (256 : Nat) ^ 3 = 16777216 := by decide
    have e : beV (q.take (i + 1)) = beV (q.take i) * 256 + (q.getD i 0).toNat := by
      have : q.take (i + 1) = q.take i ++ [q.getD i 0] := by
        rw [List.take_add_one]
        simp [List.getElem?_eq_getElem (show i < q.length by omega)]
      rw [this]
      simp [beV]
    have hn := ih (i + 1) (by omega)
    rw [e] at hn
    have hg : q.getD i 0 = l.getD (l.length - 4 + i) 0 := by rw [← hq]; simp [List.getD, List.getElem?_drop]
    rw [hg] at hn
    rw [Int.toNat_natCast]
    generalize beV (q.take i) = s at hb hn ⊢
    generalize l.getD (l.length - 4 + i) 0 = c at hn ⊢
    have hc8 : c.toNat < 256 := c.toNat_lt
    have e4 : IntKind.wrap .u32 ((s : Int) * 256) = ((s * 256 : Nat) : Int) := by rw [wrapU32]; omega
    rw [e4, wrapU32N (n := c.toNat) (by omega), bvo (by omega) (by omega), or_low hc8, wrapU32N (by omega)]
    rw [show IntKind.wrap .i64 ((i : Int) + 1) = ((i + 1 : Nat) : Int) by rw [wrap64 (by omega) (by omega)]; simp]
    exact hn

theorem sopen_spec (hl : l.length + 100 ≤ big) :
    ASpec Try.prog 90 [.msl 1 0 0 l.length] [AR l] (fun r H' => r = .tup [.sl 1 (.map encB 0 (openM l).1) .none, .bool (openM l).2] ∧ H' = [AR l]) := by
  have hl' := hl
  unfold big at hl'
  refine ASpec.sel (s90 _ _ _ ?_)
  rw [wrap64 (x := (l.length : Int) - 4) (by omega) (by omega)]
  refine condD (fun hc => ?_) fun hc => needJ ⟨by omega, by omega⟩ ?_
  · refine ⟨[0], [AR l], .tup [.sl 1 (.map encB 0 []) .none, .bool false], selOne (fun ρ => rfl), leNilT _, ?_, rfl⟩
    rw [show openM l = ([], false) by unfold openM; rw [if_pos (by omega)]]
  · rw [show ((l.length : Int) - 4) = ((l.length - 4 : Nat) : Int) by omega, Int.toNat_natCast, Nat.zero_add, show l.length - (l.length - 4) = 4 by omega]
    exact open6 hl (by omega) (fun r H' h => h) 4 0 rfl

theorem open_spec (hb : l.length ≤ 1000000) :
    ASpec Try.prog 33 [.msl 1 0 0 l.length] [AR l] (fun r H' => r = .tup [.str (B (sOpenM l).1), .sl 1 (.map encB 0 (sOpenM l).2.1) .none, .int .i64 (sOpenM l).2.2] ∧ H' = [AR l]) := by
  have fin : ∀ (Hx : List AObj) (e : Int), sOpenM l = ([], [], e) → ∃ l2 H2 r2, Sel 1 l2 (AR l :: Hx) H2 ∧ Le (.tup [.str (B []), .sl 0 (.raw []) .nil, .int .i64 e]) (AV.ren (selR l2 (AR l :: Hx).length) r2) ∧
      r2 = .tup [.str (B (sOpenM l).1), .sl 1 (.map encB 0 (sOpenM l).2.1) .none, .int .i64 (sOpenM l).2.2] ∧ H2 = [AR l] := by
    intro Hx e he
    rw [he]
    exact ⟨[0], [AR l], .tup [.str (B []), .sl 1 (.map encB 0 []) .none, .int .i64 e], selOne (fun ρ => rfl),
      Le.tup ⟨Le.refl _, Le.sl (s' := Seq.ren _ (.map encB 0 [])) rfl (.inr ⟨rfl, fun _ h => by cases h⟩) (.inr rfl), Le.refl _, trivial⟩, rfl, rfl⟩
  have hlen := openM_len l
  refine ASpec.sel (s33 _ _ _ (ASpec.call (sopen_spec (by unfold big; omega)) (Les.refl _) ⟨openM l, rfl, rfl, condBn (fun h => ?_) fun h => ?_⟩))
  · exact fin [] 8 (by rw [sOpenM, if_neg (by rw [h]; simp)])
  have hS : sOpenM l = takeM (openM l).1 := by rw [sOpenM, if_pos h]
  generalize (openM l).1 = x at hlen hS ⊢
  have hx : x.length ≤ big := by unfold big; omega
  have hd := str_doc x 0 0 24 (by omega)
  have hd2 := str_doc x (strM x 0 0 24).2.1 (strM x 0 0 24).2.2 8192 hd.2
  rw [takeM] at hS
  refine ASpec.call (V.open_spec x hx [AR l]) (Les.refl _) ⟨x, rfl, rfl, ?_⟩
  refine ASpec.call (str_spec (id := 1) (bs := x) (p := 0) (e := 0) 24 hx (by omega) rfl) (Les.refl _) ⟨(B (strM x 0 0 24).1, ((strM x 0 0 24).2.1 : Nat), (strM x 0 0 24).2.2), rfl, rfl, ?_⟩
  refine ASpec.call (str_spec (id := 1) (bs := x) (p := (strM x 0 0 24).2.1) (e := (strM x 0 0 24).2.2) 8192 hx hd.2 rfl) (Les.refl _)
    ⟨(B (strM x (strM x 0 0 24).2.1 (strM x 0 0 24).2.2 8192).1, ((strM x (strM x 0 0 24).2.1 (strM x 0 0 24).2.2 8192).2.1 : Nat), (strM x (strM x 0 0 24).2.1 (strM x 0 0 24).2.2 8192).2.2), rfl, rfl, ?_⟩
  generalize strM x 0 0 24 = a at hS hd hd2 ⊢
  generalize strM x a.2.1 a.2.2 8192 = c at hS hd2 ⊢
  refine ASpec.call (close_spec (id := 1) (bs := x) (p := c.2.1) (e := c.2.2) hx hd2.2 rfl) (Les.refl _) ⟨_, rfl, rfl, condNe (fun hne => ?_) fun heq => ?_⟩
  · refine fin _ _ ?_
    rw [hS, if_pos hne]
  have ha : a.1.length ≤ x.length := by
    have h1 := congrArg (fun q : List UInt8 × List UInt8 × Int => q.1.length) hd.1
    simp only at h1
    rw [← h1]
    unfold dstrM
    repeat' split
    all_goals (simp; try omega)
  refine ASpec.call (fit_spec (l := a.1) (by unfold big; omega) _) (Les.refl _) ⟨_, rfl, rfl, condBn (fun hf => ?_) fun hf => ?_⟩
  · refine fin _ _ ?_
    rw [hS, if_neg (by rw [heq]; simp), if_neg (by rw [hf]; simp)]
  · rw [hS, if_neg (by rw [heq]; simp), if_pos hf]
    exact ⟨[0], [AR l], .tup [.str (B a.1), .sl 1 (.map encB 0 c.1) .none, .int .i64 0], selOne (fun ρ => rfl), Le.tup ⟨Le.refl _, sealLe _ rfl, Le.refl _, trivial⟩, rfl, rfl⟩

end

/-! ### the law -/

theorem byte_other (c : UInt8) (a : Nat) (ha : a < 65536) :
    ∃ b : UInt8, [AV.int .u8 (IntKind.wrap .u8 (IntKind.wrap .u8 ((c.toNat : Int) + 1) + Int.tmod (IntKind.wrap .u8 (IntKind.wrap .u16 (Int.tdiv (a : Int) 256))) 255))] = encB b ∧ c ≠ b := by
  have hc : c.toNat < 256 := c.toNat_lt
  have e1 : Int.tdiv (a : Int) 256 = ((a / 256 : Nat) : Int) := tdivN a 256
  have e2 : IntKind.wrap .u16 ((a / 256 : Nat) : Int) = ((a / 256 : Nat) : Int) := by
    simp only [IntKind.wrap, IntKind.bits, IntKind.signed]
    have e : (2 : Int) ^ 16 = 65536 := by decide
    simp only [e, Bool.false_and]
    simp
    omega
  have e3 : Int.tmod ((a / 256 % 256 : Nat) : Int) 255 = ((a / 256 % 256 % 255 : Nat) : Int) := tmodN (a / 256 % 256) 255
  rw [e1, e2, wrapU8N, e3, show ((c.toNat : Int) + 1) = ((c.toNat + 1 : Nat) : Int) by simp, wrapU8N, ← Int.natCast_add, wrapU8N, encB_mod]
  refine ⟨_, rfl, ?_⟩
  intro h
  have := congrArg UInt8.toNat h
  rw [UInt8.toNat_ofNat'] at this
  omega

theorem r9 {l : List UInt8} {R : AV → List AObj → Prop} (hl : l.length ≤ 1000000) (ho : openM l = ([], false)) (h : R (.bool true) []) :
    AWP Try.prog 93 0 c8_9 [(7, .sl 1 (.map encB 0 l) .none)] [] (q8_0 0 R) := by
  have e : sOpenM l = ([], [], 8) := by rw [sOpenM, ho]; rfl
  refine v8_9 _ _ _ (ASpec.call (S.open_spec l hl []) (Les.refl _) ⟨(B (sOpenM l).1, (sOpenM l).2.1, (sOpenM l).2.2), rfl, rfl, ?_⟩)
  rw [e]
  exact condE (fun _ => condE (fun _ => ASpec.call (S.awake_spec []) (Les.refl _) ⟨(), rfl, rfl, h⟩) fun h => (h rfl).elim) fun h => (h rfl).elim

theorem sealBack_spec (s body : List UInt8) (a : Int) (ha : 0 ≤ a ∧ a < 65536) : ASpec Try.prog 8 [.str (B s), .sl 1 (.map encB 0 body) .none, .int .u16 a] [] (fun r H' => r = .bool true ∧ H' = []) := by
  obtain ⟨a, rfl⟩ := Int.eq_ofNat_of_zero_le ha.1
  have ha2 : a < 65536 := by omega
  have haw : ASpec Try.prog 32 [] [] (fun r H' => ∃ x : Unit, r = .bool true ∧ H' = [] ∧ (AV.bool true = .bool true ∧ ([] : List AObj) = [])) := ASpec.call (S.awake_spec []) (Les.refl _) ⟨(), rfl, rfl, rfl, rfl⟩
  refine s8 _ _ _ _ ?_
  rw [B_size]
  refine condD (fun _ => haw) fun h1 => ASpec.call (rfit_spec (by unfold big; omega) []) (Les.refl _) ⟨_, rfl, rfl, condBn (fun _ => haw) fun hf => condD (fun _ => haw) fun h2 => ?_⟩
  have hs := fitM_short hf
  have hP : packM s body = sealM (txt s ++ txt body) := by rw [packM, if_pos ⟨hf, by omega⟩]
  have hback := sopen_back s body hf (by omega)
  have ht := txt_len s
  have ht2 := txt_len body
  have hge : ∀ q : List UInt8, 1 ≤ (txt q).length := by
    intro q
    obtain ⟨c, r, e, _⟩ := enc_head (held_le (q.length : Int))
    rw [txt, e]; simp
  have hg1 := hge s
  have hg2 := hge body
  have hlen : (packM s body).length = (txt s).length + (txt body).length + 4 := by rw [hP, seal_len, List.length_append]
  refine v8_3 _ _ _ _ _ (ASpec.call (pack_spec s body (by omega) (by omega) []) (Les.refl _) ⟨packM s body, rfl, rfl, needJ oneB (needJ (by omega) (needJ (by omega) ?_))⟩)
  refine ASpec.call (open_spec (l := packM s body) (by omega)) (Les.refl _) ⟨(B (sOpenM (packM s body)).1, (sOpenM (packM s body)).2.1, (sOpenM (packM s body)).2.2), rfl, rfl, ?_⟩
  rw [hback]
  refine v8_5 _ _ _ _ _ _ _ _ _ _ (condNe (fun h => (h rfl).elim) fun _ => condSn (fun h => (h rfl).elim) fun _ => needJ (allBytes_map _) (needJ (allBytes_map _) ?_))
  rw [bytesOf_map]
  refine condSn (fun h => (h rfl).elim) fun _ => condD (fun h => ?_) fun h => ?_
  · omega
  refine v8_7 _ _ _ _ _ ?_
  have hk : 0 < (packM s body).length := by omega
  have em : Int.tmod (IntKind.wrap .i64 (a : Int)) ((packM s body).length : Int) = ((a % (packM s body).length : Nat) : Int) := by
    rw [wrapN (by omega), tmodN]
  have hm := Nat.mod_lt a hk
  rw [em]
  generalize a % (packM s body).length = i at hm
  simp only [Int.toNat_natCast, Nat.zero_add]
  refine needJ (by omega) (needJ ⟨by omega, by omega⟩ (needJ (by omega) (needJ (by decide) (needJ (by decide) (needJ ⟨by omega, by omega⟩ (needJ (by omega) ?_))))))
  obtain ⟨b, hb, hne⟩ := byte_other ((packM s body).getD i 0) a ha2
  refine AWP.re (ReSt.freeze (id := 0) (sz := 1) (s2 := [(7, .sl 1 (.map encB 0 ((packM s body).set i b)) .none)]) rfl (by simp) (fun d => ?_)) ?_
  · by_cases e : d = 7
    · subst e
      right; right
      refine ⟨0, (packM s body).length, .map encB 0 ((packM s body).set i b), rfl, by simp [Ab.Seq.toList], rfl, ?_⟩
      simp only [Ab.Seq.toList, Nat.zero_add, List.drop_zero]
      rw [List.take_of_length_le (by simp), List.map_set, ← hb]
      rfl
    · left
      have : Nat.beq 7 d = false := by
        cases hx : Nat.beq 7 d with
        | false => rfl
        | true => exact absurd (Nat.eq_of_beq_eq_true hx).symm e
      simp only [Ab.get, this]; rfl
  · refine AWP.shape [] [(7, .sl 1 (.map encB 0 ((packM s body).set i b)) .none)] [] Sel.none ⟨rfl, sealLe _ rfl, trivial⟩ (r9 (by simp; omega) ?_ ⟨rfl, rfl⟩)
    rw [hP] at hm hne ⊢
    exact open_bad _ i b hm hne

end SM
