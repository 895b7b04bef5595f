/- vlq.Put: what it computes. -/
import Derived.Test.YtifbfcljgagacaaVVc
import Derived.Test.YtifbfcljgagacaaVMath
set_option linter.unusedVariables false
set_option linter.unusedSimpArgs false
open Go Go.Ab Go.Proofs
namespace V

def big : Nat := 140737488351232

theorem tdivN (a b : Nat) : Int.tdiv (a : Int) (b : Int) = ((a / b : Nat) : Int) := by rfl
theorem tmodN (a b : Nat) : Int.tmod (a : Int) (b : Int) = ((a % b : Nat) : Int) := by rfl

theorem selTok : Sel 0 [1] [AObj.gone, AObj.tok] [AObj.tok] := Sel.one 1 rfl rfl

theorem leApp {l : List UInt8} {x : List AV} {b : UInt8} {H : List AObj} (hx : x = encB b) : Le (.sl 1 (.app (.map encB 0 l) (.raw [x])) (.tok 1)) (AV.ren (selR [1] H.length) (.sl 1 (.map encB 0 (l ++ [b])) (.tok 0))) := by
  refine Le.sl ?_ (.inl rfl) (.inl rfl)
  subst hx
  simp [Seq.toList, Seq.ren, encB, renL, AV.ren]

theorem put9 {ns : List Int} {k : Nat} {i : Int} {Post : AV → List AObj → Prop} {v : Nat} (hv : v ≤ 1099511627776) (hi : 0 ≤ i) (hi2 : i < 9223372036854775807) : ∀ (j : Nat) (l : List UInt8), j ≤ 6 → l.length + j + 1 ≤ big →
    AWP Try.prog 48 0 c17_3 [(5, .sl 1 (.map encB 0 (l ++ down v j ++ [UInt8.ofNat (v % 128)])) (.tok 0)), (12, .sl 1 (.map encI 0 ns) .none), (13, .int .i64 k), (14, .int .i64 (i + 1))] [.tok] (q17_2 0 Post) →
    AWP Try.prog 48 0 c17_9 [(5, .sl 1 (.map encB 0 l) (.tok 0)), (7, .int .i64 v), (8, .int .i64 ((128 ^ j : Nat) : Int)), (12, .sl 1 (.map encI 0 ns) .none), (13, .int .i64 k), (14, .int .i64 i)] [.tok] (q17_9 0 Post)
  | 0, l, _, hl, h => by
    refine v17_9 _ _ _ _ _ _ _ _ _ (condD (fun h => by simp at h) fun _ => needJ (by decide) (needJ (by unfold big at hl; omega) ?_))
    refine AWP.shape [1] _ _ selTok ?_ h
    rw [wrap64 (x := i + 1) (by omega) (by omega)]
    refine ⟨rfl, ?_, rfl, ?_, rfl, Le.refl _, rfl, Le.refl _, trivial⟩
    · have : l ++ down v 0 ++ [UInt8.ofNat (v % 128)] = l ++ [UInt8.ofNat (v % 128)] := by simp [down]
      rw [this]
      refine leApp ?_
      rw [show (128 : Int) = ((128 : Nat) : Int) from rfl, tmodN, wrapU8, Int.emod_eq_of_lt (by omega) (by omega)]
      rw [encB_ofNat (by omega) (by omega)]
      rfl
    · exact Le.refl _
  | j + 1, l, hj, hl, h => by
    have hw : (128 : Nat) ^ (j + 1) ≤ 128 ^ 6 := Nat.pow_le_pow_right (by omega) hj
    have hw6 : (128 : Nat) ^ 6 = 4398046511104 := by decide
    have hw1 : 0 < (128 : Nat) ^ j := Nat.pos_of_ne_zero (by simp)
    refine v17_9 _ _ _ _ _ _ _ _ _ (condD (fun _ => needJ ?_ (needJ (by decide) (needJ (by unfold big at hl; omega) (needJ (by decide) ?_)))) (fun hn => ?_))
    · rw [Nat.pow_succ]; omega
    · have hd : v / 128 ^ (j + 1) ≤ v := Nat.div_le_self _ _
      have hq : ((128 ^ (j + 1) : Nat) : Int).tdiv 128 = ((128 ^ j : Nat) : Int) := by
        rw [show (128 : Int) = ((128 : Nat) : Int) from rfl, tdivN, Nat.pow_succ, Nat.mul_div_cancel _ (by omega)]
      rw [hq, wrap64 (x := ((128 ^ j : Nat) : Int)) (by omega) (by rw [Nat.pow_succ] at hw; omega)]
      refine AWP.shape [1] _ _ selTok ?_ (put9 (ns := ns) (k := k) hv hi hi2 j (l ++ [UInt8.ofNat (128 + v / 128 ^ (j + 1) % 128)]) (by omega) (by simp; omega) ?_)
      · refine ⟨rfl, leApp ?_, rfl, Le.refl _, rfl, Le.refl _, rfl, ?_, rfl, Le.refl _, rfl, Le.refl _, trivial⟩
        · rw [tdivN, wrapN (Nat.le_trans hd (by omega)), show (128 : Int) = ((128 : Nat) : Int) from rfl, tmodN, wrap64 (by omega) (by omega), wrapU8,
            Int.emod_eq_of_lt (by omega) (by omega), encB_ofNat (by omega) (by omega)]
          congr 2
        · exact Le.refl _
      · simpa [down] using h
    · rw [Nat.pow_succ] at hn; omega

theorem put7 {ns : List Int} {k : Nat} {i : Int} {Post : AV → List AObj → Prop} {v : Nat} (hv : v ≤ 1099511627776) (hi : 0 ≤ i) (hi2 : i < 9223372036854775807) (l : List UInt8) (hl : l.length + 7 ≤ big)
    (h : AWP Try.prog 48 0 c17_3 [(5, .sl 1 (.map encB 0 (l ++ enc v)) (.tok 0)), (12, .sl 1 (.map encI 0 ns) .none), (13, .int .i64 k), (14, .int .i64 (i + 1))] [.tok] (q17_2 0 Post)) : ∀ (m j : Nat), m + j = 6 → (j = 0 ∨ 128 ^ j ≤ v) →
    AWP Try.prog 48 0 c17_7 [(5, .sl 1 (.map encB 0 l) (.tok 0)), (7, .int .i64 v), (8, .int .i64 ((128 ^ j : Nat) : Int)), (12, .sl 1 (.map encI 0 ns) .none), (13, .int .i64 k), (14, .int .i64 i)] [.tok] (q17_7 0 Post) := by
  intro m
  induction m with
  | zero =>
    intro j hm hj
    have : j = 6 := by omega
    subst this
    rcases hj with e | e
    · cases e
    · have : (128 : Nat) ^ 6 = 4398046511104 := by decide
      omega
  | succ m ih =>
    intro j hm hj
    have hw : (128 : Nat) ^ j ≤ 128 ^ 5 := Nat.pow_le_pow_right (by omega) (by omega)
    have hw5 : (128 : Nat) ^ 5 = 34359738368 := by decide
    have hw1 : 0 < (128 : Nat) ^ j := Nat.pos_of_ne_zero (by simp)
    have hd : v / 128 ^ j ≤ v := Nat.div_le_self _ _
    refine v17_7 _ _ _ _ _ _ _ _ _ (needJ (by omega) (condD (fun hc => ?_) (fun hc => ?_)))
    · rw [tdivN, wrapN (Nat.le_trans hd (by omega))] at hc
      have e : ((128 ^ j : Nat) : Int) * 128 = ((128 ^ (j + 1) : Nat) : Int) := by rw [Nat.pow_succ]; simp
      rw [e, wrap64 (by omega) (by rw [Nat.pow_succ]; omega)]
      refine ih (j + 1) (by omega) (.inr ?_)
      have : 128 ≤ v / 128 ^ j := by omega
      rw [Nat.le_div_iff_mul_le hw1] at this
      rw [Nat.pow_succ, Nat.mul_comm]; exact this
    · rw [tdivN, wrapN (Nat.le_trans hd (by omega))] at hc
      refine put9 hv hi hi2 j l (by omega) (by omega) ?_
      rw [down_lead j v (by omega) hj, List.append_assoc]
      exact h

def putM (bs : List UInt8) (ns : List Int) : List UInt8 := bs ++ ns.flatMap fun x => enc (held x)

theorem clamp_held (x : Int) : (if 1099511627776 < if 0 > x then 0 else x then 1099511627776 else if 0 > x then 0 else x) = ((held x : Nat) : Int) := by
  unfold held
  by_cases h : 0 > x
  · simp only [if_pos h]; omega
  · simp only [if_neg h]
    split <;> omega

theorem put3 {ns : List Int} {Post : AV → List AObj → Prop} (hns : ns.length ≤ big) : ∀ (m i : Nat) (l : List UInt8), m + i = ns.length → l.length + 7 * m ≤ big →
    Post (.sl 1 (.map encB 0 (l ++ (ns.drop i).flatMap fun x => enc (held x))) (.tok 0)) [.tok] →
    AWP Try.prog 48 0 c17_3 [(5, .sl 1 (.map encB 0 l) (.tok 0)), (12, .sl 1 (.map encI 0 ns) .none), (13, .int .i64 ns.length), (14, .int .i64 i)] [.tok] (q17_2 0 Post) := by
  intro m
  unfold big at hns
  induction m with
  | zero =>
    intro i l hm hl h
    refine v17_3 _ _ _ _ _ _ _ (condD (fun hc => by omega) fun hc => ?_)
    rw [List.drop_eq_nil_of_le (by omega)] at h
    simpa using h
  | succ m ih =>
    intro i l hm hl h
    refine v17_3 _ _ _ _ _ _ _ (condD (fun hc => needJ (by omega) ?_) fun hc => by omega)
    rw [Int.toNat_natCast, clamp_held]
    have hh := held_le (ns.getD i 0)
    refine put7 hh (by omega) (by omega) l (by omega) ?_ 6 0 rfl (.inl rfl)
    have hel := enc_length (held (ns.getD i 0)) hh
    refine ih (i + 1) _ (by omega) (by rw [List.length_append]; omega) ?_
    have hg : ns.drop i = ns.getD i 0 :: ns.drop (i + 1) := by
      rw [List.drop_eq_getElem_cons (by omega)]
      simp [List.getD, List.getElem?_eq_getElem (show i < ns.length by omega)]
    rw [hg] at h
    simpa using h

theorem put_spec (bs : List UInt8) (ns : List Int) (hb : bs.length + 7 * ns.length ≤ big) (H : List AObj) :
    ASpec Try.prog 17 [.sl 1 (.map encB 0 bs) .none, .sl 1 (.map encI 0 ns) .none] H (fun r H' => r = .sl 1 (.map encB 0 (putM bs ns)) (.tok H.length) ∧ H' = H ++ [.tok]) := by
  refine ASpec.anyH (args := [.sl 1 (.map encB 0 bs) .none, .sl 1 (.map encI 0 ns) .none]) (r0 := .sl 1 (.map encB 0 (putM bs ns)) (.tok 0)) (Hl := [.tok]) H ?_ _ _ _ rfl rfl rfl
  refine s17 _ _ _ _ _ (needJ oneB (needJ (by unfold big at hb; omega) ?_))
  refine AWP.spell _ ?_ (put3 (ns := ns) (by omega) ns.length 0 bs (by omega) (by omega) ⟨rfl, rfl⟩)
  exact ⟨rfl, Le.sl (by simp [Seq.toList]) (.inl rfl) (.inl rfl), rfl, Le.refl _, rfl, Le.refl _, rfl, Le.refl _, trivial⟩

end V
