/- VlqBack: what was put is read: the law's function returns true. -/
import Derived.Test.YtifbfcljgagacaaVOrder
set_option linter.unusedVariables false
set_option linter.unusedSimpArgs false
open Go Go.Ab Go.Proofs
namespace V

theorem text_spec (bs s : List UInt8) (hb : bs.length + s.length + 100 ≤ big) (H : List AObj) :
    ASpec Try.prog 18 [.sl 1 (.map encB 0 bs) .none, .str (B s)] H (fun r H' => r = .sl 1 (.map encB 0 (bs ++ enc (held s.length) ++ s)) (.tok H.length) ∧ H' = H ++ [.tok]) := by
  refine ASpec.anyH (args := [.sl 1 (.map encB 0 bs) .none, .str (B s)]) (r0 := .sl 1 (.map encB 0 (bs ++ enc (held s.length) ++ s)) (.tok 0)) (Hl := [.tok]) H ?_ _ _ _ rfl rfl rfl
  have hel := enc_length (held s.length) (held_le _)
  unfold big at hb
  refine ASpec.sel (s18 _ _ _ _ (put_spec' (bs := bs) (ns := [(s.length : Int)]) ⟨Le.refl _, ?_, trivial⟩ (by unfold big; simp; omega) ⟨_, rfl, rfl, needJ oneB (needJ ?_ ?_)⟩))
  · rw [B_size]; exact leOne _
  · simp only [putM, Ab.Seq.len, bytesSeq, List.flatMap_cons, List.flatMap_nil, List.append_nil, List.length_append]
    have : (B s).data.toList.length = s.length := rfl
    omega
  · refine ⟨[1], [.tok], .sl 1 (.map encB 0 (bs ++ enc (held s.length) ++ s)) (.tok 0), selTok, Le.sl ?_ (.inl rfl) (.inl rfl), rfl, rfl⟩
    simp [Ab.Seq.toList, Seq.ren, encB, renL, AV.ren, bytesSeq, putM]
    rfl

theorem scan_lead (rest : List UInt8) : ∀ (m v f : Nat), v < 128 ^ m → (lead v).length ≤ f → scan f (lead v ++ rest) 0 0 = scan (f - (lead v).length) rest v (lead v).length
  | 0, v, f, hv, hf => by
    have : v = 0 := by simp at hv; omega
    subst this; simp [lead_zero]
  | m + 1, v, f, hv, hf => by
    rcases Nat.eq_zero_or_pos v with e | e
    · subst e; simp [lead_zero]
    · rw [lead_pos e, List.length_append, List.length_singleton, List.append_assoc] at *
      rw [scan_lead _ m (v / 128) f (by rw [Nat.div_lt_iff_lt_mul (by omega), ← Nat.pow_succ]; exact hv) (by omega)]
      have hd : (UInt8.ofNat (128 + v % 128)).toNat = 128 + v % 128 := by rw [UInt8.toNat_ofNat', Nat.mod_eq_of_lt (by omega)]
      rw [show f - (lead (v / 128)).length = (f - ((lead (v / 128)).length + 1)) + 1 by omega, List.singleton_append]
      simp only [scan]
      rw [hd, if_pos (by omega)]
      congr 1
      omega

theorem scan_enc (rest : List UInt8) {v : Nat} (hv : v ≤ 1099511627776) : scan 6 (enc v ++ rest) 0 0 = .inr (v, (enc v).length) := by
  have hl := lead_length 5 (v / 128) (by omega)
  unfold enc
  rw [List.append_assoc, scan_lead _ 5 (v / 128) 6 (by omega) (by omega), show 6 - (lead (v / 128)).length = (5 - (lead (v / 128)).length) + 1 by omega, List.singleton_append]
  have hd : (UInt8.ofNat (v % 128)).toNat = v % 128 := by rw [UInt8.toNat_ofNat', Nat.mod_eq_of_lt (by omega)]
  simp only [scan]
  rw [hd, if_neg (by omega)]
  congr 2
  · omega
  · simp

theorem lead_head : ∀ (m v : Nat), v < 128 ^ m → 0 < v → ∃ c l, lead v = c :: l ∧ c ≠ 128
  | 0, v, hv, h => by simp at hv; omega
  | m + 1, v, hv, h => by
    rw [lead_pos h]
    rcases Nat.eq_zero_or_pos (v / 128) with e | e
    · rw [e, lead_zero]
      refine ⟨_, _, rfl, fun hc => ?_⟩
      have := congrArg UInt8.toNat hc
      rw [UInt8.toNat_ofNat', Nat.mod_eq_of_lt (by omega)] at this
      have h2 : (128 : UInt8).toNat = 128 := rfl
      omega
    · obtain ⟨c, l, h1, h2⟩ := lead_head m (v / 128) (by rw [Nat.div_lt_iff_lt_mul (by omega), ← Nat.pow_succ]; exact hv) e
      exact ⟨c, l ++ [_], by rw [h1]; rfl, h2⟩

theorem enc_head {v : Nat} (hv : v ≤ 1099511627776) : ∃ c l, enc v = c :: l ∧ c ≠ 128 := by
  unfold enc
  rcases Nat.eq_zero_or_pos (v / 128) with e | e
  · rw [e, lead_zero]
    refine ⟨_, _, rfl, fun hc => ?_⟩
    have := congrArg UInt8.toNat hc
    rw [UInt8.toNat_ofNat', Nat.mod_eq_of_lt (by omega)] at this
    have h2 : (128 : UInt8).toNat = 128 := rfl
    omega
  · obtain ⟨c, l, h1, h2⟩ := lead_head 6 (v / 128) (by omega) e
    exact ⟨c, l ++ [_], by rw [h1]; rfl, h2⟩

theorem look_enc (rest : List UInt8) {v : Nat} {most : Int} (hv : v ≤ 1099511627776) (hm : (v : Int) ≤ most) : lookM (enc v ++ rest) most = ((v : Int), (enc v).length, 0) := by
  obtain ⟨c, l, h1, h2⟩ := enc_head hv
  have hs := scan_enc rest hv
  rw [h1, List.cons_append] at hs ⊢
  simp only [lookM, if_neg h2, hs]
  rw [if_neg (by omega)]

theorem leApp2 {a b : List UInt8} {tip : Tip} : Le (.sl 1 (.app (.app (.raw []) (.map encB 0 a)) (.map encB 0 b)) tip) (.sl 1 (.map encB 0 (a ++ b)) .none) :=
  Le.sl (by simp [Ab.Seq.toList]) (.inl rfl) (.inr rfl)

theorem vlqBack_spec (x : Int) (s bs : List UInt8) : ASpec Try.prog 5 [.int .i64 x, .str (B s), .sl 1 (.map encB 0 bs) .none] [] (fun r H' => r = .bool true ∧ H' = []) := by
  refine endTrue (s5 _ _ _ _ _ (condD (fun _ => awakeT rfl) fun h1 => condD (fun _ => awakeT rfl) fun h2 => condD (fun _ => awakeT rfl) fun h3 => condD (fun _ => awakeT rfl) fun h4 => ?_))
  rw [B_size] at h3
  have hx := held_of (x := x) (by omega) (by omega)
  have hxl := held_le x
  have hs := held_of (x := (s.length : Int)) (by omega) (by omega)
  have hs : held s.length = s.length := by omega
  have e1 := enc_length (held x) hxl
  have e2 := enc_length s.length (by omega)
  refine put1 x _ ⟨_, rfl, rfl, ?_⟩
  refine ASpec.call (text_spec (enc (held x)) s (by unfold big; omega) _) ⟨Le.sl rfl (.inl rfl) (.inr rfl), Le.refl _, trivial⟩ ⟨_, rfl, rfl, ?_⟩
  rw [hs]
  refine needJ oneB (needJ (by simp only [List.length_append]; omega) (needJ oneB (needJ (by simp only [List.length_append]; omega) ?_)))
  generalize hfull : enc (held x) ++ enc s.length ++ s ++ bs = full
  have hlen : full.length = (enc (held x)).length + (enc s.length).length + s.length + bs.length := by rw [← hfull]; simp only [List.length_append]
  have hbig : full.length ≤ big := by unfold big; omega
  refine ASpec.call (open_spec full hbig _) ⟨by rw [← hfull]; exact leApp2, trivial⟩ ⟨_, rfl, rfl, ?_⟩
  have hn : numM full 0 0 x = (x, (enc (held x)).length, 0) := by
    have := look_enc (enc s.length ++ s ++ bs) hxl (most := x) (by omega)
    simp only [numM, if_neg (show ¬ ((0 : Int) ≠ 0) by simp), List.drop_zero]
    rw [← hfull, List.append_assoc, List.append_assoc, ← List.append_assoc (enc s.length), this, hx]
    simp
  have hst : strM full (enc (held x)).length 0 s.length = (s, (enc (held x)).length + (enc s.length).length + s.length, 0) := by
    have hd : full.drop (enc (held x)).length = enc s.length ++ (s ++ bs) := by
      rw [← hfull, List.append_assoc, List.append_assoc, List.drop_left]
    have hd2 : full.drop ((enc (held x)).length + (enc s.length).length) = s ++ bs := by
      rw [← List.drop_drop, hd, List.drop_left]
    have hl := look_enc (s ++ bs) (v := s.length) (most := s.length) (by omega) (by omega)
    simp only [strM, if_neg (show ¬ ((0 : Int) ≠ 0) by simp), hd, hl]
    rw [if_neg (by omega), hd2]
    simp
  refine ASpec.call (num_spec (id := 4) (bs := full) (p := 0) (e := 0) x hbig (by omega) rfl) (Les.refl _) ⟨(x, ((enc (held x)).length : Int), 0), by rw [hn], by rw [hn]; rfl, ?_⟩
  refine ASpec.call (str_spec (id := 4) (bs := full) (p := (enc (held x)).length) (e := 0) s.length hbig (by omega) rfl) ⟨Le.refl _, by rw [B_size]; exact Le.refl _, trivial⟩ ⟨(B s, (((enc (held x)).length + (enc s.length).length + s.length : Nat) : Int), 0), by rw [hst], by rw [hst]; rfl, ?_⟩
  refine condE (fun _ => condS (fun _ => ?_) fun h => (h rfl).elim) fun h => (h rfl).elim
  refine ASpec.call (err_spec (id := 4) (bs := full) (p := (enc (held x)).length + (enc s.length).length + s.length) (e := 0) rfl) (Les.refl _) ⟨_, rfl, rfl, condE (fun _ => ?_) fun h => (h rfl).elim⟩
  refine ASpec.call (left_spec (id := 4) (bs := full) (p := (enc (held x)).length + (enc s.length).length + s.length) (e := 0) hbig (by omega) rfl) (Les.refl _) ⟨_, rfl, rfl, condE (fun _ => awakeT rfl) fun h => (h (by omega)).elim⟩

end V
