/- Q7: several of this proof's own texts, one behind the other: what each proves stands at its head. -/
import Derived.Test.YtbjcdgepclmmjaaQ6
import Derived.Test.YtbjcdgepclmmjaaProg
import Derived.Test.YtbjcdgepclmmjaaQ5
import Derived.KernelRfl
import Derived.Test.YtbjcdgepclmmjaaA4
import Derived.Test.YtbjcdgepclmmjaaA3
import Derived.Sort.Walk0
import Derived.Lib.Bytealg
import Derived.Test.YtbjcdgepclmmjaaChecked
import Derived.JoinedOf
section
/- A trail: what is put, decided, derived, taken back. -/

set_option linter.unusedVariables false
set_option linter.unusedSimpArgs false
set_option maxRecDepth 100000
open Go Go.Ab Go.Proofs V S T C
open W (slS)
open Sp
namespace Tl
open Tm (okT agT fullT meetT meetT_spec ok_meet ok_full full_spec emptyT empty_spec withinT within_specT hasT has_specT chkT nameEq oneS one_spec)
section
variable {H : List AObj} {p a b : Nat} {E E' : List TE} {L L' : List Int}

theorem cloneSp (l : List Span) (hl : l.length ≤ lim) (H : List AObj) : ASpec Try.prog 255 [slS l] H (fun r H' => r = slS l ∧ H' = H) := by
  unfold lim at hl
  have k : ASpec Try.prog 255 [slS l] [] (fun r H' => r = slS l ∧ H' = []) := by
    refine ASpec.sel (Sg.s255 _ _ fun b hb => condB (fun h => Sg.pa ?_) fun h => needJ (fun x => rfl) (needJ (by omega) (Sg.pa ?_)))
    · have := hb h
      simp only [Ab.Seq.toList, List.map_eq_nil_iff] at this
      subst this
      exact Sg.leS0
    · exact Le.sl (s' := Seq.ren _ (.map encS (0, 0) l)) (by simp [Ab.Seq.toList, Seq.ren, W.renS]) (.inl rfl) (.inr rfl)
  exact ASpec.pureH H k _ _ rfl rfl

/-- the ends: nothing was replaced; some objects stand behind -/
theorem end3 {n : Nat} {r r0 : AV} (q : List AObj) (hle : ∀ ρ, Le r (AV.ren ρ r0)) (hn : n = 3) :
    ∃ l gb H2 r2, SelM n l gb (tO E L 1 2 :: .tok :: .tok :: q) H2 ∧ Le r (AV.ren (selR l (tO E L 1 2 :: .tok :: .tok :: q).length) r2) ∧ (r2 = r0 ∧ H2 = [tO E L 3 4, .gone, .gone, .tok, .tok]) := by
  subst hn
  refine ⟨[0, 1, 2, 1, 2], [false, true, true, false, false], [tO E L 3 4, .gone, .gone, .tok, .tok], r0, ⟨by decide, rfl, rfl, by decide, fun j hj => ?_, fun j hj => ?_⟩, hle _, rfl, rfl⟩
  · match j, hj with
    | 0, _ | 1, _ | 2, _ => rfl
  · match j, hj with
    | 0, _ => exact .inl rfl
    | 1, _ | 2, _ => exact .inr rfl
    | 3, _ | 4, _ => exact .inl rfl

theorem new_spec (H : List AObj) : ASpec Try.prog 28 [] H (fun r H' => r = .ptr H.length 0 ∧ H' = H ++ [tO [] [] (H.length + 1) (H.length + 2), .tok, .tok]) := by
  have re : ∀ {Post : AV → List AObj → Prop}, ASpec Try.prog 28 [] [] (fun r H' => ∃ H2, ReSt 0 [(0, r)] H' [(0, r)] H2 ∧ Post r H2) → ASpec Try.prog 28 [] [] Post := by
    intro Post h M loc w vs ht hr hv
    refine (h M loc w vs ht hr hv).mono fun e w' hh => ?_
    obtain ⟨v, r, H', M', loc', he, ⟨H2, hs, hP⟩, r1, r2', r3⟩ := hh
    obtain ⟨M2, loc2, q1, q2, q3⟩ := hs M' loc' w' #[v] r3.len r1 (fun d => by
      by_cases hd : d = 0
      · subst hd; exact r2'
      · have : Nat.beq 0 d = false := by
          cases hx : Nat.beq 0 d with
          | false => rfl
          | true => exact absurd (Nat.eq_of_beq_eq_true hx).symm hd
        simp only [Ab.get, this]
        exact .bad _)
    exact ⟨v, r, H2, M2, loc2, he, hP, q1, q2 0, StepN.trans r3 q3 (Nat.le_refl _)⟩
  have k : ASpec Try.prog 28 [] [] (fun r H' => r = .ptr 0 0 ∧ H' = HT [] []) := by
    refine re (s28 _ ⟨HT [] [], ?_, rfl, rfl⟩)
    refine ReSt.trans (ReSt.tokCell (id := 0) (j := 0) (sz := 0) (q := .raw []) (tip := .nil) (cs := [.sl 0 (.raw []) .nil, .sl 0 (.raw []) .nil]) (q' := .map encTE noTE []) (sz' := 5) rfl rfl (.inl rfl) rfl (.inr rfl)) ?_
    exact ReSt.tokCell (id := 0) (j := 1) (sz := 0) (q := .raw []) (tip := .nil) (cs := [.sl 5 (.map encTE noTE []) (.tok 1), .sl 0 (.raw []) .nil]) (q' := .map encI 0 []) (sz' := 1) rfl rfl (.inl rfl) rfl (.inr rfl)
  exact ASpec.anyH H k _ _ _ rfl rfl rfl

theorem put0 (t : Term) (c : Int) (ht : t.2.1.length ≤ lim) (hE : E.length ≤ lim) :
    ASpec Try.prog 156 [.ptr 0 0, agT t, .int .i64 c] (HT E L) (fun r H' => r = .tup [] ∧ H' = [tO (E ++ [(t, (L.length : Int), c)]) L 3 4, .gone, .gone, .tok, .tok]) := by
  unfold lim at hE
  refine ASpec.selM (ASpec.cellEnd (s156 _ _ _ _ _ (ASpec.call (cloneSp _ ht _) (Les.refl _) ⟨t.2.1, rfl, rfl, ?_⟩)))
  refine ASpec.call (level_spec (atL E L _)) (Les.refl _) ⟨(L.length : Int), rfl, rfl, ⟨rfl, rfl⟩, ⟨rfl, rfl⟩, needJ (by omega) ?_⟩
  refine ⟨0, _, [.sl 5 (.map encTE noTE (E ++ [(t, (L.length : Int), c)])) (.tok 4), .sl 1 (.map encI 0 L) (.tok 2)], rfl, ⟨leAppE (Les.refl _), Le.refl _, trivial⟩, ?_⟩
  refine ⟨[0, 1, 2, 4, 2], [false, true, true, false, false], [tO (E ++ [(t, (L.length : Int), c)]) L 3 4, .gone, .gone, .tok, .tok], .tup [], ⟨by decide, rfl, rfl, by show 3 ≤ 5; omega, fun j hj => ?_, fun j hj => ?_⟩, Le.refl _, rfl, rfl⟩
  · match j, hj with
    | 0, _ | 1, _ | 2, _ => rfl
  · match j, hj with
    | 0, _ => exact .inl rfl
    | 1, _ => exact .inr rfl
    | 2, _ => exact .inr rfl
    | 3, _ | 4, _ => exact .inl rfl

theorem put_spec (h : At H p a b E L) (t : Term) (c : Int) (ht : t.2.1.length ≤ lim) (hE : E.length ≤ lim) :
    ASpec Try.prog 156 [.ptr p 0, agT t, .int .i64 c] H (fun r H' => r = .tup [] ∧ H' = hTt H p a b (E ++ [(t, (L.length : Int), c)]) L) :=
  liftG h (put0 t c ht hE) rfl rfl (gT h)

/-! ### what is decided -/

abbrev Res := Int × List TE × List Int
noncomputable def decM (E : List TE) (L : List Int) (s : List UInt8) (v : Int) : Res :=
  if fitM s = false ∨ v < 0 ∨ 1000000000 ≤ v then (1, E, L)
  else if hasS (knowM E s).2.1 v = false then (5, E, L)
  else (0, E ++ [((s, oneS v, false), (L.length : Int) + 1, -1)], L ++ [(E.length : Int)])

theorem dec0 (hE : okTE E) (hL : L.length ≤ lim) (s : List UInt8) (hs : s.length ≤ lim) (v : Int) {R : Res} (hR : decM E L s v = R) :
    ASpec Try.prog 31 [.ptr 0 0, .str (B s), .int .i64 v] (HT E L) (fun r H' => r = .int .i64 R.1 ∧ H' = [tO R.2.1 R.2.2 3 4, .gone, .gone, .tok, .tok]) := by
  unfold lim at hs hL
  have hE1 := hE.1
  refine ASpec.selM (s31 _ _ _ _ _ (ASpec.call (fit_spec (l := s) (by unfold big; omega) _) (Les.refl _) ⟨_, rfl, rfl, condBn (fun h => ?_) fun h => condD (fun h1 => ?_) fun h1 => condD (fun h2 => ?_) fun h2 => ?_⟩))
  · rw [decM, if_pos (.inl h)] at hR; subst hR
    exact end3 (n := 3) [] (fun ρ => Le.refl _) rfl
  · rw [decM, if_pos (.inr (.inl h1))] at hR; subst hR
    exact end3 (n := 3) [] (fun ρ => Le.refl _) rfl
  · rw [decM, if_pos (.inr (.inr (by omega)))] at hR; subst hR
    exact end3 (n := 3) [] (fun ρ => Le.refl _) rfl
  · rw [decM, if_neg (by rw [h]; simp; omega)] at hR
    refine ASpec.call (know_spec (atL E L []) hE s) (Les.refl _) ⟨knowM E s, rfl, rfl, ?_⟩
    refine ASpec.call (has_specT (knowM E s) v true (knowM_ok hE s) _) (Les.refl _) ⟨_, rfl, rfl, ?_⟩
    have hh : hasT (knowM E s) v true = hasS (knowM E s).2.1 v := rfl
    rw [hh]
    refine condBn (fun h3 => ?_) fun h3 => needJ (by omega) ?_
    · rw [if_pos h3] at hR; subst hR
      exact end3 (n := 3) [] (fun ρ => Le.refl _) rfl
    · rw [if_neg (by rw [h3]; simp)] at hR; subst hR
      refine ASpec.call (one_spec v _) (Les.refl _) ⟨oneS v, rfl, rfl, ?_⟩
      have h1s : (oneS v).length ≤ lim := by unfold oneS lim; split <;> simp
      refine ASpec.inCell 0 [.sl 5 (.map encTE noTE E) (.tok 1), .sl 1 (.map encI 0 (L ++ [(E.length : Int)])) (.tok 3)] rfl ⟨Le.refl _, leAppE (Les.refl _), trivial⟩ ?_
      have hp := put_spec (p := 0) (a := 1) (b := 3) (H := [tO E (L ++ [(E.length : Int)]) 1 3, .tok, .gone, .tok]) (E := E) (L := L ++ [(E.length : Int)]) ⟨rfl, rfl, rfl, by decide, by decide, by decide⟩ (s, oneS v, false) (-1) h1s hE1
      have hlen : (((L ++ [(E.length : Int)]).length : Nat) : Int) = (L.length : Int) + 1 := by simp
      rw [hlen] at hp
      refine ASpec.call hp (Les.refl _) ⟨(E ++ [((s, oneS v, false), (L.length : Int) + 1, -1)], L ++ [(E.length : Int)]), rfl, rfl, ?_⟩
      refine ⟨[0, 1, 2, 4, 5], [false, true, true, false, false], [tO (E ++ [((s, oneS v, false), (L.length : Int) + 1, -1)]) (L ++ [(E.length : Int)]) 3 4, .gone, .gone, .tok, .tok], .int .i64 0, ⟨by decide, rfl, rfl, by show 3 ≤ 5; omega, fun j hj => ?_, fun j hj => ?_⟩, Le.refl _, rfl, rfl⟩
      · match j, hj with
        | 0, _ | 1, _ | 2, _ => rfl
      · match j, hj with
        | 0, _ => exact .inl rfl
        | 1, _ | 2, _ => exact .inr rfl
        | 3, _ | 4, _ => exact .inl rfl

theorem dec_spec (h : At H p a b E L) (hE : okTE E) (hL : L.length ≤ lim) (s : List UInt8) (hs : s.length ≤ lim) (v : Int) :
    ASpec Try.prog 31 [.ptr p 0, .str (B s), .int .i64 v] H (fun r H' => r = .int .i64 (decM E L s v).1 ∧ H' = hTt H p a b (decM E L s v).2.1 (decM E L s v).2.2) :=
  liftG h (dec0 hE hL s hs v rfl) rfl rfl (gT h)

/-! ### what is derived -/

noncomputable def derM (E : List TE) (L : List Int) (t : Term) (c : Int) : Res :=
  if chkT t = false ∨ c < 0 then (1, E, L)
  else if emptyT (meetT (knowM E t.1) t) = true then (5, E, L)
  else if withinT (knowM E t.1) t = true then (6, E, L)
  else (0, E ++ [(t, (L.length : Int), c)], L)

theorem der0 (hE : okTE E) (hL : L.length ≤ lim) (t : Term) (ht1 : t.1.length ≤ lim) (ht2 : t.2.1.length ≤ lim) (c : Int) {R : Res} (hR : derM E L t c = R) :
    ASpec Try.prog 32 [.ptr 0 0, agT t, .int .i64 c] (HT E L) (fun r H' => r = .int .i64 R.1 ∧ H' = [tO R.2.1 R.2.2 3 4, .gone, .gone, .tok, .tok]) := by
  refine ASpec.selM (s32 _ _ _ _ _ (ASpec.call (Tm.check_spec t ht1 ht2 _) (Les.refl _) ⟨_, rfl, rfl, condBn (fun h => ?_) fun h => condD (fun h1 => ?_) fun h1 => ?_⟩))
  · rw [derM, if_pos (.inl h)] at hR; subst hR
    exact end3 (n := 3) _ (fun ρ => Le.refl _) rfl
  · rw [derM, if_pos (.inr h1)] at hR; subst hR
    exact end3 (n := 3) _ (fun ρ => Le.refl _) rfl
  · rw [derM, if_neg (by rw [h]; simp; omega)] at hR
    have hok : okT t := by
      unfold chkT at h
      rw [Bool.and_eq_true] at h
      exact h.2
    refine ASpec.call (know_spec (atL E L _) hE t.1) (Les.refl _) ⟨knowM E t.1, rfl, rfl, ?_⟩
    have hk := knowM_ok hE t.1
    generalize knowM E t.1 = k at hk hR ⊢
    refine ASpec.call (meetT_spec k t hk hok _) (Les.refl _) ⟨meetT k t, rfl, rfl, ?_⟩
    refine ASpec.call (empty_spec (meetT k t) _) (Les.refl _) ⟨_, rfl, rfl, condB (fun h2 => ?_) fun h2 => ?_⟩
    · rw [if_pos h2] at hR; subst hR
      exact end3 (n := 3) _ (fun ρ => Le.refl _) rfl
    · rw [if_neg (by rw [h2]; simp)] at hR
      refine ASpec.call (within_specT k t hk hok _) (Les.refl _) ⟨_, rfl, rfl, condB (fun h3 => ?_) fun h3 => ?_⟩
      · rw [if_pos h3] at hR; subst hR
        exact end3 (n := 3) _ (fun ρ => Le.refl _) rfl
      · rw [if_neg (by rw [h3]; simp)] at hR; subst hR
        refine ASpec.call (put_spec (atL E L _) t c ht2 hE.1) (Les.refl _) ⟨(E ++ [(t, (L.length : Int), c)], L), rfl, rfl, ?_⟩
        refine ⟨[0, 1, 2, 5, 6], [false, true, true, false, false], [tO (E ++ [(t, (L.length : Int), c)]) L 3 4, .gone, .gone, .tok, .tok], .int .i64 0, ⟨by decide, rfl, rfl, by show 3 ≤ 5; omega, fun j hj => ?_, fun j hj => ?_⟩, Le.refl _, rfl, rfl⟩
        · match j, hj with
          | 0, _ | 1, _ | 2, _ => rfl
        · match j, hj with
          | 0, _ => exact .inl rfl
          | 1, _ | 2, _ => exact .inr rfl
          | 3, _ | 4, _ => exact .inl rfl

theorem der_spec (h : At H p a b E L) (hE : okTE E) (hL : L.length ≤ lim) (t : Term) (ht1 : t.1.length ≤ lim) (ht2 : t.2.1.length ≤ lim) (c : Int) :
    ASpec Try.prog 32 [.ptr p 0, agT t, .int .i64 c] H (fun r H' => r = .int .i64 (derM E L t c).1 ∧ H' = hTt H p a b (derM E L t c).2.1 (derM E L t c).2.2) :=
  liftG h (der0 hE hL t ht1 ht2 c rfl) rfl rfl (gT h)

end
end Tl
end

section
/- A trail: what is taken back; what is known only becomes less. -/

set_option linter.unusedVariables false
set_option linter.unusedSimpArgs false
set_option maxRecDepth 100000
open Go Go.Ab Go.Proofs V S T C
open W (slS)
open Sp
namespace Tl
open Tm (okT agT fullT meetT meetT_spec ok_meet ok_full full_spec emptyT empty_spec withinT within_specT hasT has_specT chkT nameEq oneS one_spec)
/-- the end of a call, spelled otherwise -/
theorem ASpec.reEnd {P : Program} {f : FuncId} {args : List AV} {H : List AObj} {Post : AV → List AObj → Prop}
    (h : ASpec P f args H (fun r H' => ∃ r2 H2, ReSt H.length [(0, r)] H' [(0, r2)] H2 ∧ Post r2 H2)) : ASpec P f args H Post := by
  intro M loc w vs ht hr hv
  refine (h M loc w vs ht hr hv).mono fun e w' hh => ?_
  obtain ⟨v, r, H', M', loc', he, ⟨r2, H2, hs, hP⟩, r1, r2', r3⟩ := hh
  obtain ⟨M2, loc2, q1, q2, q3⟩ := hs M' loc' w' #[v] r3.len r1 (fun d => by
    by_cases hd : d = 0
    · subst hd; exact r2'
    · have : Nat.beq 0 d = false := by
        cases hx : Nat.beq 0 d with
        | false => rfl
        | true => exact absurd (Nat.eq_of_beq_eq_true hx).symm hd
      simp only [Ab.get, this]
      exact .bad _)
  exact ⟨v, r2, H2, M2, loc2, he, hP, q1, q2 0, StepN.trans r3 q3 (Nat.le_refl _)⟩

section
variable {H : List AObj} {p a b : Nat} {E E' : List TE} {L L' : List Int}

def backM (E : List TE) (L : List Int) (n : Int) : List TE × List Int := if (L.length : Int) ≤ n then (E, L) else (E.take (L.getD n.toNat 0).toNat, L.take n.toNat)

theorem back0 (n : Int) (hn : 0 ≤ n) (hL : ∀ x ∈ L, 0 ≤ x ∧ x ≤ (E.length : Int)) {R : List TE × List Int} (hR : backM E L n = R) :
    ASpec Try.prog 35 [.ptr 0 0, .int .i64 n] (HT E L) (fun r H' => r = .tup [] ∧ H' = [tO R.1 R.2 3 4, .gone, .gone, .tok, .tok]) := by
  have e1 : (if (0 : Int) > n then (0 : Int) else n) = n := by split <;> omega
  refine ASpec.selM (ASpec.reEnd (s35 _ _ _ _ (ASpec.call (level_spec (atL E L [])) (Les.refl _) ⟨(L.length : Int), rfl, rfl, ?_⟩)))
  rw [e1]
  refine condD (fun h => ?_) fun h => ?_
  · rw [backM, if_pos (by omega)] at hR; subst hR
    exact ⟨.tup [], HT E L, ReSt.le (fun d => Le.refl _) (by show 3 ≤ 3; omega), end3 (n := 3) [] (fun ρ => Le.refl _) rfl⟩
  · rw [backM, if_neg (by omega)] at hR; subst hR
    obtain ⟨k, rfl⟩ := Int.eq_ofNat_of_zero_le hn
    rw [Int.toNat_natCast]
    have hk : k < L.length := by omega
    have hx := hL _ (getD_mem (d := 0) hk)
    refine needJ ⟨by omega, by omega⟩ (needJ ⟨hx.1, hx.2, rfl⟩ (needJ ⟨by omega, by omega, rfl⟩ ?_))
    rw [List.drop_zero, List.drop_zero]
    generalize (L.getD k 0).toNat = j
    refine ⟨.tup [], [.cells [.sl 5 (.map encTE noTE (E.take j)) (.tok 3), .sl 1 (.map encI 0 (L.take k)) (.tok 4)], .tok, .tok, .tok, .tok], ?_, [0, 1, 2, 3, 4], [false, true, true, false, false], [tO (E.take j) (L.take k) 3 4, .gone, .gone, .tok, .tok], .tup [], ⟨by decide, rfl, rfl, by show 3 ≤ 5; omega, fun i hi => ?_, fun i hi => ?_⟩, Le.refl _, rfl, rfl⟩
    · refine ReSt.trans (ReSt.tokCell (id := 0) (j := 0) (sz := 5) (q := .map encTE noTE (E.take j)) (tip := .full) (cs := [.sl 5 (.map encTE noTE (E.take j)) .full, .sl 1 (.map encI 0 (L.take k)) .full]) (q' := .map encTE noTE (E.take j)) (sz' := 5) rfl rfl (.inr rfl) rfl (.inl rfl)) ?_
      exact ReSt.tokCell (id := 0) (j := 1) (sz := 1) (q := .map encI 0 (L.take k)) (tip := .full) (cs := [.sl 5 (.map encTE noTE (E.take j)) (.tok 3), .sl 1 (.map encI 0 (L.take k)) .full]) (q' := .map encI 0 (L.take k)) (sz' := 1) rfl rfl (.inr rfl) rfl (.inl rfl)
    · match i, hi with
      | 0, _ | 1, _ | 2, _ => rfl
    · match i, hi with
      | 0, _ => exact .inl rfl
      | 1, _ | 2, _ => exact .inr rfl
      | 3, _ | 4, _ => exact .inl rfl

theorem back_spec (h : At H p a b E L) (n : Int) (hn : 0 ≤ n) (hL : ∀ x ∈ L, 0 ≤ x ∧ x ≤ (E.length : Int)) :
    ASpec Try.prog 35 [.ptr p 0, .int .i64 n] H (fun r H' => r = .tup [] ∧ H' = hTt H p a b (backM E L n).1 (backM E L n).2) :=
  liftG h (back0 n hn hL rfl) rfl rfl (gT h)

/-! ### what is known only becomes less -/

theorem knowF_append (s : List UInt8) (x : TE) : ∀ (E : List TE) (o : Term), knowF s o (E ++ [x]) = if x.1.1 = s then meetT (knowF s o E) x.1 else knowF s o E
  | [], o => by simp only [List.nil_append, knowF]
  | e :: r, o => by
    simp only [List.cons_append, knowF]
    split <;> exact knowF_append s x r _

theorem knowM_append (E : List TE) (x : TE) (s : List UInt8) : knowM (E ++ [x]) s = if x.1.1 = s then meetT (knowM E s) x.1 else knowM E s := knowF_append s x E _

theorem know_name : ∀ (E : List TE) (s : List UInt8) (o : Term), o.1 = s → (knowF s o E).1 = s
  | [], s, o, h => h
  | e :: r, s, o, h => by
    simp only [knowF]
    split
    · rename_i h2
      refine know_name r s _ ?_
      rw [meetT, if_pos (by rw [h, h2])]; exact h
    · exact know_name r s o h

theorem knowM_name (E : List TE) (s : List UInt8) : (knowM E s).1 = s := know_name E s _ rfl

theorem within_refl {t : Term} (h : okT t) : withinT t t = true := by
  unfold withinT
  have : Sg.subS t.2.1 t.2.1 = true := (Sg.subS_iff h h).2 (fun p hp => hp)
  rw [this]; cases t.2.2 <;> simp

/-- what holds of a trail, and of what was known at each level -/
structure Inv (s : List UInt8) (i : Nat) (E : List TE) (L : List Int) (K : List Term) : Prop where
  ok : okTE E
  len : E.length ≤ i ∧ L.length ≤ i
  lev : ∀ x ∈ L, 0 ≤ x ∧ x ≤ (E.length : Int)
  kl : K.length = L.length + 1
  kn : ∀ j, j < L.length → K.getD j noT = knowM (E.take (L.getD j 0).toNat) s
  now : K.getD L.length noT = knowM E s
  ne : emptyT (knowM E s) = false

end
end Tl
end

section
/- Printed: what the code of functions 81 asks for, by the framework's own reading of it; each line is checked against the code. -/

set_option linter.unusedVariables false
set_option maxRecDepth 100000
set_option maxHeartbeats 4000000
open Go Go.Ab Go.Proofs
namespace Tf
noncomputable section

noncomputable def rets : FuncId → List Ret := Tl.rets

-- 81
noncomputable def l81 : Nat → List Nat
  | 5 => [0, 5, 12, 13, 14]
  | 9 => [0, 5, 7, 8, 9, 12, 13, 14]
  | _ => []
noncomputable def u81 : Nat → Bool
  | _ => false
noncomputable def m81 : Nat → Bool
  | _ => false
noncomputable def g81 : Cfg := { N := 67, live := l81, cut := u81, mu := m81, ret := rets }
noncomputable def c81 : Go.Code := Go.Ab.bodyOf Go.Proofs.Try.f81
noncomputable def q81_0 : Nat → (AV → List AObj → Prop) → AQ := fun (n : Nat) (Post : AV → List AObj → Prop) => endQ Try.prog (resultsOf Try.f81) Post
noncomputable def q81_1 : Nat → (AV → List AObj → Prop) → AQ := fun (n : Nat) (Post : AV → List AObj → Prop) => seqQ (fun (s' : Slots) (H' : List AObj) => awp Try.prog g81 n (codeSnd (codeSnd (codeSnd (codeSnd c81)))) s' H' (q81_0 n Post)) (q81_0 n Post)
noncomputable def q81_2 : Nat → (AV → List AObj → Prop) → AQ := fun (n : Nat) (Post : AV → List AObj → Prop) => blockQ 0 (q81_1 n Post)
noncomputable def c81_5 : Go.Code := codeFst (codeSnd (codeFst (codeSnd (codeSnd (codeSnd c81)))))
theorem s81 : ∀ (E : List T.TE) (L : List Int) (c : List T.Term) (Post : AV → List AObj → Prop),
  AWP Try.prog 67 3 c81_5
      [(0, AV.ptr 0 0), (5, AV.int IntKind.i64 (0 : Int)), (12, AV.sl 3 (Seq.map T.encT T.noT c) Tip.none),
        (13, AV.int IntKind.i64 (↑(List.length c) : Int)), (14, AV.int IntKind.i64 (0 : Int))]
      [AObj.cells [AV.sl 5 (Seq.map T.encTE T.noTE E) (Tip.tok 1), AV.sl 1 (Seq.map encI (0 : Int) L) (Tip.tok 2)], AObj.tok, AObj.tok] (q81_2 3 Post) →
    ASpec Try.prog 81 [AV.ptr 0 0, AV.sl 3 (Seq.map T.encT T.noT c) Tip.none] (T.HT E L) Post := fun E L c Post h => Go.Ab.ASpec.of_vc g81 Go.Proofs.Try.func81 (by kernel_rfl) (by kernel_rfl) (by kernel_rfl) (Go.Ab.kc (by kernel_rfl) h)
noncomputable def q81_3 : Nat → (AV → List AObj → Prop) → AQ := fun (n : Nat) (Post : AV → List AObj → Prop) => loopQ Try.prog 67 n c81_5 (q81_2 n Post) (Cfg.live g81)
noncomputable def q81_4 : Nat → (AV → List AObj → Prop) → AQ := fun (n : Nat) (Post : AV → List AObj → Prop) => seqQ (fun (s' : Slots) (H' : List AObj) => awp Try.prog g81 n (codeSnd (codeSnd (codeSnd (codeFst c81_5)))) s' H' (q81_3 n Post)) (q81_3 n Post)
noncomputable def q81_5 : Nat → (AV → List AObj → Prop) → AQ := fun (n : Nat) (Post : AV → List AObj → Prop) => blockQ 1 (q81_4 n Post)
noncomputable def q81_6 : Nat → (AV → List AObj → Prop) → AQ := fun (n : Nat) (Post : AV → List AObj → Prop) => seqQ (fun (s' : Slots) (H' : List AObj) => awp Try.prog g81 n (codeSnd (codeSnd (codeSnd (codeSnd (codeFst (codeFst (codeSnd (codeSnd (codeFst c81_5))))))))) s' H' (q81_5 n Post)) (q81_5 n Post)
noncomputable def q81_7 : Nat → (AV → List AObj → Prop) → AQ := fun (n : Nat) (Post : AV → List AObj → Prop) => blockQ 2 (q81_6 n Post)
noncomputable def c81_9 : Go.Code := codeFst (codeFst (codeSnd (codeSnd (codeSnd (codeFst (codeFst (codeSnd (codeSnd (codeFst c81_5)))))))))
theorem v81_5 : ∀ (E : List T.TE) (L : List Int) (c : List T.Term) (m n i : Int) (n_1 : Nat) (Post : AV → List AObj → Prop),
  condP (decide (i < n))
      (needP ((0 : Int) ≤ i ∧ i < (↑(List.length c) : Int))
        (ASpec Try.prog 200 [AV.str { data := List.toArray (Prod.fst (List.getD c (Int.toNat i) T.noT)) }]
        [AObj.cells [AV.sl 5 (Seq.map T.encTE T.noTE E) (Tip.tok 1), AV.sl 1 (Seq.map encI (0 : Int) L) (Tip.tok 2)], AObj.tok, AObj.tok,
        AObj.cells
        [AV.str { data := List.toArray (Prod.fst (List.getD c (Int.toNat i) T.noT)) },
        AV.sl 2 (Seq.map T.encS ((0 : Int), (0 : Int)) (Prod.fst (Prod.snd (List.getD c (Int.toNat i) T.noT)))) Tip.none,
        AV.bool (Prod.snd (Prod.snd (List.getD c (Int.toNat i) T.noT)))]]
        fun (r : AV) (H' : List AObj) =>
        ∃ (x : List UInt8 × List T.Span × Bool),
        r = AV.agg [AV.str { data := List.toArray (Prod.fst x) }, AV.sl 2 (Seq.map T.encS ((0 : Int), (0 : Int)) (Prod.fst (Prod.snd x))) Tip.none, AV.bool (Prod.snd (Prod.snd x))] ∧
        H' =
        [AObj.cells [AV.sl 5 (Seq.map T.encTE T.noTE E) (Tip.tok 1), AV.sl 1 (Seq.map encI (0 : Int) L) (Tip.tok 2)], AObj.tok, AObj.tok,
        AObj.cells
        [AV.str { data := List.toArray (Prod.fst (List.getD c (Int.toNat i) T.noT)) },
        AV.sl 2 (Seq.map T.encS ((0 : Int), (0 : Int)) (Prod.fst (Prod.snd (List.getD c (Int.toNat i) T.noT)))) Tip.none,
        AV.bool (Prod.snd (Prod.snd (List.getD c (Int.toNat i) T.noT)))]] ∧
        AWP Try.prog 67 n_1 c81_9
        [(0, AV.ptr 0 0), (5, AV.int IntKind.i64 m), (7, AV.ptr 3 0), (8, AV.ptr 4 0),
        (9, AV.int IntKind.i64 (0 : Int)), (12, AV.sl 3 (Seq.map T.encT T.noT c) Tip.none), (13, AV.int IntKind.i64 n), (14, AV.int IntKind.i64 i)]
        [AObj.cells [AV.sl 5 (Seq.map T.encTE T.noTE E) (Tip.tok 1), AV.sl 1 (Seq.map encI (0 : Int) L) (Tip.tok 2)], AObj.tok, AObj.tok,
        AObj.cells
        [AV.str { data := List.toArray (Prod.fst (List.getD c (Int.toNat i) T.noT)) },
        AV.sl 2 (Seq.map T.encS ((0 : Int), (0 : Int)) (Prod.fst (Prod.snd (List.getD c (Int.toNat i) T.noT)))) Tip.none,
        AV.bool (Prod.snd (Prod.snd (List.getD c (Int.toNat i) T.noT)))],
        AObj.cells
        [AV.str { data := List.toArray (Prod.fst x) }, AV.sl 2 (Seq.map T.encS ((0 : Int), (0 : Int)) (Prod.fst (Prod.snd x))) Tip.none, AV.bool (Prod.snd (Prod.snd x))]]
        (q81_7 n_1 Post)))
      (Post (AV.int IntKind.i64 m) [AObj.cells [AV.sl 5 (Seq.map T.encTE T.noTE E) (Tip.tok 1), AV.sl 1 (Seq.map encI (0 : Int) L) (Tip.tok 2)], AObj.tok, AObj.tok]) →
    AWP Try.prog 67 n_1 c81_5
      [(0, AV.ptr 0 0), (5, AV.int IntKind.i64 m), (12, AV.sl 3 (Seq.map T.encT T.noT c) Tip.none), (13, AV.int IntKind.i64 n),
        (14, AV.int IntKind.i64 i)]
      (T.HT E L) (q81_2 n_1 Post) := fun E L c m n i n Post h => Go.Ab.AWP.loop' g81 (Cfg.live g81) c81_5 (by kernel_rfl) (by kernel_rfl) (Go.Ab.kc (by kernel_rfl) h)
theorem v81_9 : ∀ (E : List T.TE) (L : List Int) (c : List T.Term) (m n i j : Int) (x k : T.Term) (n_1 : Nat) (Post : AV → List AObj → Prop),
  condP (decide (j < (↑(List.length E) : Int)))
      (ASpec Try.prog 161
        [AV.agg [AV.str { data := List.toArray (Prod.fst k) }, AV.sl 2 (Seq.map T.encS ((0 : Int), (0 : Int)) (Prod.fst (Prod.snd k))) Tip.none, AV.bool (Prod.snd (Prod.snd k))],
        AV.agg [AV.str { data := List.toArray (Prod.fst x) }, AV.sl 2 (Seq.map T.encS ((0 : Int), (0 : Int)) (Prod.fst (Prod.snd x))) Tip.none, AV.bool (Prod.snd (Prod.snd x))]]
        [AObj.cells [AV.sl 5 (Seq.map T.encTE T.noTE E) (Tip.tok 1), AV.sl 1 (Seq.map encI (0 : Int) L) (Tip.tok 2)], AObj.tok, AObj.tok,
        AObj.cells [AV.str { data := List.toArray (Prod.fst x) }, AV.sl 2 (Seq.map T.encS ((0 : Int), (0 : Int)) (Prod.fst (Prod.snd x))) Tip.none, AV.bool (Prod.snd (Prod.snd x))],
        AObj.cells [AV.str { data := List.toArray (Prod.fst k) }, AV.sl 2 (Seq.map T.encS ((0 : Int), (0 : Int)) (Prod.fst (Prod.snd k))) Tip.none, AV.bool (Prod.snd (Prod.snd k))]]
        fun (r : AV) (H' : List AObj) =>
        ∃ (x_1 : Bool),
        r = AV.bool x_1 ∧
        H' =
        [AObj.cells [AV.sl 5 (Seq.map T.encTE T.noTE E) (Tip.tok 1), AV.sl 1 (Seq.map encI (0 : Int) L) (Tip.tok 2)], AObj.tok, AObj.tok,
        AObj.cells [AV.str { data := List.toArray (Prod.fst x) }, AV.sl 2 (Seq.map T.encS ((0 : Int), (0 : Int)) (Prod.fst (Prod.snd x))) Tip.none, AV.bool (Prod.snd (Prod.snd x))],
        AObj.cells
        [AV.str { data := List.toArray (Prod.fst k) }, AV.sl 2 (Seq.map T.encS ((0 : Int), (0 : Int)) (Prod.fst (Prod.snd k))) Tip.none, AV.bool (Prod.snd (Prod.snd k))]] ∧
        condP (!x_1)
        (needP ((0 : Int) ≤ j ∧ j < (↑(List.length E) : Int))
        (condP (ByteArray.toList { data := List.toArray (Prod.fst (Prod.fst (List.getD E (Int.toNat j) T.noTE))) } == ByteArray.toList { data := List.toArray (Prod.fst x) })
        (needP ((0 : Int) ≤ j ∧ j < (↑(List.length E) : Int))
        (ASpec Try.prog 160
        [AV.agg
        [AV.str { data := List.toArray (Prod.fst k) }, AV.sl 2 (Seq.map T.encS ((0 : Int), (0 : Int)) (Prod.fst (Prod.snd k))) Tip.none, AV.bool (Prod.snd (Prod.snd k))],
        AV.agg
        [AV.str { data := List.toArray (Prod.fst (Prod.fst (List.getD E (Int.toNat j) T.noTE))) },
        AV.sl 2 (Seq.map T.encS ((0 : Int), (0 : Int)) (Prod.fst (Prod.snd (Prod.fst (List.getD E (Int.toNat j) T.noTE))))) Tip.none,
        AV.bool (Prod.snd (Prod.snd (Prod.fst (List.getD E (Int.toNat j) T.noTE))))]]
        [AObj.cells [AV.sl 5 (Seq.map T.encTE T.noTE E) (Tip.tok 1), AV.sl 1 (Seq.map encI (0 : Int) L) (Tip.tok 2)], AObj.tok, AObj.tok,
        AObj.cells
        [AV.str { data := List.toArray (Prod.fst x) }, AV.sl 2 (Seq.map T.encS ((0 : Int), (0 : Int)) (Prod.fst (Prod.snd x))) Tip.none, AV.bool (Prod.snd (Prod.snd x))],
        AObj.cells
        [AV.str { data := List.toArray (Prod.fst k) }, AV.sl 2 (Seq.map T.encS ((0 : Int), (0 : Int)) (Prod.fst (Prod.snd k))) Tip.none, AV.bool (Prod.snd (Prod.snd k))]]
        fun (r : AV) (H' : List AObj) =>
        ∃ (x_2 : List UInt8 × List T.Span × Bool),
        r =
        AV.agg
        [AV.str { data := List.toArray (Prod.fst x_2) }, AV.sl 2 (Seq.map T.encS ((0 : Int), (0 : Int)) (Prod.fst (Prod.snd x_2))) Tip.none,
        AV.bool (Prod.snd (Prod.snd x_2))] ∧
        H' =
        [AObj.cells [AV.sl 5 (Seq.map T.encTE T.noTE E) (Tip.tok 1), AV.sl 1 (Seq.map encI (0 : Int) L) (Tip.tok 2)], AObj.tok, AObj.tok,
        AObj.cells
        [AV.str { data := List.toArray (Prod.fst x) }, AV.sl 2 (Seq.map T.encS ((0 : Int), (0 : Int)) (Prod.fst (Prod.snd x))) Tip.none,
        AV.bool (Prod.snd (Prod.snd x))],
        AObj.cells
        [AV.str { data := List.toArray (Prod.fst k) }, AV.sl 2 (Seq.map T.encS ((0 : Int), (0 : Int)) (Prod.fst (Prod.snd k))) Tip.none,
        AV.bool (Prod.snd (Prod.snd k))]] ∧
        AWP Try.prog 67 n_1 c81_9
        [(0, AV.ptr 0 0), (5, AV.int IntKind.i64 m), (7, AV.ptr 3 0), (8, AV.ptr 4 0),
        (9, AV.int IntKind.i64 (IntKind.wrap IntKind.i64 (j + (1 : Int)))), (12, AV.sl 3 (Seq.map T.encT T.noT c) Tip.none),
        (13, AV.int IntKind.i64 n), (14, AV.int IntKind.i64 i)]
        [AObj.cells [AV.sl 5 (Seq.map T.encTE T.noTE E) (Tip.tok 1), AV.sl 1 (Seq.map encI (0 : Int) L) (Tip.tok 2)], AObj.tok, AObj.tok,
        AObj.cells
        [AV.str { data := List.toArray (Prod.fst x) }, AV.sl 2 (Seq.map T.encS ((0 : Int), (0 : Int)) (Prod.fst (Prod.snd x))) Tip.none,
        AV.bool (Prod.snd (Prod.snd x))],
        AObj.cells
        [AV.str { data := List.toArray (Prod.fst x_2) }, AV.sl 2 (Seq.map T.encS ((0 : Int), (0 : Int)) (Prod.fst (Prod.snd x_2))) Tip.none,
        AV.bool (Prod.snd (Prod.snd x_2))]]
        (q81_7 n_1 Post)))
        (AWP Try.prog 67 n_1 c81_9
        [(0, AV.ptr 0 0), (5, AV.int IntKind.i64 m), (7, AV.ptr 3 0), (8, AV.ptr 4 0),
        (9, AV.int IntKind.i64 (IntKind.wrap IntKind.i64 (j + (1 : Int)))), (12, AV.sl 3 (Seq.map T.encT T.noT c) Tip.none), (13, AV.int IntKind.i64 n),
        (14, AV.int IntKind.i64 i)]
        [AObj.cells [AV.sl 5 (Seq.map T.encTE T.noTE E) (Tip.tok 1), AV.sl 1 (Seq.map encI (0 : Int) L) (Tip.tok 2)], AObj.tok, AObj.tok,
        AObj.cells
        [AV.str { data := List.toArray (Prod.fst x) }, AV.sl 2 (Seq.map T.encS ((0 : Int), (0 : Int)) (Prod.fst (Prod.snd x))) Tip.none, AV.bool (Prod.snd (Prod.snd x))],
        AObj.cells
        [AV.str { data := List.toArray (Prod.fst k) }, AV.sl 2 (Seq.map T.encS ((0 : Int), (0 : Int)) (Prod.fst (Prod.snd k))) Tip.none, AV.bool (Prod.snd (Prod.snd k))]]
        (q81_7 n_1 Post))))
        (ASpec Try.prog 161
        [AV.agg [AV.str { data := List.toArray (Prod.fst k) }, AV.sl 2 (Seq.map T.encS ((0 : Int), (0 : Int)) (Prod.fst (Prod.snd k))) Tip.none, AV.bool (Prod.snd (Prod.snd k))],
        AV.agg [AV.str { data := List.toArray (Prod.fst x) }, AV.sl 2 (Seq.map T.encS ((0 : Int), (0 : Int)) (Prod.fst (Prod.snd x))) Tip.none, AV.bool (Prod.snd (Prod.snd x))]]
        [AObj.cells [AV.sl 5 (Seq.map T.encTE T.noTE E) (Tip.tok 1), AV.sl 1 (Seq.map encI (0 : Int) L) (Tip.tok 2)], AObj.tok, AObj.tok,
        AObj.cells
        [AV.str { data := List.toArray (Prod.fst x) }, AV.sl 2 (Seq.map T.encS ((0 : Int), (0 : Int)) (Prod.fst (Prod.snd x))) Tip.none, AV.bool (Prod.snd (Prod.snd x))],
        AObj.cells
        [AV.str { data := List.toArray (Prod.fst k) }, AV.sl 2 (Seq.map T.encS ((0 : Int), (0 : Int)) (Prod.fst (Prod.snd k))) Tip.none, AV.bool (Prod.snd (Prod.snd k))]]
        fun (r : AV) (H' : List AObj) =>
        ∃ (x_2 : Bool),
        r = AV.bool x_2 ∧
        H' =
        [AObj.cells [AV.sl 5 (Seq.map T.encTE T.noTE E) (Tip.tok 1), AV.sl 1 (Seq.map encI (0 : Int) L) (Tip.tok 2)], AObj.tok, AObj.tok,
        AObj.cells
        [AV.str { data := List.toArray (Prod.fst x) }, AV.sl 2 (Seq.map T.encS ((0 : Int), (0 : Int)) (Prod.fst (Prod.snd x))) Tip.none, AV.bool (Prod.snd (Prod.snd x))],
        AObj.cells
        [AV.str { data := List.toArray (Prod.fst k) }, AV.sl 2 (Seq.map T.encS ((0 : Int), (0 : Int)) (Prod.fst (Prod.snd k))) Tip.none,
        AV.bool (Prod.snd (Prod.snd k))]] ∧
        condP (!x_2)
        (Post (AV.int IntKind.i64 (-1 : Int))
        [AObj.cells [AV.sl 5 (Seq.map T.encTE T.noTE E) (Tip.tok 1), AV.sl 1 (Seq.map encI (0 : Int) L) (Tip.tok 2)], AObj.tok, AObj.tok,
        AObj.cells
        [AV.str { data := List.toArray (Prod.fst x) }, AV.sl 2 (Seq.map T.encS ((0 : Int), (0 : Int)) (Prod.fst (Prod.snd x))) Tip.none,
        AV.bool (Prod.snd (Prod.snd x))],
        AObj.cells
        [AV.str { data := List.toArray (Prod.fst k) }, AV.sl 2 (Seq.map T.encS ((0 : Int), (0 : Int)) (Prod.fst (Prod.snd k))) Tip.none,
        AV.bool (Prod.snd (Prod.snd k))]])
        (AWP Try.prog 67 n_1 c81_5
        [(0, AV.ptr 0 0), (5, AV.int IntKind.i64 (if j > m then j else m)), (12, AV.sl 3 (Seq.map T.encT T.noT c) Tip.none),
        (13, AV.int IntKind.i64 n), (14, AV.int IntKind.i64 (IntKind.wrap IntKind.i64 (i + (1 : Int))))]
        [AObj.cells [AV.sl 5 (Seq.map T.encTE T.noTE E) (Tip.tok 1), AV.sl 1 (Seq.map encI (0 : Int) L) (Tip.tok 2)], AObj.tok, AObj.tok,
        AObj.cells
        [AV.str { data := List.toArray (Prod.fst x) }, AV.sl 2 (Seq.map T.encS ((0 : Int), (0 : Int)) (Prod.fst (Prod.snd x))) Tip.none,
        AV.bool (Prod.snd (Prod.snd x))],
        AObj.cells
        [AV.str { data := List.toArray (Prod.fst k) }, AV.sl 2 (Seq.map T.encS ((0 : Int), (0 : Int)) (Prod.fst (Prod.snd k))) Tip.none,
        AV.bool (Prod.snd (Prod.snd k))]]
        (q81_2 n_1 Post))))
      (ASpec Try.prog 161
        [AV.agg [AV.str { data := List.toArray (Prod.fst k) }, AV.sl 2 (Seq.map T.encS ((0 : Int), (0 : Int)) (Prod.fst (Prod.snd k))) Tip.none, AV.bool (Prod.snd (Prod.snd k))],
        AV.agg [AV.str { data := List.toArray (Prod.fst x) }, AV.sl 2 (Seq.map T.encS ((0 : Int), (0 : Int)) (Prod.fst (Prod.snd x))) Tip.none, AV.bool (Prod.snd (Prod.snd x))]]
        [AObj.cells [AV.sl 5 (Seq.map T.encTE T.noTE E) (Tip.tok 1), AV.sl 1 (Seq.map encI (0 : Int) L) (Tip.tok 2)], AObj.tok, AObj.tok,
        AObj.cells [AV.str { data := List.toArray (Prod.fst x) }, AV.sl 2 (Seq.map T.encS ((0 : Int), (0 : Int)) (Prod.fst (Prod.snd x))) Tip.none, AV.bool (Prod.snd (Prod.snd x))],
        AObj.cells [AV.str { data := List.toArray (Prod.fst k) }, AV.sl 2 (Seq.map T.encS ((0 : Int), (0 : Int)) (Prod.fst (Prod.snd k))) Tip.none, AV.bool (Prod.snd (Prod.snd k))]]
        fun (r : AV) (H' : List AObj) =>
        ∃ (x_1 : Bool),
        r = AV.bool x_1 ∧
        H' =
        [AObj.cells [AV.sl 5 (Seq.map T.encTE T.noTE E) (Tip.tok 1), AV.sl 1 (Seq.map encI (0 : Int) L) (Tip.tok 2)], AObj.tok, AObj.tok,
        AObj.cells [AV.str { data := List.toArray (Prod.fst x) }, AV.sl 2 (Seq.map T.encS ((0 : Int), (0 : Int)) (Prod.fst (Prod.snd x))) Tip.none, AV.bool (Prod.snd (Prod.snd x))],
        AObj.cells
        [AV.str { data := List.toArray (Prod.fst k) }, AV.sl 2 (Seq.map T.encS ((0 : Int), (0 : Int)) (Prod.fst (Prod.snd k))) Tip.none, AV.bool (Prod.snd (Prod.snd k))]] ∧
        condP (!x_1)
        (Post (AV.int IntKind.i64 (-1 : Int))
        [AObj.cells [AV.sl 5 (Seq.map T.encTE T.noTE E) (Tip.tok 1), AV.sl 1 (Seq.map encI (0 : Int) L) (Tip.tok 2)], AObj.tok, AObj.tok,
        AObj.cells
        [AV.str { data := List.toArray (Prod.fst x) }, AV.sl 2 (Seq.map T.encS ((0 : Int), (0 : Int)) (Prod.fst (Prod.snd x))) Tip.none, AV.bool (Prod.snd (Prod.snd x))],
        AObj.cells
        [AV.str { data := List.toArray (Prod.fst k) }, AV.sl 2 (Seq.map T.encS ((0 : Int), (0 : Int)) (Prod.fst (Prod.snd k))) Tip.none, AV.bool (Prod.snd (Prod.snd k))]])
        (AWP Try.prog 67 n_1 c81_5
        [(0, AV.ptr 0 0), (5, AV.int IntKind.i64 (if j > m then j else m)), (12, AV.sl 3 (Seq.map T.encT T.noT c) Tip.none),
        (13, AV.int IntKind.i64 n), (14, AV.int IntKind.i64 (IntKind.wrap IntKind.i64 (i + (1 : Int))))]
        [AObj.cells [AV.sl 5 (Seq.map T.encTE T.noTE E) (Tip.tok 1), AV.sl 1 (Seq.map encI (0 : Int) L) (Tip.tok 2)], AObj.tok, AObj.tok,
        AObj.cells
        [AV.str { data := List.toArray (Prod.fst x) }, AV.sl 2 (Seq.map T.encS ((0 : Int), (0 : Int)) (Prod.fst (Prod.snd x))) Tip.none, AV.bool (Prod.snd (Prod.snd x))],
        AObj.cells
        [AV.str { data := List.toArray (Prod.fst k) }, AV.sl 2 (Seq.map T.encS ((0 : Int), (0 : Int)) (Prod.fst (Prod.snd k))) Tip.none, AV.bool (Prod.snd (Prod.snd k))]]
        (q81_2 n_1 Post))) →
    AWP Try.prog 67 n_1 c81_9
      [(0, AV.ptr 0 0), (5, AV.int IntKind.i64 m), (7, AV.ptr 3 0), (8, AV.ptr 4 0), (9, AV.int IntKind.i64 j),
        (12, AV.sl 3 (Seq.map T.encT T.noT c) Tip.none), (13, AV.int IntKind.i64 n), (14, AV.int IntKind.i64 i)]
      (T.HT E L ++ [AObj.cells (T.encT x), AObj.cells (T.encT k)]) (q81_7 n_1 Post) := fun E L c m n i j x k n Post h => Go.Ab.AWP.loop' g81 (Cfg.live g81) c81_9 (by kernel_rfl) (by kernel_rfl) (Go.Ab.kc (by kernel_rfl) h)

end
end Tf
end

section
/- Printed: what the code of functions 27, 4 asks for, by the framework's own reading of it; each line is checked against the code. -/

set_option linter.unusedVariables false
set_option maxRecDepth 100000
set_option maxHeartbeats 4000000
open Go Go.Ab Go.Proofs
namespace Tm4
noncomputable section

noncomputable def rets : FuncId → List Ret := Tl.rets

-- 27
noncomputable def l27 : Nat → List Nat
  | _ => []
noncomputable def u27 : Nat → Bool
  | _ => false
noncomputable def m27 : Nat → Bool
  | _ => false
noncomputable def g27 : Cfg := { N := 48, live := l27, cut := u27, mu := m27, ret := rets }
theorem s27 : ∀ (Post : AV → List AObj → Prop),
  (ASpec Try.prog 28 [] [] fun (r : AV) (H' : List AObj) =>
      ∃ (x : Unit),
        r = AV.ptr 0 0 ∧
        H' = [AObj.cells [AV.sl 5 (Seq.map T.encTE T.noTE []) (Tip.tok 1), AV.sl 1 (Seq.map encI (0 : Int) []) (Tip.tok 2)], AObj.tok, AObj.tok] ∧
        ASpec Try.prog 32
        [AV.ptr 0 0,
        AV.agg [AV.str { data := #[(97 : UInt8)] }, AV.sl 2 (Seq.raw [[AV.int IntKind.i64 (0 : Int), AV.int IntKind.i64 (1000000000 : Int)]]) Tip.full, AV.bool false],
        AV.int IntKind.i64 (4 : Int)]
        [AObj.cells [AV.sl 5 (Seq.map T.encTE T.noTE []) (Tip.tok 1), AV.sl 1 (Seq.map encI (0 : Int) []) (Tip.tok 2)], AObj.tok, AObj.tok,
        AObj.cells [AV.str { data := #[(97 : UInt8)] }, AV.sl 2 (Seq.raw [[AV.int IntKind.i64 (0 : Int), AV.int IntKind.i64 (1000000000 : Int)]]) Tip.full, AV.bool false]]
        fun (r : AV) (H' : List AObj) =>
        ∃ (x : Int × List T.TE × List Int),
        r = AV.int IntKind.i64 (Prod.fst x) ∧
        H' =
        [AObj.cells
        [AV.sl 5 (Seq.map T.encTE T.noTE (Prod.fst (Prod.snd x))) (Tip.tok 4), AV.sl 1 (Seq.map encI (0 : Int) (Prod.snd (Prod.snd x))) (Tip.tok 5)],
        AObj.gone, AObj.gone,
        AObj.cells [AV.str { data := #[(97 : UInt8)] }, AV.sl 2 (Seq.raw [[AV.int IntKind.i64 (0 : Int), AV.int IntKind.i64 (1000000000 : Int)]]) Tip.full, AV.bool false],
        AObj.tok, AObj.tok] ∧
        ASpec Try.prog 31 [AV.ptr 0 0, AV.str { data := #[(97 : UInt8)] }, AV.int IntKind.i64 (1000000 : Int)]
        [AObj.cells
        [AV.sl 5 (Seq.map T.encTE T.noTE (Prod.fst (Prod.snd x))) (Tip.tok 4), AV.sl 1 (Seq.map encI (0 : Int) (Prod.snd (Prod.snd x))) (Tip.tok 5)],
        AObj.gone, AObj.gone,
        AObj.cells [AV.str { data := #[(97 : UInt8)] }, AV.sl 2 (Seq.raw [[AV.int IntKind.i64 (0 : Int), AV.int IntKind.i64 (1000000000 : Int)]]) Tip.full, AV.bool false],
        AObj.tok, AObj.tok]
        fun (r : AV) (H' : List AObj) =>
        ∃ (x_1 : Int × List T.TE × List Int),
        r = AV.int IntKind.i64 (Prod.fst x_1) ∧
        H' =
        [AObj.cells
        [AV.sl 5 (Seq.map T.encTE T.noTE (Prod.fst (Prod.snd x_1))) (Tip.tok 6),
        AV.sl 1 (Seq.map encI (0 : Int) (Prod.snd (Prod.snd x_1))) (Tip.tok 7)],
        AObj.gone, AObj.gone,
        AObj.cells
        [AV.str { data := #[(97 : UInt8)] }, AV.sl 2 (Seq.raw [[AV.int IntKind.i64 (0 : Int), AV.int IntKind.i64 (1000000000 : Int)]]) Tip.full, AV.bool false],
        AObj.gone, AObj.gone, AObj.tok, AObj.tok] ∧
        ASpec Try.prog 80 [AV.ptr 0 0]
        [AObj.cells
        [AV.sl 5 (Seq.map T.encTE T.noTE (Prod.fst (Prod.snd x_1))) (Tip.tok 6),
        AV.sl 1 (Seq.map encI (0 : Int) (Prod.snd (Prod.snd x_1))) (Tip.tok 7)],
        AObj.gone, AObj.gone,
        AObj.cells
        [AV.str { data := #[(97 : UInt8)] }, AV.sl 2 (Seq.raw [[AV.int IntKind.i64 (0 : Int), AV.int IntKind.i64 (1000000000 : Int)]]) Tip.full, AV.bool false],
        AObj.gone, AObj.gone, AObj.tok, AObj.tok]
        fun (r : AV) (H' : List AObj) =>
        ∃ (x_2 : Int),
        r = AV.int IntKind.i64 x_2 ∧
        H' =
        [AObj.cells
        [AV.sl 5 (Seq.map T.encTE T.noTE (Prod.fst (Prod.snd x_1))) (Tip.tok 6),
        AV.sl 1 (Seq.map encI (0 : Int) (Prod.snd (Prod.snd x_1))) (Tip.tok 7)],
        AObj.gone, AObj.gone,
        AObj.cells
        [AV.str { data := #[(97 : UInt8)] }, AV.sl 2 (Seq.raw [[AV.int IntKind.i64 (0 : Int), AV.int IntKind.i64 (1000000000 : Int)]]) Tip.full,
        AV.bool false],
        AObj.gone, AObj.gone, AObj.tok, AObj.tok] ∧
        ASpec Try.prog 30 [AV.ptr 0 0]
        [AObj.cells
        [AV.sl 5 (Seq.map T.encTE T.noTE (Prod.fst (Prod.snd x_1))) (Tip.tok 6),
        AV.sl 1 (Seq.map encI (0 : Int) (Prod.snd (Prod.snd x_1))) (Tip.tok 7)],
        AObj.gone, AObj.gone,
        AObj.cells
        [AV.str { data := #[(97 : UInt8)] }, AV.sl 2 (Seq.raw [[AV.int IntKind.i64 (0 : Int), AV.int IntKind.i64 (1000000000 : Int)]]) Tip.full,
        AV.bool false],
        AObj.gone, AObj.gone, AObj.tok, AObj.tok]
        fun (r : AV) (H' : List AObj) =>
        ∃ (x_3 : Int),
        r = AV.int IntKind.i64 x_3 ∧
        H' =
        [AObj.cells
        [AV.sl 5 (Seq.map T.encTE T.noTE (Prod.fst (Prod.snd x_1))) (Tip.tok 6),
        AV.sl 1 (Seq.map encI (0 : Int) (Prod.snd (Prod.snd x_1))) (Tip.tok 7)],
        AObj.gone, AObj.gone,
        AObj.cells
        [AV.str { data := #[(97 : UInt8)] }, AV.sl 2 (Seq.raw [[AV.int IntKind.i64 (0 : Int), AV.int IntKind.i64 (1000000000 : Int)]]) Tip.full,
        AV.bool false],
        AObj.gone, AObj.gone, AObj.tok, AObj.tok] ∧
        ASpec Try.prog 35 [AV.ptr 0 0, AV.int IntKind.i64 (0 : Int)]
        [AObj.cells
        [AV.sl 5 (Seq.map T.encTE T.noTE (Prod.fst (Prod.snd x_1))) (Tip.tok 6),
        AV.sl 1 (Seq.map encI (0 : Int) (Prod.snd (Prod.snd x_1))) (Tip.tok 7)],
        AObj.gone, AObj.gone,
        AObj.cells
        [AV.str { data := #[(97 : UInt8)] }, AV.sl 2 (Seq.raw [[AV.int IntKind.i64 (0 : Int), AV.int IntKind.i64 (1000000000 : Int)]]) Tip.full,
        AV.bool false],
        AObj.gone, AObj.gone, AObj.tok, AObj.tok]
        fun (r : AV) (H' : List AObj) =>
        ∃ (x_4 : List T.TE × List Int),
        r = AV.tup [] ∧
        H' =
        [AObj.cells
        [AV.sl 5 (Seq.map T.encTE T.noTE (Prod.fst x_4)) (Tip.tok 8),
        AV.sl 1 (Seq.map encI (0 : Int) (Prod.snd x_4)) (Tip.tok 9)],
        AObj.gone, AObj.gone,
        AObj.cells
        [AV.str { data := #[(97 : UInt8)] },
        AV.sl 2 (Seq.raw [[AV.int IntKind.i64 (0 : Int), AV.int IntKind.i64 (1000000000 : Int)]]) Tip.full, AV.bool false],
        AObj.gone, AObj.gone, AObj.gone, AObj.gone, AObj.tok, AObj.tok] ∧
        condP (Prod.fst x == (0 : Int))
        (condP (Prod.fst x_1 == (0 : Int))
        (condP (x_2 == (2 : Int))
        (condP (x_3 == (1 : Int))
        (ASpec Try.prog 80 [AV.ptr 0 0]
        [AObj.cells
        [AV.sl 5 (Seq.map T.encTE T.noTE (Prod.fst x_4)) (Tip.tok 8),
        AV.sl 1 (Seq.map encI (0 : Int) (Prod.snd x_4)) (Tip.tok 9)],
        AObj.gone, AObj.gone,
        AObj.cells
        [AV.str { data := #[(97 : UInt8)] },
        AV.sl 2 (Seq.raw [[AV.int IntKind.i64 (0 : Int), AV.int IntKind.i64 (1000000000 : Int)]]) Tip.full, AV.bool false],
        AObj.gone, AObj.gone, AObj.gone, AObj.gone, AObj.tok, AObj.tok]
        fun (r : AV) (H' : List AObj) =>
        ∃ (x : Int),
        r = AV.int IntKind.i64 x ∧
        H' =
        [AObj.cells
        [AV.sl 5 (Seq.map T.encTE T.noTE (Prod.fst x_4)) (Tip.tok 8),
        AV.sl 1 (Seq.map encI (0 : Int) (Prod.snd x_4)) (Tip.tok 9)],
        AObj.gone, AObj.gone,
        AObj.cells
        [AV.str { data := #[(97 : UInt8)] },
        AV.sl 2 (Seq.raw [[AV.int IntKind.i64 (0 : Int), AV.int IntKind.i64 (1000000000 : Int)]]) Tip.full, AV.bool false],
        AObj.gone, AObj.gone, AObj.gone, AObj.gone, AObj.tok, AObj.tok] ∧
        condP (x == (1 : Int))
        (ASpec Try.prog 81
        [AV.ptr 0 0,
        AV.sl 3
        (Seq.raw
        [[AV.str { data := #[(97 : UInt8)] },
        AV.sl 2 (Seq.raw [[AV.int IntKind.i64 (0 : Int), AV.int IntKind.i64 (1000000000 : Int)]]) Tip.full,
        AV.bool false]])
        Tip.full]
        [AObj.cells
        [AV.sl 5 (Seq.map T.encTE T.noTE (Prod.fst x_4)) (Tip.tok 8),
        AV.sl 1 (Seq.map encI (0 : Int) (Prod.snd x_4)) (Tip.tok 9)],
        AObj.gone, AObj.gone,
        AObj.cells
        [AV.str { data := #[(97 : UInt8)] },
        AV.sl 2 (Seq.raw [[AV.int IntKind.i64 (0 : Int), AV.int IntKind.i64 (1000000000 : Int)]]) Tip.full,
        AV.bool false],
        AObj.gone, AObj.gone, AObj.gone, AObj.gone, AObj.tok, AObj.tok]
        fun (r : AV) (H' : List AObj) =>
        ∃ (x : Int),
        r = AV.int IntKind.i64 x ∧
        H' =
        [AObj.cells
        [AV.sl 5 (Seq.map T.encTE T.noTE (Prod.fst x_4)) (Tip.tok 8),
        AV.sl 1 (Seq.map encI (0 : Int) (Prod.snd x_4)) (Tip.tok 9)],
        AObj.gone, AObj.gone,
        AObj.cells
        [AV.str { data := #[(97 : UInt8)] },
        AV.sl 2 (Seq.raw [[AV.int IntKind.i64 (0 : Int), AV.int IntKind.i64 (1000000000 : Int)]]) Tip.full,
        AV.bool false],
        AObj.gone, AObj.gone, AObj.gone, AObj.gone, AObj.tok, AObj.tok] ∧
        Post (AV.bool (x == (1 : Int)))
        [AObj.cells
        [AV.sl 5 (Seq.map T.encTE T.noTE (Prod.fst x_4)) (Tip.tok 8),
        AV.sl 1 (Seq.map encI (0 : Int) (Prod.snd x_4)) (Tip.tok 9)],
        AObj.gone, AObj.gone,
        AObj.cells
        [AV.str { data := #[(97 : UInt8)] },
        AV.sl 2 (Seq.raw [[AV.int IntKind.i64 (0 : Int), AV.int IntKind.i64 (1000000000 : Int)]]) Tip.full,
        AV.bool false],
        AObj.gone, AObj.gone, AObj.gone, AObj.gone, AObj.tok, AObj.tok])
        (Post (AV.bool false)
        [AObj.cells
        [AV.sl 5 (Seq.map T.encTE T.noTE (Prod.fst x_4)) (Tip.tok 8),
        AV.sl 1 (Seq.map encI (0 : Int) (Prod.snd x_4)) (Tip.tok 9)],
        AObj.gone, AObj.gone,
        AObj.cells
        [AV.str { data := #[(97 : UInt8)] },
        AV.sl 2 (Seq.raw [[AV.int IntKind.i64 (0 : Int), AV.int IntKind.i64 (1000000000 : Int)]]) Tip.full,
        AV.bool false],
        AObj.gone, AObj.gone, AObj.gone, AObj.gone, AObj.tok, AObj.tok]))
        (Post (AV.bool false)
        [AObj.cells
        [AV.sl 5 (Seq.map T.encTE T.noTE (Prod.fst x_4)) (Tip.tok 8),
        AV.sl 1 (Seq.map encI (0 : Int) (Prod.snd x_4)) (Tip.tok 9)],
        AObj.gone, AObj.gone,
        AObj.cells
        [AV.str { data := #[(97 : UInt8)] },
        AV.sl 2 (Seq.raw [[AV.int IntKind.i64 (0 : Int), AV.int IntKind.i64 (1000000000 : Int)]]) Tip.full, AV.bool false],
        AObj.gone, AObj.gone, AObj.gone, AObj.gone, AObj.tok, AObj.tok]))
        (Post (AV.bool false)
        [AObj.cells
        [AV.sl 5 (Seq.map T.encTE T.noTE (Prod.fst x_4)) (Tip.tok 8),
        AV.sl 1 (Seq.map encI (0 : Int) (Prod.snd x_4)) (Tip.tok 9)],
        AObj.gone, AObj.gone,
        AObj.cells
        [AV.str { data := #[(97 : UInt8)] },
        AV.sl 2 (Seq.raw [[AV.int IntKind.i64 (0 : Int), AV.int IntKind.i64 (1000000000 : Int)]]) Tip.full, AV.bool false],
        AObj.gone, AObj.gone, AObj.gone, AObj.gone, AObj.tok, AObj.tok]))
        (Post (AV.bool false)
        [AObj.cells
        [AV.sl 5 (Seq.map T.encTE T.noTE (Prod.fst x_4)) (Tip.tok 8),
        AV.sl 1 (Seq.map encI (0 : Int) (Prod.snd x_4)) (Tip.tok 9)],
        AObj.gone, AObj.gone,
        AObj.cells
        [AV.str { data := #[(97 : UInt8)] },
        AV.sl 2 (Seq.raw [[AV.int IntKind.i64 (0 : Int), AV.int IntKind.i64 (1000000000 : Int)]]) Tip.full, AV.bool false],
        AObj.gone, AObj.gone, AObj.gone, AObj.gone, AObj.tok, AObj.tok]))
        (Post (AV.bool false)
        [AObj.cells
        [AV.sl 5 (Seq.map T.encTE T.noTE (Prod.fst x_4)) (Tip.tok 8),
        AV.sl 1 (Seq.map encI (0 : Int) (Prod.snd x_4)) (Tip.tok 9)],
        AObj.gone, AObj.gone,
        AObj.cells
        [AV.str { data := #[(97 : UInt8)] },
        AV.sl 2 (Seq.raw [[AV.int IntKind.i64 (0 : Int), AV.int IntKind.i64 (1000000000 : Int)]]) Tip.full, AV.bool false],
        AObj.gone, AObj.gone, AObj.gone, AObj.gone, AObj.tok, AObj.tok])) →
    ASpec Try.prog 27 [] [] Post := fun Post h => Go.Ab.ASpec.of_vc g27 Go.Proofs.Try.func27 (by kernel_rfl) (by kernel_rfl) (by kernel_rfl) (Go.Ab.kc (by kernel_rfl) h)

-- 4
end
end Tm4
end

section
/- A trail: the chapter's example; how much is done. -/

set_option linter.unusedVariables false
set_option linter.unusedSimpArgs false
set_option maxRecDepth 100000
open Go Go.Ab Go.Proofs V S T C
open W (slS)
open Sp
namespace Tl
open Tm (okT agT fullT meetT meetT_spec ok_meet ok_full full_spec emptyT empty_spec withinT within_specT hasT has_specT chkT nameEq oneS one_spec largeT)
def anyT : Term := ([97], [(0, 1000000000)], false)
theorem ok_any : okT anyT := by show chkS (-1) [(0, 1000000000)] = true; decide
theorem meetS_self {l : List Span} (h : Sg.ok l) : Sg.meetS l l = l := (Sg.meet_sub h h).2 fun p hp => hp
theorem meet_any : meetT (fullT [97]) anyT = anyT := by
  have e : Sg.meetS [(0, 1000000000)] [(0, 1000000000)] = [(0, 1000000000)] := meetS_self (show chkS (-1) [(0, 1000000000)] = true by decide)
  unfold meetT fullT anyT
  rw [if_pos rfl]
  show ([97], Sg.meetS [(0, 1000000000)] [(0, 1000000000)], true && false) = _
  rw [e]; rfl
theorem within_any : withinT (fullT [97]) anyT = false := by simp [withinT, fullT, anyT]
theorem know_any (c : Int) : knowM [(anyT, 0, c)] [97] = anyT := by
  show knowF [97] (fullT [97]) [(anyT, 0, c)] = anyT
  simp only [knowF]
  rw [if_pos (show anyT.1 = [97] from rfl), meet_any]

theorem first_any {H : List AObj} {p a b : Nat} {L : List Int} (h : At H p a b [(anyT, 0, 4)] L) : ASpec Try.prog 81 [.ptr p 0, .sl 3 (.map encT noT [anyT]) .none] H (fun r H' => r = .int .i64 1 ∧ H' = H) := by
  have k : ASpec Try.prog 81 [.ptr 0 0, .sl 3 (.map encT noT [anyT]) .none] (HT [(anyT, 0, 4)] L) (fun r H' => r = .int .i64 1 ∧ H' = HT [(anyT, 0, 4)] L) := by
    refine ASpec.sel (Tf.s81 _ _ _ _ (Tf.v81_5 _ _ _ _ _ _ _ _ (condD (fun _ => needJ ⟨by omega, by simp⟩ ?_) fun h => by simp at h)))
    refine ASpec.call (full_spec [97] _) (Les.refl _) ⟨fullT [97], rfl, rfl, ?_⟩
    refine Tf.v81_9 [(anyT, 0, 4)] L [anyT] _ _ _ _ anyT (fullT [97]) _ _ (condD (fun _ => ?_) fun h => by simp at h)
    refine ASpec.call (within_specT (fullT [97]) anyT (ok_full _) ok_any _) (Les.refl _) ⟨_, rfl, rfl, ?_⟩
    rw [within_any]
    refine condBn (fun _ => needJ ⟨by omega, by simp⟩ (condB (fun _ => needJ ⟨by omega, by simp⟩ ?_) fun h => ?_)) fun h => by cases h
    · refine ASpec.call (meetT_spec (fullT [97]) anyT (ok_full _) ok_any _) (Les.refl _) ⟨meetT (fullT [97]) anyT, rfl, rfl, ?_⟩
      rw [meet_any]
      refine AWP.shape [0, 1, 2, 3, 4] [(0, .ptr 0 0), (5, .int .i64 0), (7, .ptr 3 0), (8, .ptr 4 0), (9, .int .i64 1), (12, .sl 3 (.map encT noT [anyT]) .none), (13, .int .i64 1), (14, .int .i64 0)] (HT [(anyT, 0, 4)] L ++ [.cells (encT anyT), .cells (encT anyT)])
        ⟨by decide, rfl, by show 3 ≤ 5; omega, fun j hj => ?_, fun j hj => ?_⟩ ⟨rfl, Le.refl _, rfl, Le.refl _, rfl, Le.refl _, rfl, Le.refl _, rfl, Le.refl _, rfl, Le.refl _, rfl, Le.refl _, rfl, Le.refl _, trivial⟩ ?_
      · match j, hj with
        | 0, _ | 1, _ | 2, _ => rfl
      · match j, hj with
        | 0, _ | 1, _ | 2, _ | 3, _ | 4, _ => exact .inl rfl
      refine Tf.v81_9 [(anyT, 0, 4)] L [anyT] _ _ _ _ anyT anyT _ _ (condD (fun h => by simp at h) fun _ => ?_)
      refine ASpec.call (within_specT anyT anyT ok_any ok_any _) (Les.refl _) ⟨_, rfl, rfl, ?_⟩
      rw [within_refl ok_any]
      refine condBn (fun h => by cases h) fun _ => ?_
      refine AWP.shape [0, 1, 2] [(0, .ptr 0 0), (5, .int .i64 1), (12, .sl 3 (.map encT noT [anyT]) .none), (13, .int .i64 1), (14, .int .i64 1)] (HT [(anyT, 0, 4)] L)
        ⟨by decide, rfl, by show 3 ≤ 3; omega, fun j hj => ?_, fun j hj => ?_⟩ ⟨rfl, Le.refl _, rfl, Le.refl _, rfl, Le.refl _, rfl, Le.refl _, rfl, Le.refl _, trivial⟩ (Tf.v81_5 _ _ _ _ _ _ _ _ (condD (fun h => by simp at h) fun _ => ?_))
      · match j, hj with
        | 0, _ | 1, _ | 2, _ => rfl
      · match j, hj with
        | 0, _ | 1, _ | 2, _ => exact .inl rfl
      · refine ⟨[0, 1, 2], HT [(anyT, 0, 4)] L, .int .i64 1, ⟨by decide, rfl, by show 3 ≤ 3; omega, fun j hj => ?_, fun j hj => ?_⟩, Le.refl _, rfl, rfl⟩
        · match j, hj with
          | 0, _ | 1, _ | 2, _ => rfl
        · match j, hj with
          | 0, _ | 1, _ | 2, _ => exact .inl rfl
    · rw [nameEq] at h
      exact absurd h (by simp [anyT])
  exact liftG h k rfl rfl (gSame h)

abbrev PB : AV → List AObj → Prop := Sg.PA (.bool true)
theorem pbT {H' : List AObj} : PB (.bool true) H' := Sg.pa (Le.refl _)

theorem awake_spec (H : List AObj) : ASpec Try.prog 27 [] H (fun r H' => r = .bool true ∧ H' = H) := by
  have hE0 : okTE [] := ⟨by simp, fun e he => by simp at he⟩
  have hE1 : okTE [(anyT, 0, 4)] := ⟨by unfold lim; simp, fun e he => by simp only [List.mem_singleton] at he; subst he; exact ok_any⟩
  have hd : derM [] [] anyT 4 = (0, [(anyT, 0, 4)], []) := by
    have h1 : chkT anyT = true := by decide +kernel
    have h2 : knowM [] anyT.1 = fullT [97] := rfl
    unfold derM
    rw [if_neg (by rw [h1]; simp), h2, meet_any, if_neg (by simp [emptyT, anyT]), if_neg (by rw [within_any]; simp)]
    rfl
  have hc : decM [(anyT, 0, 4)] [] [97] 1000000 = (0, [(anyT, 0, 4), (([97], oneS 1000000, false), 1, -1)], [1]) := by
    have h1 : fitM [97] = true := by decide +kernel
    have h2 : hasS anyT.2.1 1000000 = true := by decide
    unfold decM
    rw [if_neg (by rw [h1]; simp), know_any, if_neg (by rw [h2]; simp)]
    rfl
  have k : ASpec Try.prog 27 [] [] (fun r H' => r = .bool true ∧ H' = []) := by
    refine ASpec.sel (Tm4.s27 _ (ASpec.call (new_spec []) (Les.refl _) ⟨(), rfl, rfl, ?_⟩))
    have c1 := fun q => der_spec (atL [] [] q) hE0 (by simp) anyT (by unfold lim; simp [anyT]) (by unfold lim; simp [anyT]) 4
    rw [hd] at c1
    refine ASpec.call (c1 _) ⟨Le.refl _, Le.agg ⟨Le.refl _, Le.sl rfl (.inl rfl) (.inr rfl), Le.refl _, trivial⟩, Le.refl _, trivial⟩ ⟨(0, [(anyT, 0, 4)], []), rfl, rfl, ?_⟩
    have c2 := fun H p a b h => dec_spec (H := H) (p := p) (a := a) (b := b) (E := [(anyT, 0, 4)]) (L := []) h hE1 (by simp) [97] (by unfold lim; simp) 1000000
    rw [hc] at c2
    refine ASpec.call (c2 _ 0 4 5 ⟨rfl, rfl, rfl, by decide, by decide, by decide⟩) (Les.refl _) ⟨(0, [(anyT, 0, 4), (([97], oneS 1000000, false), 1, -1)], [1]), rfl, rfl, ?_⟩
    refine ASpec.call (len_spec (p := 0) (a := 6) (b := 7) (E := [(anyT, 0, 4), (([97], oneS 1000000, false), 1, -1)]) (L := [1]) ⟨rfl, rfl, rfl, by decide, by decide, by decide⟩) (Les.refl _) ⟨(2 : Int), rfl, rfl, ?_⟩
    refine ASpec.call (level_spec (p := 0) (a := 6) (b := 7) (E := [(anyT, 0, 4), (([97], oneS 1000000, false), 1, -1)]) (L := [1]) ⟨rfl, rfl, rfl, by decide, by decide, by decide⟩) (Les.refl _) ⟨(1 : Int), rfl, rfl, ?_⟩
    refine ASpec.call (back_spec (p := 0) (a := 6) (b := 7) (E := [(anyT, 0, 4), (([97], oneS 1000000, false), 1, -1)]) (L := [1]) ⟨rfl, rfl, rfl, by decide, by decide, by decide⟩ 0 (by omega) (by simp)) (Les.refl _) ⟨([(anyT, 0, 4)], []), rfl, rfl, ?_⟩
    refine condE (fun _ => condE (fun _ => condE (fun _ => condE (fun _ => ?_) fun h => absurd rfl h) fun h => absurd rfl h) fun h => absurd rfl h) fun h => absurd rfl h
    refine ASpec.call (len_spec (p := 0) (a := 8) (b := 9) (E := [(anyT, 0, 4)]) (L := []) ⟨rfl, rfl, rfl, by decide, by decide, by decide⟩) (Les.refl _) ⟨(1 : Int), rfl, rfl, condE (fun _ => ?_) fun h => absurd rfl h⟩
    exact ASpec.call (first_any (p := 0) (a := 8) (b := 9) (L := []) ⟨rfl, rfl, rfl, by decide, by decide, by decide⟩) ⟨Le.refl _, Le.slE (s' := .map encT noT [anyT]) rfl (fun i h h' => by
      have : i = 0 := by simpa [Ab.Seq.toList] using h
      subst this
      exact ⟨Le.refl _, Le.sl rfl (.inl rfl) (.inr rfl), Le.refl _, trivial⟩) (.inr rfl), trivial⟩ ⟨(1 : Int), rfl, rfl, pbT⟩
  exact ASpec.pureH H k _ _ rfl rfl

noncomputable abbrev slT (m : List Dt) : AV := .sl 6 (.map encDt noDt m) .none

def largeF : List Dt → Bool
  | [] => false
  | x :: r => if largeT x.2.2.2 = true then true else largeF r
def largeL (m : List Dt) : Bool := if 60 < m.length then true else largeF m

theorem large4 {l : List Dt} {c : Bool} (hl : l.length ≤ 60) : ∀ (m i : Nat), m + i = l.length → largeF (l.drop i) = c →
    AWP Try.prog 19 0 c26_4 [(0, slT l), (3, .int .i64 i)] [] (q26_2 0 (fun r H' => r = .bool c ∧ H' = [])) := by
  intro m
  induction m with
  | zero =>
    intro i hm h
    refine v26_4 _ _ _ _ (condD (fun hc => by omega) fun _ => ?_)
    rw [List.drop_eq_nil_of_le (by omega)] at h
    exact ⟨by rw [← h]; rfl, rfl⟩
  | succ m ih =>
    intro i hm h
    rw [dropD l noDt i (by omega)] at h
    simp only [largeF] at h
    refine v26_4 _ _ _ _ (condD (fun hc => needJ ⟨by omega, by omega⟩ ?_) fun hc => by omega)
    rw [Int.toNat_natCast]
    generalize l.getD i noDt = x at h ⊢
    refine ASpec.call (Tm.large_spec x.2.2.2 _) (Les.refl _) ⟨_, rfl, rfl, condB (fun h1 => ?_) fun h1 => ?_⟩
    · rw [if_pos h1] at h; exact ⟨by rw [← h], rfl⟩
    · rw [if_neg (by rw [h1]; simp)] at h
      rw [succ64 (by omega)]
      exact ih (i + 1) (by omega) h

theorem large_spec (l : List Dt) (H : List AObj) : ASpec Try.prog 26 [slT l] H (fun r H' => r = .bool (largeL l) ∧ H' = H) := by
  have k : ASpec Try.prog 26 [slT l] [] (fun r H' => r = .bool (largeL l) ∧ H' = []) := by
    refine s26 _ _ (condD (fun h => ⟨?_, rfl⟩) fun h => large4 (by omega) l.length 0 (by omega) ?_)
    · rw [largeL, if_pos (by omega)]
    · rw [largeL, if_neg (by omega)]; rfl
  exact ASpec.pureH H k _ _ rfl rfl

theorem largeF_ok : ∀ (l : List Dt), largeF l = false → ∀ x ∈ l, x.2.2.2.1.length ≤ 200 ∧ x.2.2.2.2.1.length ≤ 60
  | [], _, n, hn => by simp at hn
  | x :: r, h, n, hn => by
    simp only [largeF] at h
    split at h
    · cases h
    · rename_i h1
      rcases List.mem_cons.1 hn with rfl | hn
      · simp only [largeT, Bool.or_eq_true, decide_eq_true_eq, not_or] at h1; omega
      · exact largeF_ok r h n hn

end Tl
end

section
/- Printed: what the code of functions 292, 291, 202, 290 asks for, by the framework's own reading of it; each line is checked against the code. -/

set_option linter.unusedVariables false
set_option maxRecDepth 100000
set_option maxHeartbeats 4000000
open Go Go.Ab Go.Proofs
namespace In
noncomputable section

noncomputable def rowId : List AV → Nat
  | .msl _ id _ _ :: _ => id
  | _ => 0
noncomputable def retI : List (Nat × Ret) := [
  (290, ⟨List T.Pk, fun _ H x => .msl 2 H.length 0 x.length, fun _ H x => H ++ [.arr 2 (.map T.encPk T.noPk x)]⟩),
  (291, ⟨Int, fun _ _ x => .int .i64 x, fun _ H _ => H⟩),
  (292, ⟨List T.Pk, fun _ _ x => .sl 2 (.map T.encPk T.noPk x) .none, fun a H _ => H.set (rowId a) .gone⟩)]
noncomputable def rets : FuncId → List Ret := lookupR (retI ++ C.retC ++ V.retL)

-- 292
noncomputable def l292 : Nat → List Nat
  | 3 => [0, 1, 2, 7]
  | 10 => [0, 1, 2, 7, 9]
  | 11 => [0, 1, 7, 9]
  | 12 => [9]
  | 14 => [0, 1, 2, 7, 8]
  | 16 => [0, 1, 2]
  | 17 => [0]
  | _ => []
noncomputable def u292 : Nat → Bool
  | 3 => true
  | 10 => true
  | 11 => true
  | 12 => true
  | 14 => true
  | 16 => true
  | 17 => true
  | _ => false
noncomputable def m292 : Nat → Bool
  | 12 => true
  | 34 => true
  | 40 => true
  | 43 => true
  | 50 => true
  | 53 => true
  | 60 => true
  | 66 => true
  | 73 => true
  | 76 => true
  | 77 => true
  | 80 => true
  | _ => false
noncomputable def g292 : Cfg := { N := 95, live := l292, cut := u292, mu := m292, ret := rets }
noncomputable def c292 : Go.Code := Go.Ab.bodyOf Go.Proofs.Try.f292
noncomputable def q292_0 : Nat → (AV → List AObj → Prop) → AQ := fun (n : Nat) (Post : AV → List AObj → Prop) => endQ Try.prog (resultsOf Try.f292) Post
noncomputable def c292_3 : Go.Code := codeSnd (codeSnd (codeSnd c292))
theorem s292 : ∀ (s : List T.Pk) (p : T.Pk) (i : Int) (Post : AV → List AObj → Prop),
  needP ((0 : Int) ≤ i ∧ i ≤ (↑(List.length s) : Int))
      (condP (decide (i < (↑(List.length s) : Int)))
        (AWP Try.prog 95 1 c292_3
        [(0, AV.msl 2 0 0 (List.length s)), (1, AV.int IntKind.i64 i),
        (2, AV.sl 2 (Seq.raw [[AV.str { data := List.toArray (Prod.fst p) }, AV.int IntKind.i64 (Prod.snd p)]]) Tip.full), (7, AV.int IntKind.i64 (1 : Int))]
        [AObj.arr 2 (Seq.map T.encPk T.noPk s)] (q292_0 1 Post))
        (AWP Try.prog 95 1 c292_3
        [(0, AV.msl 2 0 0 (List.length s)), (1, AV.int IntKind.i64 i),
        (2, AV.sl 2 (Seq.raw [[AV.str { data := List.toArray (Prod.fst p) }, AV.int IntKind.i64 (Prod.snd p)]]) Tip.full), (7, AV.int IntKind.i64 (1 : Int))]
        [AObj.arr 2 (Seq.map T.encPk T.noPk s)] (q292_0 1 Post))) →
    ASpec Try.prog 292 [AV.msl 2 0 0 (List.length s), AV.int IntKind.i64 i, AV.sl 2 (Seq.raw [T.encPk p]) Tip.full]
      [AObj.arr 2 (Seq.map T.encPk T.noPk s)] Post := fun s p i Post h => Go.Ab.ASpec.of_vc g292 Go.Proofs.Try.func292 (by kernel_rfl) (by kernel_rfl) (by kernel_rfl) (Go.Ab.kc (by kernel_rfl) h)
noncomputable def q292_1 : Nat → (AV → List AObj → Prop) → AQ := fun (n : Nat) (Post : AV → List AObj → Prop) => seqQ (fun (s' : Slots) (H' : List AObj) => awp Try.prog g292 n (codeSnd (codeSnd (codeSnd (codeSnd c292_3)))) s' H' (q292_0 n Post)) (q292_0 n Post)
noncomputable def c292_10 : Go.Code := codeSnd (codeFst (codeSnd (codeFst (codeSnd (codeSnd (codeSnd c292_3))))))
noncomputable def c292_14 : Go.Code := codeSnd (codeSnd (codeSnd (codeSnd (codeSnd c292_3))))
theorem v292_3 : ∀ (s : List T.Pk) (p : T.Pk) (i : Int) (n : Nat) (Post : AV → List AObj → Prop),
  condP (i == (↑(List.length s) : Int))
      (needP (List.length s = List.length s ∧ (List.length s + 1) * 24 ≤ 140737488351232)
        (Post (AV.msl 2 1 0 (List.length s + 1))
        [AObj.gone, AObj.arr 2 (Seq.app (Seq.map T.encPk T.noPk s) (Seq.raw [[AV.str { data := List.toArray (Prod.fst p) }, AV.int IntKind.i64 (Prod.snd p)]]))]))
      (∀ (c : Nat),
        List.length s ≤ c ∧ Seq.len (Seq.map T.encPk T.noPk s) ≤ 0 + c →
        condP (decide (IntKind.wrap IntKind.i64 ((↑(List.length s) : Int) + (1 : Int)) > (↑c : Int)))
        (needP
        ((0 : Int) ≤ i ∧
        (0 : Int) + i ≤
        (↑(rowLen [AObj.arr 2 (Seq.app (Seq.map T.encPk T.noPk s) (bads 2 (0 + c - List.length s))), AObj.csz 0 2 (0 + c)] 0) : Int))
        (needP
        ((0 : Int) < IntKind.wrap IntKind.i64 (IntKind.wrap IntKind.i64 ((↑(List.length s) : Int) + (1 : Int)) - i) ∧
        0 + Int.toNat i ≤ List.length s + Seq.len (bads 2 (0 + c - List.length s)) ∧
        0 + c < 0 + Int.toNat i + Int.toNat (IntKind.wrap IntKind.i64 (IntKind.wrap IntKind.i64 ((↑(List.length s) : Int) + (1 : Int)) - i)) ∧
        (Int.toNat i + Int.toNat (IntKind.wrap IntKind.i64 (IntKind.wrap IntKind.i64 ((↑(List.length s) : Int) + (1 : Int)) - i))) * 24 ≤ 140737488351232)
        (AWP Try.prog 95 n c292_10
        [(0, AV.msl 2 0 0 (List.length s)), (1, AV.int IntKind.i64 i),
        (2, AV.sl 2 (Seq.raw [[AV.str { data := List.toArray (Prod.fst p) }, AV.int IntKind.i64 (Prod.snd p)]]) Tip.full), (7, AV.int IntKind.i64 (1 : Int)),
        (9, AV.msl 2 2 0 (Int.toNat i + Int.toNat (IntKind.wrap IntKind.i64 (IntKind.wrap IntKind.i64 ((↑(List.length s) : Int) + (1 : Int)) - i))))]
        [AObj.arr 2 (Seq.app (Seq.map T.encPk T.noPk s) (bads 2 (0 + c - List.length s))), AObj.csz 0 2 (0 + c),
        AObj.arr 2
        (Seq.app
        (Seq.raw (List.drop 0 (List.take (0 + Int.toNat i) (Seq.toList (Seq.map T.encPk T.noPk s) ++ Seq.toList (bads 2 (0 + c - List.length s))))))
        (Seq.raw
        (List.replicate (Int.toNat (IntKind.wrap IntKind.i64 (IntKind.wrap IntKind.i64 ((↑(List.length s) : Int) + (1 : Int)) - i)))
        [AV.str { data := #[] }, AV.int IntKind.i64 (0 : Int)])))]
        (q292_1 n Post))))
        (needP
        ((0 : Int) ≤ IntKind.wrap IntKind.i64 ((↑(List.length s) : Int) + (1 : Int)) ∧
        (0 : Int) + IntKind.wrap IntKind.i64 ((↑(List.length s) : Int) + (1 : Int)) ≤
        (↑(rowLen [AObj.arr 2 (Seq.app (Seq.map T.encPk T.noPk s) (bads 2 (0 + c - List.length s))), AObj.csz 0 2 (0 + c)] 0) : Int))
        (AWP Try.prog 95 n c292_14
        [(0, AV.msl 2 0 0 (Int.toNat (IntKind.wrap IntKind.i64 ((↑(List.length s) : Int) + (1 : Int))))), (1, AV.int IntKind.i64 i),
        (2, AV.sl 2 (Seq.raw [[AV.str { data := List.toArray (Prod.fst p) }, AV.int IntKind.i64 (Prod.snd p)]]) Tip.full), (7, AV.int IntKind.i64 (1 : Int)),
        (8, AV.int IntKind.i64 (↑(List.length s) : Int))]
        [AObj.arr 2 (Seq.app (Seq.map T.encPk T.noPk s) (bads 2 (0 + c - List.length s))), AObj.csz 0 2 (0 + c)] (q292_0 n Post)))) →
    AWP Try.prog 95 n c292_3
      [(0, AV.msl 2 0 0 (List.length s)), (1, AV.int IntKind.i64 i),
        (2, AV.sl 2 (Seq.raw [[AV.str { data := List.toArray (Prod.fst p) }, AV.int IntKind.i64 (Prod.snd p)]]) Tip.full), (7, AV.int IntKind.i64 (1 : Int))]
      [AObj.arr 2 (Seq.map T.encPk T.noPk s)] (q292_0 n Post) := fun s p i n Post h => Go.Ab.awp_sound g292 n _ _ _ _ (Go.Ab.kc (by kernel_rfl) h)
noncomputable def c292_11 : Go.Code := codeSnd c292_10
theorem v292_10 : ∀ (s t : List T.Pk) (p : T.Pk) (i : Int) (n : Nat) (Post : AV → List AObj → Prop),
  needP ((0 : Int) ≤ i ∧ i ≤ (↑(List.length t) : Int))
      (condP (decide (i < (↑(List.length t) : Int)))
        (needP (0 + Int.toNat i + (List.length t - Int.toNat i) ≤ List.length t ∧ 1 ≤ List.length t - Int.toNat i)
        (AWP Try.prog 95 n c292_11
        [(0, AV.msl 2 0 0 (List.length s)), (1, AV.int IntKind.i64 i), (7, AV.int IntKind.i64 (1 : Int)),
        (9, AV.msl 2 1 0 (List.length t))]
        [AObj.arr 2 (Seq.map T.encPk T.noPk s),
        AObj.arr 2 (copied (Seq.map T.encPk T.noPk t) (0 + Int.toNat i) (Seq.raw [[AV.str { data := List.toArray (Prod.fst p) }, AV.int IntKind.i64 (Prod.snd p)]]))]
        (q292_1 n Post)))
        False) →
    AWP Try.prog 95 n c292_10
      [(0, AV.msl 2 0 0 (List.length s)), (1, AV.int IntKind.i64 i),
        (2, AV.sl 2 (Seq.raw [[AV.str { data := List.toArray (Prod.fst p) }, AV.int IntKind.i64 (Prod.snd p)]]) Tip.full), (7, AV.int IntKind.i64 (1 : Int)),
        (9, AV.msl 2 1 0 (List.length t))]
      [AObj.arr 2 (Seq.map T.encPk T.noPk s), AObj.arr 2 (Seq.map T.encPk T.noPk t)] (q292_1 n Post) := fun s t p i n Post h => Go.Ab.awp_sound g292 n _ _ _ _ (Go.Ab.kc (by kernel_rfl) h)
noncomputable def c292_12 : Go.Code := codeSnd c292_11
theorem v292_11 : ∀ (s t : List T.Pk) (i : Int) (n : Nat) (Post : AV → List AObj → Prop),
  needP ((0 : Int) ≤ IntKind.wrap IntKind.i64 (i + (1 : Int)) ∧ IntKind.wrap IntKind.i64 (i + (1 : Int)) ≤ (↑(List.length t) : Int))
      (condP (decide (IntKind.wrap IntKind.i64 (i + (1 : Int)) < (↑(List.length t) : Int)))
        (needP ((0 : Int) ≤ i ∧ i ≤ (↑(List.length s) : Int))
        (condP (decide (i < (↑(List.length s) : Int)))
        (needP (0 + Int.toNat i + (List.length s - Int.toNat i) ≤ List.length s)
        (needP (∀ (x : T.Pk), List.all (T.encPk x) oneAV = true)
        (needP
        (0 + Int.toNat (IntKind.wrap IntKind.i64 (i + (1 : Int))) + (List.length t - Int.toNat (IntKind.wrap IntKind.i64 (i + (1 : Int)))) ≤ List.length t ∧
        List.length (List.drop (0 + Int.toNat i) (List.take (0 + Int.toNat i + (List.length s - Int.toNat i)) s)) ≤
        List.length t - Int.toNat (IntKind.wrap IntKind.i64 (i + (1 : Int))))
        (AWP Try.prog 95 n c292_12 [(9, AV.msl 2 1 0 (List.length t))]
        [AObj.arr 2 (Seq.map T.encPk T.noPk s),
        AObj.arr 2
        (copied (Seq.map T.encPk T.noPk t) (0 + Int.toNat (IntKind.wrap IntKind.i64 (i + (1 : Int))))
        (Seq.map T.encPk T.noPk (List.drop (0 + Int.toNat i) (List.take (0 + Int.toNat i + (List.length s - Int.toNat i)) s))))]
        (q292_1 n Post)))))
        (needP
        (0 + Int.toNat (IntKind.wrap IntKind.i64 (i + (1 : Int))) + (List.length t - Int.toNat (IntKind.wrap IntKind.i64 (i + (1 : Int)))) ≤ List.length t ∧
        0 ≤ List.length t - Int.toNat (IntKind.wrap IntKind.i64 (i + (1 : Int))))
        (AWP Try.prog 95 n c292_12 [(9, AV.msl 2 1 0 (List.length t))]
        [AObj.arr 2 (Seq.map T.encPk T.noPk s), AObj.arr 2 (copied (Seq.map T.encPk T.noPk t) (0 + Int.toNat (IntKind.wrap IntKind.i64 (i + (1 : Int)))) (Seq.raw []))]
        (q292_1 n Post)))))
        (needP ((0 : Int) ≤ i ∧ i ≤ (↑(List.length s) : Int)) (condP (decide (i < (↑(List.length s) : Int))) False False))) →
    AWP Try.prog 95 n c292_11
      [(0, AV.msl 2 0 0 (List.length s)), (1, AV.int IntKind.i64 i), (7, AV.int IntKind.i64 (1 : Int)),
        (9, AV.msl 2 1 0 (List.length t))]
      [AObj.arr 2 (Seq.map T.encPk T.noPk s), AObj.arr 2 (Seq.map T.encPk T.noPk t)] (q292_1 n Post) := fun s t i n Post h => Go.Ab.awp_sound g292 n _ _ _ _ (Go.Ab.kc (by kernel_rfl) h)
theorem v292_12 : ∀ (s t : List T.Pk) (n : Nat) (Post : AV → List AObj → Prop),
  Post (AV.msl 2 1 0 (List.length t)) [AObj.arr 2 (Seq.map T.encPk T.noPk s), AObj.arr 2 (Seq.map T.encPk T.noPk t)] →
    AWP Try.prog 95 n c292_12 [(9, AV.msl 2 1 0 (List.length t))] [AObj.arr 2 (Seq.map T.encPk T.noPk s), AObj.arr 2 (Seq.map T.encPk T.noPk t)]
      (q292_1 n Post) := fun s t n Post h => Go.Ab.awp_sound g292 n _ _ _ _ (Go.Ab.kc (by kernel_rfl) h)
noncomputable def q292_2 : Nat → (AV → List AObj → Prop) → AQ := fun (n : Nat) (Post : AV → List AObj → Prop) => seqQ (fun (s' : Slots) (H' : List AObj) => awp Try.prog g292 n (codeSnd c292_14) s' H' (q292_0 n Post)) (q292_0 n Post)
noncomputable def c292_16 : Go.Code := codeSnd (codeFst (codeSnd (codeFst c292_14)))
theorem v292_14 : ∀ (s : List T.Pk) (p : T.Pk) (i : Int) (d c n : Nat) (Post : AV → List AObj → Prop),
  needP ((0 : Int) ≤ IntKind.wrap IntKind.i64 (i + (1 : Int)) ∧ IntKind.wrap IntKind.i64 (i + (1 : Int)) ≤ (↑(List.length s + 1) : Int))
      (condP (decide (IntKind.wrap IntKind.i64 (i + (1 : Int)) < (↑(List.length s + 1) : Int)))
        (needP (overlapsFn Try.prog 332 2)
        (needP ((0 : Int) ≤ IntKind.wrap IntKind.i64 (i + (1 : Int)) ∧ IntKind.wrap IntKind.i64 (i + (1 : Int)) ≤ (↑(List.length s + 1) : Int))
        (condP (decide (IntKind.wrap IntKind.i64 (i + (1 : Int)) < (↑(List.length s + 1) : Int)))
        (needP ((0 : Int) ≤ i ∧ i ≤ (↑(List.length s + 1) : Int))
        (condP (decide (i < (↑(List.length s + 1) : Int)))
        (needP (0 + Int.toNat i + min (List.length s + 1 - Int.toNat i) (List.length s + 1 - Int.toNat (IntKind.wrap IntKind.i64 (i + (1 : Int)))) ≤ List.length s)
        (needP (∀ (x : T.Pk), List.all (T.encPk x) oneAV = true)
        (needP
        (0 + Int.toNat (IntKind.wrap IntKind.i64 (i + (1 : Int))) + (List.length s + 1 - Int.toNat (IntKind.wrap IntKind.i64 (i + (1 : Int)))) ≤
        List.length s + Seq.len (bads 2 d) ∧
        List.length
        (List.drop (0 + Int.toNat i)
        (List.take (0 + Int.toNat i + min (List.length s + 1 - Int.toNat i) (List.length s + 1 - Int.toNat (IntKind.wrap IntKind.i64 (i + (1 : Int)))))
        s)) ≤
        List.length s + 1 - Int.toNat (IntKind.wrap IntKind.i64 (i + (1 : Int))))
        (AWP Try.prog 95 n c292_16
        [(0, AV.msl 2 0 0 (List.length s + 1)), (1, AV.int IntKind.i64 i),
        (2, AV.sl 2 (Seq.raw [[AV.str { data := List.toArray (Prod.fst p) }, AV.int IntKind.i64 (Prod.snd p)]]) Tip.full)]
        [AObj.arr 2
        (copied (Seq.app (Seq.map T.encPk T.noPk s) (bads 2 d)) (0 + Int.toNat (IntKind.wrap IntKind.i64 (i + (1 : Int))))
        (Seq.map T.encPk T.noPk
        (List.drop (0 + Int.toNat i)
        (List.take
        (0 + Int.toNat i + min (List.length s + 1 - Int.toNat i) (List.length s + 1 - Int.toNat (IntKind.wrap IntKind.i64 (i + (1 : Int)))))
        s)))),
        AObj.csz 0 2 c]
        (q292_2 n Post)))))
        (needP
        (0 + Int.toNat (IntKind.wrap IntKind.i64 (i + (1 : Int))) + (List.length s + 1 - Int.toNat (IntKind.wrap IntKind.i64 (i + (1 : Int)))) ≤
        List.length s + Seq.len (bads 2 d) ∧
        0 ≤ List.length s + 1 - Int.toNat (IntKind.wrap IntKind.i64 (i + (1 : Int))))
        (AWP Try.prog 95 n c292_16
        [(0, AV.msl 2 0 0 (List.length s + 1)), (1, AV.int IntKind.i64 i),
        (2, AV.sl 2 (Seq.raw [[AV.str { data := List.toArray (Prod.fst p) }, AV.int IntKind.i64 (Prod.snd p)]]) Tip.full)]
        [AObj.arr 2 (copied (Seq.app (Seq.map T.encPk T.noPk s) (bads 2 d)) (0 + Int.toNat (IntKind.wrap IntKind.i64 (i + (1 : Int)))) (Seq.raw [])),
        AObj.csz 0 2 c]
        (q292_2 n Post)))))
        (needP ((0 : Int) ≤ i ∧ i ≤ (↑(List.length s + 1) : Int)) (condP (decide (i < (↑(List.length s + 1) : Int))) False False)))))
        False) →
    AWP Try.prog 95 n c292_14
      [(0, AV.msl 2 0 0 (List.length s + 1)), (1, AV.int IntKind.i64 i),
        (2, AV.sl 2 (Seq.raw [[AV.str { data := List.toArray (Prod.fst p) }, AV.int IntKind.i64 (Prod.snd p)]]) Tip.full), (7, AV.int IntKind.i64 (1 : Int)),
        (8, AV.int IntKind.i64 (↑(List.length s) : Int))]
      [AObj.arr 2 (Seq.app (Seq.map T.encPk T.noPk s) (bads 2 d)), AObj.csz 0 2 c] (q292_0 n Post) := fun s p i d c n Post h => Go.Ab.awp_sound g292 n _ _ _ _ (Go.Ab.kc (by kernel_rfl) h)
noncomputable def c292_17 : Go.Code := codeSnd c292_16
theorem v292_16 : ∀ (s : List T.Pk) (p : T.Pk) (i : Int) (n : Nat) (Post : AV → List AObj → Prop),
  needP ((0 : Int) ≤ i ∧ i ≤ (↑(List.length s) : Int))
      (condP (decide (i < (↑(List.length s) : Int)))
        (needP (0 + Int.toNat i + (List.length s - Int.toNat i) ≤ List.length s ∧ 1 ≤ List.length s - Int.toNat i)
        (AWP Try.prog 95 n c292_17 [(0, AV.msl 2 0 0 (List.length s))]
        [AObj.arr 2 (copied (Seq.map T.encPk T.noPk s) (0 + Int.toNat i) (Seq.raw [[AV.str { data := List.toArray (Prod.fst p) }, AV.int IntKind.i64 (Prod.snd p)]]))]
        (q292_2 n Post)))
        False) →
    AWP Try.prog 95 n c292_16
      [(0, AV.msl 2 0 0 (List.length s)), (1, AV.int IntKind.i64 i),
        (2, AV.sl 2 (Seq.raw [[AV.str { data := List.toArray (Prod.fst p) }, AV.int IntKind.i64 (Prod.snd p)]]) Tip.full)]
      [AObj.arr 2 (Seq.map T.encPk T.noPk s)] (q292_2 n Post) := fun s p i n Post h => Go.Ab.awp_sound g292 n _ _ _ _ (Go.Ab.kc (by kernel_rfl) h)
theorem v292_17 : ∀ (s : List T.Pk) (n : Nat) (Post : AV → List AObj → Prop),
  Post (AV.msl 2 0 0 (List.length s)) [AObj.arr 2 (Seq.map T.encPk T.noPk s)] →
    AWP Try.prog 95 n c292_17 [(0, AV.msl 2 0 0 (List.length s))] [AObj.arr 2 (Seq.map T.encPk T.noPk s)] (q292_2 n Post) := fun s n Post h => Go.Ab.awp_sound g292 n _ _ _ _ (Go.Ab.kc (by kernel_rfl) h)

-- 291
noncomputable def l291 : Nat → List Nat
  | 2 => [0, 1, 5, 6]
  | _ => []
noncomputable def u291 : Nat → Bool
  | 2 => true
  | _ => false
noncomputable def m291 : Nat → Bool
  | _ => false
noncomputable def g291 : Cfg := { N := 28, live := l291, cut := u291, mu := m291, ret := rets }
noncomputable def c291 : Go.Code := Go.Ab.bodyOf Go.Proofs.Try.f291
noncomputable def q291_0 : Nat → (AV → List AObj → Prop) → AQ := fun (n : Nat) (Post : AV → List AObj → Prop) => endQ Try.prog (resultsOf Try.f291) Post
noncomputable def q291_1 : Nat → (AV → List AObj → Prop) → AQ := fun (n : Nat) (Post : AV → List AObj → Prop) => scopeQ Try.prog g291 n (codeFst (codeSnd c291)) (q291_0 n Post)
noncomputable def c291_2 : Go.Code := codeSnd (codeSnd (codeFst (codeSnd c291)))
theorem s291m : ∀ (s : List T.Pk) (x : List UInt8) (Post : AV → List AObj → Prop),
  AWP Try.prog 28 1 c291_2
      [(0, AV.msl 2 0 0 (List.length s)), (1, AV.str { data := List.toArray x }), (5, AV.int IntKind.i64 (0 : Int)),
        (6, AV.int IntKind.i64 (↑(List.length s) : Int))]
      [AObj.arr 2 (Seq.map T.encPk T.noPk s)] (q291_1 1 Post) →
    ASpec Try.prog 291 [AV.msl 2 0 0 (List.length s), AV.str { data := List.toArray x }] [AObj.arr 2 (Seq.map T.encPk T.noPk s)] Post := fun s x Post h => Go.Ab.ASpec.of_vc g291 Go.Proofs.Try.func291 (by kernel_rfl) (by kernel_rfl) (by kernel_rfl) (Go.Ab.kc (by kernel_rfl) h)
theorem s291v : ∀ (s : List T.Pk) (x : List UInt8) (Post : AV → List AObj → Prop),
  AWP Try.prog 28 0 c291_2
      [(0, AV.sl 2 (Seq.map T.encPk T.noPk s) Tip.none), (1, AV.str { data := List.toArray x }), (5, AV.int IntKind.i64 (0 : Int)),
        (6, AV.int IntKind.i64 (↑(List.length s) : Int))]
      [] (q291_1 0 Post) →
    ASpec Try.prog 291 [AV.sl 2 (Seq.map T.encPk T.noPk s) Tip.none, AV.str { data := List.toArray x }] [] Post := fun s x Post h => Go.Ab.ASpec.of_vc g291 Go.Proofs.Try.func291 (by kernel_rfl) (by kernel_rfl) (by kernel_rfl) (Go.Ab.kc (by kernel_rfl) h)
theorem v291_2m : ∀ (s : List T.Pk) (x : List UInt8) (lo hi : Int) (n : Nat) (Post : AV → List AObj → Prop),
  condP (lo == hi) (Post (AV.int IntKind.i64 lo) [AObj.arr 2 (Seq.map T.encPk T.noPk s)])
      (needP ((2 : Int) ≠ (0 : Int))
        (needP
        ((0 : Int) ≤ IntKind.wrap IntKind.i64 (Int.tdiv (IntKind.wrap IntKind.i64 (lo + hi)) (2 : Int)) ∧
        IntKind.wrap IntKind.i64 (Int.tdiv (IntKind.wrap IntKind.i64 (lo + hi)) (2 : Int)) < (↑(List.length s) : Int))
        (needP (0 + Int.toNat (IntKind.wrap IntKind.i64 (Int.tdiv (IntKind.wrap IntKind.i64 (lo + hi)) (2 : Int))) < List.length s)
        (condP
        (Op.bytesLess
        (ByteArray.toList { data := List.toArray (Prod.fst (List.getD s (0 + Int.toNat (IntKind.wrap IntKind.i64 (Int.tdiv (IntKind.wrap IntKind.i64 (lo + hi)) (2 : Int)))) T.noPk)) })
        (ByteArray.toList { data := List.toArray x }))
        (AWPS Try.prog 28 n (codeFst (codeSnd c291)) (Code.seq Code.skip c291_2)
        [(0, AV.msl 2 0 0 (List.length s)), (1, AV.str { data := List.toArray x }),
        (5, AV.int IntKind.i64 (IntKind.wrap IntKind.i64 (IntKind.wrap IntKind.i64 (Int.tdiv (IntKind.wrap IntKind.i64 (lo + hi)) (2 : Int)) + (1 : Int)))),
        (6, AV.int IntKind.i64 hi)]
        [AObj.arr 2 (Seq.map T.encPk T.noPk s)] (q291_0 n Post))
        (AWPS Try.prog 28 n (codeFst (codeSnd c291)) (Code.seq Code.skip c291_2)
        [(0, AV.msl 2 0 0 (List.length s)), (1, AV.str { data := List.toArray x }), (5, AV.int IntKind.i64 lo),
        (6, AV.int IntKind.i64 (IntKind.wrap IntKind.i64 (Int.tdiv (IntKind.wrap IntKind.i64 (lo + hi)) (2 : Int))))]
        [AObj.arr 2 (Seq.map T.encPk T.noPk s)] (q291_0 n Post)))))) →
    AWP Try.prog 28 n c291_2
      [(0, AV.msl 2 0 0 (List.length s)), (1, AV.str { data := List.toArray x }), (5, AV.int IntKind.i64 lo), (6, AV.int IntKind.i64 hi)]
      [AObj.arr 2 (Seq.map T.encPk T.noPk s)] (q291_1 n Post) := fun s x lo hi n Post h => Go.Ab.awp_sound g291 n _ _ _ _ (Go.Ab.kc (by kernel_rfl) h)
theorem v291_2v : ∀ (s : List T.Pk) (x : List UInt8) (lo hi : Int) (n : Nat) (Post : AV → List AObj → Prop),
  condP (lo == hi) (Post (AV.int IntKind.i64 lo) [])
      (needP ((2 : Int) ≠ (0 : Int))
        (needP
        ((0 : Int) ≤ IntKind.wrap IntKind.i64 (Int.tdiv (IntKind.wrap IntKind.i64 (lo + hi)) (2 : Int)) ∧
        IntKind.wrap IntKind.i64 (Int.tdiv (IntKind.wrap IntKind.i64 (lo + hi)) (2 : Int)) < (↑(List.length s) : Int))
        (condP
        (Op.bytesLess (ByteArray.toList { data := List.toArray (Prod.fst (List.getD s (Int.toNat (IntKind.wrap IntKind.i64 (Int.tdiv (IntKind.wrap IntKind.i64 (lo + hi)) (2 : Int)))) T.noPk)) })
        (ByteArray.toList { data := List.toArray x }))
        (AWPS Try.prog 28 n (codeFst (codeSnd c291)) (Code.seq Code.skip c291_2)
        [(0, AV.sl 2 (Seq.map T.encPk T.noPk s) Tip.none), (1, AV.str { data := List.toArray x }),
        (5, AV.int IntKind.i64 (IntKind.wrap IntKind.i64 (IntKind.wrap IntKind.i64 (Int.tdiv (IntKind.wrap IntKind.i64 (lo + hi)) (2 : Int)) + (1 : Int)))),
        (6, AV.int IntKind.i64 hi)]
        [] (q291_0 n Post))
        (AWPS Try.prog 28 n (codeFst (codeSnd c291)) (Code.seq Code.skip c291_2)
        [(0, AV.sl 2 (Seq.map T.encPk T.noPk s) Tip.none), (1, AV.str { data := List.toArray x }), (5, AV.int IntKind.i64 lo),
        (6, AV.int IntKind.i64 (IntKind.wrap IntKind.i64 (Int.tdiv (IntKind.wrap IntKind.i64 (lo + hi)) (2 : Int))))]
        [] (q291_0 n Post))))) →
    AWP Try.prog 28 n c291_2
      [(0, AV.sl 2 (Seq.map T.encPk T.noPk s) Tip.none), (1, AV.str { data := List.toArray x }), (5, AV.int IntKind.i64 lo), (6, AV.int IntKind.i64 hi)] []
      (q291_1 n Post) := fun s x lo hi n Post h => Go.Ab.awp_sound g291 n _ _ _ _ (Go.Ab.kc (by kernel_rfl) h)

-- 202
noncomputable def l202 : Nat → List Nat
  | 2 => [3, 5]
  | 3 => [3, 5, 6]
  | 5 => [5]
  | _ => []
noncomputable def u202 : Nat → Bool
  | 2 => true
  | 3 => true
  | 5 => true
  | _ => false
noncomputable def m202 : Nat → Bool
  | _ => false
noncomputable def g202 : Cfg := { N := 37, live := l202, cut := u202, mu := m202, ret := rets }
noncomputable def c202 : Go.Code := Go.Ab.bodyOf Go.Proofs.Try.f202
noncomputable def q202_0 : Nat → (AV → List AObj → Prop) → AQ := fun (n : Nat) (Post : AV → List AObj → Prop) => endQ Try.prog (resultsOf Try.f202) Post
noncomputable def c202_2 : Go.Code := codeSnd (codeSnd c202)
theorem s202 : ∀ (s : List T.Pk) (p : T.Pk) (Post : AV → List AObj → Prop),
  (ASpec Try.prog 290 [AV.sl 2 (Seq.map T.encPk T.noPk s) Tip.none] [AObj.cells [AV.str { data := List.toArray (Prod.fst p) }, AV.int IntKind.i64 (Prod.snd p)]]
      fun (r : AV) (H' : List AObj) =>
      ∃ (x : List T.Pk),
        r = AV.msl 2 1 0 (List.length x) ∧
        H' = [AObj.cells [AV.str { data := List.toArray (Prod.fst p) }, AV.int IntKind.i64 (Prod.snd p)], AObj.arr 2 (Seq.map T.encPk T.noPk x)] ∧
        AWP Try.prog 37 0 c202_2 [(3, AV.ptr 0 0), (5, AV.msl 2 1 0 (List.length x))]
        [AObj.cells [AV.str { data := List.toArray (Prod.fst p) }, AV.int IntKind.i64 (Prod.snd p)], AObj.arr 2 (Seq.map T.encPk T.noPk x)] (q202_0 0 Post)) →
    ASpec Try.prog 202 [AV.sl 2 (Seq.map T.encPk T.noPk s) Tip.none, AV.agg (T.encPk p)] [] Post := fun s p Post h => Go.Ab.ASpec.of_vc g202 Go.Proofs.Try.func202 (by kernel_rfl) (by kernel_rfl) (by kernel_rfl) (Go.Ab.kc (by kernel_rfl) h)
noncomputable def c202_3 : Go.Code := codeSnd c202_2
theorem v202_2 : ∀ (s : List T.Pk) (p : T.Pk) (n : Nat) (Post : AV → List AObj → Prop),
  (ASpec Try.prog 291 [AV.msl 2 1 0 (List.length s), AV.str { data := List.toArray (Prod.fst p) }]
      [AObj.cells [AV.str { data := List.toArray (Prod.fst p) }, AV.int IntKind.i64 (Prod.snd p)], AObj.arr 2 (Seq.map T.encPk T.noPk s)] fun (r : AV) (H' : List AObj) =>
      ∃ (x : Int),
        r = AV.int IntKind.i64 x ∧
        H' = [AObj.cells [AV.str { data := List.toArray (Prod.fst p) }, AV.int IntKind.i64 (Prod.snd p)], AObj.arr 2 (Seq.map T.encPk T.noPk s)] ∧
        AWP Try.prog 37 n c202_3 [(3, AV.ptr 0 0), (5, AV.msl 2 1 0 (List.length s)), (6, AV.int IntKind.i64 x)]
        [AObj.cells [AV.str { data := List.toArray (Prod.fst p) }, AV.int IntKind.i64 (Prod.snd p)], AObj.arr 2 (Seq.map T.encPk T.noPk s)] (q202_0 n Post)) →
    AWP Try.prog 37 n c202_2 [(3, AV.ptr 0 0), (5, AV.msl 2 1 0 (List.length s))]
      [AObj.cells (T.encPk p), AObj.arr 2 (Seq.map T.encPk T.noPk s)] (q202_0 n Post) := fun s p n Post h => Go.Ab.awp_sound g202 n _ _ _ _ (Go.Ab.kc (by kernel_rfl) h)
noncomputable def q202_1 : Nat → (AV → List AObj → Prop) → AQ := fun (n : Nat) (Post : AV → List AObj → Prop) => seqQ (fun (s' : Slots) (H' : List AObj) => awp Try.prog g202 n (codeSnd c202_3) s' H' (q202_0 n Post)) (q202_0 n Post)
noncomputable def c202_5 : Go.Code := codeSnd (codeFst (codeSnd (codeFst c202_3)))
theorem v202_3 : ∀ (s : List T.Pk) (p : T.Pk) (k : Int) (n : Nat) (Post : AV → List AObj → Prop),
  condP (decide (k < (↑(List.length s) : Int)))
      (needP ((0 : Int) ≤ k ∧ k < (↑(List.length s) : Int))
        (needP (0 + Int.toNat k < List.length s)
        (condP (ByteArray.toList { data := List.toArray (Prod.fst (List.getD s (0 + Int.toNat k) T.noPk)) } == ByteArray.toList { data := List.toArray (Prod.fst p) })
        (needP ((0 : Int) ≤ k ∧ k < (↑(List.length s) : Int))
        (needP (0 + Int.toNat k < List.length s)
        (AWP Try.prog 37 n c202_5 [(5, AV.msl 2 1 0 (List.length s))]
        [AObj.cells [AV.str { data := List.toArray (Prod.fst p) }, AV.int IntKind.i64 (Prod.snd p)],
        AObj.arr 2
        (Seq.raw (List.set (Seq.toList (Seq.map T.encPk T.noPk s)) (0 + Int.toNat k) [AV.str { data := List.toArray (Prod.fst p) }, AV.int IntKind.i64 (Prod.snd p)]))]
        (q202_1 n Post))))
        (ASpec Try.prog 292
        [AV.msl 2 1 0 (List.length s), AV.int IntKind.i64 k,
        AV.sl 2 (Seq.raw [[AV.str { data := List.toArray (Prod.fst p) }, AV.int IntKind.i64 (Prod.snd p)]]) Tip.full]
        [AObj.cells [AV.str { data := List.toArray (Prod.fst p) }, AV.int IntKind.i64 (Prod.snd p)], AObj.arr 2 (Seq.map T.encPk T.noPk s)] fun (r : AV) (H' : List AObj) =>
        ∃ (x : List T.Pk),
        r = AV.sl 2 (Seq.map T.encPk T.noPk x) Tip.none ∧
        H' = [AObj.cells [AV.str { data := List.toArray (Prod.fst p) }, AV.int IntKind.i64 (Prod.snd p)], AObj.gone] ∧
        Post (AV.sl 2 (Seq.map T.encPk T.noPk x) Tip.none) [AObj.cells [AV.str { data := List.toArray (Prod.fst p) }, AV.int IntKind.i64 (Prod.snd p)], AObj.gone]))))
      (ASpec Try.prog 292
        [AV.msl 2 1 0 (List.length s), AV.int IntKind.i64 k,
        AV.sl 2 (Seq.raw [[AV.str { data := List.toArray (Prod.fst p) }, AV.int IntKind.i64 (Prod.snd p)]]) Tip.full]
        [AObj.cells [AV.str { data := List.toArray (Prod.fst p) }, AV.int IntKind.i64 (Prod.snd p)], AObj.arr 2 (Seq.map T.encPk T.noPk s)] fun (r : AV) (H' : List AObj) =>
        ∃ (x : List T.Pk),
        r = AV.sl 2 (Seq.map T.encPk T.noPk x) Tip.none ∧
        H' = [AObj.cells [AV.str { data := List.toArray (Prod.fst p) }, AV.int IntKind.i64 (Prod.snd p)], AObj.gone] ∧
        Post (AV.sl 2 (Seq.map T.encPk T.noPk x) Tip.none) [AObj.cells [AV.str { data := List.toArray (Prod.fst p) }, AV.int IntKind.i64 (Prod.snd p)], AObj.gone]) →
    AWP Try.prog 37 n c202_3 [(3, AV.ptr 0 0), (5, AV.msl 2 1 0 (List.length s)), (6, AV.int IntKind.i64 k)]
      [AObj.cells (T.encPk p), AObj.arr 2 (Seq.map T.encPk T.noPk s)] (q202_0 n Post) := fun s p k n Post h => Go.Ab.awp_sound g202 n _ _ _ _ (Go.Ab.kc (by kernel_rfl) h)
theorem v202_5 : ∀ (s : List T.Pk) (p : T.Pk) (n : Nat) (Post : AV → List AObj → Prop),
  Post (AV.msl 2 1 0 (List.length s))
      [AObj.cells [AV.str { data := List.toArray (Prod.fst p) }, AV.int IntKind.i64 (Prod.snd p)], AObj.arr 2 (Seq.map T.encPk T.noPk s)] →
    AWP Try.prog 37 n c202_5 [(5, AV.msl 2 1 0 (List.length s))] [AObj.cells (T.encPk p), AObj.arr 2 (Seq.map T.encPk T.noPk s)] (q202_1 n Post) := fun s p n Post h => Go.Ab.awp_sound g202 n _ _ _ _ (Go.Ab.kc (by kernel_rfl) h)

-- 290
noncomputable def l290 : Nat → List Nat
  | _ => []
noncomputable def u290 : Nat → Bool
  | _ => false
noncomputable def m290 : Nat → Bool
  | 7 => true
  | _ => false
noncomputable def g290 : Cfg := { N := 8, live := l290, cut := u290, mu := m290, ret := rets }
theorem s290s : ∀ (s : List T.Pk) (Post : AV → List AObj → Prop),
  (∀ (b : Bool),
      (b = true → Seq.toList (Seq.map T.encPk T.noPk s) = []) →
        condP b (Post (AV.sl 0 (Seq.raw []) Tip.nil) [])
        (needP (∀ (x : T.Pk), List.all (T.encPk x) oneAV = true)
        (needP ((0 + List.length s) * 24 ≤ 140737488351232)
        (needP (1 ≤ List.length s) (Post (AV.msl 2 0 0 (List.length s)) [AObj.arr 2 (Seq.map T.encPk T.noPk s)]))))) →
    ASpec Try.prog 290 [AV.sl 2 (Seq.map T.encPk T.noPk s) Tip.none] [] Post := fun s Post h => Go.Ab.ASpec.of_vc g290 Go.Proofs.Try.func290 (by kernel_rfl) (by kernel_rfl) (by kernel_rfl) (Go.Ab.kc (by kernel_rfl) h)
end
end In
end

section
/- A pick put among picks: what the library's Insert computes. -/

set_option linter.unusedVariables false
set_option linter.unusedSimpArgs false
set_option maxRecDepth 100000
open Go Go.Ab Go.Proofs V S T C
open In
namespace Pc

noncomputable abbrev slK (l : List Pk) : AV := .sl 2 (.map encPk noPk l) .none
noncomputable abbrev arK (l : List Pk) : AObj := .arr 2 (.map encPk noPk l)
noncomputable abbrev oneK (p : Pk) : AV := .sl 2 (.raw [encPk p]) .full
def insM (s : List Pk) (i : Nat) (p : Pk) : List Pk := s.take i ++ p :: s.drop i
theorem insM_len (s : List Pk) {i : Nat} (p : Pk) (h : i ≤ s.length) : (insM s i p).length = s.length + 1 := by simp [insM]; omega

abbrev PI (R : List Pk) : AV → List AObj → Prop := fun r H' => ∃ k q, r = .msl 2 k 0 R.length ∧ H'[k]? = some (.arr 2 q) ∧ q.toList.take R.length = R.map encPk

theorem bads_len (d : Nat) : (bads 2 d).len = d := by rw [Seq.len_eq]; simp [bads, Seq.toList]

theorem copied_map (A B : List Pk) (off : Nat) {qA qB : Ab.Seq} (hA : qA.toList = A.map encPk) (hB : qB.toList = B.map encPk) : (copied qA off qB).toList = (A.take off ++ (B ++ A.drop (off + B.length))).map encPk := by
  simp only [copied, Seq.toList, hA, hB, List.map_append, List.map_take, List.map_drop, List.length_map]
theorem cop_len {A B : List Pk} {off : Nat} (h : off + B.length ≤ A.length) : (A.take off ++ (B ++ A.drop (off + B.length))).length = A.length := by simp; omega

/-- what the two copies leave in a row of one more -/
theorem two_copies {s A : List Pk} {i : Nat} {p : Pk} (hi : i ≤ s.length) (hA : A.length = s.length + 1) (ht : A.take i = s.take i) :
    (A.take i ++ ([p] ++ A.drop (i + 1))).take (i + 1) ++ (s.drop i ++ (A.take i ++ ([p] ++ A.drop (i + 1))).drop (i + 1 + (s.drop i).length)) = insM s i p := by
  have h1 : (A.take i ++ ([p] ++ A.drop (i + 1))).length = s.length + 1 := by simp; omega
  have h2 : (A.take i ++ ([p] ++ A.drop (i + 1))).take (i + 1) = s.take i ++ [p] := by
    rw [ht, ← List.append_assoc, List.take_append_of_le_length (by simp; omega), List.take_of_length_le (by simp; omega)]
  have h3 : (A.take i ++ ([p] ++ A.drop (i + 1))).drop (i + 1 + (s.drop i).length) = [] := List.drop_eq_nil_of_le (by rw [h1, List.length_drop]; omega)
  rw [h2, h3, List.append_nil]
  simp [insM]

theorem overl : overlapsFn Try.prog 332 2 := ⟨Try.f332, 60, 245, #[4], by kernel_rfl, by kernel_rfl, by kernel_rfl, by kernel_rfl, by kernel_rfl, by kernel_rfl, by kernel_rfl⟩

section
variable {s : List Pk} {p : Pk} {i : Nat} (hi : i ≤ s.length) (hl : s.length ≤ 1000000)
include hi hl

/-- the new row -/
theorem new10 (hlt : i < s.length) : AWP Try.prog 95 1 c292_10 [(0, .msl 2 0 0 s.length), (1, .int .i64 i), (2, oneK p), (7, .int .i64 1), (9, .msl 2 1 0 (s.length + 1))]
    [arK s, arK (s.take i ++ List.replicate (s.length + 1 - i) noPk)] (q292_1 1 (PI (insM s i p))) := by
  have hAl : (s.take i ++ List.replicate (s.length + 1 - i) noPk).length = s.length + 1 := by simp; omega
  have hAt : (s.take i ++ List.replicate (s.length + 1 - i) noPk).take i = s.take i := by
    rw [List.take_append_of_le_length (by simp; omega), List.take_take, Nat.min_self]
  generalize s.take i ++ List.replicate (s.length + 1 - i) noPk = A at hAl hAt
  have a := v292_10 s A p i 1 (PI (insM s i p))
  rw [hAl, Int.toNat_natCast, Nat.zero_add] at a
  refine a (needJ ⟨by omega, by omega⟩ (condD (fun _ => needJ ⟨by omega, by omega⟩ ?_) fun h => absurd (by omega) h))
  refine AWP.re (ReSt.arr (id := 1) (q := _) (q' := .map encPk noPk (A.take i ++ ([p] ++ A.drop (i + 1)))) rfl (copied_map A [p] i rfl rfl).symm) ?_
  have e1 : (A.take i ++ ([p] ++ A.drop (i + 1))).length = s.length + 1 := by rw [← hAl]; exact cop_len (B := [p]) (by simp; omega)
  have b := v292_11 s (A.take i ++ ([p] ++ A.drop (i + 1))) i 1 (PI (insM s i p))
  rw [e1, succ64 (by omega), Int.toNat_natCast, Int.toNat_natCast, Nat.zero_add, Nat.zero_add] at b
  have et : List.drop i (List.take (i + (s.length - i)) s) = s.drop i := by rw [List.take_of_length_le (by omega)]
  refine b (needJ ⟨by omega, by omega⟩ (condD (fun _ => needJ ⟨by omega, by omega⟩ (condD (fun _ => needJ (by omega) (needJ (fun _ => rfl) (needJ ⟨by omega, by rw [et, List.length_drop]; omega⟩ ?_))) fun h => absurd (by omega) h)) fun h => absurd (by omega) h))
  rw [et]
  refine AWP.re (ReSt.arr (id := 1) (q := _) (q' := .map encPk noPk (insM s i p)) rfl ?_) ?_
  · rw [copied_map (A.take i ++ ([p] ++ A.drop (i + 1))) (s.drop i) (i + 1) rfl rfl, two_copies hi hAl hAt]; rfl
  · have c := v292_12 s (insM s i p) 1 (PI (insM s i p))
    rw [insM_len s p hi] at c
    exact c ⟨1, _, by rw [insM_len s p hi], rfl, by simp only [Seq.toList]; rw [List.take_of_length_le (by simp)]⟩

omit hl in
/-- in place -/
theorem old16 (hlt : i < s.length) {A : List Pk} (hA : A.length = s.length + 1) (ht : A.take i = s.take i) (hd : A.drop (i + 1) = s.drop i) :
    AWP Try.prog 95 1 c292_16 [(0, .msl 2 0 0 (s.length + 1)), (1, .int .i64 i), (2, oneK p)] [arK A] (q292_2 1 (PI (insM s i p))) := by
  have a := v292_16 A p i 1 (PI (insM s i p))
  rw [hA, Int.toNat_natCast, Nat.zero_add] at a
  refine a (needJ ⟨by omega, by omega⟩ (condD (fun _ => needJ ⟨by omega, by omega⟩ ?_) fun h => absurd (by omega) h))
  refine AWP.re (ReSt.arr (id := 0) (q := _) (q' := .map encPk noPk (insM s i p)) rfl ?_) ?_
  · rw [copied_map A [p] i rfl rfl, ht]
    show _ = (s.take i ++ ([p] ++ A.drop (i + 1))).map encPk
    rw [hd]; rfl
  · have c := v292_17 (insM s i p) 1 (PI (insM s i p))
    rw [insM_len s p hi] at c
    exact c ⟨0, _, by rw [insM_len s p hi], rfl, by simp only [Seq.toList]; rw [List.take_of_length_le (by simp)]⟩

theorem old14 (hlt : i < s.length) {d c : Nat} (hd : 1 ≤ d) : AWP Try.prog 95 1 c292_14 [(0, .msl 2 0 0 (s.length + 1)), (1, .int .i64 i), (2, oneK p), (7, .int .i64 1), (8, .int .i64 s.length)]
    [.arr 2 (.app (.map encPk noPk s) (bads 2 d)), .csz 0 2 c] (q292_0 1 (PI (insM s i p))) := by
  have a := v292_14 s p i d c 1 (PI (insM s i p))
  have em : i + min (s.length + 1 - i) (s.length + 1 - (i + 1)) = s.length := by omega
  rw [succ64 (by omega), Int.toNat_natCast, Int.toNat_natCast, Nat.zero_add, Nat.zero_add, bads_len, em, List.take_of_length_le (Nat.le_refl _)] at a
  refine a (needJ ⟨by omega, by omega⟩ (condD (fun _ => needJ overl (needJ ⟨by omega, by omega⟩ (condD (fun _ => needJ ⟨by omega, by omega⟩ (condD (fun _ => needJ (Nat.le_refl _) (needJ (fun _ => rfl) (needJ ⟨by omega, by rw [List.length_drop]; omega⟩ ?_))) fun h => absurd (by omega) h)) fun h => absurd (by omega) h))) fun h => absurd (by omega) h))
  have hA : (s.take (i + 1) ++ s.drop i).length = s.length + 1 := by simp; omega
  have e3 : (s.take (i + 1)).length = i + 1 := by simp; omega
  refine AWP.re (ReSt.arrPre (id := 0) (q := _) (k := s.length + 1) (q' := .map encPk noPk (s.take (i + 1) ++ s.drop i)) rfl ?_) ?_
  · have hX : List.take (i + 1) (s.map encPk ++ (bads 2 d).toList) = (s.take (i + 1)).map encPk := by rw [List.take_append_of_le_length (by simp; omega), List.map_take]
    simp only [copied, Seq.toList]
    rw [hX, ← List.append_assoc, ← List.map_append, List.take_append_of_le_length (by rw [List.length_map, hA]; exact Nat.le_refl _)]
    exact (List.take_of_length_le (by rw [List.length_map, hA]; exact Nat.le_refl _)).symm
  · refine AWP.shape [0] [(0, .msl 2 0 0 (s.length + 1)), (1, .int .i64 i), (2, oneK p)] [arK (s.take (i + 1) ++ s.drop i)]
      ⟨by decide, rfl, by decide, fun j h => by match j, h with | 0, _ => rfl, fun j h => by match j, h with | 0, _ => exact .inl rfl⟩ ⟨rfl, Le.refl _, rfl, Le.refl _, rfl, Le.refl _, trivial⟩ (old16 hi hlt hA ?_ ?_)
    · rw [List.take_append_of_le_length (by omega), List.take_take, Nat.min_eq_left (by omega)]
    · rw [List.drop_append_of_le_length (by omega), List.drop_eq_nil_of_le (by omega), List.nil_append]
end

theorem insert_pi (s : List Pk) (p : Pk) {i : Nat} (hi : i ≤ s.length) (hl : s.length ≤ 1000000) : ASpec Try.prog 292 [.msl 2 0 0 s.length, .int .i64 i, oneK p] [arK s] (PI (insM s i p)) := by
  have go : AWP Try.prog 95 1 c292_3 [(0, .msl 2 0 0 s.length), (1, .int .i64 i), (2, oneK p), (7, .int .i64 1)] [arK s] (q292_0 1 (PI (insM s i p))) := by
    refine v292_3 s p i 1 _ (condE (fun he => needJ ⟨rfl, by omega⟩ ?_) fun hne c hc => ?_)
    · have he' : i = s.length := by omega
      subst he'
      exact ⟨1, _, by rw [insM_len s p hi], rfl, by
        rw [insM_len s p hi]
        simp only [Seq.toList]
        rw [List.take_of_length_le (by simp)]
        simp [insM]; rfl⟩
    · have hlt : i < s.length := by omega
      have hcs : s.length ≤ c := hc.1
      rw [show IntKind.wrap .i64 ((s.length : Int) + 1) = ((s.length + 1 : Nat) : Int) from succ64 (by omega), wrap64 (by omega) (by omega), Nat.zero_add, Int.toNat_natCast, show ((((s.length + 1 : Nat) : Int) - i).toNat) = s.length + 1 - i by omega, bads_len, Nat.zero_add, Int.toNat_natCast]
      have hrow : (rowLen [.arr 2 (.app (.map encPk noPk s) (bads 2 (c - s.length))), .csz 0 2 c] 0 : Nat) = s.length + (c - s.length) := by
        show (Seq.app (.map encPk noPk s) (bads 2 (c - s.length))).len = _
        rw [Seq.len, bads_len]; simp [Seq.len]
      refine condD (fun hgt => needJ ⟨by omega, ?_⟩ (needJ ⟨by omega, by omega, by omega, by omega⟩ ?_)) fun hle => needJ ⟨by omega, ?_⟩ ?_
      · rw [hrow]; omega
      · rw [show i + (s.length + 1 - i) = s.length + 1 by omega]
        refine AWP.re (ReSt.arr (id := 2) (q := _) (q' := .map encPk noPk (s.take i ++ List.replicate (s.length + 1 - i) noPk)) rfl ?_) ?_
        · simp only [Seq.toList, List.map_append, List.map_take, List.map_replicate, List.drop_zero]
          rw [List.take_append_of_le_length (by simp; omega)]
          rfl
        · refine AWP.re (ReSt.arrPre (id := 0) (q := _) (k := s.length) (q' := .map encPk noPk s) rfl ?_) ?_
          · simp only [Seq.toList]
            rw [List.take_append_of_le_length (by simp), List.take_of_length_le (by simp)]
          · exact AWP.shape [0, 2] [(0, .msl 2 0 0 s.length), (1, .int .i64 i), (2, oneK p), (7, .int .i64 1), (9, .msl 2 1 0 (s.length + 1))] [arK s, arK (s.take i ++ List.replicate (s.length + 1 - i) noPk)]
              ⟨by decide, rfl, by decide, fun j h => by match j, h with | 0, _ => rfl, fun j h => by match j, h with | 0, _ | 1, _ => exact .inl rfl⟩ ⟨rfl, Le.refl _, rfl, Le.refl _, rfl, Le.refl _, rfl, Le.refl _, rfl, Le.refl _, trivial⟩ (new10 hi hl hlt)
      · rw [hrow]; omega
      · exact old14 hi hl hlt (by omega)
  exact s292 s p i _ (needJ ⟨by omega, by omega⟩ (condD (fun _ => go) fun _ => go))
end Pc
end

section
/- Events as cells. -/

open Go Go.Ab Go.Proofs
namespace T
/-- kind, needs, ticks, ticket, body -/
abbrev Ev := Int × List Need × Int × Int × List UInt8
end T
end

section
/- Printed: what the code of functions 328, 329, 375, 376, 377, 394, 282, 48, 330, 190, 283, 189, 194, 70, 188, 187, 281, 415, 72, 71 asks for, by the framework's own reading of it; each line is checked against the code. -/

set_option linter.unusedVariables false
set_option maxRecDepth 100000
set_option maxHeartbeats 4000000
open Go Go.Ab Go.Proofs
namespace E
noncomputable section

end
end E
end

section
/- Printed: what the code of functions 284, 191, 192, 187, 281, 73, 416, 417, 418, 193, 74, 195, 75, 76, 9 asks for, by the framework's own reading of it; each line is checked against the code. -/

set_option linter.unusedVariables false
set_option maxRecDepth 100000
set_option maxHeartbeats 4000000
open Go Go.Ab Go.Proofs
namespace EB
noncomputable section

end
end EB
end

section
/- Events: which may be, and which are alike. -/

set_option linter.unusedVariables false
set_option linter.unusedSimpArgs false
set_option maxRecDepth 100000
open Go Go.Ab Go.Proofs V S T C
open W (slS cons_dec)
namespace E

/-- the answer r0, whatever lies in the heap -/
abbrev PA (r0 : AV) : AV → List AObj → Prop := fun r H' => ∃ l H2 r2, Sel 0 l H' H2 ∧ Le r (AV.ren (selR l H'.length) r2) ∧ (r2 = r0 ∧ H2 = [])
theorem pa {r r0 : AV} {H' : List AObj} (h : Le r (AV.ren (selR [] H'.length) r0)) : PA r0 r H' := ⟨[], [], r0, Sel.none, h, rfl, rfl⟩

/-! ### alike -/

/-! ### which may be -/

/-- of a kind, the needs' number, the ticks, the ticket, the body's length -/
def evP (k : Int) (A : Nat) (t n : Int) (B : Nat) : Prop := (0 ≤ t ∧ t ≤ 1099511627776) ∧ (k ≠ 1 → A = 0 ∧ t = 0) ∧ ((k = 3 ∨ k = 4) → 1 ≤ n ∧ n ≤ 1099511627776 ∧ B ≤ 9000 ∧ (k = 3 ∨ B = 0)) ∧ (¬ (k = 3 ∨ k = 4) → n = 0 ∧ B = 0 ∧ (k = 1 ∨ k = 2))
instance (k : Int) (A : Nat) (t n : Int) (B : Nat) : Decidable (evP k A t n B) := by unfold evP; infer_instance
section
variable {e : Ev}
end

/-! ### are they large? -/

/-! ### the example -/

end E
end

section
/- What was put of a manifest is read; what is read is put so. -/

set_option linter.unusedVariables false
set_option linter.unusedSimpArgs false
set_option maxRecDepth 100000
open Go Go.Ab Go.Proofs V S T C
namespace W

/-! ### what was put is read -/

/-! ### what is read is put so -/

/-! ### the law -/

section
variable {Post : AV → List AObj → Prop}

end
end W
end

section
/- Events out of bytes: what the code reads. -/

set_option linter.unusedVariables false
set_option linter.unusedSimpArgs false
set_option maxRecDepth 100000
open Go Go.Ab Go.Proofs V S T C
open W (slS cons_dec leNone renS leAppT)
namespace E

/-! ### the model -/

/-! ### needs -/

section
variable {bs : List UInt8} {p : Nat} {e : Int} {Post : AV → List AObj → Prop}

/-! ### one event -/

end
end E
end

section
/- Events as bytes and back: plain laws. -/

set_option linter.unusedVariables false
set_option linter.unusedSimpArgs false
set_option maxRecDepth 100000
open Go Go.Ab Go.Proofs V S T C
namespace E

end E
end

section
/- Events out of bytes: the document's reader. -/

set_option linter.unusedVariables false
set_option linter.unusedSimpArgs false
set_option maxRecDepth 100000
open Go Go.Ab Go.Proofs V S T C
open W (slS leNone)
namespace E

/-! ### the document's model -/

/-! ### the walk -/

section
variable {Post : AV → List AObj → Prop}

end
end E
end

section
/- Where a pick stands, or would stand: what the code computes. -/

set_option linter.unusedVariables false
set_option linter.unusedSimpArgs false
set_option maxRecDepth 100000
open Go Go.Ab Go.Proofs V S T C
open E (PA pa)
open In
open Go.Proofs
namespace Pc

def bsF (p : Nat → Bool) : Nat → Nat → Nat → Nat
  | 0, lo, _ => lo
  | f + 1, lo, hi => if lo = hi then lo else if p ((lo + hi) / 2) = true then bsF p f ((lo + hi) / 2 + 1) hi else bsF p f lo ((lo + hi) / 2)
def lessAt (s : List Pk) (x : List UInt8) (k : Nat) : Bool := Op.bytesLess (s.getD k noPk).1 x
def placeM (s : List Pk) (x : List UInt8) : Nat := bsF (lessAt s x) s.length 0 s.length

theorem tdiv2 (n : Nat) : Int.tdiv (n : Int) 2 = ((n / 2 : Nat) : Int) := rfl
theorem half64 {a b : Nat} (h : a + b ≤ 1000000000) : IntKind.wrap .i64 (Int.tdiv (IntKind.wrap .i64 ((a : Int) + b)) 2) = (((a + b) / 2 : Nat) : Int) := by
  rw [show ((a : Int) + b) = ((a + b : Nat) : Int) by omega, wrap64 (x := ((a + b : Nat) : Int)) (by omega) (by omega), tdiv2, wrap64 (by omega) (by omega)]

theorem back2m {s : List Pk} {x : List UInt8} {lo hi : Int} {n : Nat} {Post : AV → List AObj → Prop}
    (h : AWP Try.prog 28 n c291_2 [(0, .msl 2 0 0 s.length), (1, .str ⟨x.toArray⟩), (5, .int .i64 lo), (6, .int .i64 hi)] [.arr 2 (.map encPk noPk s)] (q291_1 n Post)) :
    AWPS Try.prog 28 n (codeFst (codeSnd c291)) (.seq .skip c291_2) [(0, .msl 2 0 0 s.length), (1, .str ⟨x.toArray⟩), (5, .int .i64 lo), (6, .int .i64 hi)] [.arr 2 (.map encPk noPk s)] (q291_0 n Post) :=
  AWPS.of g291 (awp_sound g291 n _ _ _ _ (kc (by kernel_rfl) h))

theorem place2m {s : List Pk} {x : List UInt8} (hl : s.length ≤ 100000000) : ∀ (m lo hi : Nat), hi - lo ≤ m → lo ≤ hi → hi ≤ s.length →
    AWP Try.prog 28 1 c291_2 [(0, .msl 2 0 0 s.length), (1, .str (B x)), (5, .int .i64 lo), (6, .int .i64 hi)] [arK s] (q291_1 1 (fun r H' => r = .int .i64 (bsF (lessAt s x) m lo hi) ∧ H' = [arK s])) := by
  intro m
  induction m with
  | zero =>
    intro lo hi hm h1 h2
    exact v291_2m s x lo hi 1 _ (condE (fun _ => ⟨rfl, rfl⟩) fun h => absurd (by omega) h)
  | succ m ih =>
    intro lo hi hm h1 h2
    refine v291_2m s x lo hi 1 _ (condE (fun he => ⟨by rw [bsF, if_pos (by omega)], rfl⟩) fun hne => needJ (by decide) ?_)
    rw [half64 (by omega), Int.toNat_natCast, Nat.zero_add]
    refine needJ ⟨by omega, by omega⟩ (needJ (by omega) ?_)
    rw [B_toList, B_toList]
    have hlt : lo ≠ hi := by omega
    refine condB (fun hc => back2m ?_) fun hc => back2m ?_
    · rw [bsF, if_neg hlt, if_pos (show lessAt s x ((lo + hi) / 2) = true from hc), show IntKind.wrap .i64 ((((lo + hi) / 2 : Nat) : Int) + 1) = (((lo + hi) / 2 + 1 : Nat) : Int) by rw [wrap64 (by omega) (by omega)]; omega]
      exact ih _ _ (by omega) (by omega) h2
    · rw [bsF, if_neg hlt, if_neg (by rw [show lessAt s x ((lo + hi) / 2) = false from hc]; simp)]
      exact ih _ _ (by omega) (by omega) (by omega)

theorem place_spec (s : List Pk) (x : List UInt8) (hl : s.length ≤ 100000000) : ASpec Try.prog 291 [.msl 2 0 0 s.length, .str (B x)] [arK s] (fun r H' => r = .int .i64 (placeM s x) ∧ H' = [arK s]) :=
  s291m s x _ (place2m hl s.length 0 s.length (by omega) (by omega) (Nat.le_refl _))
end Pc
end

section
/- pick.Put: what the code computes, of some picks. -/

set_option linter.unusedVariables false
set_option linter.unusedSimpArgs false
set_option maxRecDepth 100000
open Go Go.Ab Go.Proofs V S T C
open E (PA pa)
open In
namespace Pc

theorem bsF_le (p : Nat → Bool) : ∀ (f lo hi : Nat), lo ≤ hi → lo ≤ bsF p f lo hi ∧ bsF p f lo hi ≤ hi
  | 0, lo, hi, h => ⟨Nat.le_refl _, h⟩
  | f + 1, lo, hi, h => by
    simp only [bsF]
    split
    · exact ⟨Nat.le_refl _, h⟩
    · split
      · have := bsF_le p f ((lo + hi) / 2 + 1) hi (by omega); omega
      · have := bsF_le p f lo ((lo + hi) / 2) (by omega); omega
theorem placeM_le (s : List Pk) (x : List UInt8) : placeM s x ≤ s.length := (bsF_le _ _ _ _ (Nat.zero_le _)).2

def putM (s : List Pk) (p : Pk) : List Pk :=
  if placeM s p.1 < s.length ∧ (s.getD (placeM s p.1) noPk).1 = p.1 then s.set (placeM s p.1) p else insM s (placeM s p.1) p

theorem renPk (ρ : Nat → Nat) (x : Pk) : renL ρ (encPk x) = encPk x := rfl
theorem slKLe {ρ : Nat → Nat} (l : List Pk) (tip : Tip) : Le (.sl 2 (.map encPk noPk l) tip) (AV.ren ρ (slK l)) := Le.sl (s' := Seq.ren _ (.map encPk noPk l)) (by simp [Ab.Seq.toList, Seq.ren, renPk]) (.inl rfl) (.inr rfl)

theorem insert_spec (s : List Pk) (p : Pk) {i : Nat} (hi : i ≤ s.length) (hl : s.length ≤ 1000000) : ASpec Try.prog 292 [.msl 2 0 0 s.length, .int .i64 i, oneK p] [arK s] (fun r H' => r = slK (insM s i p) ∧ H' = [.gone]) := by
  refine ASpec.sel (ASpec.reEnd ((insert_pi s p hi hl).mono fun r H' hh => ?_))
  obtain ⟨k, q, hr, hk, hq⟩ := hh
  subst hr
  have hkl : k < H'.length := (List.getElem?_eq_some_iff.1 hk).1
  have hql : (insM s i p).length ≤ q.toList.length := by
    have := congrArg List.length hq
    rw [List.length_take, List.length_map] at this; omega
  refine ⟨_, _, ReSt.freeze1 (q' := .map encPk noPk (insM s i p)) hk (by show 1 ≤ H'.length; omega) hql (by rw [hq]; rfl), ?_⟩
  refine ⟨[0], [.gone], slK (insM s i p), ⟨by decide, rfl, Nat.le_refl _, fun j h => by match j, h with | 0, _ => rfl, fun j h => .inr ?_⟩, slKLe _ _, rfl, rfl⟩
  match j, h with
  | 0, _ => exact ⟨rfl, by rw [List.length_set]; show 0 < H'.length; omega⟩

theorem clone_spec (s : List Pk) (hs : s ≠ []) (hl : s.length ≤ 1000000) (H : List AObj) : ASpec Try.prog 290 [slK s] H (fun r H' => r = .msl 2 H.length 0 s.length ∧ H' = H ++ [arK s]) := by
  have h1 : 1 ≤ s.length := by cases s with | nil => exact absurd rfl hs | cons x r => simp
  have k : ASpec Try.prog 290 [slK s] [] (fun r H' => r = .msl 2 0 0 s.length ∧ H' = [arK s]) := by
    refine s290s s _ fun b hb => condB (fun h => ?_) fun _ => needJ (fun _ => rfl) (needJ (by omega) (needJ h1 ⟨rfl, rfl⟩))
    have := congrArg List.length (hb h)
    simp only [Seq.toList, List.length_map, List.length_nil] at this
    omega
  exact ASpec.subH [] H _ k _ _ (by simp) rfl rfl rfl (fun i h => by simp at h) rfl

theorem put_spec1 (s : List Pk) (p : Pk) (hs : s ≠ []) (hl : s.length ≤ 1000000) (H : List AObj) : ASpec Try.prog 202 [slK s, .agg (encPk p)] H (fun r H' => r = slK (putM s p) ∧ H' = H) := by
  have hp := placeM_le s p.1
  have k : ASpec Try.prog 202 [slK s, .agg (encPk p)] [] (fun r H' => r = slK (putM s p) ∧ H' = []) := by
    refine ASpec.sel (ASpec.reEnd (s202 s p _ ((clone_spec s hs hl [.cells (encPk p)]).mono fun r H' hh => ⟨s, hh.1, hh.2, ?_⟩)))
    have pl : ASpec Try.prog 291 [.msl 2 1 0 s.length, .str (B p.1)] [.cells (encPk p), arK s] (fun r H' => r = .int .i64 (placeM s p.1) ∧ H' = [.cells (encPk p), arK s]) :=
      ASpec.subH [1] [.cells (encPk p), arK s] _ (place_spec s p.1 (by omega)) _ _ (by decide) rfl rfl rfl (fun i h => by match i, h with | 0, _ => rfl) rfl
    have ins : ASpec Try.prog 292 [.msl 2 1 0 s.length, .int .i64 (placeM s p.1), oneK p] [.cells (encPk p), arK s] (fun r H' => r = slK (insM s (placeM s p.1) p) ∧ H' = [.cells (encPk p), .gone]) :=
      ASpec.subH [1] [.cells (encPk p), arK s] _ (insert_spec s p hp hl) _ _ (by decide) rfl rfl rfl (fun i h => by match i, h with | 0, _ => rfl) rfl
    refine v202_2 s p 0 _ (pl.mono fun r H' hh => ⟨_, hh.1, hh.2, ?_⟩)
    have done : ∀ (l : List Pk), l = putM s p → ∀ H', ∃ r2 H2, ReSt 0 [(0, slK l)] H' [(0, r2)] H2 ∧ ∃ l2 H3 r3, Sel 0 l2 H2 H3 ∧ Le r2 (AV.ren (selR l2 H2.length) r3) ∧ r3 = slK (putM s p) ∧ H3 = [] := by
      intro l hl H'
      subst hl
      exact ⟨_, _, ReSt.refl _ _, [], [], _, Sel.none, slKLe _ _, rfl, rfl⟩
    refine v202_3 s p _ 0 _ (condD (fun hlt => needJ ⟨by omega, hlt⟩ (needJ (by rw [Int.toNat_natCast]; omega) ?_)) fun hge => ?_)
    · rw [Int.toNat_natCast, Nat.zero_add]
      refine condS (fun he => needJ ⟨by omega, hlt⟩ (needJ (by omega) ?_)) fun hne => ?_
      · have e : putM s p = s.set (placeM s p.1) p := by unfold putM; rw [if_pos ⟨by omega, he⟩]
        refine AWP.re (ReSt.arr (id := 1) (q := _) (q' := .map encPk noPk (s.set (placeM s p.1) p)) rfl (by simp only [Seq.toList, List.map_set]; rfl)) ?_
        have a := v202_5 (s.set (placeM s p.1) p) p 0 (fun r H' => ∃ r2 H2, ReSt 0 [(0, r)] H' [(0, r2)] H2 ∧ ∃ l2 H3 r3, Sel 0 l2 H2 H3 ∧ Le r2 (AV.ren (selR l2 H2.length) r3) ∧ r3 = slK (putM s p) ∧ H3 = [])
        rw [List.length_set] at a
        refine a ⟨_, _, ReSt.freeze1 (id := 1) (q' := .map encPk noPk (s.set (placeM s p.1) p)) rfl (Nat.zero_le _) (by simp [Seq.toList]) (by simp only [Seq.toList]; rw [List.take_of_length_le (by simp)]), ?_⟩
        rw [← e]
        exact ⟨[], [], _, Sel.none, slKLe _ _, rfl, rfl⟩
      · have e : insM s (placeM s p.1) p = putM s p := by unfold putM; rw [if_neg (fun h => hne h.2)]
        exact ins.mono fun r H' hh => ⟨_, hh.1, hh.2, done _ e _⟩
    · have e : insM s (placeM s p.1) p = putM s p := by unfold putM; rw [if_neg (fun h => hge (by omega))]
      exact ins.mono fun r H' hh => ⟨_, hh.1, hh.2, done _ e _⟩
  exact ASpec.pureH H k _ _ rfl rfl
end Pc
end

section
/- Printed: what the code of functions 290, 292, 202 asks for, by the framework's own reading of it; each line is checked against the code. -/

set_option linter.unusedVariables false
set_option maxRecDepth 100000
set_option maxHeartbeats 4000000
open Go Go.Ab Go.Proofs
namespace Inn
noncomputable section

noncomputable def tokId : List AV → Nat
  | .sl _ _ (.tok id) :: _ => id
  | _ => 1000
noncomputable def retI : List (Nat × Ret) := [
  (290, ⟨Unit, fun _ H _ => .sl 0 (.raw []) .nil, fun _ H _ => H⟩),
  (290, ⟨Unit, fun _ H _ => .sl 2 (.map T.encPk T.noPk []) (.tok H.length), fun _ H _ => H ++ [.tok]⟩),
  (291, ⟨Int, fun _ _ x => .int .i64 x, fun _ H _ => H⟩),
  (292, ⟨List T.Pk, fun _ _ x => .sl 2 (.map T.encPk T.noPk x) .none, fun a H _ => H.set (tokId a) .gone⟩)]
noncomputable def rets : FuncId → List Ret := lookupR (retI ++ C.retC ++ V.retL)

-- 290
noncomputable def l290 : Nat → List Nat
  | _ => []
noncomputable def u290 : Nat → Bool
  | _ => false
noncomputable def m290 : Nat → Bool
  | _ => false
noncomputable def g290 : Cfg := { N := 8, live := l290, cut := u290, mu := m290, ret := rets }
theorem s290 : ∀ (Post : AV → List AObj → Prop),
  (∀ (b : Bool),
      (b = true → Seq.toList (Seq.map T.encPk T.noPk []) = []) →
        condP b (Post (AV.sl 0 (Seq.raw []) Tip.nil) [])
        (needP (∀ (x : T.Pk), List.all (T.encPk x) oneAV = true)
        (needP (0 ≤ 140737488351232) (Post (AV.sl 2 (Seq.app (Seq.raw []) (Seq.map T.encPk T.noPk [])) (Tip.tok 0)) [AObj.tok])))) →
    ASpec Try.prog 290 [AV.sl 2 (Seq.map T.encPk T.noPk []) Tip.none] [] Post := fun Post h => Go.Ab.ASpec.of_vc g290 Go.Proofs.Try.func290 (by kernel_rfl) (by kernel_rfl) (by kernel_rfl) (Go.Ab.kc (by kernel_rfl) h)

-- 292
noncomputable def l292 : Nat → List Nat
  | _ => []
noncomputable def u292 : Nat → Bool
  | _ => false
noncomputable def m292 : Nat → Bool
  | _ => false
noncomputable def g292 : Cfg := { N := 95, live := l292, cut := u292, mu := m292, ret := rets }
theorem s292n : ∀ (p : T.Pk) (Post : AV → List AObj → Prop),
  needP ((0 : Int) ≤ (0 : Int) ∧ (0 : Int) ≤ (0 : Int))
      (needP (24 ≤ 140737488351232)
        (Post (AV.sl 2 (Seq.app (Seq.raw []) (Seq.raw [[AV.str { data := List.toArray (Prod.fst p) }, AV.int IntKind.i64 (Prod.snd p)]])) (Tip.tok 0)) [AObj.tok])) →
    ASpec Try.prog 292 [AV.sl 0 (Seq.raw []) Tip.nil, AV.int IntKind.i64 (0 : Int), AV.sl 2 (Seq.raw [T.encPk p]) Tip.full] [] Post := fun p Post h => Go.Ab.ASpec.of_vc g292 Go.Proofs.Try.func292 (by kernel_rfl) (by kernel_rfl) (by kernel_rfl) (Go.Ab.kc (by kernel_rfl) h)
theorem s292t : ∀ (p : T.Pk) (Post : AV → List AObj → Prop),
  needP ((0 : Int) ≤ (0 : Int) ∧ (0 : Int) ≤ (0 : Int))
      (needP (24 ≤ 140737488351232)
        (Post (AV.sl 2 (Seq.app (Seq.map T.encPk T.noPk []) (Seq.raw [[AV.str { data := List.toArray (Prod.fst p) }, AV.int IntKind.i64 (Prod.snd p)]])) (Tip.tok 1))
        [AObj.gone, AObj.tok])) →
    ASpec Try.prog 292 [AV.sl 2 (Seq.map T.encPk T.noPk []) (Tip.tok 0), AV.int IntKind.i64 (0 : Int), AV.sl 2 (Seq.raw [T.encPk p]) Tip.full] [AObj.tok] Post := fun p Post h => Go.Ab.ASpec.of_vc g292 Go.Proofs.Try.func292 (by kernel_rfl) (by kernel_rfl) (by kernel_rfl) (Go.Ab.kc (by kernel_rfl) h)

-- 202
noncomputable def l202 : Nat → List Nat
  | 2 => [3, 5]
  | 3 => [3, 5, 6]
  | _ => []
noncomputable def u202 : Nat → Bool
  | 2 => true
  | 3 => true
  | _ => false
noncomputable def m202 : Nat → Bool
  | _ => false
noncomputable def g202 : Cfg := { N := 37, live := l202, cut := u202, mu := m202, ret := rets }
noncomputable def c202 : Go.Code := Go.Ab.bodyOf Go.Proofs.Try.f202
noncomputable def q202_0 : Nat → (AV → List AObj → Prop) → AQ := fun (n : Nat) (Post : AV → List AObj → Prop) => endQ Try.prog (resultsOf Try.f202) Post
noncomputable def c202_2 : Go.Code := codeSnd (codeSnd c202)
theorem s202 : ∀ (p : T.Pk) (Post : AV → List AObj → Prop),
  (ASpec Try.prog 290 [AV.sl 2 (Seq.map T.encPk T.noPk []) Tip.none] [AObj.cells [AV.str { data := List.toArray (Prod.fst p) }, AV.int IntKind.i64 (Prod.snd p)]]
      fun (r : AV) (H' : List AObj) =>
      (∃ (x : Unit),
        r = AV.sl 0 (Seq.raw []) Tip.nil ∧
        H' = [AObj.cells [AV.str { data := List.toArray (Prod.fst p) }, AV.int IntKind.i64 (Prod.snd p)]] ∧
        AWP Try.prog 37 0 c202_2 [(3, AV.ptr 0 0), (5, AV.sl 0 (Seq.raw []) Tip.nil)]
        [AObj.cells [AV.str { data := List.toArray (Prod.fst p) }, AV.int IntKind.i64 (Prod.snd p)]] (q202_0 0 Post)) ∨
        ∃ (x : Unit),
        r = AV.sl 2 (Seq.map T.encPk T.noPk []) (Tip.tok 1) ∧
        H' = [AObj.cells [AV.str { data := List.toArray (Prod.fst p) }, AV.int IntKind.i64 (Prod.snd p)], AObj.tok] ∧
        AWP Try.prog 37 0 c202_2 [(3, AV.ptr 0 0), (5, AV.sl 2 (Seq.map T.encPk T.noPk []) (Tip.tok 1))]
        [AObj.cells [AV.str { data := List.toArray (Prod.fst p) }, AV.int IntKind.i64 (Prod.snd p)], AObj.tok] (q202_0 0 Post)) →
    ASpec Try.prog 202 [AV.sl 2 (Seq.map T.encPk T.noPk []) Tip.none, AV.agg (T.encPk p)] [] Post := fun p Post h => Go.Ab.ASpec.of_vc g202 Go.Proofs.Try.func202 (by kernel_rfl) (by kernel_rfl) (by kernel_rfl) (Go.Ab.kc (by kernel_rfl) h)
noncomputable def c202_3 : Go.Code := codeSnd c202_2
theorem v202_2n : ∀ (p : T.Pk) (n : Nat) (Post : AV → List AObj → Prop),
  (ASpec Try.prog 291 [AV.sl 0 (Seq.raw []) Tip.nil, AV.str { data := List.toArray (Prod.fst p) }]
      [AObj.cells [AV.str { data := List.toArray (Prod.fst p) }, AV.int IntKind.i64 (Prod.snd p)]] fun (r : AV) (H' : List AObj) =>
      ∃ (x : Int),
        r = AV.int IntKind.i64 x ∧
        H' = [AObj.cells [AV.str { data := List.toArray (Prod.fst p) }, AV.int IntKind.i64 (Prod.snd p)]] ∧
        AWP Try.prog 37 n c202_3 [(3, AV.ptr 0 0), (5, AV.sl 0 (Seq.raw []) Tip.nil), (6, AV.int IntKind.i64 x)]
        [AObj.cells [AV.str { data := List.toArray (Prod.fst p) }, AV.int IntKind.i64 (Prod.snd p)]] (q202_0 n Post)) →
    AWP Try.prog 37 n c202_2 [(3, AV.ptr 0 0), (5, AV.sl 0 (Seq.raw []) Tip.nil)] [AObj.cells (T.encPk p)] (q202_0 n Post) := fun p n Post h => Go.Ab.awp_sound g202 n _ _ _ _ (Go.Ab.kc (by kernel_rfl) h)
theorem v202_2t : ∀ (p : T.Pk) (n : Nat) (Post : AV → List AObj → Prop),
  (ASpec Try.prog 291 [AV.sl 2 (Seq.map T.encPk T.noPk []) (Tip.tok 1), AV.str { data := List.toArray (Prod.fst p) }]
      [AObj.cells [AV.str { data := List.toArray (Prod.fst p) }, AV.int IntKind.i64 (Prod.snd p)], AObj.tok] fun (r : AV) (H' : List AObj) =>
      ∃ (x : Int),
        r = AV.int IntKind.i64 x ∧
        H' = [AObj.cells [AV.str { data := List.toArray (Prod.fst p) }, AV.int IntKind.i64 (Prod.snd p)], AObj.tok] ∧
        AWP Try.prog 37 n c202_3 [(3, AV.ptr 0 0), (5, AV.sl 2 (Seq.map T.encPk T.noPk []) (Tip.tok 1)), (6, AV.int IntKind.i64 x)]
        [AObj.cells [AV.str { data := List.toArray (Prod.fst p) }, AV.int IntKind.i64 (Prod.snd p)], AObj.tok] (q202_0 n Post)) →
    AWP Try.prog 37 n c202_2 [(3, AV.ptr 0 0), (5, AV.sl 2 (Seq.map T.encPk T.noPk []) (Tip.tok 1))] [AObj.cells (T.encPk p), AObj.tok]
      (q202_0 n Post) := fun p n Post h => Go.Ab.awp_sound g202 n _ _ _ _ (Go.Ab.kc (by kernel_rfl) h)
theorem v202_3n : ∀ (p : T.Pk) (k : Int) (n : Nat) (Post : AV → List AObj → Prop),
  condP (decide (k < (0 : Int))) (needP ((0 : Int) ≤ k ∧ k < (0 : Int)) False)
      (ASpec Try.prog 292
        [AV.sl 0 (Seq.raw []) Tip.nil, AV.int IntKind.i64 k, AV.sl 2 (Seq.raw [[AV.str { data := List.toArray (Prod.fst p) }, AV.int IntKind.i64 (Prod.snd p)]]) Tip.full]
        [AObj.cells [AV.str { data := List.toArray (Prod.fst p) }, AV.int IntKind.i64 (Prod.snd p)]] fun (r : AV) (H' : List AObj) =>
        ∃ (x : List T.Pk),
        r = AV.sl 2 (Seq.map T.encPk T.noPk x) Tip.none ∧
        H' = [AObj.cells [AV.str { data := List.toArray (Prod.fst p) }, AV.int IntKind.i64 (Prod.snd p)]] ∧
        Post (AV.sl 2 (Seq.map T.encPk T.noPk x) Tip.none) [AObj.cells [AV.str { data := List.toArray (Prod.fst p) }, AV.int IntKind.i64 (Prod.snd p)]]) →
    AWP Try.prog 37 n c202_3 [(3, AV.ptr 0 0), (5, AV.sl 0 (Seq.raw []) Tip.nil), (6, AV.int IntKind.i64 k)] [AObj.cells (T.encPk p)]
      (q202_0 n Post) := fun p k n Post h => Go.Ab.awp_sound g202 n _ _ _ _ (Go.Ab.kc (by kernel_rfl) h)
theorem v202_3t : ∀ (p : T.Pk) (k : Int) (n : Nat) (Post : AV → List AObj → Prop),
  condP (decide (k < (0 : Int)))
      (needP ((0 : Int) ≤ k ∧ k < (0 : Int))
        (condP (ByteArray.toList { data := List.toArray (Prod.fst (List.getD [] (Int.toNat k) T.noPk)) } == ByteArray.toList { data := List.toArray (Prod.fst p) })
        (needP ((0 : Int) ≤ k ∧ k < (0 : Int)) False)
        (ASpec Try.prog 292
        [AV.sl 2 (Seq.map T.encPk T.noPk []) (Tip.tok 1), AV.int IntKind.i64 k,
        AV.sl 2 (Seq.raw [[AV.str { data := List.toArray (Prod.fst p) }, AV.int IntKind.i64 (Prod.snd p)]]) Tip.full]
        [AObj.cells [AV.str { data := List.toArray (Prod.fst p) }, AV.int IntKind.i64 (Prod.snd p)], AObj.tok] fun (r : AV) (H' : List AObj) =>
        ∃ (x : List T.Pk),
        r = AV.sl 2 (Seq.map T.encPk T.noPk x) Tip.none ∧
        H' = [AObj.cells [AV.str { data := List.toArray (Prod.fst p) }, AV.int IntKind.i64 (Prod.snd p)], AObj.gone] ∧
        Post (AV.sl 2 (Seq.map T.encPk T.noPk x) Tip.none) [AObj.cells [AV.str { data := List.toArray (Prod.fst p) }, AV.int IntKind.i64 (Prod.snd p)], AObj.gone])))
      (ASpec Try.prog 292
        [AV.sl 2 (Seq.map T.encPk T.noPk []) (Tip.tok 1), AV.int IntKind.i64 k,
        AV.sl 2 (Seq.raw [[AV.str { data := List.toArray (Prod.fst p) }, AV.int IntKind.i64 (Prod.snd p)]]) Tip.full]
        [AObj.cells [AV.str { data := List.toArray (Prod.fst p) }, AV.int IntKind.i64 (Prod.snd p)], AObj.tok] fun (r : AV) (H' : List AObj) =>
        ∃ (x : List T.Pk),
        r = AV.sl 2 (Seq.map T.encPk T.noPk x) Tip.none ∧
        H' = [AObj.cells [AV.str { data := List.toArray (Prod.fst p) }, AV.int IntKind.i64 (Prod.snd p)], AObj.gone] ∧
        Post (AV.sl 2 (Seq.map T.encPk T.noPk x) Tip.none) [AObj.cells [AV.str { data := List.toArray (Prod.fst p) }, AV.int IntKind.i64 (Prod.snd p)], AObj.gone]) →
    AWP Try.prog 37 n c202_3 [(3, AV.ptr 0 0), (5, AV.sl 2 (Seq.map T.encPk T.noPk []) (Tip.tok 1)), (6, AV.int IntKind.i64 k)]
      [AObj.cells (T.encPk p), AObj.tok] (q202_0 n Post) := fun p k n Post h => Go.Ab.awp_sound g202 n _ _ _ _ (Go.Ab.kc (by kernel_rfl) h)

end
end Inn
end

section
/- pick.Put: what the code computes, of any picks. -/

set_option linter.unusedVariables false
set_option linter.unusedSimpArgs false
set_option maxRecDepth 100000
open Go Go.Ab Go.Proofs V S T C
open E (PA pa)
open In (s291v v291_2v)
namespace Pc

theorem place_nil (x : List UInt8) (H : List AObj) : ASpec Try.prog 291 [slK [], .str (B x)] H (fun r H' => r = .int .i64 0 ∧ H' = H) :=
  ASpec.pureH (r0 := .int .i64 0) H (ASpec.sel (s291v [] x _ (v291_2v [] x 0 0 0 _ (condE (fun _ => pa (Le.refl _)) fun h => (h rfl).elim)))) _ _ rfl rfl

theorem putM_nil (p : Pk) : putM [] p = [p] := by
  unfold putM
  rw [if_neg (by simp)]
  simp [insM]

theorem ins_n (p : Pk) (H : List AObj) : ASpec Try.prog 292 [.sl 0 (.raw []) .nil, .int .i64 0, oneK p] H (fun r H' => r = slK [p] ∧ H' = H) := by
  have k : ASpec Try.prog 292 [.sl 0 (.raw []) .nil, .int .i64 0, oneK p] [] (fun r H' => r = slK [p] ∧ H' = []) :=
    ASpec.sel (Inn.s292n p _ (needJ ⟨by omega, by omega⟩ (needJ (by omega) (pa (Le.trans (Le.sl (s' := .map encPk noPk [p]) rfl (.inl rfl) (.inl rfl)) (slKLe [p] _))))))
  exact ASpec.pureH H k _ _ rfl rfl
theorem ins_t (p : Pk) : ASpec Try.prog 292 [.sl 2 (.map encPk noPk []) (.tok 0), .int .i64 0, oneK p] [.tok] (fun r H' => r = slK [p] ∧ H' = [.gone]) := by
  refine ASpec.sel (Inn.s292t p _ (needJ ⟨by omega, by omega⟩ (needJ (by omega) ?_)))
  refine ⟨[0], [.gone], slK [p], ⟨by decide, rfl, Nat.le_refl _, fun j h => by match j, h with | 0, _ => rfl, fun j h => by match j, h with | 0, _ => exact .inl rfl⟩, ?_, rfl, rfl⟩
  exact Le.trans (Le.sl (s' := .map encPk noPk [p]) rfl (.inl rfl) (.inl rfl)) (slKLe [p] _)

theorem put_nil (p : Pk) (H : List AObj) : ASpec Try.prog 202 [slK [], .agg (encPk p)] H (fun r H' => r = slK [p] ∧ H' = H) := by
  have k : ASpec Try.prog 202 [slK [], .agg (encPk p)] [] (fun r H' => r = slK [p] ∧ H' = []) := by
    refine ASpec.sel (Inn.s202 p _ ?_)
    have cl : ASpec Try.prog 290 [slK []] [] (fun r H' => (r = .sl 0 (.raw []) .nil ∧ H' = []) ∨ (r = .sl 2 (.map encPk noPk []) (.tok 0) ∧ H' = [.tok])) := by
      have a : ASpec Try.prog 290 [slK []] [] (fun r H' => ∃ r2 H2, ReSt 0 [(0, r)] H' [(0, r2)] H2 ∧ ((r2 = .sl 0 (.raw []) .nil ∧ H2 = []) ∨ (r2 = .sl 2 (.map encPk noPk []) (.tok 0) ∧ H2 = [.tok]))) := by
        refine Inn.s290 _ fun b _ => condB (fun _ => ⟨_, _, ReSt.refl _ _, .inl ⟨rfl, rfl⟩⟩) fun _ => needJ (fun _ => rfl) (needJ (by omega) ?_)
        refine ⟨.sl 2 (.map encPk noPk []) (.tok 0), [.tok], ?_, .inr ⟨rfl, rfl⟩⟩
        intro M loc w tmps h0 h1 h2
        obtain ⟨M2, l2, b1, b2, b3⟩ := ReSt.refl 0 [(0, .sl 2 (.app (.raw []) (.map encPk noPk [])) (.tok 0))] M loc w tmps h0 h1 h2
        refine ⟨M2, l2, b1, fun d => ?_, b3⟩
        cases d with
        | zero => exact (Le.sl (s' := .map encPk noPk []) rfl (.inl rfl) (.inl rfl) : Le (.sl 2 (.app (.raw []) (.map encPk noPk [])) (.tok 0)) _) _ _ _ _ (b2 0)
        | succ d => exact .bad _
      exact ASpec.reEnd a
    have cl2 := ASpec.graft (H := [.cells (encPk p)]) [] cl (by simp) rfl (args := [slK []]) rfl (fun i h => absurd h (Nat.not_lt_zero _))
    refine cl2.mono fun r H' hh => ?_
    obtain ⟨rl, Hl', hc, _, hr, hH⟩ := hh
    have fin : ∀ H : List AObj, ∃ l H2 r2, Sel 0 l H H2 ∧ Le (slK [p]) (AV.ren (selR l H.length) r2) ∧ r2 = slK [p] ∧ H2 = [] := fun H => ⟨[], [], _, Sel.none, slKLe _ _, rfl, rfl⟩
    rcases hc with ⟨rfl, rfl⟩ | ⟨rfl, rfl⟩
    · refine .inl ⟨(), hr, hH, ?_⟩
      refine Inn.v202_2n p 0 _ (ASpec.call (place_nil p.1 _) ⟨Le.sl (s' := .map encPk noPk []) rfl (.inr ⟨rfl, fun _ h => by cases h⟩) (.inr rfl), Le.refl _, trivial⟩ ⟨0, rfl, rfl, ?_⟩)
      exact Inn.v202_3n p 0 0 _ (condD (fun h => absurd h (by decide)) fun _ => (ins_n p _).mono fun r H' hh => ⟨[p], hh.1, hh.2, fin _⟩)
    · refine .inr ⟨(), hr, hH, ?_⟩
      refine Inn.v202_2t p 0 _ (ASpec.call (place_nil p.1 _) ⟨Le.sl (s' := .map encPk noPk []) rfl (.inl rfl) (.inr rfl), Le.refl _, trivial⟩ ⟨0, rfl, rfl, ?_⟩)
      have it : ASpec Try.prog 292 [.sl 2 (.map encPk noPk []) (.tok 1), .int .i64 0, oneK p] [.cells (encPk p), .tok] (fun r H' => r = slK [p] ∧ H' = [.cells (encPk p), .gone]) :=
        ASpec.subH [1] [.cells (encPk p), .tok] _ (ins_t p) _ _ (by decide) rfl rfl rfl (fun i h => by match i, h with | 0, _ => rfl) rfl
      exact Inn.v202_3t p 0 0 _ (condD (fun h => absurd h (by decide)) fun _ => it.mono fun r H' hh => ⟨[p], hh.1, hh.2, fin _⟩)
  exact ASpec.pureH H k _ _ rfl rfl
theorem put_spec (s : List Pk) (p : Pk) (hl : s.length ≤ 1000000) (H : List AObj) : ASpec Try.prog 202 [slK s, .agg (encPk p)] H (fun r H' => r = slK (putM s p) ∧ H' = H) := by
  cases s with
  | nil => rw [putM_nil]; exact put_nil p H
  | cons x r => exact put_spec1 (x :: r) p (by simp) hl H
end Pc
end

section
/- Entries, and what an index knows. -/

open Go Go.Ab Go.Proofs
namespace T
end T
end

section
/- The order of names, and looking for one by halves: plain laws. -/

set_option linter.unusedVariables false
set_option linter.unusedSimpArgs false
open Go Go.Ab Go.Proofs V S T C
namespace Dp

theorem less_iff {a b : List UInt8} : Op.bytesLess a b = true ↔ a < b := by rw [bytesLess_eq]; simp
theorem less_trans {a b c : List UInt8} (h : Op.bytesLess a b = true) (k : Op.bytesLess b c = true) : Op.bytesLess a c = true := by
  rw [less_iff] at *; exact List.lt_trans h k
theorem less_irrefl (a : List UInt8) : Op.bytesLess a a = false := by
  rw [bytesLess_eq, decide_eq_false_iff_not]; exact List.lt_irrefl a
theorem less_tri : ∀ {a b : List UInt8}, Op.bytesLess a b = false → a ≠ b → Op.bytesLess b a = true
  | [], [], _, h => absurd rfl h
  | [], _ :: _, h, _ => by simp [Op.bytesLess] at h
  | _ :: _, [], _, _ => by simp [Op.bytesLess]
  | x :: a, y :: b, h, hne => by
    simp only [Op.bytesLess, Bool.or_eq_false_iff, decide_eq_false_iff_not, Bool.and_eq_false_iff, beq_eq_false_iff_ne] at h
    simp only [Op.bytesLess, Bool.or_eq_true, decide_eq_true_eq, Bool.and_eq_true, beq_iff_eq]
    by_cases e : x = y
    · subst e
      rcases h.2 with h2 | h2
      · exact absurd rfl h2
      · exact .inr ⟨rfl, less_tri h2 (fun h3 => hne (by rw [h3]))⟩
    · left
      have h1 := h.1
      rw [UInt8.not_lt] at h1
      exact UInt8.lt_of_le_of_ne h1 (fun h => e h.symm)
/-! ### entries that may be -/

end Dp
end

section
/- Picks that rise: the place of a name, what is put, got, dropped: plain laws. -/

set_option linter.unusedVariables false
set_option linter.unusedSimpArgs false
open Go Go.Ab Go.Proofs V S T C
namespace Pc
open Dp (less_iff less_trans less_irrefl less_tri)
abbrev Nm := List UInt8
abbrev lessN (a b : Nm) : Prop := Op.bytesLess a b = true

theorem ltn_irrefl {a : Nm} (h : lessN a a) : False := by rw [lessN, less_irrefl] at h; cases h
theorem ltn_asymm {a b : Nm} (h : lessN a b) (k : lessN b a) : False := ltn_irrefl (less_trans h k)
theorem ltn_tri (a b : Nm) : lessN a b ∨ a = b ∨ lessN b a := by
  cases h : Op.bytesLess a b with
  | true => exact .inl h
  | false =>
    by_cases e : a = b
    · exact .inr (.inl e)
    · exact .inr (.inr (less_tri h e))
theorem ltn_ne {a b : Nm} (h : lessN a b) : a ≠ b := by rintro rfl; exact ltn_irrefl h
theorem ltn_false {a b : Nm} (h : lessN b a) : Op.bytesLess a b = false := by
  cases hx : Op.bytesLess a b with
  | false => rfl
  | true => exact (ltn_asymm h hx).elim

/-- looking by halves, of what rises -/
theorem bsF_spec {p : Nat → Bool} {n : Nat} (hp : ∀ i j, i ≤ j → j < n → p j = true → p i = true) : ∀ (f lo hi : Nat), hi - lo ≤ f → lo ≤ hi → hi ≤ n → (∀ i, i < lo → p i = true) → (∀ i, hi ≤ i → i < n → p i = false) →
    bsF p f lo hi ≤ n ∧ (∀ i, i < bsF p f lo hi → p i = true) ∧ ∀ i, bsF p f lo hi ≤ i → i < n → p i = false
  | 0, lo, hi, h, h1, h2, h3, h4 => by
    have e : lo = hi := by omega
    subst e
    simp only [bsF]
    exact ⟨h2, h3, h4⟩
  | f + 1, lo, hi, h, h1, h2, h3, h4 => by
    simp only [bsF]
    by_cases e : lo = hi
    · subst e
      rw [if_pos rfl]
      exact ⟨h2, h3, h4⟩
    · rw [if_neg e]
      have hm : (lo + hi) / 2 < hi := by omega
      have hm2 : lo ≤ (lo + hi) / 2 := by omega
      by_cases hb : p ((lo + hi) / 2) = true
      · rw [if_pos hb]
        exact bsF_spec hp f _ hi (by omega) (by omega) h2 (fun i hi' => hp i _ (by omega) (by omega) hb) h4
      · rw [if_neg hb]
        refine bsF_spec hp f lo _ (by omega) (by omega) (by omega) h3 fun i hi' hin => ?_
        cases hx : p i with
        | false => rfl
        | true => exact (hb (hp _ i hi' hin hx)).elim

abbrev UpK (l : List Pk) : Prop := l.Pairwise fun a b => lessN a.1 b.1

/-- a name's place splits picks that rise -/
theorem place_split {s : List Pk} (hu : UpK s) (x : Nm) : ∃ A B, s = A ++ B ∧ placeM s x = A.length ∧ (∀ y ∈ A, lessN y.1 x) ∧ ∀ y ∈ B, Op.bytesLess y.1 x = false := by
  have hat : ∀ i, i < s.length → s[i]? = some (s.getD i noPk) := fun i hi => by
    rw [List.getD_eq_getElem?_getD, List.getElem?_eq_getElem hi]; rfl
  have hmono : ∀ i j, i ≤ j → j < s.length → lessAt s x j = true → lessAt s x i = true := by
    intro i j hij hj h
    rcases Nat.lt_or_eq_of_le hij with hlt | rfl
    · have := List.pairwise_iff_getElem.1 hu i j (by omega) hj hlt
      have e1 : s.getD i noPk = s[i] := by rw [List.getD_eq_getElem?_getD, List.getElem?_eq_getElem (by omega)]; rfl
      have e2 : s.getD j noPk = s[j] := by rw [List.getD_eq_getElem?_getD, List.getElem?_eq_getElem hj]; rfl
      unfold lessAt at h ⊢
      rw [e1]; rw [e2] at h
      exact less_trans this h
    · exact h
  obtain ⟨h1, h2, h3⟩ := bsF_spec hmono s.length 0 s.length (by omega) (by omega) (Nat.le_refl _) (fun i h => absurd h (Nat.not_lt_zero _)) (fun i h k => by omega)
  refine ⟨s.take (placeM s x), s.drop (placeM s x), (List.take_append_drop _ _).symm, ?_, ?_, ?_⟩
  · rw [List.length_take]; unfold placeM; omega
  · intro y hy
    obtain ⟨i, hi, rfl⟩ := List.mem_iff_getElem.1 hy
    rw [List.length_take] at hi
    rw [List.getElem_take]
    have := h2 i (by unfold placeM at hi; omega)
    unfold lessAt at this
    rw [List.getD_eq_getElem?_getD, List.getElem?_eq_getElem (by omega)] at this
    exact this
  · intro y hy
    obtain ⟨i, hi, rfl⟩ := List.mem_iff_getElem.1 hy
    rw [List.length_drop] at hi
    rw [List.getElem_drop]
    have := h3 (placeM s x + i) (by unfold placeM; omega) (by omega)
    unfold lessAt at this
    rw [List.getD_eq_getElem?_getD, List.getElem?_eq_getElem (by omega)] at this
    exact this

def dropM (l : List Pk) (x : Nm) : List Pk := l.filter fun y => !(y.1 == x)
def insD (p : Pk) : List Pk → List Pk
  | [] => [p]
  | y :: r => if Op.bytesLess p.1 y.1 = true then p :: y :: r else y :: insD p r
def putD (l : List Pk) (p : Pk) : List Pk := insD p (dropM l p.1)

theorem dropM_ne {A : List Pk} {x : Nm} (h : ∀ y ∈ A, y.1 ≠ x) : dropM A x = A := by
  unfold dropM
  rw [List.filter_eq_self]
  intro y hy
  simp [h y hy]
theorem insD_less : ∀ {A : List Pk} {p : Pk} (B : List Pk), (∀ y ∈ A, lessN y.1 p.1) → insD p (A ++ B) = A ++ insD p B
  | [], _, _, _ => rfl
  | y :: A, p, B, h => by
    simp only [List.cons_append, insD]
    rw [if_neg (by rw [ltn_false (h y (by simp))]; simp), insD_less B fun z hz => h z (by simp [hz])]
theorem insD_head {p : Pk} : ∀ {B : List Pk}, (∀ y ∈ B, lessN p.1 y.1) → insD p B = p :: B
  | [], _ => rfl
  | y :: B, h => by simp only [insD]; rw [if_pos (h y (by simp))]

/-- how picks that rise stand about a name -/
theorem split3 {s : List Pk} (hu : UpK s) (x : Nm) : ∃ A B, placeM s x = A.length ∧ (∀ y ∈ A, lessN y.1 x) ∧ (∀ y ∈ B, lessN x y.1) ∧ (s = A ++ B ∨ ∃ v, s = A ++ (x, v) :: B) := by
  obtain ⟨A, B, e, h1, h2, h3⟩ := place_split hu x
  subst e
  have huB : UpK B := (List.pairwise_append.1 hu).2.1
  cases B with
  | nil => exact ⟨A, [], h1, h2, by simp, .inl rfl⟩
  | cons y r =>
    have hr := (List.pairwise_cons.1 huB).1
    have hy := h3 y (by simp)
    rcases ltn_tri x y.1 with h | h | h
    · refine ⟨A, y :: r, h1, h2, fun z hz => ?_, .inl rfl⟩
      rcases List.mem_cons.1 hz with rfl | hz
      · exact h
      · exact less_trans h (hr z hz)
    · subst h
      exact ⟨A, r, h1, h2, fun z hz => hr z hz, .inr ⟨y.2, rfl⟩⟩
    · rw [lessN, hy] at h; cases h

theorem putM_putD {s : List Pk} (hu : UpK s) (p : Pk) : putM s p = putD s p := by
  obtain ⟨A, B, h1, h2, h3, h4⟩ := split3 hu p.1
  have hA : ∀ y ∈ A, y.1 ≠ p.1 := fun y hy => ltn_ne (h2 y hy)
  have hB : ∀ y ∈ B, y.1 ≠ p.1 := fun y hy => (ltn_ne (h3 y hy)).symm
  have hd : putD s p = A ++ p :: B := by
    unfold putD
    have : dropM s p.1 = A ++ B := by
      rcases h4 with e | ⟨v, e⟩
      · subst e
        unfold dropM; rw [List.filter_append]
        rw [show A.filter _ = A from dropM_ne hA, show B.filter _ = B from dropM_ne hB]
      · subst e
        unfold dropM; rw [List.filter_append, List.filter_cons]
        rw [show A.filter _ = A from dropM_ne hA, show B.filter _ = B from dropM_ne hB]
        simp
    rw [this, insD_less B h2, insD_head h3]
  rw [hd]
  unfold putM
  rcases h4 with e | ⟨v, e⟩
  · subst e
    rw [if_neg, h1]
    · unfold insM; simp
    · rintro ⟨k1, k2⟩
      rw [h1, List.length_append] at k1
      rw [h1] at k2
      cases B with
      | nil => simp at k1
      | cons y r =>
        rw [List.getD_eq_getElem?_getD, List.getElem?_append_right (Nat.le_refl _), Nat.sub_self] at k2
        exact hB y (by simp) k2
  · subst e
    rw [if_pos, h1]
    · simp
    · rw [h1]
      refine ⟨by simp, ?_⟩
      rw [List.getD_eq_getElem?_getD, List.getElem?_append_right (Nat.le_refl _), Nat.sub_self]
      rfl

theorem put_up {s : List Pk} (hu : UpK s) (p : Pk) : UpK (putM s p) := by
  rw [putM_putD hu]
  obtain ⟨A, B, h1, h2, h3, h4⟩ := split3 hu p.1
  have hA : ∀ y ∈ A, y.1 ≠ p.1 := fun y hy => ltn_ne (h2 y hy)
  have hB : ∀ y ∈ B, y.1 ≠ p.1 := fun y hy => (ltn_ne (h3 y hy)).symm
  have hAB : UpK (A ++ B) := by
    rcases h4 with e | ⟨v, e⟩
    · subst e; exact hu
    · subst e
      exact hu.sublist (List.Sublist.append_left (List.sublist_cons_self _ _) _)
  have : dropM s p.1 = A ++ B := by
    rcases h4 with e | ⟨v, e⟩
    · subst e
      unfold dropM; rw [List.filter_append]
      rw [show A.filter _ = A from dropM_ne hA, show B.filter _ = B from dropM_ne hB]
    · subst e
      unfold dropM; rw [List.filter_append, List.filter_cons]
      rw [show A.filter _ = A from dropM_ne hA, show B.filter _ = B from dropM_ne hB]
      simp
  unfold putD
  rw [this, insD_less B h2, insD_head h3]
  obtain ⟨u1, u2, u3⟩ := List.pairwise_append.1 hAB
  refine List.pairwise_append.2 ⟨u1, List.pairwise_cons.2 ⟨fun y hy => h3 y hy, u2⟩, fun a ha b hb => ?_⟩
  rcases List.mem_cons.1 hb with rfl | hb
  · exact h2 a ha
  · exact u3 a ha b hb
theorem put_len (s : List Pk) (p : Pk) : (putM s p).length ≤ s.length + 1 := by
  unfold putM
  split
  · simp
  · unfold insM; simp; omega
end Pc
end

section
/- A trail: its picks, its entries, the first that know a clash. -/

set_option linter.unusedVariables false
set_option linter.unusedSimpArgs false
set_option maxRecDepth 100000
open Go Go.Ab Go.Proofs V S T C
open W (slS)
open Sp
namespace Tx
open Tm (okT agT fullT meetT meetT_spec ok_meet ok_full full_spec emptyT empty_spec withinT within_specT hasT has_specT chkT nameEq oneS one_spec)
open Tl (At liftG gSame okTE knowF knowM knowM_ok getD_mem cloneSp len_spec atL)
open Pc (slK)
open Pc (putM UpK put_len)
section
variable {H : List AObj} {p a b : Nat} {E E' : List TE} {L L' : List Int}

abbrev PS (E : List TE) (L : List Int) (r0 : AV) : AV → List AObj → Prop := fun r H' => ∃ q H2 r2, Sel (HT E L).length q H' H2 ∧ Le r (AV.ren (selR q H'.length) r2) ∧ (r2 = r0 ∧ H2 = HT E L)
theorem ps {r r0 : AV} (q : List AObj) (h : ∀ ρ, Le r (AV.ren ρ r0)) : PS E L r0 r (tO E L 1 2 :: .tok :: .tok :: q) := by
  refine ⟨[0, 1, 2], HT E L, r0, ⟨by decide, rfl, by show 3 ≤ 3; omega, fun j hj => ?_, fun j hj => ?_⟩, h _, rfl, rfl⟩
  · match j, hj with
    | 0, _ | 1, _ | 2, _ => rfl
  · match j, hj with
    | 0, _ | 1, _ | 2, _ => exact .inl rfl

/-! ### the least of spans -/
def leastS (l : List Span) : Int := if l = [] then 0 else (l.getD 0 (0, 0)).1
theorem least_spec (l : List Span) (H : List AObj) : ASpec Try.prog 201 [slS l] H (fun r H' => r = .tup [.int .i64 (leastS l), .bool (decide (l ≠ []))] ∧ H' = H) := by
  have k : ASpec Try.prog 201 [slS l] [] (fun r H' => r = .tup [.int .i64 (leastS l), .bool (decide (l ≠ []))] ∧ H' = []) := by
    refine s201 _ _ (condE (fun h => ?_) fun h => needJ ⟨by omega, by omega⟩ ?_)
    · have : l = [] := List.length_eq_zero_iff.1 (by omega)
      subst this; exact ⟨rfl, rfl⟩
    · have : l ≠ [] := by rintro rfl; simp at h
      simp [leastS, this]
  exact ASpec.pureH H k _ _ rfl rfl

/-! ### the picks -/
noncomputable def picksF (E : List TE) : List Int → List Pk → List Pk
  | [], o => o
  | n :: r, o => picksF E r (putM o ((E.getD n.toNat noTE).1.1, leastS (E.getD n.toNat noTE).1.2.1))
noncomputable def picksM (E : List TE) (L : List Int) : List Pk := picksF E L []

theorem picks5 (hL : ∀ x ∈ L, 0 ≤ x ∧ x < (E.length : Int)) (hl : L.length ≤ 100000) {R : List Pk} : ∀ (m i : Nat) (o : List Pk), m + i = L.length → o.length ≤ i → picksF E (L.drop i) o = R →
    AWP Try.prog 42 3 c82_5 [(0, .ptr 0 0), (3, slK o), (14, .sl 1 (.map encI 0 L) .none), (15, .int .i64 L.length), (16, .int .i64 i)] (HT E L) (q82_2 3 (PS E L (slK R))) := by
  intro m
  induction m with
  | zero =>
    intro i o hm ho h
    refine v82_5 _ _ _ _ _ _ _ (condD (fun hc => by omega) fun _ => ps [] ?_)
    rw [List.drop_eq_nil_of_le (by omega)] at h
    have h' : o = R := h
    subst h'
    exact fun ρ => Pc.slKLe o _
  | succ m ih =>
    intro i o hm ho h
    have hx := hL _ (getD_mem (d := 0) (show i < L.length by omega))
    rw [dropD L 0 i (by omega)] at h
    simp only [picksF] at h
    refine v82_5 _ _ _ _ _ _ _ (condD (fun hc => needJ ⟨by omega, by omega⟩ ?_) fun hc => by omega)
    rw [Int.toNat_natCast]
    generalize L.getD i 0 = n at h hx ⊢
    refine needJ ⟨hx.1, hx.2⟩ ?_
    generalize E.getD n.toNat noTE = e at h ⊢
    refine ASpec.call (least_spec e.1.2.1 _) (Les.refl _) ⟨(leastS e.1.2.1, decide (e.1.2.1 ≠ [])), rfl, rfl, ?_⟩
    refine ASpec.call (Pc.put_spec o (e.1.1, leastS e.1.2.1) (by omega) _) (Les.refl _) ⟨putM o (e.1.1, leastS e.1.2.1), rfl, rfl, ?_⟩
    rw [succ64 (by omega)]
    have hp := put_len o (e.1.1, leastS e.1.2.1)
    refine AWP.shape [0, 1, 2] [(0, .ptr 0 0), (3, slK (putM o (e.1.1, leastS e.1.2.1))), (14, .sl 1 (.map encI 0 L) .none), (15, .int .i64 L.length), (16, .int .i64 (i + 1 : Nat))] (HT E L)
      ⟨by decide, rfl, by show 3 ≤ 3; omega, fun j hj => ?_, fun j hj => ?_⟩ ⟨rfl, Le.refl _, rfl, Le.refl _, rfl, Le.refl _, rfl, Le.refl _, rfl, Le.refl _, trivial⟩ (ih (i + 1) _ (by omega) (by omega) h)
    · match j, hj with
      | 0, _ | 1, _ | 2, _ => rfl
    · match j, hj with
      | 0, _ | 1, _ | 2, _ => exact .inl rfl

theorem picks_spec (h : At H p a b E L) (hL : ∀ x ∈ L, 0 ≤ x ∧ x < (E.length : Int)) (hl : L.length ≤ 100000) : ASpec Try.prog 82 [.ptr p 0] H (fun r H' => r = slK (picksM E L) ∧ H' = H) := by
  have k : ASpec Try.prog 82 [.ptr 0 0] (HT E L) (fun r H' => r = slK (picksM E L) ∧ H' = HT E L) := by
    refine ASpec.sel (s82m _ _ _ ?_)
    refine AWP.shape [0, 1, 2] [(0, .ptr 0 0), (3, slK []), (14, .sl 1 (.map encI 0 L) .none), (15, .int .i64 L.length), (16, .int .i64 (0 : Nat))] (HT E L)
      ⟨by decide, rfl, by show 3 ≤ 3; omega, fun j hj => ?_, fun j hj => ?_⟩ ⟨rfl, Le.refl _, rfl, ?_, rfl, Le.sl rfl (.inl rfl) (.inr rfl), rfl, Le.refl _, rfl, Le.refl _, trivial⟩ (picks5 hL hl L.length 0 [] (by omega) (by simp) rfl)
    · match j, hj with
      | 0, _ | 1, _ | 2, _ => rfl
    · match j, hj with
      | 0, _ | 1, _ | 2, _ => exact .inl rfl
    · exact Le.sl (s' := .map encPk noPk []) rfl (.inr ⟨rfl, fun _ h => by cases h⟩) (.inr rfl)
  exact liftG h k rfl rfl (gSame h)
theorem picks_nil (H : List AObj) : ASpec Try.prog 82 [.nilp] H (fun r H' => r = slK [] ∧ H' = H) := by
  have k : ASpec Try.prog 82 [.nilp] [] (fun r H' => r = slK [] ∧ H' = []) :=
    ASpec.sel (s82n _ ⟨[], [], slK [], Sel.none, Le.sl (s' := Seq.ren _ (.map encPk noPk [])) rfl (.inr ⟨rfl, fun _ h => by cases h⟩) (.inr rfl), rfl, rfl⟩)
  exact ASpec.pureH H k _ _ rfl rfl

/-! ### an entry -/
noncomputable def atM (E : List TE) (i : Int) : TE × Bool := if 0 ≤ i ∧ i < (E.length : Int) then (E.getD i.toNat noTE, true) else (noTE, false)
theorem at_spec (h : At H p a b E L) (hE : ∀ e ∈ E, e.1.2.1.length ≤ lim) (hl : E.length ≤ 100000) (i : Int) : ASpec Try.prog 206 [.ptr p 0, .int .i64 i] H (fun r H' => r = .tup [.agg (encTE (atM E i).1), .bool (atM E i).2] ∧ H' = H) := by
  have k : ASpec Try.prog 206 [.ptr 0 0, .int .i64 i] (HT E L) (fun r H' => r = .tup [.agg (encTE (atM E i).1), .bool (atM E i).2] ∧ H' = HT E L) := by
    have no : ∀ (q : List AObj), ¬ (0 ≤ i ∧ i < (E.length : Int)) → PS E L (.tup [.agg (encTE (atM E i).1), .bool (atM E i).2]) (.tup [.agg [.str ⟨#[]⟩, .sl 0 (.raw []) .nil, .bool false, .int .i64 0, .int .i64 0], .bool false]) (tO E L 1 2 :: .tok :: .tok :: q) := by
      intro q hn
      rw [atM, if_neg hn]
      exact ps q fun ρ => Le.tup ⟨Le.agg ⟨Le.refl _, Sg.leS0, Le.refl _, Le.refl _, Le.refl _, trivial⟩, Le.refl _, trivial⟩
    refine ASpec.sel (s206 _ _ _ _ (condD (fun h => no _ (by omega)) fun h0 => ?_))
    refine ASpec.call (len_spec (atL E L _)) (Les.refl _) ⟨(E.length : Int), rfl, rfl, condD (fun h => no _ (by omega)) fun h1 => needJ ⟨by omega, by omega⟩ ?_⟩
    have hx : 0 ≤ i ∧ i < (E.length : Int) := ⟨by omega, by omega⟩
    have hm := hE _ (getD_mem (d := noTE) (show i.toNat < E.length by omega))
    rw [atM, if_pos hx]
    generalize E.getD i.toNat noTE = e at hm ⊢
    refine ASpec.call (cloneSp e.1.2.1 hm _) (Les.refl _) ⟨e.1.2.1, rfl, rfl, ?_⟩
    repeat refine ⟨⟨rfl, rfl⟩, ?_⟩
    exact ps _ fun ρ => Le.refl _
  exact liftG h k rfl rfl (gSame h)
end
end Tx
end

section
/- A trail: by how many entries a clash's terms are known. -/

set_option linter.unusedVariables false
set_option linter.unusedSimpArgs false
set_option maxRecDepth 100000
open Go Go.Ab Go.Proofs V S T C
open W (slS)
open Sp
namespace Tx
open Tm (okT agT fullT meetT meetT_spec ok_meet ok_full full_spec emptyT empty_spec withinT within_specT hasT has_specT chkT nameEq oneS one_spec)
open Tl (At liftG gSame okTE knowF knowM knowM_ok getD_mem atL)
section
variable {H : List AObj} {p a b : Nat} {E E' : List TE} {L L' : List Int}
noncomputable abbrev slC (c : List Term) : AV := .sl 3 (.map encT noT c) .none

/-- by how many entries a term is known, of what is known already -/
noncomputable def frF (x : Term) : List TE → Term → Nat → Option Nat
  | [], k, j => if withinT k x = true then some j else none
  | e :: r, k, j => if withinT k x = true then some j else frF x r (if e.1.1 = x.1 then meetT k e.1 else k) (j + 1)
noncomputable def firstF (E : List TE) : List Term → Nat → Int
  | [], m => m
  | x :: r, m => match frF x E (fullT x.1) 0 with | none => -1 | some j => firstF E r (max m j)
noncomputable def firstM (E : List TE) (c : List Term) : Int := firstF E c 0

theorem first9 {c : List Term} (hE : okTE E) (hl : E.length ≤ 100000) {x : Term} (hx : okT x) {mx i : Nat} (hi : i < c.length) (hc : c.length ≤ 100000) {R : Int} (hmx : mx ≤ E.length)
    (hnext : ∀ mx', mx' ≤ E.length → firstF E (c.drop (i + 1)) mx' = R → AWP Try.prog 67 3 c81_5 [(0, .ptr 0 0), (5, .int .i64 mx'), (12, slC c), (13, .int .i64 c.length), (14, .int .i64 (i + 1 : Nat))] (HT E L) (q81_2 3 (PS E L (.int .i64 R)))) :
    ∀ (m j : Nat) (k : Term), m + j = E.length → okT k → (match frF x (E.drop j) k j with | none => -1 | some n => firstF E (c.drop (i + 1)) (max mx n)) = R →
    AWP Try.prog 67 3 c81_9 [(0, .ptr 0 0), (5, .int .i64 mx), (7, .ptr 3 0), (8, .ptr 4 0), (9, .int .i64 j), (12, slC c), (13, .int .i64 c.length), (14, .int .i64 i)] (HT E L ++ [.cells (encT x), .cells (encT k)]) (q81_7 3 (PS E L (.int .i64 R))) := by
  have out : ∀ (j : Nat) (k : Term), okT k → j ≤ E.length → (if withinT k x = true then firstF E (c.drop (i + 1)) (max mx j) else -1) = R →
      ∀ (H' : List AObj) (hH : H' = tO E L 1 2 :: .tok :: .tok :: [.cells (encT x), .cells (encT k)]), ASpec Try.prog 161 [agT k, agT x] H' (fun r H'' => ∃ (y : Bool), r = .bool y ∧ H'' = H' ∧
        condP (!y) (PS E L (.int .i64 R) (.int .i64 (-1)) H') (AWP Try.prog 67 3 c81_5 [(0, .ptr 0 0), (5, .int .i64 (if (j : Int) > mx then (j : Int) else mx)), (12, slC c), (13, .int .i64 c.length), (14, .int .i64 (IntKind.wrap .i64 ((i : Int) + 1)))] H' (q81_2 3 (PS E L (.int .i64 R))))) := by
    intro j k hk hj hR H' hH
    subst hH
    refine ASpec.call (within_specT k x hk hx _) (Les.refl _) ⟨_, rfl, rfl, condBn (fun h => ?_) fun h => ?_⟩
    · rw [if_neg (by rw [h]; simp)] at hR; subst hR
      exact ps _ fun ρ => Le.refl _
    · rw [if_pos h] at hR
      rw [succ64 (by omega)]
      have e : (if (j : Int) > mx then (j : Int) else mx) = ((max mx j : Nat) : Int) := by split <;> omega
      rw [e]
      refine AWP.shape [0, 1, 2] [(0, .ptr 0 0), (5, .int .i64 ((max mx j : Nat) : Int)), (12, slC c), (13, .int .i64 c.length), (14, .int .i64 (i + 1 : Nat))] (HT E L)
        ⟨by decide, rfl, by show 3 ≤ 3; omega, fun j hj => ?_, fun j hj => ?_⟩ ⟨rfl, Le.refl _, rfl, Le.refl _, rfl, Le.refl _, rfl, Le.refl _, rfl, Le.refl _, trivial⟩ (hnext _ (by omega) hR)
      · match j, hj with
        | 0, _ | 1, _ | 2, _ => rfl
      · match j, hj with
        | 0, _ | 1, _ | 2, _ => exact .inl rfl
  intro m
  induction m with
  | zero =>
    intro j k hm hk h
    refine v81_9 _ _ _ _ _ _ _ _ _ _ _ (condD (fun hc => by omega) fun _ => ?_)
    rw [List.drop_eq_nil_of_le (by omega)] at h
    simp only [frF] at h
    refine out j k hk (by omega) ?_ _ rfl
    rw [← h]
    split <;> rfl
  | succ m ih =>
    intro j k hm hk h
    have hxe := hE.2 _ (getD_mem (d := noTE) (show j < E.length by omega))
    rw [dropD E noTE j (by omega)] at h
    simp only [frF] at h
    refine v81_9 _ _ _ _ _ _ _ _ _ _ _ (condD (fun _ => ?_) fun hc => by omega)
    have nx : ∀ (k' : Term), okT k' → (match frF x (E.drop (j + 1)) k' (j + 1) with | none => -1 | some n => firstF E (c.drop (i + 1)) (max mx n)) = R →
        AWP Try.prog 67 3 c81_9 [(0, .ptr 0 0), (5, .int .i64 mx), (7, .ptr 3 0), (8, .ptr 4 0), (9, .int .i64 (IntKind.wrap .i64 ((j : Int) + 1))), (12, slC c), (13, .int .i64 c.length), (14, .int .i64 i)] [tO E L 1 2, .tok, .tok, .cells (encT x), .cells (encT k')] (q81_7 3 (PS E L (.int .i64 R))) := by
      intro k' hk' h'
      rw [succ64 (by omega)]
      exact ih (j + 1) k' (by omega) hk' h'
    refine ASpec.call (within_specT k x hk hx _) (Les.refl _) ⟨_, rfl, rfl, condBn (fun hw => needJ ⟨by omega, by omega⟩ ?_) fun hw => ?_⟩
    · rw [if_neg (by rw [hw]; simp)] at h
      rw [Int.toNat_natCast]
      generalize E.getD j noTE = e at h hxe ⊢
      refine condB (fun h1 => needJ ⟨by omega, by omega⟩ ?_) fun h1 => ?_
      · rw [nameEq] at h1
        rw [if_pos (of_decide_eq_true h1)] at h
        exact ASpec.call (meetT_spec k e.1 hk hxe _) (Les.refl _) ⟨meetT k e.1, rfl, rfl, nx _ (ok_meet hk hxe) h⟩
      · rw [nameEq] at h1
        rw [if_neg (of_decide_eq_false h1)] at h
        exact nx k hk h
    · rw [if_pos hw] at h
      exact out j k hk (by omega) (by rw [if_pos hw]; exact h) _ rfl

theorem first5 {c : List Term} (hE : okTE E) (hl : E.length ≤ 100000) (hc : c.length ≤ 100000) (hx : ∀ x ∈ c, okT x) {R : Int} : ∀ (m i mx : Nat), m + i = c.length → mx ≤ E.length → firstF E (c.drop i) mx = R →
    AWP Try.prog 67 3 c81_5 [(0, .ptr 0 0), (5, .int .i64 mx), (12, slC c), (13, .int .i64 c.length), (14, .int .i64 i)] (HT E L) (q81_2 3 (PS E L (.int .i64 R))) := by
  intro m
  induction m with
  | zero =>
    intro i mx hm hmx h
    rw [List.drop_eq_nil_of_le (by omega)] at h
    simp only [firstF] at h
    subst h
    exact v81_5 _ _ _ _ _ _ _ _ (condD (fun hc => by omega) fun _ => ps [] fun ρ => Le.refl _)
  | succ m ih =>
    intro i mx hm hmx h
    have hxi := hx _ (getD_mem (d := noT) (show i < c.length by omega))
    rw [dropD c noT i (by omega)] at h
    simp only [firstF] at h
    refine v81_5 _ _ _ _ _ _ _ _ (condD (fun _ => needJ ⟨by omega, by omega⟩ ?_) fun hc => by omega)
    rw [Int.toNat_natCast]
    have h9 := fun x hx => first9 (L := L) (c := c) hE hl (x := x) hx (mx := mx) (i := i) (by omega) hc (R := R) hmx (fun mx' h1 h2 => ih (i + 1) mx' (by omega) h1 h2)
    generalize c.getD i noT = x at h hxi ⊢
    refine ASpec.call (full_spec x.1 _) (Les.refl _) ⟨fullT x.1, rfl, rfl, ?_⟩
    exact h9 x hxi E.length 0 (fullT x.1) (by omega) (ok_full _) (by rw [List.drop_zero]; exact h)

theorem first_spec (h : At H p a b E L) {c : List Term} (hE : okTE E) (hl : E.length ≤ 100000) (hc : c.length ≤ 100000) (hx : ∀ x ∈ c, okT x) :
    ASpec Try.prog 81 [.ptr p 0, slC c] H (fun r H' => r = .int .i64 (firstM E c) ∧ H' = H) := by
  have k : ASpec Try.prog 81 [.ptr 0 0, slC c] (HT E L) (fun r H' => r = .int .i64 (firstM E c) ∧ H' = HT E L) :=
    ASpec.sel (s81m _ _ _ _ (first5 hE hl hc hx c.length 0 0 (by omega) (by omega) rfl))
  exact liftG h k rfl rfl (gSame h)
theorem first_nil (v : AV) (H : List AObj) (hv : v = .sl 0 (.raw []) .nil) : ASpec Try.prog 81 [.nilp, v] H (fun r H' => r = .int .i64 (-1) ∧ H' = H) := by
  subst hv
  exact ASpec.pureH (r0 := .int .i64 (-1)) H (s81n (.sl 0 (.raw []) .nil) (fun r H' => r = .int .i64 (-1) ∧ H' = []) ⟨rfl, rfl⟩) _ _ rfl rfl
end
end Tx
end

section
/- The document's trail: what its functions do. -/

set_option linter.unusedVariables false
set_option linter.unusedSimpArgs false
set_option maxRecDepth 100000
open Go Go.Ab Go.Proofs V S T C
open W (slS)
open Sp
namespace Td
open Sg (pa leS0)
open Tm (okT agT fullT meetT ok_meet ok_full emptyT withinT hasT chkT nameEq oneS largeT)
open Tl (okTE knowF knowM knowM_ok getD_mem)
open Tx (slC)
open Pc (slK)
noncomputable abbrev slE (E : List TE) : AV := .sl 5 (.map encTE noTE E) .none
noncomputable abbrev agX (x : Xt) : AV := .agg (encXt x)

/-! ### spans and terms -/
theorem rall_spec (H : List AObj) : ASpec Try.prog 203 [] H (fun r H' => r = slS [(0, 1000000000)] ∧ H' = H) := by
  have k : ASpec Try.prog 203 [] [] (fun r H' => r = slS [(0, 1000000000)] ∧ H' = []) :=
    ASpec.sel (s203 _ (pa (Le.sl (s' := Seq.ren _ (.map encS (0, 0) [(0, 1000000000)])) rfl (.inl rfl) (.inr rfl))))
  exact ASpec.pureH H k _ _ rfl rfl
theorem rone_spec (v : Int) (H : List AObj) : ASpec Try.prog 288 [.int .i64 v] H (fun r H' => r = slS (oneS v) ∧ H' = H) := by
  have k : ASpec Try.prog 288 [.int .i64 v] [] (fun r H' => r = slS (oneS v) ∧ H' = []) := by
    refine ASpec.sel (s288 _ _ (condD (fun h => pa ?_) fun h1 => condD (fun h => pa ?_) fun h2 => pa ?_))
    · rw [oneS, if_neg (by omega)]; exact leS0
    · rw [oneS, if_neg (by omega)]; exact leS0
    · rw [oneS, if_pos (by omega), wrap64 (by omega) (by omega)]
      exact Le.sl (s' := Seq.ren _ (.map encS (0, 0) [(v, v + 1)])) rfl (.inl rfl) (.inr rfl)
  exact ASpec.pureH H k _ _ rfl rfl
def fullB (t : Term) : Bool := t.2.2 && decide (t.2.1 = [(0, 1000000000)])
theorem rfull_spec (t : Term) (ht : t.2.1.length ≤ 2000000000) (H : List AObj) : ASpec Try.prog 83 [agT t] H (fun r H' => r = .bool (fullB t) ∧ H' = H) := by
  have k : ASpec Try.prog 83 [agT t] [] (fun r H' => r = .bool (fullB t) ∧ H' = []) := by
    refine ASpec.sel (s83 _ _ (condB (fun h => ?_) fun h => ⟨rfl, pa ?_⟩))
    · refine ASpec.call (rall_spec _) (Les.refl _) ⟨[(0, 1000000000)], rfl, rfl, ⟨rfl, rfl⟩, ?_⟩
      refine ASpec.call (Sg.same_spec t.2.1 [(0, 1000000000)] ht _) (Les.refl _) ⟨_, rfl, rfl, pa ?_⟩
      rw [fullB, h, Bool.true_and]; exact Le.refl _
    · rw [fullB, h, Bool.false_and]; exact Le.refl _
  exact ASpec.pureH H k _ _ rfl rfl
theorem rchk_spec (t : Term) (h1 : t.1.length ≤ lim) (h2 : t.2.1.length ≤ lim) (H : List AObj) : ASpec Try.prog 196 [agT t] H (fun r H' => r = .bool (chkT t) ∧ H' = H) := by
  unfold lim at h1
  have k : ASpec Try.prog 196 [agT t] [] (fun r H' => r = .bool (chkT t) ∧ H' = []) := by
    refine ASpec.sel (s196 _ _ (ASpec.call (rfit_spec (l := t.1) (by unfold big; omega) _) (Les.refl _) ⟨_, rfl, rfl, condB (fun h => ?_) fun h => pa ?_⟩))
    · refine ASpec.call (rspanCheck_spec _ h2 _) (Les.refl _) ⟨_, rfl, rfl, pa ?_⟩
      rw [chkT, h, Bool.true_and]; exact Le.refl _
    · rw [chkT, h, Bool.false_and]; exact Le.refl _
  exact ASpec.pureH H k _ _ rfl rfl
theorem rhasT_spec (t : Term) (v : Int) (c : Bool) (ht : okT t) (H : List AObj) : ASpec Try.prog 286 [agT t, .int .i64 v, .bool c] H (fun r H' => r = .bool (hasT t v c) ∧ H' = H) := by
  have k : ASpec Try.prog 286 [agT t, .int .i64 v, .bool c] [] (fun r H' => r = .bool (hasT t v c) ∧ H' = []) := by
    refine ASpec.sel (s286 _ _ _ _ (condB (fun h => ?_) fun h => pa ?_))
    · refine ASpec.call (Sg.rhas_spec _ _ ht _) (Les.refl _) ⟨_, rfl, rfl, pa ?_⟩
      rw [hasT, if_pos h]; exact Le.refl _
    · rw [hasT, if_neg (by rw [h]; simp)]; exact Le.refl _
  exact ASpec.pureH H k _ _ rfl rfl
theorem condNn {a b : List UInt8} {A C : Prop} (h1 : a ≠ b → A) (h2 : a = b → C) : condP (!(B a).toList == (B b).toList) A C := condSn h1 h2
theorem rmeetT_spec (a b : Term) (ha : okT a) (hb : okT b) (H : List AObj) : ASpec Try.prog 208 [agT a, agT b] H (fun r H' => r = agT (meetT a b) ∧ H' = H) := by
  have k : ASpec Try.prog 208 [agT a, agT b] [] (fun r H' => r = agT (meetT a b) ∧ H' = []) := by
    refine ASpec.sel (s208 _ _ _ (condNn (fun h => pa ?_) fun h => ?_))
    · rw [meetT, if_neg h]; exact Le.agg ⟨Le.refl _, leS0, Le.refl _, trivial⟩
    · rw [meetT, if_pos h]
      refine ASpec.call (Sg.rmeet_spec a.2.1 b.2.1 ha hb _) (Les.refl _) ⟨Sg.meetS a.2.1 b.2.1, rfl, rfl, ?_⟩
      repeat refine ⟨⟨rfl, rfl⟩, ?_⟩
      refine condB (fun h1 => pa ?_) fun h1 => pa ?_
      · rw [h1, Bool.true_and]; exact Le.refl _
      · rw [h1, Bool.false_and]; exact Le.refl _
  exact ASpec.pureH H k _ _ rfl rfl

/-! ### clashes -/
def largeFC : List Term → Bool
  | [] => false
  | x :: r => if largeT x = true then true else largeFC r
def largeC (m : List Term) : Bool := if 40 < m.length then true else largeFC m
theorem largeC4 {l : List Term} {c : Bool} (hl : l.length ≤ 40) : ∀ (m i : Nat), m + i = l.length → largeFC (l.drop i) = c →
    AWP Try.prog 18 0 c77_4 [(0, slC l), (3, .int .i64 i)] [] (q77_2 0 (fun r H' => r = .bool c ∧ H' = [])) := by
  intro m
  induction m with
  | zero =>
    intro i hm h
    refine v77_4 _ _ _ _ (condD (fun hc => by omega) fun _ => ?_)
    rw [List.drop_eq_nil_of_le (by omega)] at h
    exact ⟨by rw [← h]; rfl, rfl⟩
  | succ m ih =>
    intro i hm h
    rw [dropD l noT i (by omega)] at h
    simp only [largeFC] at h
    refine v77_4 _ _ _ _ (condD (fun hc => needJ ⟨by omega, by omega⟩ ?_) fun hc => by omega)
    rw [Int.toNat_natCast]
    generalize l.getD i noT = x at h ⊢
    refine ASpec.call (Tm.large_spec x _) (Les.refl _) ⟨_, rfl, rfl, condB (fun h1 => ?_) fun h1 => ?_⟩
    · rw [if_pos h1] at h; exact ⟨by rw [← h], rfl⟩
    · rw [if_neg (by rw [h1]; simp)] at h
      rw [succ64 (by omega)]
      exact ih (i + 1) (by omega) h
theorem largeC_spec (l : List Term) (H : List AObj) : ASpec Try.prog 77 [slC l] H (fun r H' => r = .bool (largeC l) ∧ H' = H) := by
  have k : ASpec Try.prog 77 [slC l] [] (fun r H' => r = .bool (largeC l) ∧ H' = []) := by
    refine s77 _ _ (condD (fun h => ⟨?_, rfl⟩) fun h => largeC4 (by omega) l.length 0 (by omega) ?_)
    · rw [largeC, if_pos (by omega)]
    · rw [largeC, if_neg (by omega)]; rfl
  exact ASpec.pureH H k _ _ rfl rfl
theorem largeFC_ok : ∀ (l : List Term), largeFC l = false → ∀ x ∈ l, x.1.length ≤ 200 ∧ x.2.1.length ≤ 60
  | [], _, n, hn => by simp at hn
  | x :: r, h, n, hn => by
    simp only [largeFC] at h
    split at h
    · cases h
    · rename_i h1
      rcases List.mem_cons.1 hn with rfl | hn
      · simp only [largeT, Bool.or_eq_true, decide_eq_true_eq, not_or] at h1; omega
      · exact largeFC_ok r h n hn
theorem largeC_ok {l : List Term} (h : largeC l = false) : l.length ≤ 40 ∧ ∀ x ∈ l, x.1.length ≤ 200 ∧ x.2.1.length ≤ 60 := by
  unfold largeC at h
  split at h
  · cases h
  · exact ⟨by omega, largeFC_ok l h⟩

def leQ (x : List UInt8) : Option (List UInt8) → Bool
  | some n => leB x n
  | none => false
/-- may a clash be? the rest of it, behind a name -/
def chkFC (q : Option (List UInt8)) : List Term → Bool
  | [] => true
  | x :: r => if chkT x = false then false else if fullB x = true then false else if emptyT x = true then false else
      if leQ x.1 q = true then false else chkFC (some x.1) r
def chkC (l : List Term) : Bool := chkFC none l
theorem chkFC_ok : ∀ {l : List Term} {q : Option (List UInt8)}, chkFC q l = true → ∀ x ∈ l, okT x
  | [], _, _, x, hx => by simp at hx
  | y :: r, q, h, x, hx => by
    simp only [chkFC] at h
    split at h
    · cases h
    rename_i h1
    split at h
    · cases h
    split at h
    · cases h
    split at h
    · cases h
    rcases List.mem_cons.1 hx with rfl | hx
    · have : chkT x = true := by cases hq : chkT x <;> simp_all
      unfold chkT at this
      rw [Bool.and_eq_true] at this
      exact this.2
    · exact chkFC_ok h x hx
theorem chkC2 {l : List Term} (hl : l.length ≤ 40) (hk : ∀ x ∈ l, x.1.length ≤ 200 ∧ x.2.1.length ≤ 60) {c : Bool} : ∀ (m i : Nat), m + i = l.length → chkFC (if i = 0 then none else some (l.getD (i - 1) noT).1) (l.drop i) = c →
    AWP Try.prog 48 0 c78_2 [(0, slC l), (3, .int .i64 i)] [] (q78_2 0 (fun r H' => r = .bool c ∧ H' = [])) := by
  intro m
  induction m with
  | zero =>
    intro i hm h
    refine v78_2 _ _ _ _ (condD (fun hc => by omega) fun _ => ?_)
    rw [List.drop_eq_nil_of_le (by omega)] at h
    exact ⟨by rw [← h]; rfl, rfl⟩
  | succ m ih =>
    intro i hm h
    have hxk := hk _ (getD_mem (d := noT) (show i < l.length by omega))
    rw [dropD l noT i (by omega)] at h
    simp only [chkFC] at h
    refine v78_2 _ _ _ _ (condD (fun hc => needJ ⟨by omega, by omega⟩ ?_) fun hc => by omega)
    rw [Int.toNat_natCast, succ64 (by omega)]
    have nx := ih (i + 1) (by omega)
    rw [if_neg (by omega), Nat.add_sub_cancel] at nx
    generalize l.getD i noT = x at h hxk nx ⊢
    refine ASpec.call (rchk_spec x (by unfold lim; omega) (by unfold lim; omega) _) (Les.refl _) ⟨_, rfl, rfl, condBn (fun h1 => ?_) fun h1 => needJ ⟨by omega, by omega⟩ ?_⟩
    · rw [if_pos h1] at h; exact ⟨by rw [← h], rfl⟩
    rw [if_neg (by rw [h1]; simp)] at h
    refine ASpec.call (rfull_spec x (by omega) _) (Les.refl _) ⟨_, rfl, rfl, condB (fun h2 => ?_) fun h2 => needJ ⟨by omega, by omega⟩ ?_⟩
    · rw [if_pos h2] at h; exact ⟨by rw [← h], rfl⟩
    rw [if_neg (by rw [h2]; simp)] at h
    refine ASpec.call (Tm.rempty_spec x _) (Les.refl _) ⟨_, rfl, rfl, condB (fun h3 => ?_) fun h3 => ?_⟩
    · rw [if_pos h3] at h; exact ⟨by rw [← h], rfl⟩
    rw [if_neg (by rw [h3]; simp)] at h
    refine condD (fun h0 => needJ ⟨by omega, by omega⟩ ?_) fun h0 => ?_
    · rw [show IntKind.wrap .i64 ((i : Int) - 1) = ((i - 1 : Nat) : Int) by rw [wrap64 (by omega) (by omega)]; omega]
      refine needJ ⟨by omega, by omega⟩ ?_
      rw [Int.toNat_natCast, B_toList, B_toList]
      rw [if_neg (show ¬ i = 0 by omega)] at h
      refine condB (fun h4 => ?_) fun h4 => ?_
      · rw [if_pos (show leQ x.1 (some (l.getD (i - 1) noT).1) = true from h4)] at h; exact ⟨by rw [← h], rfl⟩
      · rw [if_neg (by rw [show leQ x.1 (some (l.getD (i - 1) noT).1) = false from h4]; simp)] at h
        exact nx h
    · rw [if_pos (show i = 0 by omega), if_neg (show ¬ leQ x.1 none = true by simp [leQ])] at h
      exact nx h
theorem chkC_spec (l : List Term) (hl : largeC l = false) (H : List AObj) : ASpec Try.prog 78 [slC l] H (fun r H' => r = .bool (chkC l) ∧ H' = H) := by
  obtain ⟨h1, h2⟩ := largeC_ok hl
  exact ASpec.pureH H (s78 l (fun r H' => r = .bool (chkC l) ∧ H' = []) (chkC2 h1 h2 l.length 0 (by omega) rfl)) _ _ rfl rfl
end Td
end

section
/- The document's trail: what is known, put, decided, derived, taken back. -/

set_option linter.unusedVariables false
set_option linter.unusedSimpArgs false
set_option maxRecDepth 100000
open Go Go.Ab Go.Proofs V S T C
open W (slS)
open Sp
namespace Td
open Sg (pa leS0)
open Tm (okT agT fullT meetT ok_meet ok_full emptyT withinT hasT chkT nameEq oneS largeT)
open Tl (okTE knowF knowM knowM_ok getD_mem)
open Tx (slC)
open Pc (slK)
section
variable {H : List AObj} {p : Nat} {x x' : Xt}

theorem liftD {f : FuncId} {args args' : List AV} {r0 r' : AV} (hp : H[p]? = some (.cells (encXt x))) (k : ASpec Try.prog f args [.cells (encXt x)] (fun r H' => r = r0 ∧ H' = [.cells (encXt x')]))
    (ha : args.map (AV.ren (callR [p] H.length)) = args') (hr : AV.ren (callR [p] H.length) r0 = r') :
    ASpec Try.prog f args' H (fun r H' => r = r' ∧ H' = H.set p (.cells (encXt x'))) := by
  refine ASpec.subH [p] H _ k args' r' (by simp) rfl ha hr (fun i hi => ?_) ?_
  · match i, hi with
    | 0, _ => exact hp
  · have e : graftH (callR [p] H.length) [p] H [.cells (encXt x')] = H.set p (.cells (encXt x')) ++ [] := rfl
    rw [e, List.append_nil]
abbrev P1 (r0 : AV) (x' : Xt) : AV → List AObj → Prop := fun r H' => ∃ q H2 r2, Sel 1 q H' H2 ∧ Le r (AV.ren (selR q H'.length) r2) ∧ (r2 = r0 ∧ H2 = [.cells (encXt x')])
theorem p1 {r r0 : AV} (q : List AObj) (h : ∀ ρ, Le r (AV.ren ρ r0)) : P1 r0 x' r (.cells (encXt x') :: q) := by
  refine ⟨[0], [.cells (encXt x')], r0, ⟨by decide, rfl, Nat.le_refl _, fun j hj => ?_, fun j hj => ?_⟩, h _, rfl, rfl⟩
  · match j, hj with
    | 0, _ => rfl
  · match j, hj with
    | 0, _ => exact .inl rfl

/-! ### what is known -/
theorem rknow3 {l : List TE} {lv n : Int} (hl : okTE l) {s : List UInt8} {R : Term} : ∀ (m i : Nat) (o : Term), m + i = l.length → okT o → knowF s o ((l.take n.toNat).drop i) = R →
    AWP Try.prog 42 0 c87_3 [(1, .int .i64 n), (2, .str (B s)), (3, .ptr 0 0), (6, .ptr 1 0), (7, .ptr 2 0), (8, .int .i64 i)] [.cells (encXt (l, lv)), .cells [.str ⟨#[]⟩, .sl 0 (.raw []) .nil, .bool false], .cells (encT o)] (q87_2 0 (Sg.PA (agT R))) := by
  have hl1 := hl.1
  unfold lim at hl1
  intro m
  induction m with
  | zero =>
    intro i o hm ho h
    refine v87_3 _ _ _ _ _ _ _ (condD (fun hc => by have : (i : Int) < l.length := hc; omega) fun _ => pa ?_)
    rw [List.drop_eq_nil_of_le (by simp; omega)] at h
    have h' : o = R := h
    subst h'
    exact Le.refl _
  | succ m ih =>
    intro i o hm ho h
    refine v87_3 _ _ _ _ _ _ _ (condD (fun hc => condD (fun hn => needJ ⟨by omega, by show (i : Int) < l.length; omega⟩ ?_) fun hn => pa ?_) fun hc => absurd (show (i : Int) < l.length by omega) hc)
    · rw [Int.toNat_natCast]
      show condP ((ByteArray.toList ⟨(l.getD i noTE).1.1.toArray⟩) == ByteArray.toList (B s)) _ _
      have hx := hl.2 _ (getD_mem (d := noTE) (show i < l.length by omega))
      have hd : (l.take n.toNat).drop i = l.getD i noTE :: (l.take n.toNat).drop (i + 1) := by
        rw [dropD (l.take n.toNat) noTE i (by simp; omega)]
        congr 1
        rw [List.getD_eq_getElem?_getD, List.getD_eq_getElem?_getD, List.getElem?_take, if_pos (by omega)]
      rw [hd] at h
      have eg : (l, lv).1.getD i noTE = l.getD i noTE := rfl
      simp only [eg]
      generalize l.getD i noTE = e at h hx ⊢
      simp only [knowF] at h
      rw [succ64 (by omega)]
      refine condB (fun h1 => needJ ⟨by omega, by show (i : Int) < l.length; omega⟩ ?_) fun h1 => ?_
      · rw [nameEq] at h1
        rw [if_pos (of_decide_eq_true h1)] at h
        exact ASpec.call (rmeetT_spec o e.1 ho hx _) (Les.refl _) ⟨meetT o e.1, rfl, rfl, ih (i + 1) _ (by omega) (ok_meet ho hx) h⟩
      · rw [nameEq] at h1
        rw [if_neg (of_decide_eq_false h1)] at h
        exact ih (i + 1) o (by omega) ho h
    · rw [List.drop_eq_nil_of_le (by simp; omega)] at h
      have h' : o = R := h
      subst h'
      exact Le.refl _

theorem rknowAt_spec (x : Xt) (hx : okTE x.1) (n : Int) (s : List UInt8) (H : List AObj) : ASpec Try.prog 87 [agX x, .int .i64 n, .str (B s)] H (fun r H' => r = agT (knowM (x.1.take n.toNat) s) ∧ H' = H) := by
  obtain ⟨l, lv⟩ := x
  have k : ASpec Try.prog 87 [agX (l, lv), .int .i64 n, .str (B s)] [] (fun r H' => r = agT (knowM (l.take n.toNat) s) ∧ H' = []) :=
    ASpec.sel (s87 _ _ _ _ (ASpec.call (rall_spec _) (Les.refl _) ⟨[(0, 1000000000)], rfl, rfl, rknow3 (l := l) (lv := lv) hx l.length 0 (fullT s) (Nat.add_zero _) (ok_full s) rfl⟩))
  exact ASpec.pureH H k _ _ rfl rfl
theorem rknow_spec (x : Xt) (hx : okTE x.1) (s : List UInt8) (H : List AObj) : ASpec Try.prog 207 [agX x, .str (B s)] H (fun r H' => r = agT (knowM x.1 s) ∧ H' = H) := by
  have k : ASpec Try.prog 207 [agX x, .str (B s)] [] (fun r H' => r = agT (knowM x.1 s) ∧ H' = []) := by
    refine ASpec.sel (s207 _ _ _ (ASpec.call (rknowAt_spec x hx x.1.length s _) (Les.refl _) ⟨knowM x.1 s, ?_, rfl, pa (Le.refl _)⟩))
    rw [Int.toNat_natCast, List.take_length]; rfl
  exact ASpec.pureH H k _ _ rfl rfl

/-! ### one more entry -/
theorem rput0 (x : Xt) (t : Term) (k : Int) (hl : x.1.length ≤ lim) : ASpec Try.prog 287 [.ptr 0 0, agT t, .int .i64 k] [.cells (encXt x)] (fun r H' => r = .tup [] ∧ H' = [.cells (encXt (x.1 ++ [(t, x.2, k)], x.2))]) := by
  unfold lim at hl
  refine ASpec.sel (Tl.ASpec.cellEnd (s287 _ _ _ _ (needJ (fun _ => rfl) (needJ (by omega) (needJ (by omega) ?_)))))
  refine ⟨0, _, encXt (x.1 ++ [(t, x.2, k)], x.2), rfl, ⟨Le.sl (by simp [Ab.Seq.toList]; rfl) (.inl rfl) (.inr rfl), Le.refl _, trivial⟩, p1 _ fun ρ => Le.refl _⟩
theorem rput_spec (hp : H[p]? = some (.cells (encXt x))) (t : Term) (k : Int) (hl : x.1.length ≤ lim) : ASpec Try.prog 287 [.ptr p 0, agT t, .int .i64 k] H (fun r H' => r = .tup [] ∧ H' = H.set p (.cells (encXt (x.1 ++ [(t, x.2, k)], x.2)))) :=
  liftD hp (rput0 x t k hl) rfl rfl

/-! ### what is decided -/
noncomputable def decD (x : Xt) (s : List UInt8) (v : Int) : Int × Xt :=
  if fitM s = false ∨ v < 0 ∨ 1000000000 ≤ v then (1, x)
  else if hasS (knowM x.1 s).2.1 v = false then (5, x)
  else (0, x.1 ++ [((s, oneS v, false), x.2 + 1, -1)], x.2 + 1)
theorem rdec_spec (hp : H[p]? = some (.cells (encXt x))) (hx : okTE x.1) (hlv : 0 ≤ x.2 ∧ x.2 ≤ 1000000) (s : List UInt8) (hs : s.length ≤ lim) (v : Int) :
    ASpec Try.prog 197 [.ptr p 0, .str (B s), .int .i64 v] H (fun r H' => r = .int .i64 (decD x s v).1 ∧ H' = H.set p (.cells (encXt (decD x s v).2))) := by
  unfold lim at hs
  have k : ASpec Try.prog 197 [.ptr 0 0, .str (B s), .int .i64 v] [.cells (encXt x)] (fun r H' => r = .int .i64 (decD x s v).1 ∧ H' = [.cells (encXt (decD x s v).2)]) := by
    refine s197 _ _ _ _ (ASpec.call (rfit_spec (l := s) (by unfold big; omega) _) (Les.refl _) ⟨_, rfl, rfl, condBn (fun h => ?_) fun h => ?_⟩)
    · rw [decD, if_pos (.inl h)]; exact ⟨rfl, rfl⟩
    refine ASpec.call (verFit_spec v _) (Les.refl _) ⟨_, rfl, rfl, condBn (fun h1 => ?_) fun h1 => ?_⟩
    · rw [decD, if_pos (by have := of_decide_eq_false h1; omega)]; exact ⟨rfl, rfl⟩
    have hv := of_decide_eq_true h1
    refine ASpec.call (rknow_spec x hx s _) (Les.refl _) ⟨knowM x.1 s, rfl, rfl, ?_⟩
    refine ASpec.call (rhasT_spec (knowM x.1 s) v true (knowM_ok hx s) _) (Les.refl _) ⟨_, rfl, rfl, ?_⟩
    have hh : hasT (knowM x.1 s) v true = hasS (knowM x.1 s).2.1 v := rfl
    rw [hh]
    refine condBn (fun h2 => ?_) fun h2 => ?_
    · rw [decD, if_neg (by rw [h]; simp; omega), if_pos h2]; exact ⟨rfl, rfl⟩
    rw [wrap64 (by omega) (by omega)]
    refine ASpec.call (rone_spec v _) (Les.refl _) ⟨oneS v, rfl, rfl, ?_⟩
    have hq := rput_spec (p := 0) (x := (x.1, x.2 + 1)) (H := [.cells (encXt (x.1, x.2 + 1))]) rfl (s, oneS v, false) (-1) hx.1
    refine ASpec.call hq (Les.refl _) ⟨(x.1 ++ [((s, oneS v, false), x.2 + 1, -1)], x.2 + 1), rfl, rfl, ?_⟩
    rw [decD, if_neg (by rw [h]; simp; omega), if_neg (by rw [h2]; simp)]; exact ⟨rfl, rfl⟩
  exact liftD hp k rfl rfl

/-! ### what is derived -/
noncomputable def derD (x : Xt) (t : Term) (c : Int) : Int × Xt :=
  if chkT t = false ∨ c < 0 then (1, x)
  else if emptyT (meetT (knowM x.1 t.1) t) = true then (5, x)
  else if withinT (knowM x.1 t.1) t = true then (6, x)
  else (0, x.1 ++ [(t, x.2, c)], x.2)
theorem rder_spec (hp : H[p]? = some (.cells (encXt x))) (hx : okTE x.1) (t : Term) (ht1 : t.1.length ≤ lim) (ht2 : t.2.1.length ≤ lim) (c : Int) :
    ASpec Try.prog 198 [.ptr p 0, agT t, .int .i64 c] H (fun r H' => r = .int .i64 (derD x t c).1 ∧ H' = H.set p (.cells (encXt (derD x t c).2))) := by
  have k : ASpec Try.prog 198 [.ptr 0 0, agT t, .int .i64 c] [.cells (encXt x)] (fun r H' => r = .int .i64 (derD x t c).1 ∧ H' = [.cells (encXt (derD x t c).2)]) := by
    refine ASpec.sel (s198 _ _ _ _ (ASpec.call (rchk_spec t ht1 ht2 _) (Les.refl _) ⟨_, rfl, rfl, condBn (fun h => ?_) fun h => condD (fun h1 => ?_) fun h1 => ?_⟩))
    · rw [derD, if_pos (.inl h)]; exact p1 _ fun ρ => Le.refl _
    · rw [derD, if_pos (.inr h1)]; exact p1 _ fun ρ => Le.refl _
    have hc : derD x t c = (if emptyT (meetT (knowM x.1 t.1) t) = true then (5, x) else if withinT (knowM x.1 t.1) t = true then (6, x) else (0, x.1 ++ [(t, x.2, c)], x.2)) := by
      rw [derD, if_neg (by rw [h]; simp; omega)]
    rw [hc]
    have hok : okT t := by
      unfold chkT at h
      rw [Bool.and_eq_true] at h
      exact h.2
    refine ASpec.call (rknow_spec x hx t.1 _) (Les.refl _) ⟨knowM x.1 t.1, rfl, rfl, ?_⟩
    have hk := knowM_ok hx t.1
    generalize knowM x.1 t.1 = k at hk ⊢
    repeat refine ⟨⟨rfl, rfl⟩, ?_⟩
    refine ASpec.call (rmeetT_spec k t hk hok _) (Les.refl _) ⟨meetT k t, rfl, rfl, ?_⟩
    refine ASpec.call (Tm.rempty_spec (meetT k t) _) (Les.refl _) ⟨_, rfl, rfl, condB (fun h2 => ?_) fun h2 => ?_⟩
    · rw [if_pos h2]; exact p1 _ fun ρ => Le.refl _
    refine ASpec.call (Tm.rwithin_specT k t hk hok _) (Les.refl _) ⟨_, rfl, rfl, condB (fun h3 => ?_) fun h3 => ?_⟩
    · rw [if_neg (by rw [h2]; simp), if_pos h3]; exact p1 _ fun ρ => Le.refl _
    have hq := rput_spec (p := 0) (x := x) (H := [.cells (encXt x), .cells (encT t), .cells (encT k)]) rfl t c hx.1
    refine ASpec.call hq (Les.refl _) ⟨(x.1 ++ [(t, x.2, c)], x.2), rfl, rfl, ?_⟩
    rw [if_neg (by rw [h2]; simp), if_neg (by rw [h3]; simp)]; exact p1 _ fun ρ => Le.refl _
  exact liftD hp k rfl rfl

/-! ### what is taken back -/
def backD (x : Xt) (n : Int) : Xt := if x.2 ≤ max n 0 then x else (x.1.filter (fun e => decide (e.2.1 ≤ max n 0)), max n 0)
theorem rback4 {l : List TE} {lv n : Int} (hl : l.length ≤ lim) {R : List TE} : ∀ (m i : Nat) (o : List TE), m + i = l.length → o.length ≤ i → o ++ (l.drop i).filter (fun e => decide (e.2.1 ≤ n)) = R →
    AWP Try.prog 51 1 c199_4 [(0, .ptr 0 0), (1, .int .i64 n), (4, .sl 5 (.map encTE noTE o) (.tok 1)), (5, .int .i64 i)] [.cells (encXt (l, lv)), .tok] (q199_2 1 (fun r H' => ∃ id cs cs', H'[id]? = some (.cells cs) ∧ Les cs cs' ∧ P1 (.tup []) (R, n) r (H'.set id (.cells cs')))) := by
  unfold lim at hl
  have hll : ((l, lv) : Xt).1.length = l.length := rfl
  intro m
  induction m with
  | zero =>
    intro i o hm ho h
    refine v199_4 _ _ _ _ _ _ (condD (fun hc => by have : (i : Int) < l.length := hc; omega) fun _ => ?_)
    rw [List.drop_eq_nil_of_le (by omega), List.filter_nil, List.append_nil] at h
    subst h
    exact v199_8 _ _ _ _ _ ⟨0, _, encXt (o, n), rfl, ⟨Le.sl rfl (.inl rfl) (.inr rfl), Le.refl _, trivial⟩, p1 _ fun ρ => Le.refl _⟩
  | succ m ih =>
    intro i o hm ho h
    rw [dropD l noTE i (by omega)] at h
    refine v199_4 _ _ _ _ _ _ (condD (fun hc => needJ ⟨by omega, by show (i : Int) < l.length; omega⟩ ?_) fun hc => absurd (show (i : Int) < l.length by omega) hc)
    rw [Int.toNat_natCast, succ64 (by omega)]
    have eg : (l, lv).1.getD i noTE = l.getD i noTE := rfl
    simp only [eg]
    generalize l.getD i noTE = e at h ⊢
    refine condD (fun h1 => needJ ⟨by omega, by show (i : Int) < l.length; omega⟩ (needJ (by omega) ?_)) fun h1 => ?_
    · rw [List.filter_cons, if_pos (by simpa using h1)] at h
      refine AWP.shape [0, 2] [(0, .ptr 0 0), (1, .int .i64 n), (4, .sl 5 (.map encTE noTE (o ++ [e])) (.tok 1)), (5, .int .i64 (i + 1 : Nat))] [.cells (encXt (l, lv)), .tok] ⟨by decide, rfl, by decide, fun j hj => ?_, fun j hj => ?_⟩
        ⟨rfl, Le.refl _, rfl, Le.refl _, rfl, leAppE (Les.refl _), rfl, Le.refl _, trivial⟩ (ih (i + 1) (o ++ [e]) (by omega) (by simp; omega) (by rw [← h]; simp))
      · match j, hj with
        | 0, _ => rfl
      · match j, hj with
        | 0, _ | 1, _ => exact .inl rfl
    · rw [List.filter_cons, if_neg (by simpa using h1)] at h
      exact ih (i + 1) o (by omega) (by omega) h

theorem rback_spec (hp : H[p]? = some (.cells (encXt x))) (hl : x.1.length ≤ lim) (n : Int) : ASpec Try.prog 199 [.ptr p 0, .int .i64 n] H (fun r H' => r = .tup [] ∧ H' = H.set p (.cells (encXt (backD x n)))) := by
  have e1 : (if (0 : Int) > n then (0 : Int) else n) = max n 0 := by split <;> omega
  have k : ASpec Try.prog 199 [.ptr 0 0, .int .i64 n] [.cells (encXt x)] (fun r H' => r = .tup [] ∧ H' = [.cells (encXt (backD x n))]) := by
    refine ASpec.sel (Tl.ASpec.cellEnd (s199 _ _ _ ?_))
    rw [e1]
    refine condD (fun h => ?_) fun h => ?_
    · rw [backD, if_pos (by omega)]
      exact ⟨0, _, encXt x, rfl, Les.refl _, p1 [] fun ρ => Le.refl _⟩
    · rw [backD, if_neg (by omega)]
      refine AWP.re (ReSt.tok (k := 4) (q' := .map encTE noTE []) (sz' := 5) (s2 := [(0, .ptr 0 0), (1, .int .i64 (max n 0)), (4, .sl 5 (.map encTE noTE []) (.tok 1)), (5, .int .i64 (0 : Nat))]) rfl (.inl rfl) rfl (.inr rfl) (fun d hd => ?_) rfl) ?_
      · simp only [Ab.get]
        have e : Nat.beq 4 d = false := by
          cases hx : Nat.beq 4 d with
          | false => rfl
          | true => exact absurd (Nat.eq_of_beq_eq_true hx).symm hd
        rw [e]; rfl
      · exact rback4 (lv := x.2) hl x.1.length 0 [] (by omega) (by simp) (by simp)
  exact liftD hp k rfl rfl
end
end Td
end

section
/- The document's trail: picks, and the first that know a clash. -/

set_option linter.unusedVariables false
set_option linter.unusedSimpArgs false
set_option maxRecDepth 100000
open Go Go.Ab Go.Proofs V S T C
open W (slS)
open Sp
namespace Td
open Sg (pa leS0)
open Tm (okT agT fullT meetT ok_meet ok_full emptyT withinT hasT chkT nameEq oneS largeT)
open Tl (okTE knowF knowM knowM_ok getD_mem)
open Tx (slC)
open Pc (slK dropM insD putD slKLe)
section
variable {H : List AObj} {p : Nat} {x x' : Xt}

theorem nilK {ρ : Nat → Nat} : Le (.sl 0 (.raw []) .nil) (AV.ren ρ (slK [])) := Le.sl (s' := Seq.ren ρ (.map encPk noPk [])) rfl (.inr ⟨rfl, fun _ h => by cases h⟩) (.inr rfl)

/-! ### Drop -/
theorem rdrop3 {l : List Pk} {s : List UInt8} (hl : l.length ≤ 100000) {R : List Pk} : ∀ (m i : Nat) (o : List Pk), m + i = l.length → o.length ≤ i → o ++ dropM (l.drop i) s = R →
    AWP Try.prog 28 0 c334_3 [(0, slK l), (1, .str (B s)), (5, .sl 2 (.map encPk noPk o) (.tok 0)), (6, .int .i64 i)] [.tok] (q334_2 0 (Sg.PA (slK R))) := by
  intro m
  induction m with
  | zero =>
    intro i o hm ho h
    refine v334_3 _ _ _ _ _ _ (condD (fun hc => by omega) fun _ => pa ?_)
    rw [List.drop_eq_nil_of_le (by omega)] at h
    simp only [dropM, List.filter_nil, List.append_nil] at h
    subst h
    exact slKLe _ _
  | succ m ih =>
    intro i o hm ho h
    rw [dropD l noPk i (by omega)] at h
    refine v334_3 _ _ _ _ _ _ (condD (fun hc => needJ ⟨by omega, by omega⟩ ?_) fun hc => by omega)
    rw [Int.toNat_natCast, succ64 (by omega)]
    generalize l.getD i noPk = y at h ⊢
    refine condNn (fun h1 => needJ ⟨by omega, by omega⟩ (needJ (by omega) ?_)) fun h1 => ?_
    · have hd : dropM (y :: l.drop (i + 1)) s = y :: dropM (l.drop (i + 1)) s := by
        unfold dropM; rw [List.filter_cons, if_pos (by simpa using h1)]
      rw [hd] at h
      refine AWP.shape [1] [(0, slK l), (1, .str (B s)), (5, .sl 2 (.map encPk noPk (o ++ [y])) (.tok 0)), (6, .int .i64 (i + 1 : Nat))] [.tok] (Sel.mk0 (by decide) ⟨rfl, trivial⟩)
        ⟨rfl, slKLe _ _, rfl, Le.refl _, rfl, leAppE (Les.refl _), rfl, Le.refl _, trivial⟩ (ih (i + 1) (o ++ [y]) (by omega) (by simp; omega) (by rw [← h]; simp))
    · have hd : dropM (y :: l.drop (i + 1)) s = dropM (l.drop (i + 1)) s := by
        unfold dropM; rw [List.filter_cons, if_neg (by simp [h1])]
      rw [hd] at h
      exact ih (i + 1) o (by omega) (by omega) h

theorem rdrop_spec (l : List Pk) (s : List UInt8) (hl : l.length ≤ 100000) (H : List AObj) : ASpec Try.prog 334 [slK l, .str (B s)] H (fun r H' => r = slK (dropM l s) ∧ H' = H) := by
  have k : ASpec Try.prog 334 [slK l, .str (B s)] [] (fun r H' => r = slK (dropM l s) ∧ H' = []) := by
    refine ASpec.sel (s334 _ _ _ ?_)
    refine AWP.re (ReSt.tok (k := 5) (q' := .map encPk noPk []) (sz' := 2) (s2 := [(0, slK l), (1, .str (B s)), (5, .sl 2 (.map encPk noPk []) (.tok 0)), (6, .int .i64 (0 : Nat))]) rfl (.inl rfl) rfl (.inr rfl) (fun d hd => ?_) rfl) ?_
    · simp only [Ab.get]
      have e : Nat.beq 5 d = false := by
        cases hx : Nat.beq 5 d with
        | false => rfl
        | true => exact absurd (Nat.eq_of_beq_eq_true hx).symm hd
      rw [e]; rfl
    · exact rdrop3 hl l.length 0 [] (by omega) (by simp) (by simp)
  exact ASpec.pureH H k _ _ rfl rfl

/-! ### Put -/
theorem rputP11 {o R : List Pk} {p : Pk} {b : Bool} (ho : o.length ≤ 1000000) (h : o ++ (if b = true then [] else [p]) = R) :
    AWP Try.prog 48 0 c293_11 [(3, .ptr 0 0), (5, .sl 2 (.map encPk noPk o) (.tok 1)), (6, .bool b)] [.cells (encPk p), .tok] (q293_0 0 (Sg.PA (slK R))) := by
  refine v293_11 _ _ _ _ _ (condBn (fun hb => needJ (by omega) (pa ?_)) fun hb => pa ?_)
  · rw [if_neg (by rw [hb]; simp)] at h
    subst h
    exact Le.trans (leAppE (Les.refl _)) (slKLe _ _)
  · rw [if_pos hb, List.append_nil] at h
    subst h
    exact slKLe _ _
theorem rputP5 {l : List Pk} {p : Pk} (hl : l.length ≤ 100000) {R : List Pk} : ∀ (m i : Nat) (o : List Pk) (b : Bool), m + i = l.length → o.length ≤ i + b.toNat → o ++ (if b = true then l.drop i else insD p (l.drop i)) = R →
    AWP Try.prog 48 0 c293_5 [(0, slK l), (3, .ptr 0 0), (5, .sl 2 (.map encPk noPk o) (.tok 1)), (6, .bool b), (7, .int .i64 i)] [.cells (encPk p), .tok] (q293_2 0 (Sg.PA (slK R))) := by
  intro m
  induction m with
  | zero =>
    intro i o b hm ho h
    have hb1 : b.toNat ≤ 1 := by cases b <;> decide
    rw [List.drop_eq_nil_of_le (by omega)] at h
    exact v293_5 _ _ _ _ _ _ _ (condD (fun hc => by omega) fun _ => rputP11 (by omega) h)
  | succ m ih =>
    intro i o b hm ho h
    have hb1 : b.toNat ≤ 1 := by cases b <;> decide
    rw [dropD l noPk i (by omega)] at h
    refine v293_5 _ _ _ _ _ _ _ (condD (fun hc => ?_) fun hc => by omega)
    rw [Int.toNat_natCast, succ64 (by omega)]
    generalize l.getD i noPk = y at h ⊢
    have one : o ++ y :: (if b = true then l.drop (i + 1) else insD p (l.drop (i + 1))) = R →
        AWP Try.prog 48 0 c293_5 [(0, slK l), (3, .ptr 0 0), (5, .sl 2 (.app (.map encPk noPk o) (.raw [encPk y])) (.tok 2)), (6, .bool b), (7, .int .i64 (i + 1 : Nat))] [.cells (encPk p), .gone, .tok] (q293_2 0 (Sg.PA (slK R))) := by
      intro h
      refine AWP.shape [0, 2] [(0, slK l), (3, .ptr 0 0), (5, .sl 2 (.map encPk noPk (o ++ [y])) (.tok 1)), (6, .bool b), (7, .int .i64 (i + 1 : Nat))] [.cells (encPk p), .tok] (Sel.mk0 (by decide) ⟨rfl, rfl, trivial⟩)
        ⟨rfl, slKLe _ _, rfl, Le.refl _, rfl, leAppE (Les.refl _), rfl, Le.refl _, rfl, Le.refl _, trivial⟩ (ih (i + 1) (o ++ [y]) b (by omega) (by simp; omega) (by rw [← h]; simp))
    refine condBn (fun hb => needJ ⟨by omega, by omega⟩ ?_) fun hb => needJ ⟨by omega, by omega⟩ (needJ (by omega) (one (by rw [← h, if_pos hb, if_pos hb])))
    rw [if_neg (by rw [hb]; simp)] at h
    simp only [insD] at h
    rw [B_toList, B_toList]
    refine condB (fun h1 => needJ (by omega) (needJ ⟨by omega, by omega⟩ (needJ (by omega) ?_))) fun h1 => needJ ⟨by omega, by omega⟩ (needJ (by omega) (one (by rw [← h, if_neg (show ¬ Op.bytesLess p.1 y.1 = true by rw [h1]; simp), if_neg (show ¬ b = true by rw [hb]; simp)])))
    rw [if_pos h1] at h
    refine AWP.shape [0, 3] [(0, slK l), (3, .ptr 0 0), (5, .sl 2 (.map encPk noPk ((o ++ [p]) ++ [y])) (.tok 1)), (6, .bool true), (7, .int .i64 (i + 1 : Nat))] [.cells (encPk p), .tok] (Sel.mk0 (by decide) ⟨rfl, rfl, trivial⟩)
        ⟨rfl, slKLe _ _, rfl, Le.refl _, rfl, ?_, rfl, Le.refl _, rfl, Le.refl _, trivial⟩ (ih (i + 1) ((o ++ [p]) ++ [y]) true (by omega) (by rw [hb] at ho; simp at ho ⊢; omega) (by rw [← h, if_pos rfl]; simp))
    exact Le.sl (s' := Seq.ren _ (.map encPk noPk ((o ++ [p]) ++ [y]))) (by simp [Ab.Seq.toList, Seq.ren, Pc.renPk]; exact ⟨rfl, rfl⟩) (.inl rfl) (.inl rfl)

theorem dropM_len (l : List Pk) (s : List UInt8) : (dropM l s).length ≤ l.length := List.length_filter_le _ _
theorem rputP_spec (l : List Pk) (p : Pk) (hl : l.length ≤ 100000) (H : List AObj) : ASpec Try.prog 293 [slK l, .agg (encPk p)] H (fun r H' => r = slK (putD l p) ∧ H' = H) := by
  have k : ASpec Try.prog 293 [slK l, .agg (encPk p)] [] (fun r H' => r = slK (putD l p) ∧ H' = []) := by
    have hd := dropM_len l p.1
    refine ASpec.sel (s293 _ _ _ (ASpec.call (rdrop_spec l p.1 hl _) (Les.refl _) ⟨dropM l p.1, rfl, rfl, ?_⟩))
    refine AWP.re (ReSt.tok (k := 5) (q' := .map encPk noPk []) (sz' := 2) (s2 := [(0, slK (dropM l p.1)), (3, .ptr 0 0), (5, .sl 2 (.map encPk noPk []) (.tok 1)), (6, .bool false), (7, .int .i64 (0 : Nat))]) rfl (.inl rfl) rfl (.inr rfl) (fun d hd => ?_) rfl) ?_
    · simp only [Ab.get]
      have e : Nat.beq 5 d = false := by
        cases hx : Nat.beq 5 d with
        | false => rfl
        | true => exact absurd (Nat.eq_of_beq_eq_true hx).symm hd
      rw [e]; rfl
    · exact rputP5 (by omega) (dropM l p.1).length 0 [] false (by omega) (by simp) (by simp [putD])
  exact ASpec.pureH H k _ _ rfl rfl

/-! ### are picks alike? -/
theorem rsameP4 {a b : List Pk} (hl : a.length ≤ 100000) (hab : a.length = b.length) : ∀ (m i : Nat), m + i = a.length →
    AWP Try.prog 26 0 c204_4 [(0, slK a), (1, slK b), (5, .int .i64 i)] [] (q204_2 0 (fun r H' => r = .bool (decide (a.drop i = b.drop i)) ∧ H' = [])) := by
  intro m
  induction m with
  | zero =>
    intro i hm
    refine v204_4 _ _ _ _ _ (condD (fun hc => by omega) fun _ => ?_)
    rw [List.drop_eq_nil_of_le (by omega), List.drop_eq_nil_of_le (by omega)]
    exact ⟨rfl, rfl⟩
  | succ m ih =>
    intro i hm
    have h := ih (i + 1) (by omega)
    refine v204_4 _ _ _ _ _ (condD (fun hc => needJ ⟨by omega, by omega⟩ (needJ ⟨by omega, by omega⟩ ?_)) fun hc => by omega)
    rw [Int.toNat_natCast, succ64 (by omega), dropD a noPk i (by omega), dropD b noPk i (by omega)]
    generalize a.getD i noPk = y
    generalize b.getD i noPk = z
    rw [nameEq, Bool.and_true]
    have e : (!(decide (y.1 = z.1) && y.2 == z.2)) = decide (y ≠ z) := by
      rw [Bool.eq_iff_iff]
      simp only [Bool.not_eq_true', Bool.and_eq_false_iff, decide_eq_false_iff_not, beq_eq_false_iff_ne, decide_eq_true_eq]
      obtain ⟨y1, y2⟩ := y
      obtain ⟨z1, z2⟩ := z
      simp only [ne_eq, Prod.mk.injEq, not_and]
      constructor
      · rintro (h | h)
        · exact fun h' => (h h').elim
        · exact fun _ => h
      · intro h
        by_cases h1 : y1 = z1
        · exact .inr (h h1)
        · exact .inl h1
    rw [e]
    refine condD (fun h1 => ⟨?_, rfl⟩) fun h1 => ?_
    · rw [decide_eq_false (fun hq => h1 (List.cons.inj hq).1)]
    · have h2 : y = z := Classical.byContradiction h1
      subst h2
      have e2 : decide (y :: a.drop (i + 1) = y :: b.drop (i + 1)) = decide (a.drop (i + 1) = b.drop (i + 1)) := by rw [decide_eq_decide]; simp
      rw [e2]; exact h
theorem rsameP_spec (a b : List Pk) (hl : a.length ≤ 100000) (H : List AObj) : ASpec Try.prog 204 [slK a, slK b] H (fun r H' => r = .bool (decide (a = b)) ∧ H' = H) := by
  have k : ASpec Try.prog 204 [slK a, slK b] [] (fun r H' => r = .bool (decide (a = b)) ∧ H' = []) := by
    refine s204 _ _ _ (condNe (fun h => ⟨?_, rfl⟩) fun h => ?_)
    · rw [decide_eq_false (fun hq => h (by rw [hq]))]
    · exact rsameP4 hl (by omega) a.length 0 (by omega)
  exact ASpec.pureH H k _ _ rfl rfl

/-! ### the picks -/
noncomputable def picksD : List TE → List Pk → List Pk
  | [], o => o
  | e :: r, o => if e.2.2 < 0 then picksD r (putD o (e.1.1, (e.1.2.1.getD 0 (0, 0)).1)) else picksD r o
theorem insD_len (p : Pk) : ∀ l : List Pk, (insD p l).length = l.length + 1
  | [] => rfl
  | y :: r => by
    simp only [insD]
    split
    · simp
    · simp [insD_len p r]
theorem putD_len (l : List Pk) (p : Pk) : (putD l p).length ≤ l.length + 1 := by
  unfold putD
  rw [insD_len]
  have := dropM_len l p.1
  omega
theorem rpicks3 {l : List TE} {lv : Int} (hl : l.length ≤ 10000) (hin : ∀ e ∈ l, e.2.2 < 0 → e.1.2.1 ≠ []) {R : List Pk} : ∀ (m i : Nat) (o : List Pk), m + i = l.length → o.length ≤ i → picksD (l.drop i) o = R →
    AWP Try.prog 40 0 c205_3 [(1, .ptr 0 0), (3, slK o), (4, .int .i64 i)] [.cells (encXt (l, lv))] (q205_2 0 (Sg.PA (slK R))) := by
  have hll : ((l, lv) : Xt).1.length = l.length := rfl
  intro m
  induction m with
  | zero =>
    intro i o hm ho h
    refine v205_3 _ _ _ _ _ (condD (fun hc => by omega) fun _ => pa ?_)
    rw [List.drop_eq_nil_of_le (by omega)] at h
    have h' : o = R := h
    subst h'
    exact slKLe _ _
  | succ m ih =>
    intro i o hm ho h
    have hm2 := hin _ (getD_mem (d := noTE) (show i < l.length by omega))
    rw [dropD l noTE i (by omega)] at h
    simp only [picksD] at h
    refine v205_3 _ _ _ _ _ (condD (fun hc => needJ ⟨by omega, by omega⟩ ?_) fun hc => absurd (show (i : Int) < l.length by omega) hc)
    rw [Int.toNat_natCast, succ64 (by omega)]
    have eg : (l, lv).1.getD i noTE = l.getD i noTE := rfl
    simp only [eg]
    generalize l.getD i noTE = e at h hm2 ⊢
    refine condD (fun h1 => needJ ⟨by omega, by omega⟩ (needJ ⟨by omega, by omega⟩ (needJ ⟨by omega, ?_⟩ ?_))) fun h1 => ?_
    · have := hm2 h1
      cases hq : e.1.2.1 with
      | nil => exact (this hq).elim
      | cons _ _ => simp
    · rw [if_pos h1] at h
      have hp := putD_len o (e.1.1, (e.1.2.1.getD 0 (0, 0)).1)
      exact ASpec.call (rputP_spec o (e.1.1, (e.1.2.1.getD 0 (0, 0)).1) (by omega) _) (Les.refl _) ⟨putD o (e.1.1, (e.1.2.1.getD 0 (0, 0)).1), rfl, rfl, ih (i + 1) _ (by omega) (by omega) h⟩
    · rw [if_neg h1] at h
      exact ih (i + 1) o (by omega) (by omega) h
theorem rpicks_spec (x : Xt) (hl : x.1.length ≤ 10000) (hin : ∀ e ∈ x.1, e.2.2 < 0 → e.1.2.1 ≠ []) (H : List AObj) : ASpec Try.prog 205 [agX x] H (fun r H' => r = slK (picksD x.1 []) ∧ H' = H) := by
  obtain ⟨l, lv⟩ := x
  have k : ASpec Try.prog 205 [agX (l, lv)] [] (fun r H' => r = slK (picksD l []) ∧ H' = []) := by
    refine ASpec.sel (s205 _ _ ?_)
    exact AWP.shape [0] [(1, .ptr 0 0), (3, slK []), (4, .int .i64 (0 : Nat))] [.cells (encXt (l, lv))] (Sel.mk0 (by decide) ⟨rfl, trivial⟩) ⟨rfl, Le.refl _, rfl, nilK, rfl, Le.refl _, trivial⟩
      (rpicks3 (l := l) (lv := lv) hl hin l.length 0 [] (Nat.add_zero _) (Nat.le_refl _) rfl)
  exact ASpec.pureH H k _ _ rfl rfl

/-! ### the first that know a clash -/
noncomputable def allK (E : List TE) (n : Nat) : List Term → Bool → Bool
  | [], b => b
  | c :: r, b => allK E n r (b && withinT (knowM (E.take n) c.1) c)
/-- from n on, m more -/
noncomputable def firstD (E : List TE) (c : List Term) : Nat → Nat → Int
  | 0, n => -1
  | m + 1, n => if allK E n c true = true then (n : Int) else firstD E c m (n + 1)
theorem rfirst6 {l : List TE} {lv : Int} {c : List Term} (hE : okTE l) (hl : l.length ≤ 10000) (hc : c.length ≤ 10000) (hk : ∀ t ∈ c, okT t) {n : Nat} (hn : n ≤ 20000) {R : Int} {a : Bool}
    (hy : a = true → R = n) (hno : a = false → AWP Try.prog 39 0 c85_2 [(1, slC c), (2, .ptr 0 0), (5, .int .i64 (n + 1 : Nat))] [.cells (encXt (l, lv))] (q85_2 0 (Sg.PA (.int .i64 R)))) :
    ∀ (m i : Nat) (b : Bool), m + i = c.length → allK l n (c.drop i) b = a →
    AWP Try.prog 39 0 c85_6 [(1, slC c), (2, .ptr 0 0), (5, .int .i64 n), (6, .bool b), (7, .int .i64 i)] [.cells (encXt (l, lv))] (q85_7 0 (Sg.PA (.int .i64 R))) := by
  intro m
  induction m with
  | zero =>
    intro i b hm h
    rw [List.drop_eq_nil_of_le (by omega)] at h
    have h' : b = a := h
    subst h'
    refine v85_6 _ _ _ _ _ _ _ (condD (fun hc => by omega) fun _ => condB (fun hb => pa ?_) fun hb => ?_)
    · rw [hy hb]; exact Le.refl _
    · rw [succ64 (by omega)]; exact hno hb
  | succ m ih =>
    intro i b hm h
    have hx := hk _ (getD_mem (d := noT) (show i < c.length by omega))
    rw [dropD c noT i (by omega)] at h
    simp only [allK] at h
    refine v85_6 _ _ _ _ _ _ _ (condD (fun _ => condB (fun hb => needJ ⟨by omega, by omega⟩ (needJ ⟨by omega, by omega⟩ ?_)) fun hb => ⟨rfl, ?_⟩) fun hc => by omega)
    · rw [Int.toNat_natCast, succ64 (by omega)]
      generalize c.getD i noT = t at h hx ⊢
      refine ASpec.call (rknowAt_spec (l, lv) hE n t.1 _) (Les.refl _) ⟨knowM (l.take n) t.1, by rw [Int.toNat_natCast]; rfl, rfl, ?_⟩
      repeat refine ⟨⟨rfl, rfl⟩, ?_⟩
      have hok : okT (knowM (l.take n) t.1) := knowM_ok ⟨by have := hE.1; simp; omega, fun e he => hE.2 e (List.mem_of_mem_take he)⟩ t.1
      rw [hb, Bool.true_and] at h
      exact ASpec.call (Tm.rwithin_specT _ t hok hx _) (Les.refl _) ⟨_, rfl, rfl, ih (i + 1) _ (by omega) h⟩
    · rw [hb, Bool.false_and] at h
      rw [succ64 (by omega)]
      exact ih (i + 1) false (by omega) h
theorem rfirst2 {l : List TE} {lv : Int} {c : List Term} (hE : okTE l) (hl : l.length ≤ 10000) (hc : c.length ≤ 10000) (hk : ∀ t ∈ c, okT t) {R : Int} : ∀ (m n : Nat), m + n = l.length + 1 → firstD l c m n = R →
    AWP Try.prog 39 0 c85_2 [(1, slC c), (2, .ptr 0 0), (5, .int .i64 n)] [.cells (encXt (l, lv))] (q85_2 0 (Sg.PA (.int .i64 R))) := by
  have hll : ((l, lv) : Xt).1.length = l.length := rfl
  intro m
  induction m with
  | zero =>
    intro n hm h
    simp only [firstD] at h
    subst h
    exact v85_2 _ _ _ _ _ (condD (fun hc => by omega) fun _ => pa (Le.refl _))
  | succ m ih =>
    intro n hm h
    simp only [firstD] at h
    refine v85_2 _ _ _ _ _ (condD (fun _ => ?_) fun hc => absurd (show (n : Int) ≤ l.length by omega) hc)
    refine rfirst6 (a := allK l n c true) hE hl hc hk (by omega) (fun ha => ?_) (fun ha => ih (n + 1) (by omega) ?_) c.length 0 true (by omega) (by rw [List.drop_zero])
    · rw [if_pos ha] at h; exact h.symm
    · rw [if_neg (by rw [ha]; simp)] at h; exact h
theorem rfirst_spec (x : Xt) {c : List Term} (hE : okTE x.1) (hl : x.1.length ≤ 10000) (hc : c.length ≤ 10000) (hk : ∀ t ∈ c, okT t) (H : List AObj) : ASpec Try.prog 85 [agX x, slC c] H (fun r H' => r = .int .i64 (firstD x.1 c (x.1.length + 1) 0) ∧ H' = H) := by
  obtain ⟨l, lv⟩ := x
  have k : ASpec Try.prog 85 [agX (l, lv), slC c] [] (fun r H' => r = .int .i64 (firstD l c (l.length + 1) 0) ∧ H' = []) :=
    ASpec.sel (s85 _ _ _ (rfirst2 (l := l) (lv := lv) hE hl hc hk (l.length + 1) 0 (Nat.add_zero _) rfl))
  exact ASpec.pureH H k _ _ rfl rfl
end
end Td
end

section
/- A trail and the document's: plain laws. -/

set_option linter.unusedVariables false
set_option linter.unusedSimpArgs false
open Go Go.Ab Go.Proofs V S T C
open Sp
namespace Tp
open Tm (okT fullT meetT ok_meet ok_full emptyT withinT hasT chkT oneS)
open Tl (okTE knowF knowM knowM_ok knowM_name knowM_append getD_mem backM decM derM Res)
open Tx (leastS picksF picksM frF firstF firstM)
open Td (decD derD backD picksD allK firstD)
open Pc (putM putD UpK putM_putD put_up)
/-- a trail, as what was done makes it -/
inductive W : List TE → List Int → Prop where
  | nil : W [] []
  | der (E : List TE) (L : List Int) (t : Term) (c : Int) (h : W E L) (hc : 0 ≤ c) : W (E ++ [(t, (L.length : Int), c)]) L
  | dec (E : List TE) (L : List Int) (s : List UInt8) (v : Int) (h : W E L) (hv : 0 ≤ v ∧ v < 1000000000) : W (E ++ [((s, oneS v, false), (L.length : Int) + 1, -1)]) (L ++ [(E.length : Int)])

theorem W.lt {E : List TE} {L : List Int} (h : W E L) : ∀ x ∈ L, 0 ≤ x ∧ x < (E.length : Int) := by
  induction h with
  | nil => intro x hx; simp at hx
  | der E L t c h hc ih =>
    intro x hx
    have := ih x hx
    simp; omega
  | dec E L s v h hv ih =>
    intro x hx
    rcases List.mem_append.1 hx with hx | hx
    · have := ih x hx
      simp; omega
    · simp only [List.mem_singleton] at hx; subst hx; simp; omega

theorem W.lev {E : List TE} {L : List Int} (h : W E L) : ∀ e ∈ E, e.2.1 ≤ (L.length : Int) := by
  induction h with
  | nil => intro x hx; simp at hx
  | der E L t c h hc ih =>
    intro x hx
    rcases List.mem_append.1 hx with hx | hx
    · exact ih x hx
    · simp only [List.mem_singleton] at hx; subst hx; exact Int.le_refl _
  | dec E L s v h hv ih =>
    intro x hx
    rcases List.mem_append.1 hx with hx | hx
    · have := ih x hx
      simp; omega
    · simp only [List.mem_singleton] at hx; subst hx; simp

theorem W.take {E : List TE} {L : List Int} (h : W E L) : ∀ k, k < L.length → W (E.take (L.getD k 0).toNat) (L.take k) ∧ E.take (L.getD k 0).toNat = E.filter (fun e => decide (e.2.1 ≤ (k : Int))) := by
  induction h with
  | nil => intro k hk; simp at hk
  | der E L t c h hc ih =>
    intro k hk
    obtain ⟨i1, i2⟩ := ih k hk
    have hx := h.lt _ (getD_mem (d := 0) hk)
    have e : (E ++ [(t, (L.length : Int), c)]).take (L.getD k 0).toNat = E.take (L.getD k 0).toNat := List.take_append_of_le_length (by omega)
    rw [e]
    refine ⟨i1, ?_⟩
    rw [List.filter_append, ← i2, List.filter_cons, if_neg (by simp; omega)]; simp
  | dec E L s v h hv ih =>
    intro k hk
    rcases Nat.lt_or_ge k L.length with hk' | hk'
    · obtain ⟨i1, i2⟩ := ih k hk'
      have hx := h.lt _ (getD_mem (d := 0) hk')
      have eg : (L ++ [(E.length : Int)]).getD k 0 = L.getD k 0 := by
        rw [List.getD_eq_getElem?_getD, List.getD_eq_getElem?_getD, List.getElem?_append_left hk']
      rw [eg]
      have e : (E ++ [((s, oneS v, false), (L.length : Int) + 1, (-1 : Int))]).take (L.getD k 0).toNat = E.take (L.getD k 0).toNat := List.take_append_of_le_length (by omega)
      have e2 : (L ++ [(E.length : Int)]).take k = L.take k := List.take_append_of_le_length (by omega)
      rw [e, e2]
      refine ⟨i1, ?_⟩
      rw [List.filter_append, ← i2, List.filter_cons, if_neg (by simp; omega)]; simp
    · have hk2 : k = L.length := by simp at hk; omega
      subst hk2
      have eg : (L ++ [(E.length : Int)]).getD L.length 0 = (E.length : Int) := by
        rw [List.getD_eq_getElem?_getD, List.getElem?_append_right (Nat.le_refl _), Nat.sub_self]; rfl
      rw [eg, Int.toNat_natCast]
      have e : (E ++ [((s, oneS v, false), (L.length : Int) + 1, (-1 : Int))]).take E.length = E := by simp
      have e2 : (L ++ [(E.length : Int)]).take L.length = L := by simp
      rw [e, e2]
      refine ⟨h, ?_⟩
      rw [List.filter_append, List.filter_cons, if_neg (by simp; omega)]
      simp only [List.filter_nil, List.append_nil]
      exact (List.filter_eq_self.2 fun e he => by simpa using h.lev e he).symm

theorem back_eq {E : List TE} {L : List Int} (h : W E L) (n : Int) : backD (E, (L.length : Int)) n = ((backM E L (max n 0)).1, (((backM E L (max n 0)).2.length : Nat) : Int)) ∧ W (backM E L (max n 0)).1 (backM E L (max n 0)).2 := by
  unfold backD backM
  by_cases hb : (L.length : Int) ≤ max n 0
  · rw [if_pos hb, if_pos hb]
    exact ⟨rfl, h⟩
  · rw [if_neg hb, if_neg hb]
    obtain ⟨k, hk⟩ := Int.eq_ofNat_of_zero_le (show 0 ≤ max n 0 by omega)
    rw [hk] at hb ⊢
    rw [Int.toNat_natCast]
    obtain ⟨w1, w2⟩ := h.take k (by omega)
    refine ⟨?_, w1⟩
    rw [w2]
    simp only [List.length_take]
    rw [Nat.min_eq_left (by omega)]

theorem dec_eq (E : List TE) (L : List Int) (s : List UInt8) (v : Int) : (decD (E, (L.length : Int)) s v).1 = (decM E L s v).1 ∧ (decD (E, (L.length : Int)) s v).2 = ((decM E L s v).2.1, ((decM E L s v).2.2.length : Int)) := by
  unfold decD decM
  split
  · exact ⟨rfl, rfl⟩
  · split
    · exact ⟨rfl, rfl⟩
    · exact ⟨rfl, by simp⟩
theorem der_eq (E : List TE) (L : List Int) (t : Term) (c : Int) : (derD (E, (L.length : Int)) t c).1 = (derM E L t c).1 ∧ (derD (E, (L.length : Int)) t c).2 = ((derM E L t c).2.1, ((derM E L t c).2.2.length : Int)) := by
  unfold derD derM
  split
  · exact ⟨rfl, rfl⟩
  · split
    · exact ⟨rfl, rfl⟩
    · split <;> exact ⟨rfl, rfl⟩

/-! ### picks -/
theorem picksF_app {x : TE} {E : List TE} : ∀ {L : List Int} {o : List Pk}, (∀ n ∈ L, 0 ≤ n ∧ n < (E.length : Int)) → picksF (E ++ [x]) L o = picksF E L o
  | [], o, _ => rfl
  | n :: r, o, h => by
    simp only [picksF]
    have hn := h n (by simp)
    have e : (E ++ [x]).getD n.toNat noTE = E.getD n.toNat noTE := by
      rw [List.getD_eq_getElem?_getD, List.getD_eq_getElem?_getD, List.getElem?_append_left (by omega)]
    rw [e, picksF_app fun m hm => h m (by simp [hm])]
theorem picksF_snoc {E : List TE} {n : Int} : ∀ {L : List Int} {o : List Pk}, picksF E (L ++ [n]) o = putM (picksF E L o) ((E.getD n.toNat noTE).1.1, leastS (E.getD n.toNat noTE).1.2.1)
  | [], o => rfl
  | m :: r, o => by
    simp only [List.cons_append, picksF]
    exact picksF_snoc
theorem picksD_snoc {e : TE} : ∀ {E : List TE} {o : List Pk}, picksD (E ++ [e]) o = if e.2.2 < 0 then putD (picksD E o) (e.1.1, (e.1.2.1.getD 0 (0, 0)).1) else picksD E o
  | [], o => by simp only [List.nil_append, picksD]
  | x :: r, o => by
    simp only [List.cons_append, picksD]
    split <;> exact picksD_snoc
theorem picks_eq {E : List TE} {L : List Int} (h : W E L) : picksM E L = picksD E [] ∧ UpK (picksM E L) ∧ ∀ e ∈ E, e.2.2 < 0 → e.1.2.1 ≠ [] := by
  induction h with
  | nil => exact ⟨rfl, List.Pairwise.nil, fun e he => by simp at he⟩
  | der E L t c h hc ih =>
    obtain ⟨i1, i2, i3⟩ := ih
    have e1 : picksM (E ++ [(t, (L.length : Int), c)]) L = picksM E L := picksF_app h.lt
    rw [e1]
    refine ⟨?_, i2, fun e he hc' => ?_⟩
    · rw [picksD_snoc, if_neg (by simp; omega)]; exact i1
    · rcases List.mem_append.1 he with he | he
      · exact i3 e he hc'
      · simp only [List.mem_singleton] at he; subst he; simp at hc'; omega
  | dec E L s v h hv ih =>
    obtain ⟨i1, i2, i3⟩ := ih
    have eat : (E ++ [((s, oneS v, false), (L.length : Int) + 1, (-1 : Int))]).getD (E.length : Int).toNat noTE = ((s, oneS v, false), (L.length : Int) + 1, -1) := by
      rw [Int.toNat_natCast, List.getD_eq_getElem?_getD, List.getElem?_append_right (Nat.le_refl _), Nat.sub_self]; rfl
    have hone : oneS v = [(v, v + 1)] := by unfold oneS; rw [if_pos hv]
    have e1 : picksM (E ++ [((s, oneS v, false), (L.length : Int) + 1, (-1 : Int))]) (L ++ [(E.length : Int)]) = putM (picksM E L) (s, v) := by
      unfold picksM
      rw [picksF_snoc, eat, picksF_app h.lt]
      simp [leastS, hone]
    rw [e1]
    refine ⟨?_, put_up i2 _, fun e he hc' => ?_⟩
    · rw [picksD_snoc, if_pos (by simp), putM_putD i2, i1]
      simp [hone]
    · rcases List.mem_append.1 he with he | he
      · exact i3 e he hc'
      · simp only [List.mem_singleton] at he; subst he
        show oneS v ≠ []
        rw [hone]; simp

/-! ### the first that know a clash -/
section
variable {E : List TE}
theorem ok_take (h : okTE E) (n : Nat) : okTE (E.take n) := ⟨by have := h.1; simp; omega, fun e he => h.2 e (List.mem_of_mem_take he)⟩
theorem within_cut {k e x : Term} (hk : okT k) (he : okT e) (hx : okT x) (hn : k.1 = e.1) (h : withinT k x = true) : withinT (meetT k e) x = true := by
  have hm : meetT k e = (k.1, Sg.meetS k.2.1 e.2.1, k.2.2 && e.2.2) := by rw [meetT, if_pos hn]
  rw [hm]
  unfold withinT at h ⊢
  simp only [Bool.and_eq_true, decide_eq_true_eq] at h ⊢
  obtain ⟨h1, h2, h3⟩ := h
  refine ⟨h1, ?_, ?_⟩
  · cases h4 : k.2.2 <;> cases h5 : e.2.2 <;> simp_all
  · refine (Sg.subS_iff (Sg.meet_ok hk he) hx).2 fun p hp => ?_
    rw [Sg.meet_has hk he, Bool.and_eq_true] at hp
    exact (Sg.subS_iff hk hx).1 h3 p hp.1
theorem take_snoc {n : Nat} (h : n < E.length) : E.take (n + 1) = E.take n ++ [E.getD n noTE] := by
  rw [List.take_add_one, List.getElem?_eq_getElem h, List.getD_eq_getElem?_getD, List.getElem?_eq_getElem h]; rfl
theorem know_step {n : Nat} (h : n < E.length) (s : List UInt8) : knowM (E.take (n + 1)) s = if (E.getD n noTE).1.1 = s then meetT (knowM (E.take n) s) (E.getD n noTE).1 else knowM (E.take n) s := by
  rw [take_snoc h, knowM_append]
theorem within_mono (hE : okTE E) {x : Term} (hx : okT x) : ∀ {i j : Nat}, i ≤ j → j ≤ E.length → withinT (knowM (E.take i) x.1) x = true → withinT (knowM (E.take j) x.1) x = true := by
  intro i j hij
  induction j with
  | zero =>
    intro _ h
    have : i = 0 := by omega
    subst this; exact h
  | succ j ih =>
    intro hj h
    by_cases e : i = j + 1
    · subst e; exact h
    · have h1 := ih (by omega) (by omega) h
      rw [know_step (by omega)]
      split
      · rename_i hn
        exact within_cut (knowM_ok (ok_take hE j) x.1) (hE.2 _ (getD_mem (by omega))) hx (by rw [knowM_name, hn]) h1
      · exact h1

theorem frF_spec (x : Term) : ∀ (m j : Nat), m + j = E.length →
    (frF x (E.drop j) (knowM (E.take j) x.1) j = none ∧ ∀ i, j ≤ i → i ≤ E.length → withinT (knowM (E.take i) x.1) x = false) ∨
    (∃ n, frF x (E.drop j) (knowM (E.take j) x.1) j = some n ∧ j ≤ n ∧ n ≤ E.length ∧ withinT (knowM (E.take n) x.1) x = true ∧ ∀ i, j ≤ i → i < n → withinT (knowM (E.take i) x.1) x = false) := by
  intro m
  induction m with
  | zero =>
    intro j hm
    rw [List.drop_eq_nil_of_le (by omega)]
    simp only [frF]
    cases hw : withinT (knowM (E.take j) x.1) x with
    | true => exact .inr ⟨j, by simp, Nat.le_refl _, by omega, hw, fun i h1 h2 => by omega⟩
    | false =>
      refine .inl ⟨by simp, fun i h1 h2 => ?_⟩
      have : i = j := by omega
      subst this; exact hw
  | succ m ih =>
    intro j hm
    rw [dropD E noTE j (by omega)]
    simp only [frF]
    cases hw : withinT (knowM (E.take j) x.1) x with
    | true => exact .inr ⟨j, by simp, Nat.le_refl _, by omega, hw, fun i h1 h2 => by omega⟩
    | false =>
      have e : (if (E.getD j noTE).1.1 = x.1 then meetT (knowM (E.take j) x.1) (E.getD j noTE).1 else knowM (E.take j) x.1) = knowM (E.take (j + 1)) x.1 := (know_step (by omega) x.1).symm
      rw [e]
      simp only [Bool.false_eq_true, if_false]
      rcases ih (j + 1) (by omega) with ⟨h1, h2⟩ | ⟨n, h1, h2, h3, h4, h5⟩
      · refine .inl ⟨h1, fun i i1 i2 => ?_⟩
        by_cases e : i = j
        · subst e; exact hw
        · exact h2 i (by omega) i2
      · refine .inr ⟨n, h1, by omega, h3, h4, fun i i1 i2 => ?_⟩
        by_cases e : i = j
        · subst e; exact hw
        · exact h5 i (by omega) i2

theorem firstF_spec (hE : okTE E) : ∀ (c : List Term) (m : Nat), (∀ t ∈ c, okT t) → m ≤ E.length →
    (firstF E c m = -1 ∧ ∃ t ∈ c, ∀ i, i ≤ E.length → withinT (knowM (E.take i) t.1) t = false) ∨
    (∃ n : Nat, firstF E c m = (n : Int) ∧ m ≤ n ∧ n ≤ E.length ∧ (∀ t ∈ c, withinT (knowM (E.take n) t.1) t = true) ∧ (n = m ∨ ∃ t ∈ c, ∀ i, i < n → withinT (knowM (E.take i) t.1) t = false))
  | [], m, _, hm => .inr ⟨m, rfl, Nat.le_refl _, hm, fun t ht => by simp at ht, .inl rfl⟩
  | x :: r, m, hc, hm => by
    have hx := hc x (by simp)
    simp only [firstF]
    have e0 : fullT x.1 = knowM (E.take 0) x.1 := by rw [List.take_zero]; rfl
    rcases frF_spec (E := E) x E.length 0 (by omega) with ⟨h1, h2⟩ | ⟨j, h1, h2, h3, h4, h5⟩
    · rw [List.drop_zero, ← e0] at h1
      rw [h1]
      exact .inl ⟨rfl, x, by simp, fun i hi => h2 i (by omega) hi⟩
    · rw [List.drop_zero, ← e0] at h1
      rw [h1]
      simp only
      rcases firstF_spec hE r (max m j) (fun t ht => hc t (by simp [ht])) (by omega) with ⟨k1, t, k2, k3⟩ | ⟨n, k1, k2, k3, k4, k5⟩
      · exact .inl ⟨k1, t, by simp [k2], k3⟩
      · refine .inr ⟨n, k1, by omega, k3, fun t ht => ?_, ?_⟩
        · rcases List.mem_cons.1 ht with rfl | ht
          · exact within_mono hE hx (show j ≤ n by omega) k3 h4
          · exact k4 t ht
        · rcases k5 with k5 | ⟨t, k5, k6⟩
          · by_cases e : m ≥ j
            · exact .inl (by omega)
            · refine .inr ⟨x, by simp, fun i hi => h5 i (by omega) (by omega)⟩
          · exact .inr ⟨t, by simp [k5], k6⟩

theorem allK_iff {n : Nat} : ∀ {c : List Term} {b : Bool}, allK E n c b = true ↔ b = true ∧ ∀ t ∈ c, withinT (knowM (E.take n) t.1) t = true
  | [], b => by simp [allK]
  | x :: r, b => by
    simp only [allK]
    rw [allK_iff]
    simp only [Bool.and_eq_true, List.mem_cons, forall_eq_or_imp, and_assoc]
theorem firstD_spec (c : List Term) : ∀ (m n : Nat), m + n = E.length + 1 →
    (firstD E c m n = -1 ∧ ∀ i, n ≤ i → i ≤ E.length → allK E i c true = false) ∨
    (∃ k : Nat, firstD E c m n = (k : Int) ∧ n ≤ k ∧ k ≤ E.length ∧ allK E k c true = true ∧ ∀ i, n ≤ i → i < k → allK E i c true = false) := by
  intro m
  induction m with
  | zero => intro n hm; exact .inl ⟨rfl, fun i h1 h2 => by omega⟩
  | succ m ih =>
    intro n hm
    simp only [firstD]
    cases ha : allK E n c true with
    | true => exact .inr ⟨n, by simp, Nat.le_refl _, by omega, ha, fun i h1 h2 => by omega⟩
    | false =>
      simp only [Bool.false_eq_true, if_false]
      rcases ih (n + 1) (by omega) with ⟨h1, h2⟩ | ⟨k, h1, h2, h3, h4, h5⟩
      · refine .inl ⟨h1, fun i i1 i2 => ?_⟩
        by_cases e : i = n
        · subst e; exact ha
        · exact h2 i (by omega) i2
      · refine .inr ⟨k, h1, by omega, h3, h4, fun i i1 i2 => ?_⟩
        by_cases e : i = n
        · subst e; exact ha
        · exact h5 i (by omega) i2
theorem first_eq (hE : okTE E) (c : List Term) (hc : ∀ t ∈ c, okT t) : firstM E c = firstD E c (E.length + 1) 0 := by
  unfold firstM
  rcases firstF_spec hE c 0 hc (by omega) with ⟨h1, t, h2, h3⟩ | ⟨n, h1, h2, h3, h4, h5⟩
  · rw [h1]
    rcases firstD_spec (E := E) c (E.length + 1) 0 (by omega) with ⟨k1, _⟩ | ⟨k, k1, k2, k3, k4, k5⟩
    · exact k1.symm
    · have := (allK_iff.1 k4).2 t h2
      rw [h3 k k3] at this; cases this
  · rw [h1]
    rcases firstD_spec (E := E) c (E.length + 1) 0 (by omega) with ⟨k1, k2⟩ | ⟨k, k1, k2, k3, k4, k5⟩
    · have := k2 n (by omega) h3
      rw [allK_iff.2 ⟨rfl, h4⟩] at this; cases this
    · rw [k1]
      congr 1
      rcases Nat.lt_trichotomy n k with hlt | he | hlt
      · have := k5 n (by omega) hlt
        rw [allK_iff.2 ⟨rfl, h4⟩] at this; cases this
      · exact he
      · rcases h5 with e | ⟨t, t1, t2⟩
        · omega
        · have := (allK_iff.1 k4).2 t t1
          rw [t2 k hlt] at this; cases this
end
end Tp
end

section
/- TrailPlays: what is done to both trails; are they alike; the law. -/

set_option linter.unusedVariables false
set_option linter.unusedSimpArgs false
set_option maxRecDepth 100000
open Go Go.Ab Go.Proofs V S T C
open W (slS)
open Sp
namespace Tl
open Tm (okT agT fullT meetT meetT_spec ok_meet ok_full full_spec emptyT empty_spec withinT within_specT hasT has_specT chkT nameEq oneS one_spec)
section
variable {H : List AObj} {p a b : Nat} {E E' : List TE} {L L' : List Int}
theorem backA0 (n : Int) (hL : ∀ x ∈ L, 0 ≤ x ∧ x ≤ (E.length : Int)) {R : List TE × List Int} (hR : backM E L (max n 0) = R) :
    ASpec Try.prog 35 [.ptr 0 0, .int .i64 n] (HT E L) (fun r H' => r = .tup [] ∧ H' = [tO R.1 R.2 3 4, .gone, .gone, .tok, .tok]) := by
  have e1 : (if (0 : Int) > n then (0 : Int) else n) = max n 0 := by split <;> omega
  have hn : 0 ≤ max n 0 := by omega
  refine ASpec.selM (ASpec.reEnd (s35 _ _ _ _ (ASpec.call (level_spec (atL E L [])) (Les.refl _) ⟨(L.length : Int), rfl, rfl, ?_⟩)))
  rw [e1]
  generalize max n 0 = n at hn hR ⊢
  refine condD (fun h => ?_) fun h => ?_
  · rw [backM, if_pos (by omega)] at hR; subst hR
    exact ⟨.tup [], HT E L, ReSt.le (fun d => Le.refl _) (by show 3 ≤ 3; omega), end3 (n := 3) [] (fun ρ => Le.refl _) rfl⟩
  · rw [backM, if_neg (by omega)] at hR; subst hR
    obtain ⟨k, rfl⟩ := Int.eq_ofNat_of_zero_le hn
    rw [Int.toNat_natCast]
    have hk : k < L.length := by omega
    have hx := hL _ (getD_mem (d := 0) hk)
    refine needJ ⟨by omega, by omega⟩ (needJ ⟨hx.1, hx.2, rfl⟩ (needJ ⟨by omega, by omega, rfl⟩ ?_))
    rw [List.drop_zero, List.drop_zero]
    generalize (L.getD k 0).toNat = j
    refine ⟨.tup [], [.cells [.sl 5 (.map encTE noTE (E.take j)) (.tok 3), .sl 1 (.map encI 0 (L.take k)) (.tok 4)], .tok, .tok, .tok, .tok], ?_, [0, 1, 2, 3, 4], [false, true, true, false, false], [tO (E.take j) (L.take k) 3 4, .gone, .gone, .tok, .tok], .tup [], ⟨by decide, rfl, rfl, by show 3 ≤ 5; omega, fun i hi => ?_, fun i hi => ?_⟩, Le.refl _, rfl, rfl⟩
    · refine ReSt.trans (ReSt.tokCell (id := 0) (j := 0) (sz := 5) (q := .map encTE noTE (E.take j)) (tip := .full) (cs := [.sl 5 (.map encTE noTE (E.take j)) .full, .sl 1 (.map encI 0 (L.take k)) .full]) (q' := .map encTE noTE (E.take j)) (sz' := 5) rfl rfl (.inr rfl) rfl (.inl rfl)) ?_
      exact ReSt.tokCell (id := 0) (j := 1) (sz := 1) (q := .map encI 0 (L.take k)) (tip := .full) (cs := [.sl 5 (.map encTE noTE (E.take j)) (.tok 3), .sl 1 (.map encI 0 (L.take k)) .full]) (q' := .map encI 0 (L.take k)) (sz' := 1) rfl rfl (.inr rfl) rfl (.inl rfl)
    · match i, hi with
      | 0, _ | 1, _ | 2, _ => rfl
    · match i, hi with
      | 0, _ => exact .inl rfl
      | 1, _ | 2, _ => exact .inr rfl
      | 3, _ | 4, _ => exact .inl rfl

theorem backA_spec (h : At H p a b E L) (n : Int) (hL : ∀ x ∈ L, 0 ≤ x ∧ x ≤ (E.length : Int)) :
    ASpec Try.prog 35 [.ptr p 0, .int .i64 n] H (fun r H' => r = .tup [] ∧ H' = hTt H p a b (backM E L (max n 0)).1 (backM E L (max n 0)).2) :=
  liftG h (backA0 n hL rfl) rfl rfl (gT h)

theorem knowN_spec (h : At H p a b E L) (hE : okTE E) (n : Int) (s : List UInt8) : ASpec Try.prog 86 [.ptr p 0, .int .i64 n, .str (B s)] H (fun r H' => r = agT (knowM (E.take n.toNat) s) ∧ H' = H) := by
  have k : ASpec Try.prog 86 [.ptr 0 0, .int .i64 n, .str (B s)] (HT E L) (fun r H' => r = agT (knowM (E.take n.toNat) s) ∧ H' = HT E L) := by
    refine ASpec.sel (s86 _ _ _ _ _ (ASpec.call (full_spec s _) (Les.refl _) ⟨fullT s, rfl, rfl, needJ (by split <;> split <;> omega) ?_⟩))
    have e1 : (if (if (E.length : Int) < n then (E.length : Int) else n) > 0 then (if (E.length : Int) < n then (E.length : Int) else n) else 0) = ((min n.toNat E.length : Nat) : Int) := by split <;> split <;> omega
    have e1' : (if (if n < (E.length : Int) then n else (E.length : Int)) > 0 then (if n < (E.length : Int) then n else (E.length : Int)) else 0) = ((min n.toNat E.length : Nat) : Int) := by split <;> split <;> omega
    first | rw [e1] | rw [e1']
    rw [Int.toNat_natCast, List.drop_zero]
    have e2 : E.take (min n.toNat E.length) = E.take n.toNat := by rw [List.take_eq_take_iff]; omega
    rw [e2]
    have hok : okTE (E.take n.toNat) := ⟨by have := hE.1; simp; omega, fun e he => hE.2 e (List.mem_of_mem_take he)⟩
    exact know5 hok (E.take n.toNat).length 0 (fullT s) (by omega) (ok_full s) rfl
  exact liftG h k rfl rfl (gSame h)

/-! ### a trail that is none -/
theorem lenN (H : List AObj) : ASpec Try.prog 80 [.nilp] H (fun r H' => r = .int .i64 0 ∧ H' = H) :=
  ASpec.pureH (r0 := .int .i64 0) H (Tn.s80 _ ⟨rfl, rfl⟩) _ _ rfl rfl
theorem levelN (H : List AObj) : ASpec Try.prog 30 [.nilp] H (fun r H' => r = .int .i64 0 ∧ H' = H) :=
  ASpec.pureH (r0 := .int .i64 0) H (Tn.s30 _ ⟨rfl, rfl⟩) _ _ rfl rfl
theorem backN (H : List AObj) : ASpec Try.prog 35 [.nilp, .int .i64 0] H (fun r H' => r = .tup [] ∧ H' = H) :=
  ASpec.pureH (r0 := .tup []) H (Tn.s35 0 _ (ASpec.call (levelN _) (Les.refl _) ⟨0, rfl, rfl, condD (fun _ => ⟨rfl, rfl⟩) fun h => absurd (by decide) h⟩)) _ _ rfl rfl
theorem decN (s : List UInt8) (v : Int) (H : List AObj) : ASpec Try.prog 31 [.nilp, .str (B s), .int .i64 v] H (fun r H' => r = .int .i64 1 ∧ H' = H) :=
  ASpec.pureH (r0 := .int .i64 1) H (Tn.s31 s v _ ⟨rfl, rfl⟩) _ _ rfl rfl
theorem derN (t : Term) (v : Int) (H : List AObj) : ASpec Try.prog 32 [.nilp, agT t, .int .i64 v] H (fun r H' => r = .int .i64 1 ∧ H' = H) :=
  ASpec.pureH (r0 := .int .i64 1) H (ASpec.sel (Tn.s32 t v _ (Sg.pa (Le.refl _)))) _ _ rfl rfl
theorem knowAtN (n : Int) (s : List UInt8) (H : List AObj) : ASpec Try.prog 86 [.nilp, .int .i64 n, .str (B s)] H (fun r H' => r = agT (fullT s) ∧ H' = H) :=
  ASpec.pureH (r0 := agT (fullT s)) H (ASpec.sel (Tn.s86 n s _ (ASpec.call (full_spec s _) (Les.refl _) ⟨fullT s, rfl, rfl, Sg.pa (Le.refl _)⟩))) _ _ rfl rfl
theorem knowNN (s : List UInt8) (H : List AObj) : ASpec Try.prog 29 [.nilp, .str (B s)] H (fun r H' => r = agT (fullT s) ∧ H' = H) :=
  ASpec.pureH (r0 := agT (fullT s)) H (ASpec.sel (Tn.s29 s _ (ASpec.call (lenN _) (Les.refl _) ⟨0, rfl, rfl, ASpec.call (knowAtN 0 s _) (Les.refl _) ⟨fullT s, rfl, rfl, Sg.pa (Le.refl _)⟩⟩))) _ _ rfl rfl
end
end Tl

namespace Tp
open Tm (okT agT fullT meetT ok_meet ok_full emptyT withinT hasT chkT oneS)
open Tl (At liftG gSame okTE knowF knowM knowM_ok getD_mem atL backM decM derM Res hTt dec_spec der_spec backA_spec level_spec len_spec know_spec)
open Td (decD derD backD picksD agX rdec_spec rder_spec rback_spec)
open Tx (picksM slC)
open Pc (slK)
section
variable {E E' : List TE} {L L' : List Int}

/-- what is left when something was done -/
noncomputable def stepM (E : List TE) (L : List Int) (d : Dt) : List TE × List Int :=
  if d.1 = 0 then (decM E L d.2.2.2.1 d.2.1).2 else if d.1 = 1 then (derM E L d.2.2.2 d.2.2.1).2 else backM E L (max d.2.2.1 0)
noncomputable abbrev xO (E : List TE) (L : List Int) : AObj := .cells (encXt (E, (L.length : Int)))
noncomputable abbrev HS (E : List TE) (L : List Int) : List AObj := HT E L ++ [xO E L]

abbrev PM (E' : List TE) (L' : List Int) : AV → List AObj → Prop := fun r H' => ∃ l gb H2 r2, SelM 4 l gb H' H2 ∧ Le r (AV.ren (selR l H'.length) r2) ∧ (r2 = .bool true ∧ H2 = [tO E' L' 4 5, .gone, .gone, xO E' L', .tok, .tok])
theorem pm (q : AObj) : PM E' L' (.bool true) [tO E' L' 5 6, .gone, .gone, xO E' L', q, .tok, .tok] := by
  refine ⟨[0, 1, 2, 3, 5, 6], [false, true, true, false, false, false], [tO E' L' 4 5, .gone, .gone, xO E' L', .tok, .tok], .bool true, ⟨by decide, rfl, rfl, by decide, fun j hj => ?_, fun j hj => ?_⟩, Le.refl _, rfl, rfl⟩
  · match j, hj with
    | 0, _ | 1, _ | 2, _ | 3, _ => rfl
  · match j, hj with
    | 0, _ | 3, _ | 4, _ | 5, _ => exact .inl rfl
    | 1, _ | 2, _ => exact .inr rfl

theorem step0 (hW : W E L) (hE : okTE E) (hL : L.length ≤ 1000) (d : Dt) (hd : d.2.2.2.1.length ≤ 200 ∧ d.2.2.2.2.1.length ≤ 60) :
    ASpec Try.prog 79 [.ptr 0 0, .ptr 3 0, .agg (encDt d)] (HS E L) (fun r H' => r = .bool true ∧ H' = [tO (stepM E L d).1 (stepM E L d).2 4 5, .gone, .gone, xO (stepM E L d).1 (stepM E L d).2, .tok, .tok]) := by
  have hlL : L.length ≤ lim := by unfold lim; omega
  have hE1 := hE.1
  refine ASpec.selM (s79 _ _ _ _ (condE (fun h0 => ?_) fun h0 => condE (fun h1 => ?_) fun h1 => ?_))
  · refine ASpec.call (dec_spec (atL E L _) hE hlL d.2.2.2.1 (by unfold lim; omega) d.2.1) (Les.refl _) ⟨decM E L d.2.2.2.1 d.2.1, rfl, rfl, ?_⟩
    have hq := rdec_spec (p := 3) (x := (E, (L.length : Int))) (H := [tO (decM E L d.2.2.2.1 d.2.1).2.1 (decM E L d.2.2.2.1 d.2.1).2.2 5 6, .gone, .gone, xO E L, .cells (encDt d), .tok, .tok]) rfl hE ⟨by simp, by simp; omega⟩ d.2.2.2.1 (by unfold lim; omega) d.2.1
    obtain ⟨e1, e2⟩ := dec_eq E L d.2.2.2.1 d.2.1
    rw [e1, e2] at hq
    repeat refine ⟨⟨rfl, rfl⟩, ?_⟩
    refine ASpec.call hq (Les.refl _) ⟨((decM E L d.2.2.2.1 d.2.1).1, (decM E L d.2.2.2.1 d.2.1).2.1, ((decM E L d.2.2.2.1 d.2.1).2.2.length : Int)), rfl, rfl, ?_⟩
    have es : stepM E L d = (decM E L d.2.2.2.1 d.2.1).2 := by rw [stepM, if_pos h0]
    rw [es]
    have eb : ((decM E L d.2.2.2.1 d.2.1).1 == (decM E L d.2.2.2.1 d.2.1).1) = true := by simp
    simp only [eb]
    exact pm _
  · refine ASpec.call (der_spec (atL E L _) hE hlL d.2.2.2 (by unfold lim; omega) (by unfold lim; omega) d.2.2.1) (Les.refl _) ⟨derM E L d.2.2.2 d.2.2.1, rfl, rfl, ?_⟩
    have hq := rder_spec (p := 3) (x := (E, (L.length : Int))) (H := [tO (derM E L d.2.2.2 d.2.2.1).2.1 (derM E L d.2.2.2 d.2.2.1).2.2 5 6, .gone, .gone, xO E L, .cells (encDt d), .tok, .tok]) rfl hE d.2.2.2 (by unfold lim; omega) (by unfold lim; omega) d.2.2.1
    obtain ⟨e1, e2⟩ := der_eq E L d.2.2.2 d.2.2.1
    rw [e1, e2] at hq
    repeat refine ⟨⟨rfl, rfl⟩, ?_⟩
    refine ASpec.call hq (Les.refl _) ⟨((derM E L d.2.2.2 d.2.2.1).1, (derM E L d.2.2.2 d.2.2.1).2.1, ((derM E L d.2.2.2 d.2.2.1).2.2.length : Int)), rfl, rfl, ?_⟩
    have es : stepM E L d = (derM E L d.2.2.2 d.2.2.1).2 := by rw [stepM, if_neg h0, if_pos h1]
    rw [es]
    have eb : ((derM E L d.2.2.2 d.2.2.1).1 == (derM E L d.2.2.2 d.2.2.1).1) = true := by simp
    simp only [eb]
    exact pm _
  · refine ASpec.call (backA_spec (atL E L _) d.2.2.1 (fun x hx => by have := hW.lt x hx; omega)) (Les.refl _) ⟨backM E L (max d.2.2.1 0), rfl, rfl, ?_⟩
    have hq := rback_spec (p := 3) (x := (E, (L.length : Int))) (H := [tO (backM E L (max d.2.2.1 0)).1 (backM E L (max d.2.2.1 0)).2 5 6, .gone, .gone, xO E L, .cells (encDt d), .tok, .tok]) rfl hE1 d.2.2.1
    rw [(back_eq hW d.2.2.1).1] at hq
    refine ASpec.call hq (Les.refl _) ⟨((backM E L (max d.2.2.1 0)).1, (((backM E L (max d.2.2.1 0)).2.length : Nat) : Int)), rfl, rfl, ?_⟩
    have es : stepM E L d = backM E L (max d.2.2.1 0) := by rw [stepM, if_neg h0, if_neg h1]
    rw [es]
    exact pm _

theorem oneS_ok {s : List UInt8} (v : Int) : okT (s, oneS v, false) := by
  show chkS (-1) (oneS v) = true
  unfold oneS
  split
  · exact chkS_mk (by omega) (by omega) (by omega) rfl
  · rfl

/-! ### what holds on the way -/
structure Inv (i : Nat) (E : List TE) (L : List Int) : Prop where
  w : W E L
  ok : okTE E
  le : E.length ≤ i ∧ L.length ≤ i
  sz : ∀ e ∈ E, e.1.2.1.length ≤ lim
theorem inv0 : Inv 0 [] [] := ⟨.nil, ⟨by simp, fun e he => by simp at he⟩, ⟨by simp, by simp⟩, fun e he => by simp at he⟩
theorem inv_step {i : Nat} (h : Inv i E L) (hi : i ≤ 1000) (d : Dt) (hd : d.2.2.2.1.length ≤ 200 ∧ d.2.2.2.2.1.length ≤ 60) : Inv (i + 1) (stepM E L d).1 (stepM E L d).2 := by
  obtain ⟨h1, h2, h3, h4⟩ := h
  have same : Inv (i + 1) E L := ⟨h1, h2, ⟨by omega, by omega⟩, h4⟩
  have app : ∀ (x : TE) (L' : List Int), W (E ++ [x]) L' → okT x.1 → x.1.2.1.length ≤ lim → L'.length ≤ i + 1 → Inv (i + 1) (E ++ [x]) L' := by
    intro x L' hw hx hs hl
    refine ⟨hw, ⟨by unfold lim; simp; omega, fun e he => ?_⟩, ⟨by simp; omega, hl⟩, fun e he => ?_⟩
    · rcases List.mem_append.1 he with he | he
      · exact h2.2 e he
      · simp only [List.mem_singleton] at he; subst he; exact hx
    · rcases List.mem_append.1 he with he | he
      · exact h4 e he
      · simp only [List.mem_singleton] at he; subst he; exact hs
  unfold stepM
  by_cases c0 : d.1 = 0
  · rw [if_pos c0]
    unfold decM
    by_cases c1 : fitM d.2.2.2.1 = false ∨ d.2.1 < 0 ∨ 1000000000 ≤ d.2.1
    · rw [if_pos c1]; exact same
    · rw [if_neg c1]
      split
      · exact same
      · refine app _ _ (.dec E L _ _ h1 (by omega)) (oneS_ok _) ?_ (by simp; omega)
        show (oneS d.2.1).length ≤ lim
        unfold oneS lim; split <;> simp
  · rw [if_neg c0]
    by_cases c1 : d.1 = 1
    · rw [if_pos c1]
      unfold derM
      by_cases c2 : chkT d.2.2.2 = false ∨ d.2.2.1 < 0
      · rw [if_pos c2]; exact same
      · rw [if_neg c2]
        split
        · exact same
        · split
          · exact same
          · have hck : chkT d.2.2.2 = true := by
              cases hq : chkT d.2.2.2 with
              | true => rfl
              | false => exact absurd (.inl hq) c2
            unfold chkT at hck
            rw [Bool.and_eq_true] at hck
            exact app _ _ (.der E L _ _ h1 (by omega)) hck.2 (by show d.2.2.2.2.1.length ≤ lim; unfold lim; omega) (by show L.length ≤ i + 1; omega)
    · rw [if_neg c1]
      have hb := (back_eq h1 d.2.2.1).2
      have hm : ∀ e ∈ (backM E L (max d.2.2.1 0)).1, e ∈ E := by
        intro e he
        unfold backM at he
        split at he
        · exact he
        · exact List.mem_of_mem_take he
      have hle : (backM E L (max d.2.2.1 0)).1.length ≤ E.length ∧ (backM E L (max d.2.2.1 0)).2.length ≤ L.length := by
        unfold backM
        split
        · exact ⟨Nat.le_refl _, Nat.le_refl _⟩
        · exact ⟨by simp; omega, by simp; omega⟩
      exact ⟨hb, ⟨by have := h2.1; omega, fun e he => h2.2 e (hm e he)⟩, ⟨by omega, by omega⟩, fun e he => h4 e (hm e he)⟩

/-! ### are they alike? -/
abbrev P4 (E : List TE) (L : List Int) : AV → List AObj → Prop := fun r H' => ∃ q H2 r2, Sel 3 q H' H2 ∧ Le r (AV.ren (selR q H'.length) r2) ∧ (r2 = .bool true ∧ H2 = HT E L)
theorem p4 {H' : List AObj} (q : List AObj) : P4 E L (.bool true) (tO E L 1 2 :: .tok :: .tok :: q) := Tx.ps q fun ρ => Le.refl _
theorem same9 {i : Nat} (h : Inv i E L) (hi : i ≤ 1000) : AWP Try.prog 115 3 c84_9 [(0, .ptr 0 0), (3, .ptr 3 0)] (HS E L) (q84_0 3 (P4 E L)) := by
  have a1 : ∀ q, ASpec Try.prog 206 [.ptr 0 0, .int .i64 (-1)] (tO E L 1 2 :: .tok :: .tok :: q) (fun r H' => r = .tup [.agg (encTE noTE), .bool false] ∧ H' = tO E L 1 2 :: .tok :: .tok :: q) := by
    intro q
    have := Tx.at_spec (atL E L q) h.sz (by have := h.le; omega) (-1)
    rw [Tx.atM, if_neg (by omega)] at this
    exact this
  have a2 : ∀ q, ASpec Try.prog 206 [.ptr 0 0, .int .i64 (E.length : Int)] (tO E L 1 2 :: .tok :: .tok :: q) (fun r H' => r = .tup [.agg (encTE noTE), .bool false] ∧ H' = tO E L 1 2 :: .tok :: .tok :: q) := by
    intro q
    have := Tx.at_spec (atL E L q) h.sz (by have := h.le; omega) (E.length : Int)
    rw [Tx.atM, if_neg (by omega)] at this
    exact this
  refine v84_9 _ _ _ _ (ASpec.call (a1 _) (Les.refl _) ⟨(noTE, false), rfl, rfl, ASpec.call (a2 _) (Les.refl _) ⟨(noTE, false), rfl, rfl, ?_⟩⟩)
  exact condBn (fun _ => p4 (H' := []) _) fun h => by cases h
theorem same4 {i : Nat} (h : Inv i E L) (hi : i ≤ 1000) : ∀ (m k : Nat), m + k = E.length → AWP Try.prog 115 3 c84_4 [(0, .ptr 0 0), (3, .ptr 3 0), (5, .int .i64 k)] (HS E L) (q84_2 3 (P4 E L)) := by
  have hl := h.le
  intro m
  induction m with
  | zero =>
    intro k hm
    exact v84_4 _ _ _ _ _ (condD (fun hc => by omega) fun _ => same9 h hi)
  | succ m ih =>
    intro k hm
    refine v84_4 _ _ _ _ _ (condD (fun _ => ?_) fun hc => by omega)
    have a1 : ∀ q, ASpec Try.prog 206 [.ptr 0 0, .int .i64 (k : Int)] (tO E L 1 2 :: .tok :: .tok :: q) (fun r H' => r = .tup [.agg (encTE (E.getD k noTE)), .bool true] ∧ H' = tO E L 1 2 :: .tok :: .tok :: q) := by
      intro q
      have := Tx.at_spec (atL E L q) h.sz (by omega) (k : Int)
      rw [Tx.atM, if_pos (by omega), Int.toNat_natCast] at this
      exact this
    refine ASpec.call (a1 _) (Les.refl _) ⟨(E.getD k noTE, true), rfl, rfl, condBn (fun h => by cases h) fun _ => needJ ⟨by omega, by omega⟩ ?_⟩
    rw [Int.toNat_natCast, succ64 (by omega)]
    have hx := getD_mem (d := noTE) (show k < E.length by omega)
    have hxs := h.sz _ hx
    have hk : AWP Try.prog 115 3 c84_4 [(0, .ptr 0 0), (3, .ptr 3 0), (5, .int .i64 (k + 1 : Nat))] (HS E L) (q84_2 3 (P4 E L)) := ih (k + 1) (by omega)
    generalize E.getD k noTE = e at hxs ⊢
    unfold lim at hxs
    refine ASpec.call (Tm.rsame_specT e.1 e.1 (by omega) _) (Les.refl _) ⟨_, rfl, rfl, condBn (fun h => by simp at h) fun _ => needJ ⟨by omega, by omega⟩ ?_⟩
    refine condNe (fun h => absurd rfl h) fun _ => needJ ⟨by omega, by omega⟩ (condNe (fun h => absurd rfl h) fun _ => ?_)
    refine ASpec.call (know_spec (atL E L _) h.ok e.1.1) (Les.refl _) ⟨knowM E e.1.1, rfl, rfl, ?_⟩
    repeat refine ⟨⟨rfl, rfl⟩, ?_⟩
    refine ASpec.call (Td.rknow_spec (E, (L.length : Int)) h.ok e.1.1 _) (Les.refl _) ⟨knowM E e.1.1, rfl, rfl, ?_⟩
    have hkl := Sg.ok_len (knowM_ok h.ok e.1.1)
    refine ASpec.call (Tm.rsame_specT (knowM E e.1.1) (knowM E e.1.1) (by omega) _) (Les.refl _) ⟨_, rfl, rfl, condBn (fun h => by simp at h) fun _ => ?_⟩
    refine AWP.shape [0, 1, 2, 3] [(0, .ptr 0 0), (3, .ptr 3 0), (5, .int .i64 (k + 1 : Nat))] (HS E L) ⟨by decide, rfl, by decide, fun j hj => ?_, fun j hj => ?_⟩ ⟨rfl, Le.refl _, rfl, Le.refl _, rfl, Le.refl _, trivial⟩ hk
    · match j, hj with
      | 0, _ | 1, _ | 2, _ => rfl
    · match j, hj with
      | 0, _ | 1, _ | 2, _ | 3, _ => exact .inl rfl
theorem same_spec {H : List AObj} {p a b i : Nat} (hA : At H p a b E L) (h : Inv i E L) (hi : i ≤ 1000) : ASpec Try.prog 84 [.ptr p 0, agX (E, (L.length : Int))] H (fun r H' => r = .bool true ∧ H' = H) := by
  have hl := h.le
  have k : ASpec Try.prog 84 [.ptr 0 0, agX (E, (L.length : Int))] (HT E L) (fun r H' => r = .bool true ∧ H' = HT E L) := by
    obtain ⟨g1, g2, g3⟩ := picks_eq h.w
    refine ASpec.sel (s84 _ _ _ (ASpec.call (len_spec (atL E L _)) (Les.refl _) ⟨_, rfl, rfl, ?_⟩))
    repeat refine ⟨⟨rfl, rfl⟩, ?_⟩
    refine condNe (fun h => absurd rfl h) fun _ => ?_
    refine ASpec.call (level_spec (atL E L _)) (Les.refl _) ⟨_, rfl, rfl, ?_⟩
    repeat refine ⟨⟨rfl, rfl⟩, ?_⟩
    refine condNe (fun h => absurd rfl h) fun _ => ?_
    refine ASpec.call (Tx.picks_spec (atL E L _) h.w.lt (by omega)) (Les.refl _) ⟨picksM E L, rfl, rfl, ?_⟩
    repeat refine ⟨⟨rfl, rfl⟩, ?_⟩
    refine ASpec.call (Td.rpicks_spec (E, (L.length : Int)) (by show E.length ≤ 10000; omega) g3 _) (Les.refl _) ⟨picksM E L, by rw [g1], rfl, ?_⟩
    have hpl : (picksM E L).length ≤ 100000 := by
      have : ∀ (L : List Int) (o : List Pk), (Tx.picksF E L o).length ≤ o.length + L.length := by
        intro L
        induction L with
        | nil => intro o; simp [Tx.picksF]
        | cons n r ih =>
          intro o
          simp only [Tx.picksF]
          have h1 := ih (Pc.putM o ((E.getD n.toNat noTE).1.1, Tx.leastS (E.getD n.toNat noTE).1.2.1))
          have h2 := Pc.put_len o ((E.getD n.toNat noTE).1.1, Tx.leastS (E.getD n.toNat noTE).1.2.1)
          simp only [List.length_cons]; omega
      have := this L []
      unfold Tx.picksM; simp at this; omega
    refine ASpec.call (Td.rsameP_spec (picksM E L) (picksM E L) hpl _) (Les.refl _) ⟨_, rfl, rfl, condBn (fun h => by simp at h) fun _ => ?_⟩
    exact same4 h hi E.length 0 (by omega)
  exact liftG hA k rfl rfl (gSame hA)

/-! ### the law -/
abbrev PB : AV → List AObj → Prop := Sg.PA (.bool true)
theorem pbT {H' : List AObj} : PB (.bool true) H' := Sg.pa (Le.refl _)
variable {m : List Dt} {c : List Term} {n : Int} {s : List UInt8}
noncomputable abbrev qO (n : Int) (s : List UInt8) : AObj := .cells [.int .i64 n, .str (B s)]
noncomputable abbrev HL (n : Int) (s : List UInt8) (E : List TE) (L : List Int) : List AObj := [qO n s, tO E L 2 3, .tok, .tok, xO E L]
theorem aw {H : List AObj} : ASpec Try.prog 27 [] H (fun r H' => ∃ (x : Unit), r = .bool true ∧ H' = H ∧ PB (.bool true) H) := ASpec.call (Tl.awake_spec H) (Les.refl _) ⟨(), rfl, rfl, pbT⟩
theorem atH : At (HL n s E L) 1 2 3 E L := ⟨rfl, rfl, rfl, by decide, by decide, by decide⟩

theorem law14 {i : Nat} (h : Inv i E L) (hi : i ≤ 1000) (hc : ∀ t ∈ c, okT t) (hcl : c.length ≤ 1000) : AWP Try.prog 139 0 c10_14 [(1, slC c), (5, .ptr 0 0), (7, .ptr 1 0), (8, .ptr 4 0)] (HL n s E L) (q10_0 0 PB) := by
  have hl := h.le
  refine v10_14 _ _ _ _ _ _ _ (ASpec.call (same_spec atH h hi) (Les.refl _) ⟨true, rfl, rfl, condB (fun _ => ?_) fun h => by cases h⟩)
  refine ASpec.call (Tx.first_spec atH h.ok (by omega) (by omega) hc) (Les.refl _) ⟨Tx.firstM E c, rfl, rfl, ?_⟩
  repeat refine ⟨⟨rfl, rfl⟩, ?_⟩
  refine ASpec.call (Td.rfirst_spec (E, (L.length : Int)) h.ok (by show E.length ≤ 10000; omega) (by omega) hc _) (Les.refl _) ⟨Tx.firstM E c, by rw [first_eq h.ok c hc], rfl, condE (fun _ => ?_) fun h => absurd rfl h⟩
  refine ASpec.call (Tl.knowN_spec atH h.ok n s) (Les.refl _) ⟨knowM (E.take n.toNat) s, rfl, rfl, ?_⟩
  repeat refine ⟨⟨rfl, rfl⟩, ?_⟩
  refine ASpec.call (Td.rknowAt_spec (E, (L.length : Int)) h.ok n s _) (Les.refl _) ⟨knowM (E.take n.toNat) s, rfl, rfl, ?_⟩
  have hkl := Sg.ok_len (knowM_ok (ok_take h.ok n.toNat) s)
  exact ASpec.call (Tm.rsame_specT (knowM (E.take n.toNat) s) (knowM (E.take n.toNat) s) (by omega) _) (Les.refl _) ⟨_, rfl, rfl, condB (fun _ => aw) fun h => by simp at h⟩

theorem law12 {i : Nat} (h : Inv i E L) (hi : i ≤ 1000) (hc : ∀ t ∈ c, okT t) (hcl : c.length ≤ 1000) : AWP Try.prog 139 0 c10_12 [(1, slC c), (5, .ptr 0 0), (7, .ptr 1 0), (8, .ptr 4 0), (10, .nilp)] (HL n s E L) (q10_0 0 PB) := by
  refine v10_12 _ _ _ _ _ _ _ (ASpec.call (Tl.decN [97] 1 _) (Les.refl _) ⟨(1, [], []), rfl, rfl, condNe (fun h => absurd rfl h) fun _ => ?_⟩)
  refine ASpec.call (Tl.derN ([97], [], false) 1 _) ⟨Le.refl _, Le.agg ⟨Le.refl _, Le.sl rfl (.inr ⟨rfl, fun _ h => by cases h⟩) (.inr rfl), Le.refl _, trivial⟩, Le.refl _, trivial⟩ ⟨(1, [], []), rfl, rfl, condNe (fun h => absurd rfl h) fun _ => ?_⟩
  refine ASpec.call (Tl.lenN _) (Les.refl _) ⟨0, rfl, rfl, condNe (fun h => absurd rfl h) fun _ => ?_⟩
  refine ASpec.call (Tl.levelN _) (Les.refl _) ⟨0, rfl, rfl, condNe (fun h => absurd rfl h) fun _ => ?_⟩
  refine ASpec.call (Tx.first_nil _ _ rfl) (Les.refl _) ⟨-1, rfl, rfl, condNe (fun h => absurd rfl h) fun _ => ?_⟩
  refine ASpec.call (Tx.picks_nil _) (Les.refl _) ⟨[], rfl, rfl, condNe (fun h => absurd rfl h) fun _ => ?_⟩
  refine ASpec.call (Tl.knowNN [97] _) (Les.refl _) ⟨fullT [97], rfl, rfl, ?_⟩
  exact ASpec.call (Td.rfull_spec (fullT [97]) (by simp [fullT]) _) (Les.refl _) ⟨_, rfl, rfl, condBn (fun h => by simp [Td.fullB, fullT] at h) fun _ => law14 h hi hc hcl⟩

theorem law10 {i : Nat} (h : Inv i E L) (hi : i ≤ 1000) (hc : ∀ t ∈ c, okT t) (hcl : c.length ≤ 1000) : AWP Try.prog 139 0 c10_10 [(1, slC c), (5, .ptr 0 0), (7, .ptr 1 0), (8, .ptr 4 0)] (HL n s E L) (q10_0 0 PB) :=
  v10_10 _ _ _ _ _ _ _ (ASpec.call (Tl.backN _) (Les.refl _) ⟨([], []), rfl, rfl, law12 h hi hc hcl⟩)

theorem stepH (h : W E L) (hE : okTE E) (hL : L.length ≤ 1000) (d : Dt) (hd : d.2.2.2.1.length ≤ 200 ∧ d.2.2.2.2.1.length ≤ 60) :
    ASpec Try.prog 79 [.ptr 1 0, .ptr 4 0, .agg (encDt d)] (HL n s E L) (fun r H' => r = .bool true ∧ H' = [qO n s, tO (stepM E L d).1 (stepM E L d).2 5 6, .gone, .gone, xO (stepM E L d).1 (stepM E L d).2, .tok, .tok]) := by
  refine ASpec.subH [1, 2, 3, 4] (HL n s E L) _ (step0 h hE hL d hd) _ _ (by decide) rfl rfl rfl (fun i hi => ?_) rfl
  match i, hi with
  | 0, _ | 1, _ | 2, _ | 3, _ => rfl

theorem law6 (hm : m.length ≤ 60) (hk : ∀ d ∈ m, d.2.2.2.1.length ≤ 200 ∧ d.2.2.2.2.1.length ≤ 60) (hc : ∀ t ∈ c, okT t) (hcl : c.length ≤ 1000) : ∀ (k i : Nat) (E : List TE) (L : List Int), k + i = m.length → Inv i E L →
    AWP Try.prog 139 0 c10_6 [(0, .sl 6 (.map encDt noDt m) .none), (1, slC c), (5, .ptr 0 0), (7, .ptr 1 0), (8, .ptr 4 0), (9, .int .i64 i)] (HL n s E L) (q10_2 0 PB) := by
  intro k
  induction k with
  | zero =>
    intro i E L hki h
    exact v10_6 _ _ _ _ _ _ _ _ _ (condD (fun hc => by omega) fun _ => law10 h (by omega) hc hcl)
  | succ k ih =>
    intro i E L hki h
    have hl := h.le
    have hx := hk _ (getD_mem (d := noDt) (show i < m.length by omega))
    refine v10_6 _ _ _ _ _ _ _ _ _ (condD (fun _ => needJ ⟨by omega, by omega⟩ ?_) fun hc => by omega)
    rw [Int.toNat_natCast, succ64 (by omega)]
    generalize m.getD i noDt = d at hx ⊢
    have hi2 := inv_step h (by omega) d hx
    refine ASpec.call (stepH h.w h.ok (by omega) d hx) (Les.refl _) ⟨stepM E L d, rfl, rfl, ?_⟩
    generalize stepM E L d = R at hi2 ⊢
    obtain ⟨E', L'⟩ := R
    have ha : At [qO n s, tO E' L' 5 6, .gone, .gone, xO E' L', .tok, .tok] 1 5 6 E' L' := ⟨rfl, rfl, rfl, by decide, by decide, by decide⟩
    refine ASpec.call (level_spec ha) (Les.refl _) ⟨_, rfl, rfl, ?_⟩
    repeat refine ⟨⟨rfl, rfl⟩, ?_⟩
    refine condNe (fun h => absurd rfl h) fun _ => ?_
    refine ASpec.call (len_spec ha) (Les.refl _) ⟨_, rfl, rfl, ?_⟩
    repeat refine ⟨⟨rfl, rfl⟩, ?_⟩
    refine condNe (fun h => absurd rfl h) fun _ => ?_
    exact AWP.shape [0, 1, 5, 6, 4] [(0, .sl 6 (.map encDt noDt m) .none), (1, slC c), (5, .ptr 0 0), (7, .ptr 1 0), (8, .ptr 4 0), (9, .int .i64 (i + 1 : Nat))] (HL n s E' L') (Sel.mk0 (by decide) ⟨rfl, rfl, rfl, rfl, rfl, trivial⟩)
      ⟨rfl, Le.refl _, rfl, Le.refl _, rfl, Le.refl _, rfl, Le.refl _, rfl, Le.refl _, rfl, Le.refl _, trivial⟩ (ih (i + 1) E' L' (by omega) hi2)

theorem trailPlays_spec (m : List Dt) (c : List Term) (n : Int) (s : List UInt8) (H : List AObj) : ASpec Try.prog 10 [.sl 6 (.map encDt noDt m) .none, slC c, .agg [.int .i64 n, .str (B s)]] H (fun r H' => r = .bool true ∧ H' = H) := by
  have k : ASpec Try.prog 10 [.sl 6 (.map encDt noDt m) .none, slC c, .agg [.int .i64 n, .str (B s)]] [] PB := by
    refine s10 _ _ _ _ _ (ASpec.call (Tl.large_spec m _) (Les.refl _) ⟨_, rfl, rfl, condB (fun _ => aw) fun h1 => ?_⟩)
    refine ASpec.call (Td.largeC_spec c _) (Les.refl _) ⟨_, rfl, rfl, condB (fun _ => aw) fun h2 => ?_⟩
    refine ASpec.call (Td.chkC_spec c h2 _) (Les.refl _) ⟨_, rfl, rfl, condBn (fun _ => aw) fun h3 => condD (fun _ => aw) fun h4 => ?_⟩
    refine ASpec.call (Tl.new_spec _) (Les.refl _) ⟨(), rfl, rfl, ?_⟩
    have hml : m.length ≤ 60 ∧ ∀ d ∈ m, d.2.2.2.1.length ≤ 200 ∧ d.2.2.2.2.1.length ≤ 60 := by
      unfold Tl.largeL at h1
      split at h1
      · cases h1
      · exact ⟨by omega, Tl.largeF_ok m h1⟩
    have hcl := (Td.largeC_ok h2).1
    refine AWP.re (ReSt.leCell (id := 4) (cs' := encXt ([], 0)) rfl ⟨Le.sl rfl (.inr ⟨rfl, fun _ h => by cases h⟩) (.inr rfl), Le.refl _, trivial⟩) ?_
    exact law6 hml.1 hml.2 (Td.chkFC_ok h3) (by omega) m.length 0 [] [] (by omega) inv0
  exact ASpec.pureH (r0 := .bool true) H (ASpec.sel k) _ _ rfl rfl
end
end Tp
end

section
/- The codecs of this seat's plain arguments. -/

open Go Go.Ab Go.Proofs
namespace Go.Ab

noncomputable def cInt : Codec Try.prog 3 Int := Codec.int .i64 Try.underlying3
noncomputable def cStr : Codec Try.prog 9 ByteArray := Codec.str Try.underlying9
end Go.Ab
end

section
/- The codecs of manifests. -/

open Go Go.Ab Go.Proofs
namespace Go.Ab

noncomputable def cName : Codec Try.prog 9 (List UInt8) := cStr.iso (fun s => s.data.toList) (fun l => [.str ⟨l.toArray⟩]) (fun _ => True) (fun _ => rfl) (fun _ _ => trivial)
noncomputable def cSpan : Codec Try.prog 200 T.Span :=
  (Codec.struct (n := 2) Try.underlying200 (FC.cons (k := 1) (n := 1) cInt rfl (by kernel_rfl) (FC.cons (k := 1) (n := 0) cInt rfl (by kernel_rfl) FC.nil)) (by kernel_rfl)).iso (fun x => (x.1, x.2.1)) T.encS (fun _ => True) (fun _ => rfl) (fun _ _ => trivial)
noncomputable def cSpans : Codec Try.prog 38 (List T.Span) := Codec.slice (sz := 2) cSpan Try.underlying38 (by kernel_rfl) (by omega) (fun _ => rfl)
end Go.Ab
end

section
/- The codec of lists of what is done to a trail. -/

open Go Go.Ab Go.Proofs
namespace Go.Ab
noncomputable def cBool : Codec Try.prog 4 Bool := Codec.bool Try.underlying4
noncomputable def cTerm : Codec Try.prog 40 T.Term :=
  (Codec.struct (n := 3) Try.underlying40 (FC.cons (k := 1) (n := 2) cName rfl (by kernel_rfl) (FC.cons (k := 1) (n := 1) cSpans rfl (by kernel_rfl) (FC.cons (k := 1) (n := 0) cBool rfl (by kernel_rfl) FC.nil))) (by kernel_rfl)).iso (fun x => (x.1, x.2.1, x.2.2.1)) T.encT (fun _ => True) (fun _ => rfl) (fun _ _ => trivial)
noncomputable def cDt : Codec Try.prog 44 T.Dt :=
  (Codec.struct (n := 6) Try.underlying44 (FC.cons (k := 1) (n := 5) cInt rfl (by kernel_rfl) (FC.cons (k := 1) (n := 4) cInt rfl (by kernel_rfl) (FC.cons (k := 1) (n := 3) cInt rfl (by kernel_rfl)
    (FC.cons (k := 3) (n := 0) cTerm rfl (by kernel_rfl) FC.nil)))) (by kernel_rfl)).iso (fun x => (x.1, x.2.1, x.2.2.1, x.2.2.2.1)) T.encDt (fun _ => True) (fun _ => rfl) (fun _ _ => trivial)
noncomputable def cDts : Codec Try.prog 34 (List T.Dt) := Codec.slice (sz := 6) cDt Try.underlying34 (by kernel_rfl) (by omega) (fun _ => rfl)
end Go.Ab
end

section
/- The codecs of clashes, and of a number of entries with a name. -/

open Go Go.Ab Go.Proofs
namespace T
abbrev Wh := Int × List UInt8
noncomputable def encWh (x : Wh) : List AV := [.int .i64 x.1, .str ⟨x.2.toArray⟩]
end T
namespace Go.Ab
noncomputable def cTerms : Codec Try.prog 42 (List T.Term) := Codec.slice (sz := 3) cTerm Try.underlying42 (by kernel_rfl) (by omega) (fun _ => rfl)
noncomputable def cWh : Codec Try.prog 116 T.Wh :=
  (Codec.struct (n := 2) Try.underlying116 (FC.cons (k := 1) (n := 1) cInt rfl (by kernel_rfl) (FC.cons (k := 1) (n := 0) cName rfl (by kernel_rfl) FC.nil)) (by kernel_rfl)).iso (fun x => (x.1, x.2.1)) T.encWh (fun _ => True) (fun _ => rfl) (fun _ _ => trivial)
end Go.Ab
end

section
/- What is asked of the program alone, once for all statements. -/

namespace Go.Proofs.Facts
open Go Go.Proofs
theorem andT {a b : Bool} (h : a = true) (k : b = true) : (a && b) = true := by rw [h, k]; rfl
theorem laid : laidOutB Try.prog = true := by kernel_rfl
theorem mapsRowed : Go.mapsRowed Try.prog = true := by kernel_rfl
theorem stops : (Try.prog.stops == []) = true := by kernel_rfl
theorem stopKnobs : (Try.prog.stopKnobs == []) = true := by kernel_rfl
theorem heard : Try.prog.stopsHeard = true := by kernel_rfl
theorem may : Try.prog.mayEnter = true := by kernel_rfl
theorem lifted : (false == Try.prog.liftsFinal) = true := by kernel_rfl
theorem plain : (true == Try.prog.plainKeys) = true := by kernel_rfl
theorem made : (Try.prog.make == some .cut) = true := by kernel_rfl
theorem own : ownKnob Try.prog.godebug = none := by kernel_rfl
end Go.Proofs.Facts
end
