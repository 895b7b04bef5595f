/- Q7: several of this proof's own texts, one behind the other: what each proves stands at its head. -/
import Derived.Test.YtkkdhnhgfbddeaaDoorQ6
import Derived.Test.YtkkdhnhgfbddeaaDoorProg
import Derived.Test.YtkkdhnhgfbddeaaDoorA3
import Derived.Test.YtkkdhnhgfbddeaaDoorQ5
section
/- Steps of a proof: what is read of bytes, and the bytes of what may be. -/

set_option linter.unusedVariables false
set_option linter.unusedSimpArgs false
set_option maxRecDepth 100000
open Go Go.Ab Go.Proofs V S T C
open W (sl1 numB text lenL leTwo leTok put1M put2M numB_len text_len flat_len cons_dec listR listM Inside listR_p listM_p listR_len listM_len listR_all numM_p strM_p numM_most strM_len Back Canon num_back text_back listM_back listM_canon num_canon text_canon closeM_zero Alike dnumM_len dstrM_len dnumM_most)
open E (dG alikeG)
open Pf (s97 v97_4 v97_12 v97_13 c97_4 c97_12 c97_13 q97_0 q97_2 q97_5 s102 v102_5 v102_11 v102_14 v102_15 c102_5 c102_11 c102_14 c102_15 q102_0 q102_2 q102_5)
namespace Pr

/-! ### the model -/

def stK (bs : List UInt8) (k : Int) (nm : List UInt8) (p : Nat) (e : Int) : St × Nat × Int :=
  if k = 3 then ((k, nm, (numM bs p e 1000000000).1, (strM bs (numM bs p e 1000000000).2.1 (numM bs p e 1000000000).2.2 24).1, 0, 0), (strM bs (numM bs p e 1000000000).2.1 (numM bs p e 1000000000).2.2 24).2)
  else if k = 4 then ((k, nm, 0, [], (numM bs p e 1048576).1, (numM bs (numM bs p e 1048576).2.1 (numM bs p e 1048576).2.2 1048576).1), (numM bs (numM bs p e 1048576).2.1 (numM bs p e 1048576).2.2 1048576).2)
  else ((k, nm, 0, [], 0, 0), p, e)

def stN (bs : List UInt8) (k : Int) (p : Nat) (e : Int) : St × Nat × Int := stK bs k (strM bs p e 24).1 (strM bs p e 24).2.1 (strM bs p e 24).2.2
def stR (bs : List UInt8) (p : Nat) (e : Int) : St × Nat × Int := stN bs (numM bs p e 4).1 (numM bs p e 4).2.1 (numM bs p e 4).2.2

def endP (l : List St) (c : Int) : List St × Int := if c ≠ 0 then ([], c) else if checkM l = true then (l, 0) else ([], 3)
def stsR (bs : List UInt8) : List St × Nat × Int := listM (stR bs) bs 0 0 1048576
def readP (bs : List UInt8) : List St × Int := endP (stsR bs).1 (closeM (stsR bs).2.2 (bs.length - (stsR bs).2.1))

theorem stK_p {bs : List UInt8} {k : Int} {nm : List UInt8} {p : Nat} {e : Int} (hp : p ≤ bs.length) : (stK bs k nm p e).2.1 ≤ bs.length := by
  unfold stK
  split
  · exact strM_p (numM_p hp)
  · split
    · exact numM_p (numM_p hp)
    · exact hp
theorem stR_p (bs : List UInt8) : Inside bs (stR bs) := fun p e hp => stK_p (strM_p (numM_p hp))
theorem stsR_p (bs : List UInt8) : (stsR bs).2.1 ≤ bs.length := listM_p (stR_p bs) (Nat.zero_le _)

theorem stK_ok (bs : List UInt8) (k : Int) (nm : List UInt8) (p : Nat) (e : Int) (hn : nm.length ≤ 24) : okS (stK bs k nm p e).1 := by
  unfold okS stK lim
  split
  · have := strM_len bs (numM bs p e 1000000000).2.1 (numM bs p e 1000000000).2.2 24 (by omega)
    simp only; omega
  · split <;> (simp; omega)
theorem stR_ok (bs : List UInt8) (p : Nat) (e : Int) : okS (stR bs p e).1 := by
  have := strM_len bs (numM bs p e 4).2.1 (numM bs p e 4).2.2 24 (by omega)
  exact stK_ok bs _ _ _ _ (by omega)
theorem stsR_len (bs : List UInt8) : (stsR bs).1.length ≤ 1048576 := by
  have := listM_len (stR bs) bs 0 0 1048576 (by omega)
  unfold stsR; omega
theorem stsR_ok (bs : List UInt8) : ∀ x ∈ (stsR bs).1, okS x := fun x hx => listR_all (Q := okS) (stR_ok bs) _ _ _ x hx
theorem readP_ok (bs : List UInt8) : (readP bs).1.length ≤ 1048576 ∧ ∀ x ∈ (readP bs).1, okS x := by
  unfold readP endP
  split
  · exact ⟨by simp, fun x hx => by simp at hx⟩
  · split
    · exact ⟨stsR_len bs, stsR_ok bs⟩
    · exact ⟨by simp, fun x hx => by simp at hx⟩

theorem renSt (ρ : Nat → Nat) (x : St) : renL ρ (encSt x) = encSt x := rfl

abbrev PR (v : List St × Int) : AV → List AObj → Prop := fun r H' => ∃ l H2 r2, Sel 0 l H' H2 ∧ Le r (AV.ren (selR l H'.length) r2) ∧ (r2 = .tup [slP v.1, .int .i64 v.2] ∧ H2 = [])
theorem prNil {v : List St × Int} {c : Int} {H' : List AObj} (h : v = ([], c)) : PR v (.tup [.sl 0 (.raw []) .nil, .int .i64 c]) H' := by
  subst h
  exact ⟨[], [], .tup [slP [], .int .i64 c], Sel.none, Le.tup (r := [AV.ren _ (slP []), .int .i64 c]) ⟨Le.sl (s' := Seq.ren _ (.map encSt noSt [])) rfl (.inr ⟨rfl, fun _ h => by cases h⟩) (.inr rfl), Le.refl _, trivial⟩, rfl, rfl⟩
theorem prVal {v : List St × Int} {l : List St} {tip : Tip} {H' : List AObj} (h : v = (l, 0)) : PR v (.tup [.sl 6 (.map encSt noSt l) tip, .int .i64 0]) H' := by
  subst h
  exact ⟨[], [], .tup [slP l, .int .i64 0], Sel.none, Le.tup (r := [AV.ren _ (slP l), .int .i64 0]) ⟨Le.sl (s' := Seq.ren _ (.map encSt noSt l)) (by simp [Ab.Seq.toList, Seq.ren, renSt]) (.inl rfl) (.inr rfl), Le.refl _, trivial⟩, rfl, rfl⟩

/-! ### the program's -/

theorem g9013 {bs : List UInt8} {p : Nat} {e : Int} {acc : List St} (hb : bs.length ≤ big) (hp : p ≤ bs.length) (ha : acc.length ≤ 2000000) (hok : ∀ x ∈ acc, okS x) {v : List St × Int} (hv : v = endP acc (closeM e (bs.length - p))) :
    AWP Tryd.prog 62 0 c97_13 [(4, .ptr 0 0), (5, .sl 6 (.map encSt noSt acc) (.tok 1))] [rd bs p e, .tok] (q97_0 0 (PR v)) := by
  refine v97_13 _ _ _ _ _ _ (ASpec.call (close_spec (id := 0) (bs := bs) (p := p) (e := e) hb hp rfl) (Les.refl _) ⟨_, rfl, rfl, ?_⟩)
  generalize closeM e (bs.length - p) = c at hv
  refine condE (fun h0 => ?_) fun h0 => condNe (fun _ => prNil (by rw [hv, endP, if_pos h0])) fun h => (h0 h).elim
  refine ASpec.call (check_spec acc (by unfold maxLen; omega) hok _) ⟨Le.sl rfl (.inl rfl) (.inr rfl), trivial⟩ ⟨_, rfl, rfl, condBn (fun h => prNil ?_) fun h => condNe (fun h1 => (h1 h0).elim) fun _ => prVal ?_⟩
  · rw [hv, endP, if_neg (by simpa using h0), if_neg (by simp [h])]
  · rw [hv, endP, if_neg (by simpa using h0), if_pos h]

theorem g9012 {v : List St × Int} {bs : List UInt8} {p : Nat} {e n : Int} {acc : List St} (ha : acc.length ≤ 2000000) {x : St} {k : Nat} (hk : k ≤ 2000000) (hn : n = (k + 1 : Nat))
    (h : AWP Tryd.prog 62 0 c97_4 [(4, .ptr 0 0), (5, .sl 6 (.map encSt noSt (acc ++ [x])) (.tok 1)), (6, .int .i64 k)] [rd bs p e, .tok] (q97_2 0 (PR v))) :
    AWP Tryd.prog 62 0 c97_12 [(4, .ptr 0 0), (5, .sl 6 (.map encSt noSt acc) (.tok 1)), (6, .int .i64 n), (7, .ptr 2 0)] [rd bs p e, .tok, .cells (encSt x)] (q97_5 0 (PR v)) := by
  subst hn
  refine v97_12 _ _ _ _ _ _ _ _ (needJ (by omega) ?_)
  rw [show IntKind.wrap .i64 (((k + 1 : Nat) : Int) - 1) = (k : Int) by rw [wrap64 (by omega) (by omega)]; omega]
  refine AWP.shape [0, 3] [(4, .ptr 0 0), (5, .sl 6 (.map encSt noSt (acc ++ [x])) (.tok 1)), (6, .int .i64 k)] [rd bs p e, .tok] ?_ ⟨rfl, Le.refl _, rfl, ?_, rfl, Le.refl _, trivial⟩ h
  · refine ⟨by decide, rfl, by decide, fun i hi => by omega, fun i hi => .inl ?_⟩
    match i, hi with
    | 0, _ | 1, _ => rfl
  · exact leAppE (x := x) (Les.refl _)

theorem g4 {bs : List UInt8} (hb : bs.length ≤ big) {v : List St × Int} {R : List St × Nat × Int} (hR : v = endP R.1 (closeM R.2.2 (bs.length - R.2.1))) (hok : ∀ x ∈ R.1, okS x) (hRp : R.2.1 ≤ bs.length) (hRl : R.1.length ≤ 1048576) :
    ∀ (k p : Nat) (e : Int) (acc : List St), p ≤ bs.length → acc.length + k ≤ 1048576 → R = (acc ++ (listR (stR bs) k p e).1, (listR (stR bs) k p e).2) →
    AWP Tryd.prog 62 0 c97_4 [(4, .ptr 0 0), (5, .sl 6 (.map encSt noSt acc) (.tok 1)), (6, .int .i64 k)] [rd bs p e, .tok] (q97_2 0 (PR v)) := by
  intro k
  induction k with
  | zero =>
    intro p e acc hp ha h
    simp only [listR, List.append_nil] at h
    subst h
    exact v97_4 _ _ _ _ _ _ _ (condD (fun hc => by omega) fun _ => g9013 hb hp (by omega) hok hR)
  | succ k ih =>
    intro p e acc hp ha h
    refine v97_4 _ _ _ _ _ _ _ (condD (fun _ => ?_) fun hc => by omega)
    refine ASpec.call (err_spec (id := 0) (bs := bs) (p := p) (e := e) rfl) (Les.refl _) ⟨e, rfl, rfl, condE (fun he => ?_) fun he => ?_⟩
    · simp only [listR, if_pos he] at h
      have hnext := ih (stR bs p e).2.1 (stR bs p e).2.2 (acc ++ [(stR bs p e).1]) (stR_p bs p e hp) (by simp; omega) (by rw [h]; simp)
      have hs1 : stR bs p e = stN bs (numM bs p e 4).1 (numM bs p e 4).2.1 (numM bs p e 4).2.2 := rfl
      have p1 := numM_p (e := e) (most := 4) hp
      rw [hs1] at hnext
      refine ASpec.call (num_spec (id := 0) (bs := bs) (p := p) (e := e) 4 hb hp rfl) (Les.refl _) ⟨(_, ((numM bs p e 4).2.1 : Nat), _), rfl, rfl, ?_⟩
      generalize (numM bs p e 4).1 = kd at hnext ⊢
      generalize (numM bs p e 4).2.1 = q at hnext p1 ⊢
      generalize (numM bs p e 4).2.2 = e1 at hnext ⊢
      have p2 := strM_p (e := e1) (most := 24) p1
      unfold stN at hnext
      refine ASpec.call (str_spec (id := 0) (bs := bs) (p := q) (e := e1) 24 hb p1 rfl) (Les.refl _) ⟨(_, ((strM bs q e1 24).2.1 : Nat), _), rfl, rfl, ?_⟩
      generalize (strM bs q e1 24).1 = nm at hnext ⊢
      generalize (strM bs q e1 24).2.1 = q2 at hnext p2 ⊢
      generalize (strM bs q e1 24).2.2 = e2 at hnext ⊢
      unfold stK at hnext
      refine condE (fun k3 => ?_) fun k3 => ?_
      · simp only [if_pos k3] at hnext
        have p3 := numM_p (e := e2) (most := 1000000000) p2
        refine ASpec.call (num_spec (id := 0) (bs := bs) (p := q2) (e := e2) 1000000000 hb p2 rfl) (Les.refl _) ⟨(_, ((numM bs q2 e2 1000000000).2.1 : Nat), _), rfl, rfl, ?_⟩
        refine ASpec.call (str_spec (id := 0) (bs := bs) (p := (numM bs q2 e2 1000000000).2.1) (e := (numM bs q2 e2 1000000000).2.2) 24 hb p3 rfl) (Les.refl _) ⟨(_, ((strM bs (numM bs q2 e2 1000000000).2.1 (numM bs q2 e2 1000000000).2.2 24).2.1 : Nat), _), rfl, rfl, ?_⟩
        exact g9012 (x := (kd, nm, _, _, 0, 0)) (by omega) (k := k) (by omega) rfl hnext
      · simp only [if_neg k3] at hnext
        refine condE (fun k4 => ?_) fun k4 => ?_
        · simp only [if_pos k4] at hnext
          have p3 := numM_p (e := e2) (most := 1048576) p2
          refine ASpec.call (num_spec (id := 0) (bs := bs) (p := q2) (e := e2) 1048576 hb p2 rfl) (Les.refl _) ⟨(_, ((numM bs q2 e2 1048576).2.1 : Nat), _), rfl, rfl, ?_⟩
          refine ASpec.call (num_spec (id := 0) (bs := bs) (p := (numM bs q2 e2 1048576).2.1) (e := (numM bs q2 e2 1048576).2.2) 1048576 hb p3 rfl) (Les.refl _) ⟨(_, ((numM bs (numM bs q2 e2 1048576).2.1 (numM bs q2 e2 1048576).2.2 1048576).2.1 : Nat), _), rfl, rfl, ?_⟩
          exact g9012 (x := (kd, nm, 0, [], _, _)) (by omega) (k := k) (by omega) rfl hnext
        · simp only [if_neg k4] at hnext
          exact g9012 (x := (kd, nm, 0, [], 0, 0)) (by omega) (k := k) (by omega) rfl hnext
    · simp only [listR, if_neg he, List.append_nil] at h
      subst h
      exact g9013 hb hp (by omega) hok hR

theorem read_specP (bs : List UInt8) (hb : bs.length ≤ 1000000000) (H : List AObj) : ASpec Tryd.prog 97 [sl1 bs] H (fun r H' => r = .tup [slP (readP bs).1, .int .i64 (readP bs).2] ∧ H' = H) := by
  have k : ASpec Tryd.prog 97 [sl1 bs] [] (fun r H' => r = .tup [slP (readP bs).1, .int .i64 (readP bs).2] ∧ H' = []) := by
    have hb' : bs.length ≤ big := by unfold big; omega
    have h2 := numM_most bs 0 0 1048576 (by omega)
    refine ASpec.sel (s97 _ _ (ASpec.call (V.open_spec bs hb' []) (Les.refl _) ⟨bs, rfl, rfl, ?_⟩))
    refine ASpec.call (num_spec (id := 0) (bs := bs) (p := 0) (e := 0) 1048576 hb' (by omega) rfl) (Les.refl _) ⟨((numM bs 0 0 1048576).1, ((numM bs 0 0 1048576).2.1 : Nat), (numM bs 0 0 1048576).2.2), rfl, rfl, ?_⟩
    refine AWP.re (ReSt.tok (H := [rd bs (numM bs 0 0 1048576).2.1 (numM bs 0 0 1048576).2.2]) (k := 5) (q' := .map encSt noSt []) (sz' := 6) (s2 := [(4, .ptr 0 0), (5, .sl 6 (.map encSt noSt []) (.tok 1)), (6, .int .i64 (numM bs 0 0 1048576).1)]) rfl (.inl rfl) rfl (.inr rfl) (fun d hd => ?_) rfl) ?_
    · simp only [Ab.get]
      have e : Nat.beq 5 d = false := by
        cases hx : Nat.beq 5 d with
        | false => rfl
        | true => exact absurd (Nat.eq_of_beq_eq_true hx).symm hd
      rw [e]; rfl
    · obtain ⟨c, hc⟩ := Int.eq_ofNat_of_zero_le h2.1
      rw [hc]
      refine g4 hb' (R := stsR bs) rfl (stsR_ok bs) (stsR_p bs) (stsR_len bs) c _ _ [] (numM_p (by omega)) (by simp; omega) ?_
      simp only [stsR, listM, hc]; rfl
  exact ASpec.pureH H k _ _ rfl rfl

/-! ### the document's -/

def dStK (l : List UInt8) (k : Int) (nm : List UInt8) (e : Int) : St × List UInt8 × Int :=
  if k = 3 then ((k, nm, (dnumM l e 1000000000).1, (dstrM (dnumM l e 1000000000).2.1 (dnumM l e 1000000000).2.2 24).1, 0, 0), (dstrM (dnumM l e 1000000000).2.1 (dnumM l e 1000000000).2.2 24).2)
  else if k = 4 then ((k, nm, 0, [], (dnumM l e 1048576).1, (dnumM (dnumM l e 1048576).2.1 (dnumM l e 1048576).2.2 1048576).1), (dnumM (dnumM l e 1048576).2.1 (dnumM l e 1048576).2.2 1048576).2)
  else ((k, nm, 0, [], 0, 0), l, e)
def dStN (l : List UInt8) (k : Int) (e : Int) : St × List UInt8 × Int := dStK (dstrM l e 24).2.1 k (dstrM l e 24).1 (dstrM l e 24).2.2
def dSt (l : List UInt8) (e : Int) : St × List UInt8 × Int := dStN (dnumM l e 4).2.1 (dnumM l e 4).1 (dnumM l e 4).2.2
def dSts (l : List UInt8) : List St × List UInt8 × Int := dG dSt (dnumM l 0 1048576).1.toNat (dnumM l 0 1048576).2.1 (dnumM l 0 1048576).2.2

theorem dStK_len (l : List UInt8) (k : Int) (nm : List UInt8) (e : Int) : (dStK l k nm e).2.1.length ≤ l.length := by
  unfold dStK
  split
  · exact Nat.le_trans (dstrM_len _ _ _) (dnumM_len _ _ _)
  · split
    · exact Nat.le_trans (dnumM_len _ _ _) (dnumM_len _ _ _)
    · exact Nat.le_refl _
theorem dSt_len (l : List UInt8) (e : Int) : (dSt l e).2.1.length ≤ l.length := Nat.le_trans (dStK_len _ _ _ _) (Nat.le_trans (dstrM_len _ _ _) (dnumM_len _ _ _))

theorem alikeSt (bs : List UInt8) (p : Nat) (e : Int) (hp : p ≤ bs.length) : Alike bs (stR bs p e) (dSt (bs.drop p) e) := by
  obtain ⟨hd, hq⟩ := num_doc bs p e 4 hp
  have key : ∀ (k : Int) (nm : List UInt8) (p : Nat) (e : Int), p ≤ bs.length → Alike bs (stK bs k nm p e) (dStK (bs.drop p) k nm e) := by
    intro k nm p e hp
    unfold stK dStK
    by_cases k3 : k = 3
    · obtain ⟨hd1, hq1⟩ := num_doc bs p e 1000000000 hp
      obtain ⟨hd2, hq2⟩ := str_doc bs (numM bs p e 1000000000).2.1 (numM bs p e 1000000000).2.2 24 hq1
      rw [if_pos k3, if_pos k3, hd1, hd2]
      exact ⟨rfl, rfl, fun _ => rfl⟩
    · rw [if_neg k3, if_neg k3]
      by_cases k4 : k = 4
      · obtain ⟨hd1, hq1⟩ := num_doc bs p e 1048576 hp
        obtain ⟨hd2, hq2⟩ := num_doc bs (numM bs p e 1048576).2.1 (numM bs p e 1048576).2.2 1048576 hq1
        rw [if_pos k4, if_pos k4, hd1, hd2]
        exact ⟨rfl, rfl, fun _ => rfl⟩
      · rw [if_neg k4, if_neg k4]
        exact ⟨rfl, rfl, fun _ => rfl⟩
  obtain ⟨hd2, hq2⟩ := str_doc bs (numM bs p e 4).2.1 (numM bs p e 4).2.2 24 hq
  unfold dSt stR stN dStN
  rw [hd, hd2]
  exact key _ _ _ _ hq2

theorem alikeSts (bs : List UInt8) : Alike bs (stsR bs) (dSts bs) := by
  obtain ⟨hd, hq⟩ := num_doc bs 0 0 1048576 (Nat.zero_le _)
  rw [List.drop_zero] at hd
  unfold stsR dSts listM
  rw [hd]
  exact alikeG (alikeSt bs) (stR_p bs) _ _ _ hq

theorem dReadP_eq (bs : List UInt8) : endP (dSts bs).1 (closeM (dSts bs).2.2 (dSts bs).2.1.length) = readP bs := by
  obtain ⟨a1, a2, a3⟩ := alikeSts bs
  unfold readP
  rw [a1, a2, List.length_drop]
  by_cases h : (stsR bs).2.2 = 0
  · rw [a3 h]
  · have hc : ∀ n, closeM (stsR bs).2.2 n = (stsR bs).2.2 := fun n => by simp only [closeM, if_pos h]
    rw [hc]
    unfold endP
    rw [if_pos h, if_pos h]

theorem e15 {acc : List St} (ha : acc.length ≤ 2000000) {s : List UInt8} {e : Int} (hok : closeM e s.length = 0 → ∀ x ∈ acc, okS x) {v : List St × Int} (hv : v = endP acc (closeM e s.length)) :
    AWP Tryd.prog 67 0 c102_15 [(4, .ptr 0 0), (6, .sl 6 (.map encSt noSt acc) (.tok 1))] [dr s e, .tok] (q102_0 0 (PR v)) := by
  refine v102_15 _ _ _ _ _ (ASpec.call (dclose_spec (id := 0) (l := s) (e := e) rfl) (Les.refl _) ⟨_, rfl, rfl, ?_⟩)
  generalize closeM e s.length = c at hv hok
  refine condE (fun h0 => ?_) fun h0 => condNe (fun _ => prNil (by rw [hv, endP, if_pos h0])) fun h => (h0 h).elim
  refine ASpec.call (rcheck_spec acc (by unfold maxLen; omega) (hok h0) _) ⟨Le.sl rfl (.inl rfl) (.inr rfl), trivial⟩ ⟨_, rfl, rfl, condBn (fun h => prNil ?_) fun h => condNe (fun h1 => (h1 h0).elim) fun _ => prVal ?_⟩
  · rw [hv, endP, if_neg (by simpa using h0), if_neg (by simp [h])]
  · rw [hv, endP, if_neg (by simpa using h0), if_pos h]

theorem e14 {v : List St × Int} {s : List UInt8} {e n : Int} {acc : List St} (ha : acc.length ≤ 2000000) {x : St} {i : Nat} (hi : i ≤ 2000000)
    (h : AWP Tryd.prog 67 0 c102_5 [(4, .ptr 0 0), (5, .int .i64 n), (6, .sl 6 (.map encSt noSt (acc ++ [x])) (.tok 1)), (7, .int .i64 (i + 1 : Nat))] [dr s e, .tok] (q102_2 0 (PR v))) :
    AWP Tryd.prog 67 0 c102_14 [(4, .ptr 0 0), (5, .int .i64 n), (6, .sl 6 (.map encSt noSt acc) (.tok 1)), (7, .int .i64 i), (8, .ptr 2 0)] [dr s e, .tok, .cells (encSt x)] (q102_5 0 (PR v)) := by
  refine v102_14 _ _ _ _ _ _ _ _ (needJ (by omega) ?_)
  rw [succ64 (by omega)]
  refine AWP.shape [0, 3] [(4, .ptr 0 0), (5, .int .i64 n), (6, .sl 6 (.map encSt noSt (acc ++ [x])) (.tok 1)), (7, .int .i64 (i + 1 : Nat))] [dr s e, .tok] ?_ ⟨rfl, Le.refl _, rfl, Le.refl _, rfl, ?_, rfl, Le.refl _, trivial⟩ h
  · refine ⟨by decide, rfl, by decide, fun i hi => by omega, fun i hi => .inl ?_⟩
    match i, hi with
    | 0, _ | 1, _ => rfl
  · exact leAppE (x := x) (Les.refl _)

theorem e5 {n : Nat} (hn : n ≤ 1048576) {v : List St × Int} {R : List St × List UInt8 × Int} (hR : v = endP R.1 (closeM R.2.2 R.2.1.length)) (hok : closeM R.2.2 R.2.1.length = 0 → ∀ x ∈ R.1, okS x) :
    ∀ (m i : Nat) (l : List UInt8) (e : Int) (acc : List St), m + i = n → l.length ≤ 10 * big → acc.length + m ≤ 1048576 → R = (acc ++ (dG dSt m l e).1, (dG dSt m l e).2) →
    AWP Tryd.prog 67 0 c102_5 [(4, .ptr 0 0), (5, .int .i64 n), (6, .sl 6 (.map encSt noSt acc) (.tok 1)), (7, .int .i64 i)] [dr l e, .tok] (q102_2 0 (PR v)) := by
  intro m
  induction m with
  | zero =>
    intro i l e acc hm hl ha h
    simp only [dG, List.append_nil] at h
    subst h
    exact v102_5 _ _ _ _ _ _ _ (condD (fun hc => by omega) fun _ => e15 (by show acc.length ≤ 2000000; omega) hok hR)
  | succ m ih =>
    intro i l e acc hm hl ha h
    refine v102_5 _ _ _ _ _ _ _ (condD (fun _ => condE (fun he => ?_) fun he => ?_) fun hc => by omega)
    · simp only [dG, if_pos he] at h
      have hnext := ih (i + 1) (dSt l e).2.1 (dSt l e).2.2 (acc ++ [(dSt l e).1]) (by omega) (Nat.le_trans (dSt_len l e) hl) (by simp; omega) (by rw [h]; simp)
      have h1 := dnumM_len l e 4
      refine ASpec.call (dnum_spec (id := 0) (l := l) (e := e) 4 hl rfl) (Les.refl _) ⟨((dnumM l e 4).1, B (dnumM l e 4).2.1, (dnumM l e 4).2.2), rfl, rfl, ?_⟩
      have hE : dSt l e = dStN (dnumM l e 4).2.1 (dnumM l e 4).1 (dnumM l e 4).2.2 := rfl
      rw [hE] at hnext
      generalize (dnumM l e 4).1 = k at hnext ⊢
      generalize (dnumM l e 4).2.1 = l1 at hnext h1 ⊢
      generalize (dnumM l e 4).2.2 = e1 at hnext ⊢
      have h2 := dstrM_len l1 e1 24
      unfold dStN at hnext
      refine ASpec.call (dstr_spec (id := 0) (l := l1) (e := e1) 24 (by omega) rfl) (Les.refl _) ⟨(B (dstrM l1 e1 24).1, B (dstrM l1 e1 24).2.1, (dstrM l1 e1 24).2.2), rfl, rfl, ?_⟩
      generalize (dstrM l1 e1 24).1 = nm at hnext ⊢
      generalize (dstrM l1 e1 24).2.1 = l2 at hnext h2 ⊢
      generalize (dstrM l1 e1 24).2.2 = e2 at hnext ⊢
      unfold dStK at hnext
      refine condE (fun k3 => ?_) fun k3 => ?_
      · simp only [if_pos k3] at hnext
        have h3 := dnumM_len l2 e2 1000000000
        refine ASpec.call (dnum_spec (id := 0) (l := l2) (e := e2) 1000000000 (by omega) rfl) (Les.refl _) ⟨(_, B (dnumM l2 e2 1000000000).2.1, _), rfl, rfl, ?_⟩
        refine ASpec.call (dstr_spec (id := 0) (l := (dnumM l2 e2 1000000000).2.1) (e := (dnumM l2 e2 1000000000).2.2) 24 (by omega) rfl) (Les.refl _) ⟨(B _, B (dstrM (dnumM l2 e2 1000000000).2.1 (dnumM l2 e2 1000000000).2.2 24).2.1, _), rfl, rfl, ?_⟩
        refine v102_11 _ _ _ _ _ (k, nm, _, _, 0, 0) _ _ (condE (fun h => by omega) fun _ => ?_)
        exact e14 (x := (k, nm, _, _, 0, 0)) (by omega) (by omega) hnext
      · simp only [if_neg k3] at hnext
        refine v102_11 _ _ _ _ _ (k, nm, 0, [], 0, 0) _ _ (condE (fun k4 => ?_) fun k4 => ?_)
        · replace k4 : k = 4 := k4
          simp only [if_pos k4] at hnext
          have h3 := dnumM_len l2 e2 1048576
          refine ASpec.call (dnum_spec (id := 0) (l := l2) (e := e2) 1048576 (by omega) rfl) (Les.refl _) ⟨(_, B (dnumM l2 e2 1048576).2.1, _), rfl, rfl, ?_⟩
          refine ASpec.call (dnum_spec (id := 0) (l := (dnumM l2 e2 1048576).2.1) (e := (dnumM l2 e2 1048576).2.2) 1048576 (by omega) rfl) (Les.refl _) ⟨(_, B (dnumM (dnumM l2 e2 1048576).2.1 (dnumM l2 e2 1048576).2.2 1048576).2.1, _), rfl, rfl, ?_⟩
          exact e14 (x := (k, nm, 0, [], _, _)) (by omega) (by omega) hnext
        · replace k4 : k ≠ 4 := k4
          simp only [if_neg k4] at hnext
          exact e14 (x := (k, nm, 0, [], 0, 0)) (by omega) (by omega) hnext
    · simp only [dG, if_neg he, List.append_nil] at h
      subst h
      exact e15 (by show acc.length ≤ 2000000; omega) hok hR

theorem rread_specP (bs : List UInt8) (hb : bs.length ≤ 1000000) (H : List AObj) : ASpec Tryd.prog 102 [.str (B bs)] H (fun r H' => r = .tup [slP (readP bs).1, .int .i64 (readP bs).2] ∧ H' = H) := by
  have k : ASpec Tryd.prog 102 [.str (B bs)] [] (fun r H' => r = .tup [slP (readP bs).1, .int .i64 (readP bs).2] ∧ H' = []) := by
    have hl : bs.length ≤ 10 * big := by unfold big; omega
    have h2 := dnumM_most bs 0 1048576 (by omega)
    have h3 := dnumM_len bs 0 1048576
    refine ASpec.sel (s102 _ _ (ASpec.call (dnum_spec (id := 0) (l := bs) (e := 0) 1048576 hl rfl) (Les.refl _) ⟨((dnumM bs 0 1048576).1, B (dnumM bs 0 1048576).2.1, (dnumM bs 0 1048576).2.2), rfl, rfl, ?_⟩))
    refine AWP.re (ReSt.tok (H := [dr (dnumM bs 0 1048576).2.1 (dnumM bs 0 1048576).2.2]) (k := 6) (q' := .map encSt noSt []) (sz' := 6) (s2 := [(4, .ptr 0 0), (5, .int .i64 (dnumM bs 0 1048576).1), (6, .sl 6 (.map encSt noSt []) (.tok 1)), (7, .int .i64 0)]) rfl (.inl rfl) rfl (.inr rfl) (fun d hd => ?_) rfl) ?_
    · simp only [Ab.get]
      have e : Nat.beq 6 d = false := by
        cases hx : Nat.beq 6 d with
        | false => rfl
        | true => exact absurd (Nat.eq_of_beq_eq_true hx).symm hd
      rw [e]; rfl
    · obtain ⟨k, hk⟩ := Int.eq_ofNat_of_zero_le h2.1
      rw [hk]
      obtain ⟨a1, a2, a3⟩ := alikeSts bs
      have hD : dSts bs = dG dSt k (dnumM bs 0 1048576).2.1 (dnumM bs 0 1048576).2.2 := by rw [dSts, hk]; rfl
      refine e5 (n := k) (by omega) (R := dSts bs) (dReadP_eq bs).symm ?_ k 0 _ _ [] (by omega) (by omega) (by simp; omega) ?_
      · intro h0
        have he : (stsR bs).2.2 = 0 := by
          by_cases he : (stsR bs).2.2 = 0
          · exact he
          · rw [a2] at h0
            simp only [closeM, if_pos he] at h0
            exact h0
        rw [a3 he]
        exact stsR_ok bs
      · rw [hD]; rfl
  exact ASpec.pureH H k _ _ rfl rfl

/-! ### the bytes -/

def stT (x : St) : List UInt8 := if x.1 = 3 then numB x.2.2.1 ++ text x.2.2.2.1 else if x.1 = 4 then numB x.2.2.2.2.1 ++ numB x.2.2.2.2.2 else []
def stB (x : St) : List UInt8 := numB x.1 ++ (text x.2.1 ++ stT x)
def proofB (l : List St) : List UInt8 := numB l.length ++ l.flatMap stB
def putP (l : List St) : List UInt8 := if checkM l = true then proofB l else []

theorem may_short {x : St} {i : Int} (h : mayM x i = true) : x.2.1.length ≤ 24 ∧ (x.1 = 3 → x.2.2.2.1.length ≤ 24) ∧ 1 ≤ x.1 ∧ x.1 ≤ 4 := by
  unfold mayM at h
  rw [Bool.and_eq_true] at h
  refine ⟨fitM_short h.1, fun h3 => ?_, ?_⟩
  · have := h.2
    rw [if_neg (by omega), if_pos h3, Bool.and_eq_true] at this
    exact fitM_short this.1
  · have := h.2
    split at this
    · omega
    · split at this
      · omega
      · split at this
        · omega
        · cases this

theorem stB_len {x : St} {i : Int} (h : mayM x i = true) : (stB x).length ≤ 80 := by
  obtain ⟨h1, h2, h3, h4⟩ := may_short h
  have n1 := numB_len x.1
  have n2 := text_len x.2.1
  have : (stT x).length ≤ 40 := by
    unfold stT
    have n3 := numB_len x.2.2.1
    have n4 := text_len x.2.2.2.1
    have n5 := numB_len x.2.2.2.2.1
    have n6 := numB_len x.2.2.2.2.2
    split
    · have := h2 (by assumption)
      simp only [List.length_append]; omega
    · split <;> simp <;> omega
  unfold stB
  simp only [List.length_append]; omega

theorem st_back {x : St} {i : Int} (h : mayM x i = true) (hi : i ≤ 1048576) : Back stB stR x := by
  intro pre rest
  obtain ⟨h1, h2, h3, h4⟩ := may_short h
  obtain ⟨k, nm, v, to, a, b⟩ := x
  unfold mayM at h
  simp only [Bool.and_eq_true] at h h1 h2 h3 h4
  have hm := h.2
  have e1 := num_back (x := k) (most := 4) (by omega) (by omega) (by omega) pre (text nm ++ stT (k, nm, v, to, a, b) ++ rest)
  have e2 := text_back (s := nm) (most := 24) (by omega) (by omega) (pre ++ numB k) (stT (k, nm, v, to, a, b) ++ rest)
  simp only [List.append_assoc, List.length_append] at e1 e2
  simp only [stR, stN, stB, List.append_assoc, e1, e2, List.length_append]
  by_cases k3 : k = 3
  · subst k3
    rw [if_neg (by omega), if_pos rfl, Bool.and_eq_true] at hm
    obtain ⟨hf, hd⟩ := hm
    have hd := of_decide_eq_true hd
    obtain ⟨d1, d2, rfl, rfl⟩ := hd
    have e3 := num_back (x := v) (most := 1000000000) (by omega) (by omega) (by omega) (pre ++ numB 3 ++ text nm) (text to ++ rest)
    have e4 := text_back (s := to) (most := 24) (by have := h2 rfl; omega) (by have := h2 rfl; omega) (pre ++ numB 3 ++ text nm ++ numB v) rest
    simp only [List.append_assoc, List.length_append, Nat.add_assoc] at e3 e4 ⊢
    simp only [stK, stT, if_pos rfl, List.append_assoc, e3, e4, List.length_append, Nat.add_assoc]
    simp only [if_true, List.append_assoc, e3, e4, List.length_append]
  · by_cases k4 : k = 4
    · subst k4
      rw [if_neg (by omega), if_neg (by omega), if_pos rfl] at hm
      have hd := of_decide_eq_true hm
      obtain ⟨rfl, rfl, d1, d2, d3, d4⟩ := hd
      have e3 := num_back (x := a) (most := 1048576) (by omega) (by omega) (by omega) (pre ++ numB 4 ++ text nm) (numB b ++ rest)
      have e4 := num_back (x := b) (most := 1048576) (by omega) (by omega) (by omega) (pre ++ numB 4 ++ text nm ++ numB a) rest
      simp only [List.append_assoc, List.length_append, Nat.add_assoc] at e3 e4 ⊢
      simp only [stK, stT, if_neg k3, if_true, List.append_assoc, e3, e4, List.length_append, Nat.add_assoc]
    · rw [if_pos (by omega)] at hm
      have hd := of_decide_eq_true hm
      obtain ⟨rfl, rfl, rfl, rfl⟩ := hd
      simp only [stK, stT, if_neg k3, if_neg k4, List.nil_append, List.length_nil, Nat.add_zero, Nat.add_assoc]

theorem chkF_may : ∀ (l : List St) (i : Nat), chkF i l = true → ∀ x ∈ l, ∃ j : Nat, j < i + l.length ∧ mayM x j = true
  | [], _, _, x, hx => by simp at hx
  | y :: r, i, h, x, hx => by
    simp only [chkF, Bool.and_eq_true] at h
    rcases List.mem_cons.1 hx with rfl | hx
    · exact ⟨i, by simp, h.1⟩
    · obtain ⟨j, h1, h2⟩ := chkF_may r (i + 1) h.2 x hx
      exact ⟨j, by simp; omega, h2⟩

theorem checkM_may {l : List St} (h : checkM l = true) : 1 ≤ l.length ∧ l.length ≤ 1048576 ∧ ∀ x ∈ l, ∃ j : Nat, j < l.length ∧ mayM x j = true := by
  unfold checkM at h
  rw [Bool.and_eq_true] at h
  have h1 := of_decide_eq_true h.1
  refine ⟨h1.1, h1.2, fun x hx => ?_⟩
  obtain ⟨j, a, b⟩ := chkF_may l 0 h.2 x hx
  exact ⟨j, by omega, b⟩

theorem checkM_okS {l : List St} (h : checkM l = true) : ∀ x ∈ l, (stB x).length ≤ 80 := fun x hx => by
  obtain ⟨_, _, h3⟩ := checkM_may h
  obtain ⟨j, _, hj⟩ := h3 x hx
  exact stB_len hj

theorem sts_back {l : List St} (h : checkM l = true) : stsR (proofB l) = (l, (proofB l).length, 0) := by
  obtain ⟨h1, h2, h3⟩ := checkM_may h
  have hs : ∀ x ∈ l, Back stB stR x := fun x hx => by
    obtain ⟨j, hj, hm⟩ := h3 x hx
    exact st_back hm (by omega)
  have := listM_back (most := 1048576) l hs (by omega) (by omega) [] []
  simpa [stsR, proofB] using this

theorem read_putP {l : List St} (h : checkM l = true) : readP (proofB l) = (l, 0) := by
  unfold readP
  rw [sts_back h]
  simp only [Nat.sub_self]
  show endP l (closeM 0 0) = _
  simp [endP, closeM, h]

theorem st_canon : Canon stB stR := by
  intro bs p e h
  simp only [stR] at h ⊢
  generalize hk : (numM bs p e 4).1 = k at h ⊢
  have key : (numM bs p e 4).2.2 = 0 ∧ (stN bs k (numM bs p e 4).2.1 (numM bs p e 4).2.2).1.1 = k ∧ bs.drop (numM bs p e 4).2.1 = text (stN bs k (numM bs p e 4).2.1 (numM bs p e 4).2.2).1.2.1 ++ stT (stN bs k (numM bs p e 4).2.1 (numM bs p e 4).2.2).1 ++ bs.drop (stN bs k (numM bs p e 4).2.1 (numM bs p e 4).2.2).2.1 := by
    generalize (numM bs p e 4).2.1 = p1 at h ⊢
    generalize (numM bs p e 4).2.2 = e1 at h ⊢
    simp only [stN] at h ⊢
    have key2 : ∀ nm, (strM bs p1 e1 24).1 = nm → (strM bs p1 e1 24).2.2 = 0 ∧ (stK bs k nm (strM bs p1 e1 24).2.1 (strM bs p1 e1 24).2.2).1.1 = k ∧ (stK bs k nm (strM bs p1 e1 24).2.1 (strM bs p1 e1 24).2.2).1.2.1 = nm ∧
        bs.drop (strM bs p1 e1 24).2.1 = stT (stK bs k nm (strM bs p1 e1 24).2.1 (strM bs p1 e1 24).2.2).1 ++ bs.drop (stK bs k nm (strM bs p1 e1 24).2.1 (strM bs p1 e1 24).2.2).2.1 := by
      intro nm hnm
      rw [hnm] at h
      generalize (strM bs p1 e1 24).2.1 = p2 at h ⊢
      generalize (strM bs p1 e1 24).2.2 = e2 at h ⊢
      unfold stK at h ⊢
      by_cases k3 : k = 3
      · simp only [if_pos k3] at h ⊢
        obtain ⟨a, b⟩ := text_canon 24 bs _ _ h
        obtain ⟨c, d⟩ := num_canon 1000000000 bs _ _ a
        simp only at b d
        refine ⟨c, trivial, trivial, ?_⟩
        simp only [stT, if_pos k3, List.append_assoc]
        rw [d, b]
      · simp only [if_neg k3] at h ⊢
        by_cases k4 : k = 4
        · simp only [if_pos k4] at h ⊢
          obtain ⟨a, b⟩ := num_canon 1048576 bs _ _ h
          obtain ⟨c, d⟩ := num_canon 1048576 bs _ _ a
          simp only at b d
          refine ⟨c, trivial, trivial, ?_⟩
          simp only [stT, if_neg k3, if_pos k4, List.append_assoc]
          rw [d, b]
        · simp only [if_neg k4] at h ⊢
          refine ⟨h, trivial, trivial, ?_⟩
          simp [stT, k3, k4]
    obtain ⟨a, b, c, d⟩ := key2 _ rfl
    obtain ⟨f, g⟩ := text_canon 24 bs _ _ a
    simp only at g
    refine ⟨f, b, ?_⟩
    rw [c, g, d, List.append_assoc]
  obtain ⟨a, hb, c⟩ := key
  obtain ⟨d, f⟩ := num_canon 4 bs p e a
  simp only at f
  refine ⟨d, ?_⟩
  rw [f, c, stB, hb, hk]
  simp only [List.append_assoc]

theorem put_readP {bs : List UInt8} (h : (readP bs).2 = 0) : proofB (readP bs).1 = bs ∧ checkM (readP bs).1 = true := by
  refine ⟨?_, ?_⟩
  · unfold readP endP at h ⊢
    split at h
    · rename_i hc; exact absurd h hc
    · rename_i hc
      rw [if_neg hc]
      split at h
      · rename_i hm
        rw [if_pos hm]
        obtain ⟨h1, h2⟩ := closeM_zero (e := (stsR bs).2.2) (n := bs.length - (stsR bs).2.1) (by simpa using hc)
        obtain ⟨-, c⟩ := listM_canon st_canon (by omega) bs 0 0 h1
        simp only [List.drop_zero] at c
        have hd : bs.drop (listM (stR bs) bs 0 0 1048576).2.1 = [] := List.drop_eq_nil_of_le (by unfold stsR at h2; omega)
        rw [hd, List.append_nil] at c
        unfold proofB stsR
        exact c.symm
      · simp at h
  · unfold readP endP at h ⊢
    split at h
    · rename_i hc; exact absurd h hc
    · rename_i hc
      rw [if_neg hc]
      split at h
      · rename_i hm
        rw [if_pos hm]; exact hm
      · simp at h

end Pr
end

section
/- Steps of a proof: what is put, the program's and the document's. -/

set_option linter.unusedVariables false
set_option linter.unusedSimpArgs false
set_option maxRecDepth 100000
open Go Go.Ab Go.Proofs V S T C
open W (sl1 numB text lenL leTwo leTok put1M put2M numB_len text_len flat_len)
open E (PA pa)
open Pf (s92 v92_5 c92_5 q92_2 s106 v106_5 v106_10 c106_5 c106_10 q106_2 q106_5)
namespace Pr

abbrev PW (x : List UInt8) : AV → List AObj → Prop := PA (sl1 x)
theorem pw {l x : List UInt8} {tip : Tip} {H' : List AObj} (h : l = x) : PW x (.sl 1 (.map encB 0 l) tip) H' := h ▸ pa (sealLe _ rfl)

theorem put5 {l : List St} (hl : l.length ≤ 1048576) (hk : ∀ x ∈ l, okS x ∧ (stB x).length ≤ 80) {P : List UInt8} (hP : P.length ≤ 100000000) :
    ∀ (m i : Nat) (b : List UInt8), m + i = l.length → b ++ (l.drop i).flatMap stB = P →
    AWP Tryd.prog 50 0 c92_5 [(3, sl1 b), (13, slP l), (14, .int .i64 l.length), (15, .int .i64 i)] [] (q92_2 0 (PW P)) := by
  intro m
  induction m with
  | zero =>
    intro i b hm hb
    refine v92_5 _ _ _ _ _ _ (condD (fun hc => by omega) fun _ => pw ?_)
    rw [List.drop_eq_nil_of_le (by omega)] at hb
    simpa using hb
  | succ m ih =>
    intro i b hm hb
    have hbl : b.length ≤ P.length := lenL hb
    obtain ⟨⟨o1, o2⟩, hs⟩ := hk _ (memD l noSt i (by omega))
    rw [dropD l noSt i (by omega), List.flatMap_cons, ← List.append_assoc] at hb
    refine v92_5 _ _ _ _ _ _ (condD (fun _ => needJ ⟨by omega, by omega⟩ ?_) fun h => by omega)
    rw [Int.toNat_natCast]
    generalize l.getD i noSt = x at hb hs o1 o2 ⊢
    unfold lim at o1 o2
    have hb2 : (b ++ stB x).length ≤ P.length := lenL hb
    have n1 := numB_len x.1
    have n2 := text_len x.2.1
    have nxt : ∀ (H' : List AObj) (tip : Tip), AWP Tryd.prog 50 0 c92_5 [(3, .sl 1 (.map encB 0 (b ++ stB x)) tip), (13, slP l), (14, .int .i64 l.length), (15, .int .i64 (IntKind.wrap .i64 ((i : Int) + 1)))] H' (q92_2 0 (PW P)) := by
      intro H' tip
      rw [succ64 (by omega)]
      exact AWP.shape [] [(3, sl1 (b ++ stB x)), (13, slP l), (14, .int .i64 l.length), (15, .int .i64 (i + 1 : Nat))] [] Sel.none ⟨rfl, sealLe _ rfl, rfl, Le.refl _, rfl, Le.refl _, rfl, Le.refl _, trivial⟩ (ih (i + 1) _ (by omega) hb)
    have etx : b ++ numB x.1 ++ V.enc (held x.2.1.length) ++ x.2.1 = b ++ numB x.1 ++ text x.2.1 := by simp [text]
    refine put_spec' (bs := b) (ns := [x.1]) ⟨Le.refl _, leOne _, trivial⟩ (by unfold big; simp; omega) ⟨_, rfl, rfl, ?_⟩
    rw [put1M]
    repeat refine ⟨⟨rfl, rfl⟩, ?_⟩
    refine ASpec.call (text_spec (b ++ numB x.1) x.2.1 (by unfold big; simp only [List.length_append]; omega) _) ⟨leTok, Le.refl _, trivial⟩ ⟨b ++ numB x.1 ++ text x.2.1, by rw [etx]; rfl, rfl, ?_⟩
    refine condE (fun k3 => ?_) fun k3 => condE (fun k4 => ?_) fun k4 => ?_
    · have n3 := numB_len x.2.2.1
      have n4 := text_len x.2.2.2.1
      have e2 : b ++ numB x.1 ++ text x.2.1 ++ numB x.2.2.1 ++ V.enc (held x.2.2.2.1.length) ++ x.2.2.2.1 = b ++ stB x := by simp [stB, stT, k3, text]
      refine put_spec' (bs := b ++ numB x.1 ++ text x.2.1) (ns := [x.2.2.1]) ⟨leTok, leOne _, trivial⟩ (by unfold big; simp; omega) ⟨_, rfl, rfl, ?_⟩
      rw [put1M]
      repeat refine ⟨⟨rfl, rfl⟩, ?_⟩
      refine ASpec.call (text_spec (b ++ numB x.1 ++ text x.2.1 ++ numB x.2.2.1) x.2.2.2.1 (by unfold big; simp only [List.length_append]; omega) _) ⟨leTok, Le.refl _, trivial⟩ ⟨b ++ stB x, by rw [e2]; rfl, rfl, nxt _ _⟩
    · have e2 : b ++ numB x.1 ++ text x.2.1 ++ (numB x.2.2.2.2.1 ++ numB x.2.2.2.2.2) = b ++ stB x := by simp [stB, stT, k4]
      refine put_spec' (bs := b ++ numB x.1 ++ text x.2.1) (ns := [x.2.2.2.2.1, x.2.2.2.2.2]) ⟨leTok, leTwo _ _, trivial⟩ (by unfold big; simp; omega) ⟨_, rfl, rfl, ?_⟩
      rw [put2M, e2]
      exact nxt _ _
    · have e2 : b ++ numB x.1 ++ text x.2.1 = b ++ stB x := by simp [stB, stT, k3, k4]
      rw [e2]
      exact nxt _ _

theorem proofB_len {l : List St} (h : checkM l = true) : (proofB l).length ≤ 100000000 := by
  obtain ⟨h1, h2, _⟩ := checkM_may h
  have n1 := numB_len l.length
  have := flat_len stB 80 l (checkM_okS h)
  unfold proofB
  simp only [List.length_append]
  have := Nat.mul_le_mul_right 80 h2
  omega

theorem put_specP (l : List St) (hl : l.length ≤ maxLen) (hk : ∀ x ∈ l, okS x) (H : List AObj) : ASpec Tryd.prog 92 [slP l] H (fun r H' => r = sl1 (putP l) ∧ H' = H) := by
  have k : ASpec Tryd.prog 92 [slP l] [] (fun r H' => r = sl1 (putP l) ∧ H' = []) := by
    refine ASpec.sel (s92 _ _ (ASpec.call (check_spec l hl hk _) (Les.refl _) ⟨_, rfl, rfl, condBn (fun h => ?_) fun h => ?_⟩))
    · rw [putP, if_neg (by simp [h])]
      exact pa (Le.sl (s' := Seq.ren _ (.map encB 0 [])) rfl (.inr ⟨rfl, fun _ h => by cases h⟩) (.inr rfl))
    · obtain ⟨h1, h2, _⟩ := checkM_may h
      rw [putP, if_pos h]
      refine put_spec' (bs := []) (ns := [(l.length : Int)]) ⟨leNil, leOne _, trivial⟩ (by unfold big; simp) ⟨_, rfl, rfl, ?_⟩
      rw [put1M, List.nil_append]
      refine AWP.shape [] [(3, sl1 (numB l.length)), (13, slP l), (14, .int .i64 l.length), (15, .int .i64 (0 : Nat))] [] Sel.none ⟨rfl, sealLe _ rfl, rfl, Le.refl _, rfl, Le.refl _, rfl, Le.refl _, trivial⟩ ?_
      exact put5 h2 (fun x hx => ⟨hk x hx, checkM_okS h x hx⟩) (proofB_len h) l.length 0 _ (by omega) rfl
  exact ASpec.pureH H k _ _ rfl rfl

abbrev PS (x : List UInt8) : AV → List AObj → Prop := PA (.str (B x))

theorem rput10 {l : List St} {i : Nat} {x : St} (hl : l.length ≤ 1048576) (hi : i < l.length) (hx : l.getD i noSt = x) {s : List UInt8} (hs : s.length ≤ 100000000) {Post : AV → List AObj → Prop}
    (k : AWP Tryd.prog 75 0 c106_5 [(0, slP l), (3, .str (B (s ++ if x.1 = 4 then numB x.2.2.2.2.1 ++ numB x.2.2.2.2.2 else []))), (4, .int .i64 (i + 1 : Nat))] [] (q106_2 0 Post)) :
    AWP Tryd.prog 75 0 c106_10 [(0, slP l), (3, .str (B s)), (4, .int .i64 i)] [] (q106_5 0 Post) := by
  refine v106_10 _ _ _ _ _ (needJ ⟨by omega, by omega⟩ ?_)
  rw [Int.toNat_natCast, hx, succ64 (by omega)]
  have n1 := numB_len x.2.2.2.2.1
  have n2 := numB_len x.2.2.2.2.2
  refine condE (fun k4 => needJ ⟨by omega, by omega⟩ (needJ ⟨by omega, by omega⟩ ?_)) fun k4 => ?_
  · rw [if_pos k4] at k
    refine ASpec.call (rnum_spec _ _) (Les.refl _) ⟨B (numB x.2.2.2.2.1), rfl, rfl, ⟨rfl, rfl⟩, needJ (by rw [B_size, B_size]; omega) ?_⟩
    rw [B_append]
    refine ASpec.call (rnum_spec _ _) (Les.refl _) ⟨B (numB x.2.2.2.2.2), rfl, rfl, needJ (by rw [B_size, B_size, List.length_append]; omega) ?_⟩
    rw [B_append, List.append_assoc]; exact k
  · rw [if_neg k4, List.append_nil] at k; exact k

theorem rput5 {l : List St} (hl : l.length ≤ 1048576) (hk : ∀ x ∈ l, okS x ∧ (stB x).length ≤ 80) {P : List UInt8} (hP : P.length ≤ 100000000) :
    ∀ (m i : Nat) (b : List UInt8), m + i = l.length → b ++ (l.drop i).flatMap stB = P →
    AWP Tryd.prog 75 0 c106_5 [(0, slP l), (3, .str (B b)), (4, .int .i64 i)] [] (q106_2 0 (PS P)) := by
  intro m
  induction m with
  | zero =>
    intro i b hm hb
    refine v106_5 _ _ _ _ _ (condD (fun hc => by omega) fun _ => ?_)
    rw [List.drop_eq_nil_of_le (by omega)] at hb
    simp only [List.flatMap_nil, List.append_nil] at hb
    subst hb; exact pa (Le.refl _)
  | succ m ih =>
    intro i b hm hb
    have hbl : b.length ≤ P.length := lenL hb
    obtain ⟨⟨o1, o2⟩, hs⟩ := hk _ (memD l noSt i (by omega))
    rw [dropD l noSt i (by omega), List.flatMap_cons, ← List.append_assoc] at hb
    refine v106_5 _ _ _ _ _ (condD (fun _ => needJ ⟨by omega, by omega⟩ (needJ ⟨by omega, by omega⟩ ?_)) fun h => by omega)
    rw [Int.toNat_natCast]
    generalize hx : l.getD i noSt = x at hb hs o1 o2 ⊢
    unfold lim at o1 o2
    have hb2 : (b ++ stB x).length ≤ P.length := lenL hb
    have n1 := numB_len x.1
    have n2 := text_len x.2.1
    have hb3 : b.length + (stB x).length ≤ P.length := by rw [← List.length_append]; exact hb2
    have hst : (stB x).length = (numB x.1).length + ((text x.2.1).length + (stT x).length) := by simp [stB]
    refine ASpec.call (rnum_spec _ _) (Les.refl _) ⟨B (numB x.1), rfl, rfl, ⟨rfl, rfl⟩, needJ (by rw [B_size, B_size]; omega) ?_⟩
    rw [B_append]
    refine ASpec.call (rtext_spec x.2.1 (by unfold big; omega) _) (Les.refl _) ⟨B (text x.2.1), rfl, rfl, needJ (by rw [B_size, B_size, List.length_append]; omega) (needJ ⟨by omega, by omega⟩ ?_)⟩
    rw [B_append]
    refine condE (fun k3 => needJ ⟨by omega, by omega⟩ (needJ ⟨by omega, by omega⟩ ?_)) fun k3 => ?_
    · have n3 := numB_len x.2.2.1
      have n4 := text_len x.2.2.2.1
      refine ASpec.call (rnum_spec _ _) (Les.refl _) ⟨B (numB x.2.2.1), rfl, rfl, ⟨rfl, rfl⟩, needJ (by rw [B_size, B_size]; simp only [List.length_append]; omega) ?_⟩
      rw [B_append]
      refine ASpec.call (rtext_spec x.2.2.2.1 (by unfold big; omega) _) (Les.refl _) ⟨B (text x.2.2.2.1), rfl, rfl, needJ (by rw [B_size, B_size]; simp only [List.length_append]; omega) ?_⟩
      rw [B_append]
      have e : b ++ numB x.1 ++ text x.2.1 ++ numB x.2.2.1 ++ text x.2.2.2.1 = b ++ stB x := by simp [stB, stT, k3]
      rw [e]
      refine rput10 hl (by omega) hx (by omega) ?_
      rw [if_neg (by omega), List.append_nil]
      exact ih (i + 1) _ (by omega) hb
    · refine rput10 hl (by omega) hx (by simp only [List.length_append]; omega) ?_
      have e : b ++ numB x.1 ++ text x.2.1 ++ (if x.1 = 4 then numB x.2.2.2.2.1 ++ numB x.2.2.2.2.2 else []) = b ++ stB x := by simp [stB, stT, k3]
      rw [e]
      exact ih (i + 1) _ (by omega) hb

theorem rput_specP (l : List St) (hl : l.length ≤ maxLen) (hk : ∀ x ∈ l, okS x) (H : List AObj) : ASpec Tryd.prog 106 [slP l] H (fun r H' => r = .str (B (putP l)) ∧ H' = H) := by
  have k : ASpec Tryd.prog 106 [slP l] [] (fun r H' => r = .str (B (putP l)) ∧ H' = []) := by
    refine ASpec.sel (s106 _ _ (ASpec.call (rcheck_spec l hl hk _) (Les.refl _) ⟨_, rfl, rfl, condBn (fun h => ?_) fun h => ?_⟩))
    · rw [putP, if_neg (by simp [h])]; exact pa (Le.refl _)
    · obtain ⟨h1, h2, _⟩ := checkM_may h
      rw [putP, if_pos h]
      refine ASpec.call (rnum_spec _ _) (Les.refl _) ⟨B (numB l.length), rfl, rfl, ?_⟩
      exact rput5 h2 (fun x hx => ⟨hk x hx, checkM_okS h x hx⟩) (proofB_len h) l.length 0 _ (by omega) rfl
  exact ASpec.pureH H k _ _ rfl rfl

end Pr
end

section
/- The codecs of this seat's plain arguments. -/

open Go Go.Ab Go.Proofs
namespace Go.Ab

noncomputable def cInt : Codec Tryd.prog 3 Int := Codec.int .i64 Tryd.underlying3
noncomputable def cStr : Codec Tryd.prog 9 ByteArray := Codec.str Tryd.underlying9
noncomputable def cInts : Codec Tryd.prog 105 (List Int) := Codec.slice (sz := 1) cInt Tryd.underlying105 (by kernel_rfl) (by omega) (fun _ => rfl)
/-- a byte -/
noncomputable def cByte : Codec Tryd.prog 5 UInt8 where
  enc b := encB b
  ok _ := True
  dflt := 0
  opens := by
    intro H e w fuel cs x h
    obtain ⟨n, h1, h2⟩ := (Codec.int .u8 Tryd.underlying5).opens e w fuel cs x h
    have hn : 0 ≤ n ∧ n ≤ 255 := by simpa [Codec.int, Lit.wf, IntKind.min, IntKind.max, IntKind.signed, IntKind.bits] using h1
    refine ⟨UInt8.ofNat n.toNat, trivial, ?_⟩
    rw [← encB_ofNat hn.1 (by omega)]
    exact h2
noncomputable def cBytes : Codec Tryd.prog 48 (List UInt8) := Codec.slice (sz := 1) cByte Tryd.underlying48 (by kernel_rfl) (by omega) (fun _ => rfl)

end Go.Ab
end

section
/- The codecs of manifests. -/

open Go Go.Ab Go.Proofs
namespace Go.Ab

noncomputable def cName : Codec Tryd.prog 9 (List UInt8) := cStr.iso (fun s => s.data.toList) (fun l => [.str ⟨l.toArray⟩]) (fun _ => True) (fun _ => rfl) (fun _ _ => trivial)
end Go.Ab
end
