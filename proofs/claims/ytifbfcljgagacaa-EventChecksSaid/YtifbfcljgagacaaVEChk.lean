/- Events: which may be, and which are alike. -/
import Derived.Test.YtifbfcljgagacaaVEvt
import Derived.Test.YtifbfcljgagacaaVWDoc
set_option linter.unusedVariables false
set_option linter.unusedSimpArgs false
set_option maxRecDepth 100000
open Go Go.Ab Go.Proofs V S T C
open W (sl1 slS slN slR cons_dec)
namespace E

/-- the answer r0, whatever lies in the heap -/
abbrev PA (r0 : AV) : AV → List AObj → Prop := fun r H' => ∃ l H2 r2, Sel 0 l H' H2 ∧ Le r (AV.ren (selR l H'.length) r2) ∧ (r2 = r0 ∧ H2 = [])
theorem pa {r r0 : AV} {H' : List AObj} (h : Le r (AV.ren (selR [] H'.length) r0)) : PA r0 r H' := ⟨[], [], r0, Sel.none, h, rfl, rfl⟩

theorem condEn {a b : Int} {A B : Prop} (h1 : a ≠ b → A) (h2 : a = b → B) : condP (!(a == b)) A B := by
  by_cases h : a = b
  · rw [beq_iff_eq.2 h]; exact h2 h
  · rw [beq_eq_false_iff_ne.2 h]; exact h1 h
theorem condNb {a b : Bool} {A B : Prop} (h1 : a = b → A) (h2 : a ≠ b → B) : condP (a == b) A B := by
  by_cases h : a = b
  · rw [beq_iff_eq.2 h]; exact h1 h
  · rw [beq_eq_false_iff_ne.2 h]; exact h2 h

theorem bytesBeq (a b : List UInt8) : ((bytesOf (.map encB 0 a)).toList == (bytesOf (.map encB 0 b)).toList) = decide (a = b) := by
  rw [bytesOf_map, bytesOf_map, B_beq, Bool.eq_iff_iff]; simp

/-! ### alike -/

theorem equalB_spec (a b : List UInt8) (H : List AObj) : ASpec Try.prog 114 [sl1 a, sl1 b] H (fun r H' => r = .bool (decide (a = b)) ∧ H' = H) := by
  have k : ASpec Try.prog 114 [sl1 a, sl1 b] [] (fun r H' => r = .bool (decide (a = b)) ∧ H' = []) :=
    s114 _ _ _ (needJ (allBytes_map _) (needJ (allBytes_map _) ⟨by rw [bytesBeq], rfl⟩))
  exact ASpec.pureH H k _ _ rfl rfl

theorem sameS4 {a b : List Span} {c : Bool} (hl : a.length ≤ lim) (he : a.length = b.length) : ∀ (m i : Nat), m + i = a.length → decide (a.drop i = b.drop i) = c →
    AWP Try.prog 26 0 c169_4 [(0, slS a), (1, slS b), (12, .int .i64 a.length), (13, .int .i64 i)] [] (q169_2 0 (PB c)) := by
  unfold lim at hl
  intro m
  induction m with
  | zero =>
    intro i hm h
    refine v169_4 _ _ _ _ _ _ (condD (fun hc => by omega) fun _ => pb ?_)
    rw [List.drop_eq_nil_of_le (by omega), List.drop_eq_nil_of_le (by omega)] at h
    rw [← h]; simp
  | succ m ih =>
    intro i hm h
    rw [dropD a (0, 0) i (by omega), dropD b (0, 0) i (by omega), cons_dec] at h
    refine v169_4 _ _ _ _ _ _ (condD (fun hc => needJ ⟨by omega, by omega⟩ (needJ ⟨by omega, by omega⟩ ?_)) fun hc => by omega)
    rw [Int.toNat_natCast]
    generalize a.getD i (0, 0) = x at h ⊢
    generalize b.getD i (0, 0) = y at h ⊢
    have e : (x.1 == y.1 && (x.2 == y.2 && true)) = decide (x = y) := by
      obtain ⟨x1, x2⟩ := x
      obtain ⟨y1, y2⟩ := y
      rw [Bool.eq_iff_iff]; simp
    rw [e]
    refine condBn (fun h1 => pb ?_) fun h1 => ?_
    · rw [h1, Bool.false_and] at h; exact h
    · rw [h1, Bool.true_and] at h
      rw [succ64 (by omega)]
      exact ih (i + 1) (by omega) h

theorem sameS_spec (a b : List Span) (hl : a.length ≤ lim) (H : List AObj) : ASpec Try.prog 151 [slS a, slS b] H (fun r H' => r = .bool (decide (a = b)) ∧ H' = H) := by
  have k : ASpec Try.prog 169 [slS a, slS b] [] (fun r H' => r = .bool (decide (a = b)) ∧ H' = []) := by
    refine ASpec.sel (s169 _ _ _ (condNe (fun h => pb ?_) fun h => sameS4 hl (by omega) a.length 0 (by omega) rfl))
    symm
    rw [decide_eq_false]
    rintro rfl; exact h rfl
  exact ASpec.pureH H (s151 _ _ _ (ASpec.call k (Les.refl _) ⟨_, rfl, rfl, rfl, rfl⟩)) _ _ rfl rfl

theorem sameN1_spec (a b : Need) (hl : a.2.length ≤ lim) (H : List AObj) : ASpec Try.prog 150 [.agg (encN a), .agg (encN b)] H (fun r H' => r = .bool (decide (a = b)) ∧ H' = H) := by
  have k : ASpec Try.prog 150 [.agg (encN a), .agg (encN b)] [] (fun r H' => r = .bool (decide (a = b)) ∧ H' = []) := by
    refine ASpec.sel (s150 _ _ _ (condS (fun h => ASpec.call (sameS_spec a.2 b.2 hl _) (Les.refl _) ⟨_, rfl, rfl, pb ?_⟩) fun h => pb ?_))
    · exact decide_eq_decide.2 ⟨fun h2 => Prod.ext h h2, fun h2 => by rw [h2]⟩
    · symm; rw [decide_eq_false]; rintro rfl; exact h rfl
  exact ASpec.pureH H k _ _ rfl rfl

theorem sameN4 {a b : List Need} {c : Bool} (hl : okN a) (he : a.length = b.length) : ∀ (m i : Nat), m + i = a.length → decide (a.drop i = b.drop i) = c →
    AWP Try.prog 32 0 c149_4 [(1, slN b), (2, .fn 150 []), (15, slN a), (16, .int .i64 a.length), (17, .int .i64 i)] [] (q149_2 0 (PB c)) := by
  obtain ⟨hl1, hl2⟩ := hl
  unfold lim at hl1
  intro m
  induction m with
  | zero =>
    intro i hm h
    refine v149_4 _ _ _ _ _ _ (condD (fun hc => by omega) fun _ => pb ?_)
    rw [List.drop_eq_nil_of_le (by omega), List.drop_eq_nil_of_le (by omega)] at h
    rw [← h]; simp
  | succ m ih =>
    intro i hm h
    have hx := hl2 _ (memD a ([], []) i (by omega))
    rw [dropD a ([], []) i (by omega), dropD b ([], []) i (by omega), cons_dec] at h
    refine v149_4 _ _ _ _ _ _ (condD (fun hc => needJ ⟨by omega, by omega⟩ (needJ ⟨by omega, by omega⟩ ?_)) fun hc => by omega)
    rw [Int.toNat_natCast]
    generalize a.getD i ([], []) = x at h hx ⊢
    generalize b.getD i ([], []) = y at h ⊢
    refine ASpec.call (sameN1_spec x y hx.2 _) (Les.refl _) ⟨_, rfl, rfl, condBn (fun h1 => pb ?_) fun h1 => ?_⟩
    · rw [h1, Bool.false_and] at h; exact h
    · rw [h1, Bool.true_and] at h
      rw [succ64 (by omega)]
      exact AWP.shape [] [(1, slN b), (2, .fn 150 []), (15, slN a), (16, .int .i64 a.length), (17, .int .i64 (i + 1 : Nat))] [] Sel.none
        ⟨rfl, Le.refl _, rfl, Le.refl _, rfl, Le.refl _, rfl, Le.refl _, rfl, Le.refl _, trivial⟩ (ih (i + 1) (by omega) h)

theorem sameN_spec (a b : List Need) (hl : okN a) (H : List AObj) : ASpec Try.prog 115 [slN a, slN b] H (fun r H' => r = .bool (decide (a = b)) ∧ H' = H) := by
  have k : ASpec Try.prog 149 [slN a, slN b, .fn 150 []] [] (fun r H' => r = .bool (decide (a = b)) ∧ H' = []) := by
    refine ASpec.sel (s149 _ _ _ (condNe (fun h => pb ?_) fun h => sameN4 hl (by omega) a.length 0 (by omega) rfl))
    symm
    rw [decide_eq_false]
    rintro rfl; exact h rfl
  exact ASpec.pureH H (s115 _ _ _ (ASpec.call k (Les.refl _) ⟨_, rfl, rfl, rfl, rfl⟩)) _ _ rfl rfl

def okE (e : Ev) : Prop := okN e.2.1 ∧ e.2.2.2.2.length ≤ lim

theorem ev_dec (a b : Ev) (h1 : a.1 = b.1) (h2 : a.2.2.1 = b.2.2.1) (h3 : a.2.2.2.1 = b.2.2.2.1) : decide (a = b) = (decide (a.2.1 = b.2.1) && decide (a.2.2.2.2 = b.2.2.2.2)) := by
  obtain ⟨a1, a2, a3, a4, a5⟩ := a
  obtain ⟨b1, b2, b3, b4, b5⟩ := b
  simp only at h1 h2 h3 ⊢
  subst h1 h2 h3
  rw [Bool.eq_iff_iff]; simp

theorem same_spec (a b : Ev) (hl : okE a) (H : List AObj) : ASpec Try.prog 50 [.agg (encE a), .agg (encE b)] H (fun r H' => r = .bool (decide (a = b)) ∧ H' = H) := by
  have k : ASpec Try.prog 50 [.agg (encE a), .agg (encE b)] [] (fun r H' => r = .bool (decide (a = b)) ∧ H' = []) := by
    refine ASpec.sel (s50 _ _ _ (condE (fun h1 => condE (fun h2 => condE (fun h3 => ?_) fun h => pb ?_) fun h => pb ?_) fun h => pb ?_))
    · refine ASpec.call (equalB_spec _ _ _) (Les.refl _) ⟨_, rfl, rfl, condB (fun h4 => ?_) fun h4 => pb ?_⟩
      · refine ASpec.call (sameN_spec _ _ hl.1 _) (Les.refl _) ⟨_, rfl, rfl, pb ?_⟩
        rw [ev_dec a b h1 h2 h3, h4, Bool.and_true]
      · rw [ev_dec a b h1 h2 h3, h4, Bool.and_false]
    all_goals (symm; rw [decide_eq_false]; rintro rfl; exact h rfl)
  exact ASpec.pureH H k _ _ rfl rfl

theorem rsame_spec (a b : Ev) (hl : okE a) (H : List AObj) : ASpec Try.prog 51 [.agg (encE a), .agg (encE b)] H (fun r H' => r = .bool (decide (a = b)) ∧ H' = H) := by
  have k : ASpec Try.prog 51 [.agg (encE a), .agg (encE b)] [] (fun r H' => r = .bool (decide (a = b)) ∧ H' = []) := by
    refine ASpec.sel (s51 _ _ _ (condE (fun h1 => ?_) fun h => pb ?_))
    · refine ASpec.call (W.sameN_spec _ _ hl.1 _) (Les.refl _) ⟨_, rfl, rfl, condB (fun h4 => condE (fun h2 => condE (fun h3 => ?_) fun h => pb ?_) fun h => pb ?_) fun h4 => pb ?_⟩
      · refine needJ (allBytes_map _) (needJ (allBytes_map _) (pb ?_))
        rw [bytesBeq, ev_dec a b h1 h2 h3, h4, Bool.true_and]
      · symm; rw [decide_eq_false]; rintro rfl; exact h rfl
      · symm; rw [decide_eq_false]; rintro rfl; exact h rfl
      · symm; rw [decide_eq_false]; rintro rfl; simp at h4
    · symm; rw [decide_eq_false]; rintro rfl; exact h rfl
  exact ASpec.pureH H k _ _ rfl rfl

/-! ### which may be -/

/-- of a kind, the needs' number, the ticks, the ticket, the body's length -/
def evP (k : Int) (A : Nat) (t n : Int) (B : Nat) : Prop := (0 ≤ t ∧ t ≤ 1099511627776) ∧ (k ≠ 1 → A = 0 ∧ t = 0) ∧ ((k = 3 ∨ k = 4) → 1 ≤ n ∧ n ≤ 1099511627776 ∧ B ≤ 9000 ∧ (k = 3 ∨ B = 0)) ∧ (¬ (k = 3 ∨ k = 4) → n = 0 ∧ B = 0 ∧ (k = 1 ∨ k = 2))
instance (k : Int) (A : Nat) (t n : Int) (B : Nat) : Decidable (evP k A t n B) := by unfold evP; infer_instance
def evOk (e : Ev) : Bool := needOk e.2.1 && decide (evP e.1 e.2.1.length e.2.2.1 e.2.2.2.1 e.2.2.2.2.length)
theorem evOk_iff (e : Ev) : evOk e = true ↔ needOk e.2.1 = true ∧ evP e.1 e.2.1.length e.2.2.1 e.2.2.2.1 e.2.2.2.2.length := by simp [evOk]

theorem rcheck_spec (e : Ev) (hl : okE e) (H : List AObj) : ASpec Try.prog 49 [.agg (encE e)] H (fun r H' => r = .bool (evOk e) ∧ H' = H) := by
  have k : ASpec Try.prog 49 [.agg (encE e)] [] (fun r H' => r = .bool (evOk e) ∧ H' = []) := by
    refine ASpec.sel (s49 _ _ (ASpec.call (rneedCheck_spec _ hl.1 _) (Les.refl _) ⟨_, rfl, rfl, condBn (fun h1 => pb ?_) fun h1 => ?_⟩))
    · rw [evOk, h1, Bool.false_and]
    have he : evOk e = decide (evP e.1 e.2.1.length e.2.2.1 e.2.2.2.1 e.2.2.2.2.length) := by rw [evOk, h1, Bool.true_and]
    rw [he]
    generalize e.2.1.length = A
    generalize e.2.2.2.2.length = B
    generalize e.2.2.1 = t
    generalize e.2.2.2.1 = n
    generalize e.1 = k
    repeat' first
      | refine condD (fun _ => ?_) (fun _ => ?_)
      | refine condE (fun _ => ?_) (fun _ => ?_)
      | refine condEn (fun _ => ?_) (fun _ => ?_)
      | refine condNe (fun _ => ?_) (fun _ => ?_)
      | refine pb ?_
    all_goals (rw [Bool.eq_iff_iff]; simp only [decide_eq_true_iff, beq_iff_eq, Bool.false_eq_true, true_iff, false_iff]; unfold evP; omega)
  exact ASpec.pureH H k _ _ rfl rfl

theorem ticket_spec (x : Int) (H : List AObj) : ASpec Try.prog 148 [.int .i64 x] H (fun r H' => r = .bool (decide (1 ≤ x ∧ x ≤ 1099511627776)) ∧ H' = H) := by
  have k : ASpec Try.prog 148 [.int .i64 x] [] (fun r H' => r = .bool (decide (1 ≤ x ∧ x ≤ 1099511627776)) ∧ H' = []) := by
    refine s148 _ _ (condD (fun h => ⟨?_, rfl⟩) fun h => ⟨?_, rfl⟩)
    · congr 1; exact decide_eq_decide.2 (by omega)
    · rw [decide_eq_false (by omega)]
  exact ASpec.pureH H k _ _ rfl rfl

theorem leN0 {ρ : Nat → Nat} : Le (.sl 0 (.raw []) .nil) (AV.ren ρ (.sl 2 (.map encN ([], []) []) .none)) := Le.sl (s' := Seq.ren ρ (.map encN ([], []) [])) rfl (.inr ⟨rfl, fun _ h => by cases h⟩) (.inr rfl)
theorem leB0 {ρ : Nat → Nat} : Le (.sl 0 (.raw []) .nil) (AV.ren ρ (.sl 1 (.map encB 0 []) .none)) := Le.sl (s' := Seq.ren ρ (.map encB 0 [])) rfl (.inr ⟨rfl, fun _ h => by cases h⟩) (.inr rfl)

abbrev PE (e : Ev) (c : Bool) : AV → List AObj → Prop := PA (.tup [.agg (encE e), .bool c])
theorem pe {k t n : Int} {x y : AV} {l : List Need} {b : List UInt8} {c c' : Bool} {H' : List AObj} (hx : Le x (AV.ren (selR [] H'.length) (slN l))) (hy : Le y (AV.ren (selR [] H'.length) (sl1 b))) (hc : c = c') :
    PE (k, l, t, n, b) c' (.tup [.agg [.int .i64 k, x, .int .i64 t, .int .i64 n, y], .bool c]) H' := by
  subst hc
  exact pa (Le.tup ⟨Le.agg ⟨Le.refl _, hx, Le.refl _, Le.refl _, hy, trivial⟩, Le.refl _, trivial⟩)

theorem back_ask (t : Int) (l : List Need) (hl : okN l) (H : List AObj) : ASpec Try.prog 113 [.iface 207 (.agg [.int .i64 t, slN l])] H (fun r H' => r = .tup [.agg (encE (1, l, t, 0, [])), .bool (needOk l && decide (0 ≤ t ∧ t ≤ 1099511627776))] ∧ H' = H) := by
  have k : ASpec Try.prog 113 [.iface 207 (.agg [.int .i64 t, slN l])] [] (fun r H' => r = .tup [.agg (encE (1, l, t, 0, [])), .bool (needOk l && decide (0 ≤ t ∧ t ≤ 1099511627776))] ∧ H' = []) := by
    refine ASpec.sel (s113a _ _ _ (ASpec.call (needCheck_spec l hl _) (Les.refl _) ⟨_, rfl, rfl, ⟨rfl, rfl⟩, ⟨rfl, rfl⟩, condB (fun h => condD (fun h2 => ⟨⟨rfl, rfl⟩, pe (Le.refl _) leB0 ?_⟩) fun h2 => ⟨rfl, pe (Le.refl _) leB0 ?_⟩) fun h => ⟨rfl, pe (Le.refl _) leB0 ?_⟩⟩))
    · rw [h, Bool.true_and]; exact decide_eq_decide.2 (by omega)
    · rw [decide_eq_false (p := 0 ≤ t ∧ t ≤ 1099511627776) (by omega), Bool.and_false]
    · rw [h, Bool.false_and]
  exact ASpec.pureH H k _ _ rfl rfl

theorem back_pass (H : List AObj) : ASpec Try.prog 113 [.iface 161 (.agg [])] H (fun r H' => r = .tup [.agg (encE (2, [], 0, 0, [])), .bool true] ∧ H' = H) :=
  ASpec.pureH H (ASpec.sel (s113p _ (pe leN0 leB0 rfl))) _ _ rfl rfl

theorem back_reply (t : Int) (b : List UInt8) (H : List AObj) : ASpec Try.prog 113 [.iface 209 (.agg [.int .i64 t, sl1 b])] H (fun r H' => r = .tup [.agg (encE (3, [], 0, t, b)), .bool (decide ((1 ≤ t ∧ t ≤ 1099511627776) ∧ b.length ≤ 9000))] ∧ H' = H) := by
  have k : ASpec Try.prog 113 [.iface 209 (.agg [.int .i64 t, sl1 b])] [] (fun r H' => r = .tup [.agg (encE (3, [], 0, t, b)), .bool (decide ((1 ≤ t ∧ t ≤ 1099511627776) ∧ b.length ≤ 9000))] ∧ H' = []) := by
    refine ASpec.sel (s113r _ _ _ (ASpec.call (ticket_spec t _) (Les.refl _) ⟨_, rfl, rfl, ⟨rfl, rfl⟩, ⟨rfl, rfl⟩, condB (fun h => ⟨⟨rfl, rfl⟩, ⟨rfl, rfl⟩, pe leN0 (Le.refl _) ?_⟩) fun h => ⟨rfl, rfl, pe leN0 (Le.refl _) ?_⟩⟩))
    · have := of_decide_eq_true h; exact decide_eq_decide.2 (by omega)
    · have := of_decide_eq_false h; symm; exact decide_eq_false (by omega)
  exact ASpec.pureH H k _ _ rfl rfl

theorem back_fail (t : Int) (H : List AObj) : ASpec Try.prog 113 [.iface 211 (.agg [.int .i64 t])] H (fun r H' => r = .tup [.agg (encE (4, [], 0, t, [])), .bool (decide (1 ≤ t ∧ t ≤ 1099511627776))] ∧ H' = H) := by
  have k : ASpec Try.prog 113 [.iface 211 (.agg [.int .i64 t])] [] (fun r H' => r = .tup [.agg (encE (4, [], 0, t, [])), .bool (decide (1 ≤ t ∧ t ≤ 1099511627776))] ∧ H' = []) :=
    ASpec.sel (s113f _ _ (ASpec.call (ticket_spec t _) (Les.refl _) ⟨_, rfl, rfl, ⟨rfl, rfl⟩, pe leN0 leB0 rfl⟩))
  exact ASpec.pureH H k _ _ rfl rfl

theorem back_none (H : List AObj) : ASpec Try.prog 113 [.nili] H (fun r H' => r = .tup [.agg (encE (0, [], 0, 0, [])), .bool false] ∧ H' = H) :=
  ASpec.pureH H (ASpec.sel (s113n _ (pe leN0 leB0 rfl))) _ _ rfl rfl

section
variable {e : Ev}
theorem of_go {r0 : AV} (h : ∀ H', PA r0 r0 H') (H : List AObj) (k : ∀ Post : AV → List AObj → Prop, (∀ H', Post r0 H') → ASpec Try.prog 112 [.agg (encE e)] [] Post) (hr : AV.ren (callR [] H.length) r0 = r0) :
    ASpec Try.prog 112 [.agg (encE e)] H (fun r H' => r = r0 ∧ H' = H) :=
  ASpec.pureH H (ASpec.sel (k _ h)) _ _ rfl hr

theorem of_ask (h : e.1 = 1) (H : List AObj) : ASpec Try.prog 112 [.agg (encE e)] H (fun r H' => r = .iface 207 (.agg [.int .i64 e.2.2.1, slN e.2.1]) ∧ H' = H) :=
  of_go (fun H' => pa (Le.refl _)) H (fun Post hp => s112 _ _ (condE (fun _ => hp _) fun h1 => (h1 h).elim)) rfl
theorem of_pass (h : e.1 = 2) (H : List AObj) : ASpec Try.prog 112 [.agg (encE e)] H (fun r H' => r = .iface 161 (.agg []) ∧ H' = H) :=
  of_go (fun H' => pa (Le.refl _)) H (fun Post hp => s112 _ _ (condE (fun _ => by omega) fun _ => condE (fun _ => hp _) fun h1 => (h1 h).elim)) rfl
theorem of_reply (h : e.1 = 3) (H : List AObj) : ASpec Try.prog 112 [.agg (encE e)] H (fun r H' => r = .iface 209 (.agg [.int .i64 e.2.2.2.1, sl1 e.2.2.2.2]) ∧ H' = H) :=
  of_go (fun H' => pa (Le.refl _)) H (fun Post hp => s112 _ _ (condE (fun _ => by omega) fun _ => condE (fun _ => by omega) fun _ => condE (fun _ => hp _) fun h1 => (h1 h).elim)) rfl
theorem of_fail (h : e.1 = 4) (H : List AObj) : ASpec Try.prog 112 [.agg (encE e)] H (fun r H' => r = .iface 211 (.agg [.int .i64 e.2.2.2.1]) ∧ H' = H) :=
  of_go (fun H' => pa (Le.refl _)) H (fun Post hp => s112 _ _ (condE (fun _ => by omega) fun _ => condE (fun _ => by omega) fun _ => condE (fun _ => by omega) fun _ => condE (fun _ => hp _) fun h1 => (h1 h).elim)) rfl
theorem of_none (h1 : e.1 ≠ 1) (h2 : e.1 ≠ 2) (h3 : e.1 ≠ 3) (h4 : e.1 ≠ 4) (H : List AObj) : ASpec Try.prog 112 [.agg (encE e)] H (fun r H' => r = .nili ∧ H' = H) :=
  of_go (fun H' => pa (Le.refl _)) H (fun Post hp => s112 _ _ (condE (fun h => (h1 h).elim) fun _ => condE (fun h => (h2 h).elim) fun _ => condE (fun h => (h3 h).elim) fun _ => condE (fun h => (h4 h).elim) fun _ => hp _)) rfl
end

theorem okE_of {k t n : Int} {l : List Need} {b : List UInt8} (h1 : okN l) (h2 : b.length ≤ lim) : okE (k, l, t, n, b) := ⟨h1, h2⟩
theorem okN0 : okN [] := ⟨by simp, fun n hn => by simp at hn⟩

theorem check_spec (e : Ev) (hl : okE e) (H : List AObj) : ASpec Try.prog 48 [.agg (encE e)] H (fun r H' => r = .bool (evOk e) ∧ H' = H) := by
  have k : ASpec Try.prog 48 [.agg (encE e)] [] (fun r H' => r = .bool (evOk e) ∧ H' = []) := by
    refine ASpec.sel (s48 _ _ ?_)
    have bad : (evOk e = true → False) → false = evOk e := fun h => by
      cases hq : evOk e with
      | false => rfl
      | true => exact (h hq).elim
    obtain ⟨k, l, t, n, b⟩ := e
    by_cases h1 : k = 1
    · subst h1
      refine ASpec.call (of_ask rfl _) (Les.refl _) (.inl ⟨(t, l), rfl, rfl, ?_⟩)
      refine ASpec.call (back_ask _ _ hl.1 _) (Les.refl _) ⟨((1, l, t, 0, []), (needOk l && decide (0 ≤ t ∧ t ≤ 1099511627776))), rfl, rfl, condB (fun h => ?_) fun h => pb (bad fun hh => ?_)⟩
      · refine ASpec.call (same_spec _ (1, l, t, n, b) (okE_of hl.1 (by simp)) _) (Les.refl _) ⟨_, rfl, rfl, pb ?_⟩
        rw [Bool.and_eq_true, decide_eq_true_iff] at h
        rw [Bool.eq_iff_iff, decide_eq_true_iff, evOk_iff]
        constructor
        · intro hh
          cases hh
          exact ⟨h.1, (by unfold evP; omega : evP 1 l.length t 0 0)⟩
        · rintro ⟨-, hh⟩
          have hh : evP 1 l.length t n b.length := hh
          unfold evP at hh
          have h1 : b = [] := List.length_eq_zero_iff.1 (by omega)
          have h2 : n = 0 := by omega
          rw [h1, h2]
      · rw [evOk_iff] at hh
        have hn : needOk l = true := hh.1
        have hh : evP 1 l.length t n b.length := hh.2
        unfold evP at hh
        rw [hn, Bool.true_and, decide_eq_false_iff_not] at h
        exact h hh.1
    by_cases h2 : k = 2
    · subst h2
      refine ASpec.call (of_pass rfl _) (Les.refl _) (.inr (.inl ⟨(), rfl, rfl, ?_⟩))
      refine ASpec.call (same_spec (2, l, t, n, b) (2, [], 0, 0, []) hl _) ⟨Le.refl _, Le.agg ⟨Le.refl _, leN0 (ρ := id), Le.refl _, Le.refl _, leB0 (ρ := id), trivial⟩, trivial⟩ ⟨_, rfl, rfl, condBn (fun h => pb (bad fun hh => ?_)) fun h => ?_⟩
      · have h := of_decide_eq_false h
        rw [evOk_iff] at hh
        have hh : evP 2 l.length t n b.length := hh.2
        unfold evP at hh
        apply h
        have h1 : l = [] := List.length_eq_zero_iff.1 (by omega)
        have h2 : b = [] := List.length_eq_zero_iff.1 (by omega)
        rw [h1, h2, show t = 0 by omega, show n = 0 by omega]
      · have h := of_decide_eq_true h
        cases h
        refine ASpec.call (back_pass _) (Les.refl _) ⟨((2, [], 0, 0, []), true), rfl, rfl, condB (fun h => ?_) fun h => by cases h⟩
        exact ASpec.call (same_spec _ _ (okE_of okN0 (by simp)) _) (Les.refl _) ⟨_, rfl, rfl, pb (by rw [decide_eq_true rfl]; rfl)⟩
    by_cases h3 : k = 3
    · subst h3
      refine ASpec.call (of_reply rfl _) (Les.refl _) (.inr (.inr (.inl ⟨(n, b), rfl, rfl, ?_⟩)))
      refine ASpec.call (back_reply _ _ _) (Les.refl _) ⟨((3, [], 0, n, b), (decide ((1 ≤ n ∧ n ≤ 1099511627776) ∧ b.length ≤ 9000))), rfl, rfl, condB (fun h => ?_) fun h => pb (bad fun hh => ?_)⟩
      · refine ASpec.call (same_spec _ (3, l, t, n, b) (okE_of okN0 hl.2) _) (Les.refl _) ⟨_, rfl, rfl, pb ?_⟩
        have h := of_decide_eq_true h
        rw [Bool.eq_iff_iff, decide_eq_true_iff, evOk_iff]
        constructor
        · intro hh
          cases hh
          exact ⟨rfl, (by unfold evP; omega : evP 3 0 0 n b.length)⟩
        · rintro ⟨-, hh⟩
          have hh : evP 3 l.length t n b.length := hh
          unfold evP at hh
          have h1 : l = [] := List.length_eq_zero_iff.1 (by omega)
          have h2 : t = 0 := by omega
          rw [h1, h2]
      · have h := of_decide_eq_false h
        rw [evOk_iff] at hh
        have hh : evP 3 l.length t n b.length := hh.2
        unfold evP at hh
        omega
    by_cases h4 : k = 4
    · subst h4
      refine ASpec.call (of_fail rfl _) (Les.refl _) (.inr (.inr (.inr (.inl ⟨n, rfl, rfl, ?_⟩))))
      refine ASpec.call (back_fail _ _) (Les.refl _) ⟨((4, [], 0, n, []), (decide (1 ≤ n ∧ n ≤ 1099511627776))), rfl, rfl, condB (fun h => ?_) fun h => pb (bad fun hh => ?_)⟩
      · refine ASpec.call (same_spec _ (4, l, t, n, b) (okE_of okN0 (by simp)) _) (Les.refl _) ⟨_, rfl, rfl, pb ?_⟩
        have h := of_decide_eq_true h
        rw [Bool.eq_iff_iff, decide_eq_true_iff, evOk_iff]
        constructor
        · intro hh
          cases hh
          exact ⟨rfl, (by unfold evP; omega : evP 4 0 0 n 0)⟩
        · rintro ⟨-, hh⟩
          have hh : evP 4 l.length t n b.length := hh
          unfold evP at hh
          have h1 : l = [] := List.length_eq_zero_iff.1 (by omega)
          have h2 : t = 0 := by omega
          have h3 : b = [] := List.length_eq_zero_iff.1 (by omega)
          rw [h1, h2, h3]
      · have h := of_decide_eq_false h
        rw [evOk_iff] at hh
        have hh : evP 4 l.length t n b.length := hh.2
        unfold evP at hh
        omega
    refine ASpec.call (of_none h1 h2 h3 h4 _) (Les.refl _) (.inr (.inr (.inr (.inr ⟨(), rfl, rfl, ?_⟩))))
    refine ASpec.call (back_none _) (Les.refl _) ⟨((0, [], 0, 0, []), false), rfl, rfl, condB (fun h => by cases h) fun h => pb (bad fun hh => ?_)⟩
    rw [evOk_iff] at hh
    have hh : evP k l.length t n b.length := hh.2
    unfold evP at hh
    omega
  exact ASpec.pureH H k _ _ rfl rfl

/-! ### are they large? -/

def largeEF (n : Int) : List Ev → Bool
  | [] => false
  | x :: r => if largeN x.2.1 = true ∨ 12000 < n + x.2.2.2.2.length then true else largeEF (n + x.2.2.2.2.length) r
def largeE (l : List Ev) : Bool := if 403 < l.length then true else largeEF 0 l

theorem large5 {l : List Ev} {c : Bool} (hl : l.length ≤ 403) (hb : ∀ e ∈ l, e.2.2.2.2.length ≤ maxLen) : ∀ (m i : Nat) (n : Int), m + i = l.length → 0 ≤ n → n ≤ 12000 → largeEF n (l.drop i) = c →
    AWP Try.prog 36 0 c46_5 [(0, .sl 5 (.map encE noEv l) .none), (3, .int .i64 n), (4, .int .i64 i)] [] (q46_2 0 (PB c)) := by
  intro m
  induction m with
  | zero =>
    intro i n hm h0 h1 h
    refine v46_5 _ _ _ _ _ (condD (fun hc => by omega) fun _ => pb ?_)
    rw [List.drop_eq_nil_of_le (by omega)] at h
    exact h
  | succ m ih =>
    intro i n hm h0 h1 h
    have hx := hb _ (memD l noEv i (by omega))
    rw [dropD l noEv i (by omega)] at h
    simp only [largeEF] at h
    refine v46_5 _ _ _ _ _ (condD (fun hc => needJ ⟨by omega, by omega⟩ (needJ ⟨by omega, by omega⟩ ?_)) fun hc => by omega)
    rw [Int.toNat_natCast]
    generalize l.getD i noEv = x at h hx ⊢
    have hm' : maxLen = 9223372036854775807 := rfl
    refine ASpec.call (largeN_spec x.2.1 _) (Les.refl _) ⟨_, rfl, rfl, condB (fun h2 => pb ?_) fun h2 => ?_⟩
    · rw [if_pos (.inl h2)] at h; exact h
    by_cases h3 : 12000 < n + x.2.2.2.2.length
    · rw [if_pos (.inr h3)] at h
      subst h
      by_cases h4 : n + x.2.2.2.2.length ≤ 9223372036854775807
      · rw [wrap64 (by omega) h4]
        exact condD (fun _ => pb rfl) fun h => by omega
      · have : IntKind.wrap .i64 (n + x.2.2.2.2.length) < 0 := by
          rw [show n + (x.2.2.2.2.length : Int) = (n + (x.2.2.2.2.length : Int) - 18446744073709551616) + 18446744073709551616 by omega]
          have : ∀ y : Int, IntKind.wrap .i64 (y + 18446744073709551616) = IntKind.wrap .i64 y := by
            intro y
            unfold IntKind.wrap
            simp [IntKind.bits, IntKind.signed]
          rw [this, wrap64 (by omega) (by omega)]
          omega
        exact condD (fun _ => pb rfl) fun _ => condD (fun _ => pb rfl) fun h => by omega
    · rw [if_neg (by rw [h2]; simp; omega)] at h
      rw [wrap64 (x := n + x.2.2.2.2.length) (by omega) (by omega)]
      refine condD (fun h => by omega) fun _ => condD (fun h => by omega) fun _ => ?_
      rw [succ64 (by omega)]
      exact ih (i + 1) _ (by omega) (by omega) (by omega) h

theorem largeE_spec (l : List Ev) (hb : ∀ e ∈ l, e.2.2.2.2.length ≤ maxLen) (H : List AObj) : ASpec Try.prog 46 [.sl 5 (.map encE noEv l) .none] H (fun r H' => r = .bool (largeE l) ∧ H' = H) := by
  have k : ASpec Try.prog 46 [.sl 5 (.map encE noEv l) .none] [] (fun r H' => r = .bool (largeE l) ∧ H' = []) := by
    refine ASpec.sel (s46 _ _ (condD (fun h => pb ?_) fun h => ?_))
    · rw [largeE, if_pos (by omega)]
    · refine large5 (by omega) hb l.length 0 0 (by omega) (by omega) (by omega) ?_
      rw [largeE, if_neg (by omega)]; rfl
  exact ASpec.pureH H k _ _ rfl rfl

theorem largeEF_ok : ∀ (l : List Ev) (n : Int), 0 ≤ n → largeEF n l = false → ∀ e ∈ l, okE e
  | [], _, _, _, e, he => by simp at he
  | x :: r, n, h0, h, e, he => by
    simp only [largeEF] at h
    split at h
    · cases h
    · rename_i hh
      rcases List.mem_cons.1 he with rfl | he
      · refine ⟨largeN_ok (by
          cases hq : largeN e.2.1 with
          | false => rfl
          | true => exact (hh (.inl hq)).elim), ?_⟩
        unfold lim; omega
      · exact largeEF_ok r _ (by omega) h e he

theorem largeE_ok {l : List Ev} (h : largeE l = false) : ∀ e ∈ l, okE e := by
  unfold largeE at h
  split at h
  · cases h
  · exact largeEF_ok l 0 (by omega) h

/-! ### the example -/

theorem notCheck_spec (e : Ev) (hl : okE e) (H : List AObj) : ASpec Try.prog 147 [.agg (encE e)] H (fun r H' => r = .bool (!evOk e) ∧ H' = H) :=
  ASpec.pureH H (ASpec.sel (s147 _ _ (ASpec.call (check_spec e hl _) (Les.refl _) ⟨_, rfl, rfl, pb rfl⟩))) _ _ rfl rfl

theorem index2 {l : List Ev} (hl : l.length ≤ lim) (hk : ∀ e ∈ l, okE e) {c : Int} : ∀ (m i : Nat), m + i = l.length → (match (l.drop i).findIdx? (fun e => !evOk e) with | some j => (i + j : Nat) | none => (-1 : Int)) = c →
    AWP Try.prog 19 0 c168_2 [(0, .sl 5 (.map encE noEv l) .none), (1, .fn 147 []), (7, .int .i64 l.length), (8, .int .i64 i)] [] (q168_2 0 (PA (.int .i64 c))) := by
  unfold lim at hl
  intro m
  induction m with
  | zero =>
    intro i hm h
    refine v168_2 _ _ _ _ _ (condD (fun hc => by omega) fun _ => pa ?_)
    rw [List.drop_eq_nil_of_le (by omega)] at h
    simp at h
    rw [← h]; exact Le.refl _
  | succ m ih =>
    intro i hm h
    have hx := hk _ (memD l noEv i (by omega))
    rw [dropD l noEv i (by omega), List.findIdx?_cons] at h
    refine v168_2 _ _ _ _ _ (condD (fun hc => needJ ⟨by omega, by omega⟩ ?_) fun hc => by omega)
    rw [Int.toNat_natCast]
    generalize l.getD i noEv = x at h hx ⊢
    refine ASpec.call (notCheck_spec x hx _) (Les.refl _) ⟨_, rfl, rfl, condB (fun h1 => pa ?_) fun h1 => ?_⟩
    · rw [h1] at h; simp at h
      rw [← h]; exact Le.refl _
    · rw [succ64 (by omega)]
      refine ih (i + 1) (by omega) ?_
      rw [h1] at h
      rw [← h]
      cases hq : (l.drop (i + 1)).findIdx? (fun e => !evOk e) with
      | none => simp [hq]
      | some j =>
        simp only [hq, Option.map_some]
        show ((i + 1 + j : Nat) : Int) = ((i + (j + 1) : Nat) : Int)
        omega

theorem idx_all (l : List Ev) : decide ((match (l.drop 0).findIdx? (fun e => !evOk e) with | some j => ((0 + j : Nat) : Int) | none => (-1 : Int)) ≥ 0) = !l.all evOk := by
  rw [List.drop_zero]
  cases hq : l.findIdx? (fun e => !evOk e) with
  | none =>
    simp only
    rw [List.findIdx?_eq_none_iff] at hq
    have : l.all evOk = true := by
      rw [List.all_eq_true]; intro e he
      have := hq e he
      simpa using this
    rw [this]; rfl
  | some j =>
    simp only
    have : l.all evOk = false := by
      rw [List.all_eq_false]
      obtain ⟨h1, h2, _⟩ := List.findIdx?_eq_some_iff_getElem.1 hq
      exact ⟨l[j], List.getElem_mem h1, by simpa using h2⟩
    rw [this]
    exact decide_eq_true (by omega)

theorem contains_spec (l : List Ev) (hl : l.length ≤ lim) (hk : ∀ e ∈ l, okE e) (H : List AObj) : ASpec Try.prog 146 [.sl 5 (.map encE noEv l) .none, .fn 147 []] H (fun r H' => r = .bool (!l.all evOk) ∧ H' = H) := by
  have k : ∀ c, (match (l.drop 0).findIdx? (fun e => !evOk e) with | some j => (0 + j : Nat) | none => (-1 : Int)) = c → ASpec Try.prog 168 [.sl 5 (.map encE noEv l) .none, .fn 147 []] [] (fun r H' => r = .int .i64 c ∧ H' = []) :=
    fun c hc => ASpec.sel (s168 _ _ (index2 hl hk l.length 0 (by omega) hc))
  have k2 : ASpec Try.prog 146 [.sl 5 (.map encE noEv l) .none, .fn 147 []] [] (fun r H' => r = .bool (!l.all evOk) ∧ H' = []) := by
    refine s146 _ _ (ASpec.call (k _ rfl) (Les.refl _) ⟨_, rfl, rfl, ?_, rfl⟩)
    exact congrArg AV.bool (idx_all l)
  exact ASpec.pureH H k2 _ _ rfl rfl

theorem pass_spec (b : List UInt8) (H : List AObj) : ASpec Try.prog 207 [.agg [], sl1 b] H (fun r H' => r = sl1 b ∧ H' = H) :=
  ASpec.pureH (r0 := sl1 b) H (ASpec.sel (s207 _ _ (pa (Le.refl _)))) _ _ rfl rfl

theorem leTick : Le (.sl 5 (.raw [[.int .i64 2, .sl 0 (.raw []) .nil, .int .i64 0, .int .i64 0, .sl 0 (.raw []) .nil]]) .full) (.sl 5 (.map encE noEv [(2, [], 0, 0, [])]) .none) :=
  Le.slE rfl (fun i h h' => by
    have hi : i = 0 := by simp only [Ab.Seq.toList, List.length_cons, List.length_nil] at h; omega
    subst hi
    exact ⟨Le.refl _, leN0 (ρ := id), Le.refl _, Le.refl _, leB0 (ρ := id), trivial⟩) (.inr rfl)

theorem awake_spec (H : List AObj) : ASpec Try.prog 47 [] H (fun r H' => r = .bool true ∧ H' = H) := by
  have hk : ∀ e ∈ [((2, [], 0, 0, []) : Ev)], okE e := fun e he => by
    rw [List.mem_singleton.1 he]; exact okE_of okN0 (by simp)
  have k : ASpec Try.prog 111 [.sl 5 (.map encE noEv [(2, [], 0, 0, [])]) .none] [] (fun r H' => r = sl1 [1, 2] ∧ H' = []) := by
    refine ASpec.sel (s111 _ _ (condD (fun h => by simp at h) fun _ => ?_))
    refine ASpec.call (contains_spec _ (by unfold lim; simp) hk _) (Les.refl _) ⟨_, rfl, rfl, condB (fun h => ?_) fun _ => ?_⟩
    · have : (!List.all [((2, [], 0, 0, []) : Ev)] evOk) = false := by decide +kernel
      rw [this] at h; cases h
    refine put1 _ _ ⟨enc (held 1), rfl, rfl, ?_⟩
    refine AWP.shape [] [(3, sl1 (enc (held 1))), (17, .sl 5 (.map encE noEv [(2, [], 0, 0, [])]) .none), (18, .int .i64 1), (19, .int .i64 0)] [] Sel.none ⟨rfl, sealLe _ rfl, rfl, Le.refl _, rfl, Le.refl _, rfl, Le.refl _, trivial⟩ ?_
    refine v111_5 _ _ _ _ _ _ (condD (fun _ => needJ ⟨by omega, by simp⟩ ?_) fun h => by omega)
    refine ASpec.call (of_pass rfl _) (Les.refl _) (.inr (.inl ⟨(), rfl, rfl, ⟨rfl, rfl⟩, ?_⟩))
    refine put_spec' (bs := enc (held 1)) (ns := [2]) ⟨Le.refl _, leOne _, trivial⟩ (by have := enc_length (held 1) (held_le _); unfold big; simp; omega) ⟨_, rfl, rfl, ?_⟩
    have e : putM (enc (held 1)) [2] = [1, 2] := by decide +kernel
    rw [e]
    refine ASpec.call (pass_spec [1, 2] _) ⟨Le.refl _, sealLe (ρ := id) _ rfl, trivial⟩ ⟨_, rfl, rfl, ?_⟩
    refine AWP.shape [] [(3, sl1 [1, 2]), (17, .sl 5 (.map encE noEv [(2, [], 0, 0, [])]) .none), (18, .int .i64 1), (19, .int .i64 1)] [] Sel.none ⟨rfl, Le.refl _, rfl, Le.refl _, rfl, Le.refl _, rfl, Le.refl _, trivial⟩ ?_
    exact v111_5 _ _ _ _ _ _ (condD (fun h => by omega) fun _ => pa (Le.refl _))
  have k2 : ASpec Try.prog 47 [] [] (fun r H' => r = .bool true ∧ H' = []) := by
    refine ASpec.sel (s47 _ (ASpec.call k ⟨leTick, trivial⟩ ⟨[1, 2], rfl, rfl, needJ (allBytes_map _) (pb ?_)⟩))
    rw [bytesOf_map]; exact beq_iff_eq.2 rfl
  exact ASpec.pureH H k2 _ _ rfl rfl

theorem eventChecks_spec (a b : Ev) (ha : a.2.2.2.2.length ≤ maxLen) (hb : b.2.2.2.2.length ≤ maxLen) : ASpec Try.prog 11 [.agg (encE a), .agg (encE b)] [] (fun r H' => r = .bool true ∧ H' = []) := by
  refine W.endT (s11 _ _ _ (ASpec.call (largeE_spec [a, b] (fun e he => ?_) _) ⟨Le.sl rfl (.inl rfl) (.inr rfl), trivial⟩ ⟨_, rfl, rfl, condB (fun _ => ASpec.call (awake_spec _) (Les.refl _) ⟨(), rfl, rfl, pb rfl⟩) fun hm => ?_⟩))
  · simp at he; rcases he with rfl | rfl
    · exact ha
    · exact hb
  have hok := largeE_ok hm
  have oa : okE a := hok a (by simp)
  refine ASpec.call (check_spec a oa _) (Les.refl _) ⟨_, rfl, rfl, ⟨rfl, rfl⟩, ?_⟩
  refine ASpec.call (rcheck_spec a oa _) (Les.refl _) ⟨_, rfl, rfl, condNb (fun _ => ?_) fun h => (h rfl).elim⟩
  refine ASpec.call (same_spec a b oa _) (Les.refl _) ⟨_, rfl, rfl, ⟨rfl, rfl⟩, ⟨rfl, rfl⟩, ?_⟩
  refine ASpec.call (rsame_spec a b oa _) (Les.refl _) ⟨_, rfl, rfl, condNb (fun _ => ?_) fun h => (h rfl).elim⟩
  exact ASpec.call (awake_spec _) (Les.refl _) ⟨(), rfl, rfl, pb rfl⟩

end E
