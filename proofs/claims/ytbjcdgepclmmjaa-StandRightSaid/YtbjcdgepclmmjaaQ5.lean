/- Q5: several of this proof's own texts, one behind the other: what each proves stands at its head. -/
import Derived.Test.YtbjcdgepclmmjaaQ2
import Derived.Test.YtbjcdgepclmmjaaQ4
import Derived.Sort.Walk0
import Derived.Lib.Bytealg
import Derived.Shelf.Lays
import Derived.Shelf.Small.Strs
import Derived.Test.YtbjcdgepclmmjaaProg
import Derived.Test.YtbjcdgepclmmjaaA1
import Derived.Test.YtbjcdgepclmmjaaQ3
import Derived.Test.YtbjcdgepclmmjaaChecked
import Derived.KernelRfl
import Derived.JoinedOf
section
/- Which spans, needs and manifests may be: the code's walks and the document's. -/

set_option linter.unusedVariables false
set_option linter.unusedSimpArgs false
set_option maxRecDepth 100000
open Go Go.Ab Go.Proofs V S T
namespace C

/-- the answer c, whatever lies in the heap -/
abbrev PB (c : Bool) : AV → List AObj → Prop := fun r H' => ∃ l H2 r2, Sel 0 l H' H2 ∧ Le r (AV.ren (selR l H'.length) r2) ∧ (r2 = .bool c ∧ H2 = [])
theorem pb {b c : Bool} {H' : List AObj} (h : b = c) : PB c (.bool b) H' := ⟨[], [], .bool c, Sel.none, h ▸ Le.refl _, rfl, rfl⟩

theorem dropD {α : Type} (l : List α) (d : α) (i : Nat) (h : i < l.length) : l.drop i = l.getD i d :: l.drop (i + 1) := by
  rw [List.drop_eq_getElem_cons h]
  simp [List.getD, List.getElem?_eq_getElem h]

theorem memD {α : Type} (l : List α) (d : α) (i : Nat) (h : i < l.length) : l.getD i d ∈ l := by
  simp [List.getD, List.getElem?_eq_getElem h]

theorem succ64 {i : Nat} (h : i ≤ 10000000) : IntKind.wrap .i64 ((i : Int) + 1) = ((i + 1 : Nat) : Int) := by rw [wrap64 (by omega) (by omega)]; simp
theorem pred64 {i : Nat} (h : i ≤ 10000000) (h1 : 0 < i) : IntKind.wrap .i64 ((i : Int) - 1) = ((i - 1 : Nat) : Int) := by rw [wrap64 (by omega) (by omega)]; omega

abbrev lim : Nat := 1000000

/-! ### spans -/

def chkS (e : Int) : List Span → Bool
  | [] => true
  | x :: r => if x.1 ≤ e ∨ x.2 ≤ x.1 ∨ 1000000000 < x.2 then false else chkS x.2 r
def spanOk (l : List Span) : Bool := chkS (-1) l

theorem chk3 {l : List Span} {c : Bool} (hl : l.length ≤ lim) : ∀ (m i : Nat) (e : Int), m + i = l.length → chkS e (l.drop i) = c →
    AWP Try.prog 31 0 c256_3 [(3, .int .i64 e), (6, .sl 2 (.map encS (0, 0) l) .none), (7, .int .i64 l.length), (8, .int .i64 i)] [] (q256_2 0 (PB c)) := by
  intro m
  induction m with
  | zero =>
    intro i e hm h
    refine v256_3 _ _ _ _ _ _ (condD (fun hc => by omega) fun _ => pb ?_)
    rw [List.drop_eq_nil_of_le (by omega)] at h
    exact h
  | succ m ih =>
    intro i e hm h
    rw [dropD l (0, 0) i (by omega)] at h
    simp only [chkS] at h
    refine v256_3 _ _ _ _ _ _ (condD (fun hc => needJ ⟨by omega, by omega⟩ ?_) fun hc => by omega)
    rw [Int.toNat_natCast]
    generalize l.getD i (0, 0) = x at h ⊢
    refine condD (fun h1 => pb ?_) fun h1 => condD (fun h2 => pb ?_) fun h2 => condD (fun h3 => pb ?_) fun h3 => ?_
    · rw [if_pos (.inl h1)] at h; exact h
    · rw [if_pos (.inr (.inl h2))] at h; exact h
    · rw [if_pos (.inr (.inr h3))] at h; exact h
    · rw [if_neg (by omega)] at h
      rw [succ64 (by unfold lim at hl; omega)]
      exact AWP.shape [] [(3, .int .i64 x.2), (6, .sl 2 (.map encS (0, 0) l) .none), (7, .int .i64 l.length), (8, .int .i64 (i + 1 : Nat))] [] Sel.none ⟨rfl, Le.refl _, rfl, Le.refl _, rfl, Le.refl _, rfl, Le.refl _, trivial⟩ (ih (i + 1) x.2 (by omega) h)

theorem spanCheck_spec (l : List Span) (hl : l.length ≤ lim) (H : List AObj) : ASpec Try.prog 256 [.sl 2 (.map encS (0, 0) l) .none] H (fun r H' => r = .bool (spanOk l) ∧ H' = H) :=
  ASpec.pureH H (ASpec.sel (s256 _ _ (chk3 hl l.length 0 (-1) (by omega) rfl))) _ _ rfl rfl

theorem rchk2 {l : List Span} {c : Bool} (hl : l.length ≤ lim) : ∀ (m i : Nat) (e : Int), m + i = l.length → (i = 0 → e = -1) → (0 < i → e = (l.getD (i - 1) (0, 0)).2 ∧ 0 ≤ e) → chkS e (l.drop i) = c →
    AWP Try.prog 55 0 c285_2 [(0, .sl 2 (.map encS (0, 0) l) .none), (3, .int .i64 i)] [] (q285_2 0 (PB c)) := by
  intro m
  induction m with
  | zero =>
    intro i e hm _ _ h
    refine v285_2 _ _ _ _ (condD (fun hc => by omega) fun _ => pb ?_)
    rw [List.drop_eq_nil_of_le (by omega)] at h
    exact h
  | succ m ih =>
    intro i e hm h0 he h
    have hin : (0 : Int) ≤ (i : Int) ∧ (i : Int) < (l.length : Int) := ⟨by omega, by omega⟩
    rw [dropD l (0, 0) i (by omega)] at h
    simp only [chkS] at h
    have hnext : ∀ x, x = l.getD i (0, 0) → ¬ (x.1 ≤ e ∨ x.2 ≤ x.1 ∨ 1000000000 < x.2) → AWP Try.prog 55 0 c285_2 [(0, .sl 2 (.map encS (0, 0) l) .none), (3, .int .i64 (IntKind.wrap .i64 ((i : Int) + 1)))] [] (q285_2 0 (PB c)) := by
      intro x hx hn
      rw [← hx, if_neg hn] at h
      rw [succ64 (by unfold lim at hl; omega)]
      have hge : -1 ≤ e := by
        rcases Nat.eq_zero_or_pos i with z | z
        · have := h0 z; omega
        · have := he z; omega
      exact ih (i + 1) x.2 (by omega) (fun hh => by omega) (fun _ => ⟨by rw [hx]; rfl, by omega⟩) h
    have hbad : ∀ x, x = l.getD i (0, 0) → (x.1 ≤ e ∨ x.2 ≤ x.1 ∨ 1000000000 < x.2) → PB c (.bool false) [] := by
      intro x hx hh
      rw [← hx, if_pos hh] at h
      exact pb h
    refine v285_2 _ _ _ _ (condD (fun hc => needJ hin ?_) fun hc => by omega)
    rw [Int.toNat_natCast]
    generalize hx : l.getD i (0, 0) = x at h ⊢
    refine condD (fun h1 => hbad x hx.symm (.inl ?_)) fun h1 => needJ hin (condD (fun h2 => hbad x hx.symm (.inr (.inr h2))) fun h2 => needJ hin (needJ hin (condD (fun h3 => hbad x hx.symm (.inr (.inl h3))) fun h3 => condD (fun h4 => needJ hin (needJ ?_ (condD (fun h5 => hbad x hx.symm (.inl ?_)) fun h5 => hnext x hx.symm ?_))) fun h4 => hnext x hx.symm ?_)))
    · rcases Nat.eq_zero_or_pos i with z | z
      · have := h0 z; omega
      · have := he z; omega
    · rw [pred64 (by unfold lim at hl; omega) (by omega)]; omega
    · rw [pred64 (by unfold lim at hl; omega) (by omega), Int.toNat_natCast] at h5
      have := he (by omega); omega
    · rw [pred64 (by unfold lim at hl; omega) (by omega), Int.toNat_natCast] at h5
      have := he (by omega); omega
    · have := h0 (by omega); omega

theorem rspanCheck_spec (l : List Span) (hl : l.length ≤ lim) (H : List AObj) : ASpec Try.prog 285 [.sl 2 (.map encS (0, 0) l) .none] H (fun r H' => r = .bool (spanOk l) ∧ H' = H) :=
  ASpec.pureH H (ASpec.sel (s285 _ _ (rchk2 hl l.length 0 (-1) (by omega) (fun _ => rfl) (fun h => by omega) rfl))) _ _ rfl rfl

/-! ### needs -/

def leB (a b : List UInt8) : Bool := Op.bytesLess a b || a == b

def needsF (last : List UInt8) : List Need → Bool
  | [] => true
  | x :: r => if fitM x.1 = false ∨ leB x.1 last = true ∨ 6 < x.2.length ∨ spanOk x.2 = false then false else needsF x.1 r
def needOk (l : List Need) : Bool := needsF [] l && decide (l.length ≤ 6)

theorem fit_nil : fitM [] = false := rfl
theorem leB_nil {a : List UInt8} (h : fitM a = true) : leB a [] = false := by
  cases a with
  | nil => rw [fit_nil] at h; cases h
  | cons c a => simp [leB, Op.bytesLess]

def okN (l : List Need) : Prop := l.length ≤ lim ∧ ∀ n ∈ l, n.1.length ≤ lim ∧ n.2.length ≤ lim

theorem need3 {l : List Need} {c : Bool} (hl : okN l) : ∀ (m i : Nat) (last : List UInt8), m + i = l.length → (needsF last (l.drop i) && decide (l.length ≤ 6)) = c →
    AWP Try.prog 40 0 c232_3 [(0, .sl 2 (.map encN ([], []) l) .none), (3, .str (B last)), (6, .sl 2 (.map encN ([], []) l) .none), (7, .int .i64 l.length), (8, .int .i64 i)] [] (q232_2 0 (PB c)) := by
  obtain ⟨hl1, hl2⟩ := hl
  intro m
  induction m with
  | zero =>
    intro i last hm h
    refine v232_3 _ _ _ _ _ _ (condD (fun hc => by omega) fun _ => pb ?_)
    rw [List.drop_eq_nil_of_le (by omega)] at h
    simp only [needsF, Bool.true_and] at h
    rw [show decide ((l.length : Int) ≤ 6) = decide (l.length ≤ 6) from decide_eq_decide.2 (by omega)]
    exact h
  | succ m ih =>
    intro i last hm h
    have hx := hl2 _ (memD l ([], []) i (by omega))
    rw [dropD l ([], []) i (by omega)] at h
    simp only [needsF] at h
    refine v232_3 _ _ _ _ _ _ (condD (fun hc => needJ ⟨by omega, by omega⟩ ?_) fun hc => by omega)
    rw [Int.toNat_natCast]
    generalize l.getD i ([], []) = x at h hx ⊢
    have bad : ∀ {H' : List AObj}, (fitM x.1 = false ∨ leB x.1 last = true ∨ 6 < x.2.length ∨ spanOk x.2 = false) → PB c (.bool false) H' := by
      intro H' hh
      rw [if_pos hh] at h
      exact pb h
    refine ASpec.call (fit_spec (l := x.1) (by unfold big; unfold lim at hx; omega) _) (Les.refl _) ⟨_, rfl, rfl, condBn (fun h1 => bad (.inl h1)) fun h1 => ?_⟩
    rw [B_toList, B_toList]
    refine condB (fun h2 => bad (.inr (.inl h2))) fun h2 => condD (fun h3 => bad (.inr (.inr (.inl (by omega))))) fun h3 => ?_
    refine ASpec.call (spanCheck_spec x.2 hx.2 _) (Les.refl _) ⟨_, rfl, rfl, condBn (fun h4 => bad (.inr (.inr (.inr h4)))) fun h4 => ?_⟩
    have h2' : leB x.1 last = false := h2
    rw [if_neg (by rw [h1, h2', h4]; simp; omega)] at h
    rw [succ64 (by unfold lim at hl1; omega)]
    exact AWP.shape [] [(0, .sl 2 (.map encN ([], []) l) .none), (3, .str (B x.1)), (6, .sl 2 (.map encN ([], []) l) .none), (7, .int .i64 l.length), (8, .int .i64 (i + 1 : Nat))] [] Sel.none
      ⟨rfl, Le.refl _, rfl, Le.refl _, rfl, Le.refl _, rfl, Le.refl _, rfl, Le.refl _, trivial⟩ (ih (i + 1) x.1 (by omega) h)

theorem needCheck_spec (l : List Need) (hl : okN l) (H : List AObj) : ASpec Try.prog 232 [.sl 2 (.map encN ([], []) l) .none] H (fun r H' => r = .bool (needOk l) ∧ H' = H) :=
  ASpec.pureH H (ASpec.sel (s232 _ _ (need3 hl l.length 0 [] (by omega) rfl))) _ _ rfl rfl

theorem rneed2 {l : List Need} {c : Bool} (hl : okN l) : ∀ (m i : Nat) (last : List UInt8), m + i = l.length → (i = 0 → last = []) → (0 < i → last = (l.getD (i - 1) ([], [])).1) → (needsF last (l.drop i) && decide (l.length ≤ 6)) = c →
    AWP Try.prog 56 0 c239_2 [(0, .sl 2 (.map encN ([], []) l) .none), (3, .int .i64 i)] [] (q239_2 0 (PB c)) := by
  obtain ⟨hl1, hl2⟩ := hl
  intro m
  induction m with
  | zero =>
    intro i last hm _ _ h
    refine v239_2 _ _ _ _ (condD (fun hc => by omega) fun _ => pb ?_)
    rw [List.drop_eq_nil_of_le (by omega)] at h
    simp only [needsF, Bool.true_and] at h
    rw [show decide ((l.length : Int) ≤ 6) = decide (l.length ≤ 6) from decide_eq_decide.2 (by omega)]
    exact h
  | succ m ih =>
    intro i last hm h0 he h
    have hin : (0 : Int) ≤ (i : Int) ∧ (i : Int) < (l.length : Int) := ⟨by omega, by omega⟩
    have hx := hl2 _ (memD l ([], []) i (by omega))
    rw [dropD l ([], []) i (by omega)] at h
    simp only [needsF] at h
    have hnext : ¬ (fitM (l.getD i ([], [])).1 = false ∨ leB (l.getD i ([], [])).1 last = true ∨ 6 < (l.getD i ([], [])).2.length ∨ spanOk (l.getD i ([], [])).2 = false) →
        AWP Try.prog 56 0 c239_2 [(0, .sl 2 (.map encN ([], []) l) .none), (3, .int .i64 (IntKind.wrap .i64 ((i : Int) + 1)))] [] (q239_2 0 (PB c)) := by
      intro hn
      rw [if_neg hn] at h
      rw [succ64 (by unfold lim at hl1; omega)]
      exact ih (i + 1) _ (by omega) (fun hh => by omega) (fun _ => rfl) h
    have bad : (fitM (l.getD i ([], [])).1 = false ∨ leB (l.getD i ([], [])).1 last = true ∨ 6 < (l.getD i ([], [])).2.length ∨ spanOk (l.getD i ([], [])).2 = false) → PB c (.bool false) [] := by
      intro hh
      rw [if_pos hh] at h
      exact pb h
    refine v239_2 _ _ _ _ (condD (fun hc => needJ hin ?_) fun hc => by omega)
    rw [Int.toNat_natCast]
    clear h ih
    generalize l.getD i ([], []) = x at hx hnext bad ⊢
    refine ASpec.call (rfit_spec (l := x.1) (by unfold big; unfold lim at hx; omega) _) (Les.refl _) ⟨_, rfl, rfl, condBn (fun h1 => bad (.inl h1)) fun h1 => needJ hin ?_⟩
    refine ASpec.call (rspanCheck_spec x.2 hx.2 _) (Les.refl _) ⟨_, rfl, rfl, condBn (fun h2 => bad (.inr (.inr (.inr h2)))) fun h2 => needJ hin (condD (fun h3 => bad (.inr (.inr (.inl (by omega))))) fun h3 => condD (fun h4 => needJ hin ?_) fun h4 => hnext ?_)⟩
    · rw [pred64 (by unfold lim at hl1; omega) (by omega), Int.toNat_natCast]
      refine needJ ⟨by omega, by omega⟩ ?_
      rw [← he (by omega), B_toList, B_toList]
      refine condB (fun h5 => bad (.inr (.inl h5))) fun h5 => hnext ?_
      have h5' : leB x.1 last = false := h5
      rw [h1, h2, h5']; simp; omega
    · rw [h0 (by omega), h1, h2, leB_nil h1]; simp; omega

theorem rneedCheck_spec (l : List Need) (hl : okN l) (H : List AObj) : ASpec Try.prog 239 [.sl 2 (.map encN ([], []) l) .none] H (fun r H' => r = .bool (needOk l) ∧ H' = H) :=
  ASpec.pureH H (ASpec.sel (s239 _ _ (rneed2 hl l.length 0 [] (by omega) (fun _ => rfl) (fun h => by omega) rfl))) _ _ rfl rfl

/-! ### manifests -/

def relF (e : Int) : List Rel → Bool
  | [] => true
  | x :: r => if x.1 ≤ e ∨ 1000000000 ≤ x.1 ∨ needOk x.2 = false then false else relF x.1 r
def manOk (m : Mani) : Bool := relF (-1) m.2 && (fitM m.1 && decide (m.2.length ≤ 8))

def okM (m : Mani) : Prop := m.1.length ≤ lim ∧ m.2.length ≤ lim ∧ ∀ r ∈ m.2, okN r.2

theorem mani3 {m : Mani} {c : Bool} (hl : okM m) : ∀ (k i : Nat) (e : Int), k + i = m.2.length → (relF e (m.2.drop i) && (fitM m.1 && decide (m.2.length ≤ 8))) = c →
    AWP Try.prog 40 0 c185_3 [(1, .ptr 0 0), (3, .int .i64 e), (7, .sl 2 (.map T.encR (0, []) m.2) .none), (8, .int .i64 m.2.length), (9, .int .i64 i)] [.cells (encM m)] (q185_2 0 (PB c)) := by
  obtain ⟨hl1, hl2, hl3⟩ := hl
  intro k
  induction k with
  | zero =>
    intro i e hm h
    refine v185_3 _ _ _ _ _ _ (condD (fun hc => by omega) fun _ => ?_)
    rw [List.drop_eq_nil_of_le (by omega)] at h
    simp only [relF, Bool.true_and] at h
    refine ASpec.call (fit_spec (l := m.1) (by unfold big; unfold lim at hl1; omega) _) (Les.refl _) ⟨_, rfl, rfl, condB (fun h1 => pb ?_) fun h1 => pb ?_⟩
    · rw [h1, Bool.true_and] at h
      rw [show decide ((m.2.length : Int) ≤ 8) = decide (m.2.length ≤ 8) from decide_eq_decide.2 (by omega)]
      exact h
    · rw [h1, Bool.false_and] at h
      exact h
  | succ k ih =>
    intro i e hm h
    have hx := hl3 _ (memD m.2 (0, []) i (by omega))
    rw [dropD m.2 (0, []) i (by omega)] at h
    simp only [relF] at h
    refine v185_3 _ _ _ _ _ _ (condD (fun hc => needJ ⟨by omega, by omega⟩ ?_) fun hc => by omega)
    rw [Int.toNat_natCast]
    generalize m.2.getD i (0, []) = x at h hx ⊢
    have bad : ∀ {H' : List AObj}, (x.1 ≤ e ∨ 1000000000 ≤ x.1 ∨ needOk x.2 = false) → PB c (.bool false) H' := by
      intro H' hh
      rw [if_pos hh] at h
      exact pb h
    refine condD (fun h1 => bad (.inl h1)) fun h1 => condD (fun h2 => bad (.inr (.inl h2))) fun h2 => ?_
    refine ASpec.call (needCheck_spec x.2 hx _) (Les.refl _) ⟨_, rfl, rfl, condBn (fun h3 => bad (.inr (.inr h3))) fun h3 => ?_⟩
    rw [if_neg (by rw [h3]; simp; omega)] at h
    rw [succ64 (by unfold lim at hl2; omega)]
    exact AWP.shape [0] [(1, .ptr 0 0), (3, .int .i64 x.1), (7, .sl 2 (.map T.encR (0, []) m.2) .none), (8, .int .i64 m.2.length), (9, .int .i64 (i + 1 : Nat))] [.cells (encM m)] (Sel.one 0 rfl rfl)
      ⟨rfl, Le.refl _, rfl, Le.refl _, rfl, Le.refl _, rfl, Le.refl _, rfl, Le.refl _, trivial⟩ (ih (i + 1) x.1 (by omega) h)

theorem maniCheck_spec (m : Mani) (hl : okM m) (H : List AObj) : ASpec Try.prog 185 [.agg (encM m)] H (fun r H' => r = .bool (manOk m) ∧ H' = H) :=
  ASpec.pureH H (ASpec.sel (s185 _ _ (mani3 hl m.2.length 0 (-1) (by omega) rfl))) _ _ rfl rfl

theorem verFit_spec (x : Int) (H : List AObj) : ASpec Try.prog 231 [.int .i64 x] H (fun r H' => r = .bool (decide (0 ≤ x ∧ x < 1000000000)) ∧ H' = H) := by
  have k : ASpec Try.prog 231 [.int .i64 x] [] (fun r H' => r = .bool (decide (0 ≤ x ∧ x < 1000000000)) ∧ H' = []) := by
    refine s231 _ _ (condD (fun h => ⟨?_, rfl⟩) fun h => ⟨?_, rfl⟩)
    · congr 1; exact decide_eq_decide.2 (by omega)
    · rw [decide_eq_false (by omega)]
  exact ASpec.pureH H k _ _ rfl rfl

theorem rmani2 {m : Mani} {c : Bool} (hl : okM m) : ∀ (k i : Nat) (e : Int), k + i = m.2.length → (i = 0 → e = -1) → (0 < i → e = (m.2.getD (i - 1) (0, [])).1 ∧ 0 ≤ e) → (relF e (m.2.drop i) && (fitM m.1 && decide (m.2.length ≤ 8))) = c →
    AWP Try.prog 52 0 c186_2 [(1, .ptr 0 0), (3, .int .i64 i)] [.cells (encM m)] (q186_2 0 (PB c)) := by
  obtain ⟨hl1, hl2, hl3⟩ := hl
  intro k
  induction k with
  | zero =>
    intro i e hm _ _ h
    refine v186_2 _ _ _ _ (condD (fun hc => by omega) fun _ => ?_)
    rw [List.drop_eq_nil_of_le (by omega)] at h
    simp only [relF, Bool.true_and] at h
    refine ASpec.call (rfit_spec (l := m.1) (by unfold big; unfold lim at hl1; omega) _) (Les.refl _) ⟨_, rfl, rfl, condB (fun h1 => pb ?_) fun h1 => pb ?_⟩
    · rw [h1, Bool.true_and] at h
      rw [show decide ((m.2.length : Int) ≤ 8) = decide (m.2.length ≤ 8) from decide_eq_decide.2 (by omega)]
      exact h
    · rw [h1, Bool.false_and] at h
      exact h
  | succ k ih =>
    intro i e hm h0 he h
    have hin : (0 : Int) ≤ (i : Int) ∧ (i : Int) < (m.2.length : Int) := ⟨by omega, by omega⟩
    have hx := hl3 _ (memD m.2 (0, []) i (by omega))
    rw [dropD m.2 (0, []) i (by omega)] at h
    simp only [relF] at h
    have hge : -1 ≤ e := by
      rcases Nat.eq_zero_or_pos i with z | z
      · have := h0 z; omega
      · have := he z; omega
    have hnext : ∀ (q : List AObj), ¬ ((m.2.getD i (0, [])).1 ≤ e ∨ 1000000000 ≤ (m.2.getD i (0, [])).1 ∨ needOk (m.2.getD i (0, [])).2 = false) →
        AWP Try.prog 52 0 c186_2 [(1, .ptr 0 0), (3, .int .i64 (IntKind.wrap .i64 ((i : Int) + 1)))] (.cells (encM m) :: q) (q186_2 0 (PB c)) := by
      intro q hn
      rw [if_neg hn] at h
      rw [succ64 (by unfold lim at hl2; omega)]
      exact AWP.shape [0] [(1, .ptr 0 0), (3, .int .i64 (i + 1 : Nat))] [.cells (encM m)] (Sel.one 0 rfl rfl)
        ⟨rfl, Le.refl _, rfl, Le.refl _, trivial⟩ (ih (i + 1) (m.2.getD i (0, [])).1 (by omega) (fun hh => by omega) (fun _ => ⟨rfl, by omega⟩) h)
    have bad : ∀ {H' : List AObj}, ((m.2.getD i (0, [])).1 ≤ e ∨ 1000000000 ≤ (m.2.getD i (0, [])).1 ∨ needOk (m.2.getD i (0, [])).2 = false) → PB c (.bool false) H' := by
      intro H' hh
      rw [if_pos hh] at h
      exact pb h
    refine v186_2 _ _ _ _ (condD (fun hc => needJ hin ?_) fun hc => by omega)
    rw [Int.toNat_natCast]
    clear h ih
    generalize m.2.getD i (0, []) = x at hx hnext bad ⊢
    refine ASpec.call (verFit_spec x.1 _) (Les.refl _) ⟨_, rfl, rfl, condBn (fun h1 => bad ?_) fun h1 => ?_⟩
    · have := of_decide_eq_false h1; omega
    have h1 := of_decide_eq_true h1
    refine ASpec.call (rneedCheck_spec x.2 hx _) (Les.refl _) ⟨_, rfl, rfl, condBn (fun h2 => bad (.inr (.inr h2))) fun h2 => condD (fun h4 => ?_) fun h4 => hnext _ ?_⟩
    · rw [pred64 (by unfold lim at hl2; omega) (by omega), Int.toNat_natCast]
      have hh := he (by omega)
      refine needJ ⟨by omega, by omega⟩ (condD (fun h5 => bad (.inl (by omega))) fun h5 => hnext _ ?_)
      rw [h2]; simp; omega
    · have := h0 (by omega)
      rw [h2]; simp; omega

theorem rmaniCheck_spec (m : Mani) (hl : okM m) (H : List AObj) : ASpec Try.prog 186 [.agg (encM m)] H (fun r H' => r = .bool (manOk m) ∧ H' = H) :=
  ASpec.pureH H (ASpec.sel (s186 _ _ (rmani2 hl m.2.length 0 (-1) (by omega) (fun _ => rfl) (fun h => by omega) rfl))) _ _ rfl rfl

/-! ### are they large? -/

def largeNF : List Need → Bool
  | [] => false
  | x :: r => if 40 < x.2.length ∨ 100 < x.1.length then true else largeNF r
def largeN (l : List Need) : Bool := if 40 < l.length then true else largeNF l

theorem large4 {l : List Need} {c : Bool} (hl : l.length ≤ 40) : ∀ (m i : Nat), m + i = l.length → largeNF (l.drop i) = c →
    AWP Try.prog 29 0 c130_4 [(0, .sl 2 (.map encN ([], []) l) .none), (3, .int .i64 i)] [] (q130_2 0 (PB c)) := by
  intro m
  induction m with
  | zero =>
    intro i hm h
    refine v130_4 _ _ _ _ (condD (fun hc => by omega) fun _ => pb ?_)
    rw [List.drop_eq_nil_of_le (by omega)] at h
    exact h
  | succ m ih =>
    intro i hm h
    have hin : (0 : Int) ≤ (i : Int) ∧ (i : Int) < (l.length : Int) := ⟨by omega, by omega⟩
    rw [dropD l ([], []) i (by omega)] at h
    simp only [largeNF] at h
    refine v130_4 _ _ _ _ (condD (fun hc => needJ hin ?_) fun hc => by omega)
    rw [Int.toNat_natCast]
    generalize l.getD i ([], []) = x at h ⊢
    rw [B_size]
    refine condD (fun h1 => pb ?_) fun h1 => needJ hin (condD (fun h2 => pb ?_) fun h2 => ?_)
    · rw [if_pos (by omega)] at h; exact h
    · rw [if_pos (by omega)] at h; exact h
    · rw [if_neg (by omega)] at h
      rw [succ64 (by omega)]
      exact ih (i + 1) (by omega) h

theorem largeN_spec (l : List Need) (H : List AObj) : ASpec Try.prog 130 [.sl 2 (.map encN ([], []) l) .none] H (fun r H' => r = .bool (largeN l) ∧ H' = H) := by
  have k : ASpec Try.prog 130 [.sl 2 (.map encN ([], []) l) .none] [] (fun r H' => r = .bool (largeN l) ∧ H' = []) := by
    refine ASpec.sel (s130 _ _ (condD (fun h => pb ?_) fun h => ?_))
    · rw [largeN, if_pos (by omega)]
    · refine large4 (by omega) l.length 0 (by omega) ?_
      rw [largeN, if_neg (by omega)]; rfl
  exact ASpec.pureH H k _ _ rfl rfl

def largeMF : List Rel → Bool
  | [] => false
  | x :: r => if largeN x.2 = true then true else largeMF r
def largeM (m : Mani) : Bool := if 30 < m.2.length ∨ 200 < m.1.length then true else largeMF m.2

theorem large38 {m : Mani} {c : Bool} (hl : m.2.length ≤ 30) : ∀ (k i : Nat), k + i = m.2.length → largeMF (m.2.drop i) = c →
    AWP Try.prog 28 0 c66_4 [(1, .ptr 0 0), (3, .int .i64 i)] [.cells (encM m)] (q66_2 0 (PB c)) := by
  intro k
  induction k with
  | zero =>
    intro i hm h
    refine v66_4 _ _ _ _ (condD (fun hc => by omega) fun _ => pb ?_)
    rw [List.drop_eq_nil_of_le (by omega)] at h
    exact h
  | succ k ih =>
    intro i hm h
    rw [dropD m.2 (0, []) i (by omega)] at h
    simp only [largeMF] at h
    refine v66_4 _ _ _ _ (condD (fun hc => needJ ⟨by omega, by omega⟩ ?_) fun hc => by omega)
    rw [Int.toNat_natCast]
    generalize m.2.getD i (0, []) = x at h ⊢
    refine ASpec.call (largeN_spec x.2 _) (Les.refl _) ⟨_, rfl, rfl, condB (fun h1 => pb ?_) fun h1 => ?_⟩
    · rw [if_pos h1] at h; exact h
    · rw [if_neg (by rw [h1]; simp)] at h
      rw [succ64 (by omega)]
      exact ih (i + 1) (by omega) h

theorem largeM_spec (m : Mani) (H : List AObj) : ASpec Try.prog 66 [.agg (encM m)] H (fun r H' => r = .bool (largeM m) ∧ H' = H) := by
  have k : ASpec Try.prog 66 [.agg (encM m)] [] (fun r H' => r = .bool (largeM m) ∧ H' = []) := by
    refine ASpec.sel (s66 _ _ (condD (fun h => pb ?_) fun h => ?_))
    · rw [largeM, if_pos (by omega)]
    rw [B_size]
    refine condD (fun h2 => pb ?_) fun h2 => large38 (by omega) m.2.length 0 (by omega) ?_
    · rw [largeM, if_pos (by omega)]
    · rw [largeM, if_neg (by omega)]; rfl
  exact ASpec.pureH H k _ _ rfl rfl

theorem largeNF_ok : ∀ (l : List Need), largeNF l = false → ∀ n ∈ l, n.1.length ≤ 100 ∧ n.2.length ≤ 40
  | [], _, n, hn => by simp at hn
  | x :: r, h, n, hn => by
    simp only [largeNF] at h
    split at h
    · cases h
    · rcases List.mem_cons.1 hn with rfl | hn
      · omega
      · exact largeNF_ok r h n hn

theorem largeN_ok {l : List Need} (h : largeN l = false) : okN l := by
  unfold largeN at h
  split at h
  · cases h
  · refine ⟨by unfold lim; omega, fun n hn => ?_⟩
    have := largeNF_ok l h n hn
    unfold lim; omega

theorem largeMF_ok : ∀ (l : List Rel), largeMF l = false → ∀ r ∈ l, okN r.2
  | [], _, n, hn => by simp at hn
  | x :: r, h, n, hn => by
    simp only [largeMF] at h
    split at h
    · cases h
    · rename_i h1
      rcases List.mem_cons.1 hn with rfl | hn
      · exact largeN_ok (by simpa using h1)
      · exact largeMF_ok r h n hn

theorem largeM_ok {m : Mani} (h : largeM m = false) : okM m := by
  unfold largeM at h
  split at h
  · cases h
  · exact ⟨by unfold lim; omega, by unfold lim; omega, largeMF_ok _ h⟩

end C
end

section
/- The order of names, and looking for one by halves: plain laws. -/

set_option linter.unusedVariables false
set_option linter.unusedSimpArgs false
open Go Go.Ab Go.Proofs V S T C
namespace Dp

theorem less_iff {a b : List UInt8} : Op.bytesLess a b = true ↔ a < b := by rw [bytesLess_eq]; simp
theorem less_trans {a b c : List UInt8} (h : Op.bytesLess a b = true) (k : Op.bytesLess b c = true) : Op.bytesLess a c = true := by
  rw [less_iff] at *; exact List.lt_trans h k
theorem less_irrefl (a : List UInt8) : Op.bytesLess a a = false := by
  rw [bytesLess_eq, decide_eq_false_iff_not]; exact List.lt_irrefl a
theorem less_tri : ∀ {a b : List UInt8}, Op.bytesLess a b = false → a ≠ b → Op.bytesLess b a = true
  | [], [], _, h => absurd rfl h
  | [], _ :: _, h, _ => by simp [Op.bytesLess] at h
  | _ :: _, [], _, _ => by simp [Op.bytesLess]
  | x :: a, y :: b, h, hne => by
    simp only [Op.bytesLess, Bool.or_eq_false_iff, decide_eq_false_iff_not, Bool.and_eq_false_iff, beq_eq_false_iff_ne] at h
    simp only [Op.bytesLess, Bool.or_eq_true, decide_eq_true_eq, Bool.and_eq_true, beq_iff_eq]
    by_cases e : x = y
    · subst e
      rcases h.2 with h2 | h2
      · exact absurd rfl h2
      · exact .inr ⟨rfl, less_tri h2 (fun h3 => hne (by rw [h3]))⟩
    · left
      have h1 := h.1
      rw [UInt8.not_lt] at h1
      exact UInt8.lt_of_le_of_ne h1 (fun h => e h.symm)
theorem leB_false {a b : List UInt8} : leB a b = false ↔ Op.bytesLess b a = true := by
  unfold leB
  rw [Bool.or_eq_false_iff, beq_eq_false_iff_ne]
  constructor
  · rintro ⟨h1, h2⟩; exact less_tri h1 h2
  · intro h
    refine ⟨?_, ?_⟩
    · cases hx : Op.bytesLess a b with
      | false => rfl
      | true => have := less_trans h hx; rw [less_irrefl] at this; cases this
    · rintro rfl; rw [less_irrefl] at h; cases h

theorem cmp_less : ∀ (a b : List UInt8), (Lib.compareBytes a b < 0) ↔ Op.bytesLess a b = true
  | [], [] => by simp [Lib.compareBytes, Op.bytesLess]
  | [], _ :: _ => by simp [Lib.compareBytes, Op.bytesLess]
  | _ :: _, [] => by simp [Lib.compareBytes, Op.bytesLess]
  | x :: a, y :: b => by
    simp only [Lib.compareBytes, Op.bytesLess, Bool.or_eq_true, decide_eq_true_eq, Bool.and_eq_true, beq_iff_eq]
    by_cases h1 : x < y
    · simp [h1]
    · by_cases h2 : y < x
      · rw [if_neg h1, if_pos h2]
        constructor
        · intro h; omega
        · rintro (h | ⟨rfl, _⟩)
          · exact absurd h h1
          · exact absurd h2 h1
      · rw [if_neg h1, if_neg h2, cmp_less a b]
        have e : x = y := UInt8.le_antisymm (UInt8.not_lt.1 h2) (UInt8.not_lt.1 h1)
        simp [h1, e]
theorem cmp_zero : ∀ (a b : List UInt8), (Lib.compareBytes a b = 0) ↔ a = b
  | [], [] => by simp [Lib.compareBytes]
  | [], _ :: _ => by simp [Lib.compareBytes]
  | _ :: _, [] => by simp [Lib.compareBytes]
  | x :: a, y :: b => by
    simp only [Lib.compareBytes, List.cons.injEq]
    by_cases h1 : x < y
    · rw [if_pos h1]
      constructor
      · intro h; omega
      · rintro ⟨rfl, _⟩; exact absurd h1 (UInt8.lt_irrefl _)
    · by_cases h2 : y < x
      · rw [if_neg h1, if_pos h2]
        constructor
        · intro h; omega
        · rintro ⟨rfl, _⟩; exact absurd h2 (UInt8.lt_irrefl _)
      · rw [if_neg h1, if_neg h2, cmp_zero a b]
        have e : x = y := UInt8.le_antisymm (UInt8.not_lt.1 h2) (UInt8.not_lt.1 h1)
        simp [e]

/-! ### entries that may be -/

def depF (last : List UInt8) : List Ent → Bool
  | [] => true
  | x :: r => if fitM x.1 = false ∨ leB x.1 last = true ∨ 8192 < x.2.length then false else depF x.1 r
def depOk (l : List Ent) : Bool := depF [] l && decide (l.length ≤ 24)

theorem depF_ok : ∀ (l : List Ent) (last : List UInt8), depF last l = true → ∀ i, i < l.length →
    fitM (l.getD i ([], [])).1 = true ∧ (l.getD i ([], [])).2.length ≤ 8192 ∧ Op.bytesLess last (l.getD i ([], [])).1 = true ∧ ∀ j, j < i → Op.bytesLess (l.getD j ([], [])).1 (l.getD i ([], [])).1 = true
  | [], _, _, i, hi => by simp at hi
  | x :: r, last, h, i, hi => by
    simp only [depF] at h
    split at h
    · cases h
    · rename_i hx
      simp only [not_or, Bool.not_eq_false, Bool.not_eq_true, Nat.not_lt] at hx
      obtain ⟨h1, h2, h3⟩ := hx
      rw [leB_false] at h2
      match i, hi with
      | 0, _ => exact ⟨h1, h3, h2, fun j hj => by omega⟩
      | i + 1, hi =>
        obtain ⟨k1, k2, k3, k4⟩ := depF_ok r x.1 h i (by simpa using hi)
        simp only [List.getD_cons_succ]
        refine ⟨k1, k2, less_trans h2 k3, fun j hj => ?_⟩
        match j, hj with
        | 0, _ => exact k3
        | j + 1, hj => exact k4 j (by omega)

theorem depOk_ok {l : List Ent} (h : depOk l = true) : l.length ≤ 24 ∧ ∀ i, i < l.length → fitM (l.getD i ([], [])).1 = true ∧ (l.getD i ([], [])).2.length ≤ 8192 ∧ ∀ j, j < i → Op.bytesLess (l.getD j ([], [])).1 (l.getD i ([], [])).1 = true := by
  simp only [depOk, Bool.and_eq_true, decide_eq_true_eq] at h
  refine ⟨h.2, fun i hi => ?_⟩
  obtain ⟨a, b, _, d⟩ := depF_ok l [] h.1 i hi
  exact ⟨a, b, d⟩

/-- how many names stand ahead -/
def cnt (nm : List UInt8) : List Ent → Nat
  | [] => 0
  | x :: r => if Op.bytesLess x.1 nm = true then cnt nm r + 1 else 0

theorem cnt_le (nm : List UInt8) : ∀ l : List Ent, cnt nm l ≤ l.length
  | [] => Nat.le_refl _
  | x :: r => by
    simp only [cnt]
    split
    · have := cnt_le nm r; simp; omega
    · simp
theorem cnt_lt (nm : List UInt8) : ∀ (l : List Ent) (i : Nat), i < cnt nm l → Op.bytesLess (l.getD i ([], [])).1 nm = true
  | [], i, h => by simp [cnt] at h
  | x :: r, i, h => by
    simp only [cnt] at h
    split at h
    · rename_i hx
      match i, h with
      | 0, _ => exact hx
      | i + 1, h => exact cnt_lt nm r i (by omega)
    · omega
theorem cnt_at (nm : List UInt8) : ∀ (l : List Ent), cnt nm l < l.length → Op.bytesLess (l.getD (cnt nm l) ([], [])).1 nm = false
  | [], h => by simp at h
  | x :: r, h => by
    simp only [cnt] at h ⊢
    split
    · rename_i hx
      rw [if_pos hx] at h
      exact cnt_at nm r (by simpa using h)
    · rename_i hx
      simpa using hx
theorem cnt_ge {nm : List UInt8} {l : List Ent} (hs : ∀ i, i < l.length → ∀ j, j < i → Op.bytesLess (l.getD j ([], [])).1 (l.getD i ([], [])).1 = true) {i : Nat} (h : cnt nm l ≤ i) (hi : i < l.length) :
    Op.bytesLess (l.getD i ([], [])).1 nm = false := by
  have h0 := cnt_at nm l (by omega)
  rcases Nat.eq_or_lt_of_le h with e | e
  · rw [← e]; exact h0
  · cases hx : Op.bytesLess (l.getD i ([], [])).1 nm with
    | false => rfl
    | true =>
      have := less_trans (hs i hi _ e) hx
      rw [h0] at this; cases this

/-- a name's body, if it is there -/
def getE (nm : List UInt8) : List Ent → Option (List UInt8)
  | [] => none
  | x :: r => if x.1 = nm then some x.2 else getE nm r

theorem getE_at {nm : List UInt8} : ∀ {l : List Ent}, (∀ i, i < l.length → ∀ j, j < i → Op.bytesLess (l.getD j ([], [])).1 (l.getD i ([], [])).1 = true) →
    (cnt nm l < l.length ∧ (l.getD (cnt nm l) ([], [])).1 = nm → getE nm l = some (l.getD (cnt nm l) ([], [])).2) ∧ (¬ (cnt nm l < l.length ∧ (l.getD (cnt nm l) ([], [])).1 = nm) → getE nm l = none)
  | [], _ => ⟨fun h => by simp at h, fun _ => rfl⟩
  | x :: r, hs => by
    have hr : ∀ i, i < r.length → ∀ j, j < i → Op.bytesLess (r.getD j ([], [])).1 (r.getD i ([], [])).1 = true := fun i hi j hj => by
      have := hs (i + 1) (by simpa using hi) (j + 1) (by omega)
      simpa using this
    obtain ⟨k1, k2⟩ := getE_at (nm := nm) hr
    simp only [cnt, getE]
    by_cases hx : Op.bytesLess x.1 nm = true
    · rw [if_pos hx]
      have hne : ¬ x.1 = nm := by rintro rfl; rw [less_irrefl] at hx; cases hx
      rw [if_neg hne]
      simp only [List.length_cons, List.getD_cons_succ, Nat.add_lt_add_iff_right]
      exact ⟨k1, k2⟩
    · rw [if_neg hx]
      simp only [List.length_cons, List.getD_cons_zero]
      constructor
      · intro h
        rw [if_pos h.2]
      · intro h
        have hne : ¬ x.1 = nm := fun e => h ⟨by omega, e⟩
        rw [if_neg hne]
        apply k2
        rintro ⟨h1, h2⟩
        have h3 := hs (cnt nm r + 1) (by simpa using h1) 0 (by omega)
        simp only [List.getD_cons_zero, List.getD_cons_succ, h2] at h3
        rw [h3] at hx; exact hx rfl
end Dp
end

section
/- strings.Compare, by the library's contract at this program (the laying was written by the kit's lay-plain tool). -/

set_option linter.unusedVariables false
set_option linter.unusedSimpArgs false
namespace Go.Proofs
open Go.Shelf
def Try.lays106_ren : Go.Shelf.Ren := ⟨fun | 106 => 280 | 213 => 327 | 265 => 374 | n => n, fun | 9 => 9 | 3 => 3 | n => n, fun | n => n⟩
theorem Try.lays106 : Go.Proofs.Lays.n106 Try.prog Try.lays106_ren := {
  mixed := by kernel_rfl
  f106 := Try.func280.trans (congrArg some (by kernel_rfl))
  f213 := Try.func327.trans (congrArg some (by kernel_rfl))
  f265 := Try.func374.trans (congrArg some (by kernel_rfl))
  t3 := Try.underlying3
  a3 := Try.isAgg3
  z3 := Try.sizeOf3
  v3 := Try.zeroValue3
  t9 := Try.underlying9
  a9 := Try.isAgg9
  z9 := Try.sizeOf9
  v9 := Try.zeroValue9 }
end Go.Proofs
open Go Go.Ab Go.Proofs V S T C
namespace Dp
theorem cmp_spec (a b : List UInt8) (H : List AObj) : ASpec Try.prog 280 [.str (B a), .str (B b)] H (fun r H' => r = .int .i64 (Lib.compareBytes a b) ∧ H' = H) := by
  refine ASpec.of_calls fun M loc w vs ht hv => ?_
  obtain ⟨hs, hv⟩ := hv
  have hv0 := hv 0 (by simp)
  have hv1 := hv 1 (by simp)
  simp only [List.getElem_cons_zero, List.getElem_cons_succ] at hv0 hv1
  have hvs : vs = #[vs[0]'(by simp at hs; omega), vs[1]'(by simp at hs; omega)] := by
    apply Array.ext
    · simpa using hs
    · intro i h1 h2
      have : i < 2 := by simpa using h2
      match i, this with
      | 0, _ => rfl
      | 1, _ => rfl
  generalize vs[0]'(by simp at hs; omega) = v0 at hv0 hvs
  generalize vs[1]'(by simp at hs; omega) = v1 at hv1 hvs
  subst hvs
  cases hv0
  cases hv1
  refine (Any.strings_Compare Try.lays106 (B a) (B b) w).mono ?_
  rintro e w' ⟨rfl, rfl⟩
  exact ⟨_, rfl, .int _ _, Grown.refl _⟩
end Dp
end

section
/- Manifests as bytes: what the code puts, and the document. -/

set_option linter.unusedVariables false
set_option linter.unusedSimpArgs false
set_option maxRecDepth 100000
open Go Go.Ab Go.Proofs V S T C
namespace W

def numB (x : Int) : List UInt8 := enc (held x)
def text (s : List UInt8) : List UInt8 := enc (held s.length) ++ s
def spanB (s : Span) : List UInt8 := numB s.1 ++ numB (IntKind.wrap .i64 (s.2 - s.1))
def needB (n : Need) : List UInt8 := text n.1 ++ numB n.2.length ++ n.2.flatMap spanB
def relB (r : Rel) : List UInt8 := numB r.1 ++ numB r.2.length ++ r.2.flatMap needB
def maniB (m : Mani) : List UInt8 := text m.1 ++ numB m.2.length ++ m.2.flatMap relB
def putMan (m : Mani) : List UInt8 := if manOk m = true then maniB m else []

theorem numB_len (x : Int) : (numB x).length ≤ 6 := enc_length _ (held_le _)
theorem text_len (s : List UInt8) : (text s).length ≤ s.length + 6 := by
  have := enc_length (held s.length) (held_le _)
  simp [text]; omega

theorem flat_len {α : Type} (f : α → List UInt8) (k : Nat) : ∀ (l : List α), (∀ x ∈ l, (f x).length ≤ k) → (l.flatMap f).length ≤ l.length * k
  | [], _ => by simp
  | x :: r, h => by
    have h1 := h x (by simp)
    have h2 := flat_len f k r (fun y hy => h y (by simp [hy]))
    rw [List.flatMap_cons, List.length_append, List.length_cons, Nat.add_mul]
    omega

theorem spanB_len (s : Span) : (spanB s).length ≤ 12 := by
  have h1 := numB_len s.1
  have h2 := numB_len (IntKind.wrap .i64 (s.2 - s.1))
  simp only [spanB, List.length_append]; omega

theorem needB_len {n : Need} (h1 : n.1.length ≤ 24) (h2 : n.2.length ≤ 6) : (needB n).length ≤ 108 := by
  have a := text_len n.1
  have b := numB_len n.2.length
  have c := flat_len spanB 12 n.2 (fun x _ => spanB_len x)
  have d : n.2.length * 12 ≤ 6 * 12 := Nat.mul_le_mul_right _ h2
  simp only [needB, List.length_append]; omega

theorem needsF_ok : ∀ (l : List Need) (last : List UInt8), needsF last l = true → ∀ n ∈ l, n.1.length ≤ 24 ∧ n.2.length ≤ 6 ∧ spanOk n.2 = true ∧ fitM n.1 = true
  | [], _, _, n, hn => by simp at hn
  | x :: r, last, h, n, hn => by
    simp only [needsF] at h
    split at h
    · cases h
    · rename_i hh
      rcases List.mem_cons.1 hn with rfl | hn
      · have hf : fitM n.1 = true := by
          cases hq : fitM n.1 with
          | true => rfl
          | false => exact (hh (.inl hq)).elim
        have hs : spanOk n.2 = true := by
          cases hq : spanOk n.2 with
          | true => rfl
          | false => exact (hh (.inr (.inr (.inr hq)))).elim
        exact ⟨fitM_short hf, by omega, hs, hf⟩
      · exact needsF_ok r _ h n hn

theorem needOk_ok {l : List Need} (h : needOk l = true) : l.length ≤ 6 ∧ ∀ n ∈ l, n.1.length ≤ 24 ∧ n.2.length ≤ 6 ∧ spanOk n.2 = true ∧ fitM n.1 = true := by
  unfold needOk at h
  rw [Bool.and_eq_true] at h
  exact ⟨of_decide_eq_true h.2, needsF_ok l _ h.1⟩

theorem relB_len {r : Rel} (h : needOk r.2 = true) : (relB r).length ≤ 660 := by
  obtain ⟨h1, h2⟩ := needOk_ok h
  have a := numB_len r.1
  have b := numB_len r.2.length
  have c := flat_len needB 108 r.2 (fun x hx => needB_len (h2 x hx).1 (h2 x hx).2.1)
  have d : r.2.length * 108 ≤ 6 * 108 := Nat.mul_le_mul_right _ h1
  simp only [relB, List.length_append]; omega

theorem relF_ok : ∀ (l : List Rel) (e : Int), relF e l = true → ∀ r ∈ l, needOk r.2 = true ∧ e < r.1 ∧ r.1 < 1000000000
  | [], _, _, n, hn => by simp at hn
  | x :: r, e, h, n, hn => by
    simp only [relF] at h
    split at h
    · cases h
    · rename_i hh
      rcases List.mem_cons.1 hn with rfl | hn
      · refine ⟨?_, by omega, by omega⟩
        cases hq : needOk n.2 with
        | true => rfl
        | false => exact (hh (.inr (.inr hq))).elim
      · have := relF_ok r _ h n hn
        exact ⟨this.1, by omega, this.2.2⟩

theorem manOk_ok {m : Mani} (h : manOk m = true) : fitM m.1 = true ∧ m.1.length ≤ 24 ∧ m.2.length ≤ 8 ∧ ∀ r ∈ m.2, needOk r.2 = true ∧ -1 < r.1 ∧ r.1 < 1000000000 := by
  unfold manOk at h
  rw [Bool.and_eq_true, Bool.and_eq_true] at h
  exact ⟨h.2.1, fitM_short h.2.1, of_decide_eq_true h.2.2, relF_ok _ _ h.1⟩

theorem maniB_len {m : Mani} (h : manOk m = true) : (maniB m).length ≤ 5316 := by
  obtain ⟨-, h1, h2, h3⟩ := manOk_ok h
  have a := text_len m.1
  have b := numB_len m.2.length
  have c := flat_len relB 660 m.2 (fun x hx => relB_len (h3 x hx).1)
  have d : m.2.length * 660 ≤ 8 * 660 := Nat.mul_le_mul_right _ h2
  simp only [maniB, List.length_append]; omega

theorem lenL {α : Type} {a c P : List α} (h : a ++ c = P) : a.length ≤ P.length := by rw [← h]; simp

theorem leTwo (a b : Int) : Le (.sl 1 (.raw [[.int .i64 a], [.int .i64 b]]) .full) (.sl 1 (.map encI 0 [a, b]) .none) := Le.sl rfl (.inl rfl) (.inr rfl)
theorem leTok {l : List UInt8} {t : Tip} : Le (.sl 1 (.map encB 0 l) t) (.sl 1 (.map encB 0 l) .none) := Le.sl rfl (.inl rfl) (.inr rfl)
theorem put1M (b : List UInt8) (x : Int) : putM b [x] = b ++ numB x := by simp [putM, numB]
theorem put2M (b : List UInt8) (x y : Int) : putM b [x, y] = b ++ (numB x ++ numB y) := by simp [putM, numB]

section
variable {Post : AV → List AObj → Prop}

abbrev sl1 (b : List UInt8) : AV := .sl 1 (.map encB 0 b) .none
noncomputable abbrev slR (l : List Rel) : AV := .sl 2 (.map T.encR (0, []) l) .none
noncomputable abbrev slN (l : List Need) : AV := .sl 2 (.map encN ([], []) l) .none
noncomputable abbrev slS (l : List Span) : AV := .sl 2 (.map encS (0, 0) l) .none

theorem p13 {rs : List Rel} {ns : List Need} {ss : List Span} {n i i2 : Int} {n2 : Int} (hs : ss.length ≤ lim) {P : List UInt8} (hP : P.length ≤ 100000)
    (k : AWP Try.prog 73 0 c184_9 [(3, sl1 P), (22, slR rs), (23, .int .i64 n), (24, .int .i64 i), (37, slN ns), (38, .int .i64 n2), (39, .int .i64 (IntKind.wrap .i64 (i2 + 1)))] [] (q184_6 0 Post)) :
    ∀ (m j : Nat) (b : List UInt8), m + j = ss.length → b ++ (ss.drop j).flatMap spanB = P →
    AWP Try.prog 73 0 c184_13 [(3, sl1 b), (22, slR rs), (23, .int .i64 n), (24, .int .i64 i), (37, slN ns), (38, .int .i64 n2), (39, .int .i64 i2), (53, slS ss), (54, .int .i64 ss.length), (55, .int .i64 j)] [] (q184_10 0 Post) := by
  unfold lim at hs
  intro m
  induction m with
  | zero =>
    intro j b hm h
    refine v184_13 _ _ _ _ _ _ _ _ _ _ _ _ (condD (fun hc => by omega) fun _ => ?_)
    rw [List.drop_eq_nil_of_le (by omega)] at h
    simp only [List.flatMap_nil, List.append_nil] at h
    subst h; exact k
  | succ m ih =>
    intro j b hm h
    have hbl : b.length ≤ P.length := lenL h
    rw [dropD ss (0, 0) j (by omega), List.flatMap_cons, ← List.append_assoc] at h
    refine v184_13 _ _ _ _ _ _ _ _ _ _ _ _ (condD (fun hc => needJ ⟨by omega, by omega⟩ ?_) fun hc => by omega)
    rw [Int.toNat_natCast]
    generalize ss.getD j (0, 0) = x at h ⊢
    refine put_spec' (bs := b) (ns := [x.1, IntKind.wrap .i64 (x.2 - x.1)]) ⟨Le.refl _, leTwo _ _, trivial⟩ (by unfold big; simp; omega) ⟨_, rfl, rfl, ?_⟩
    rw [put2M]
    rw [succ64 (by omega)]
    exact AWP.shape [] [(3, sl1 (b ++ spanB x)), (22, slR rs), (23, .int .i64 n), (24, .int .i64 i), (37, slN ns), (38, .int .i64 n2), (39, .int .i64 i2), (53, slS ss), (54, .int .i64 ss.length), (55, .int .i64 (j + 1 : Nat))] [] Sel.none
      ⟨rfl, sealLe _ rfl, rfl, Le.refl _, rfl, Le.refl _, rfl, Le.refl _, rfl, Le.refl _, rfl, Le.refl _, rfl, Le.refl _, rfl, Le.refl _, rfl, Le.refl _, rfl, Le.refl _, trivial⟩ (ih (j + 1) _ (by omega) h)

theorem p9 {rs : List Rel} {ns : List Need} {n i : Int} (hs : ∀ x ∈ ns, x.2.length ≤ lim ∧ x.1.length ≤ lim) (hn : ns.length ≤ lim) {P : List UInt8} (hP : P.length ≤ 100000)
    (k : AWP Try.prog 73 0 c184_5 [(3, sl1 P), (22, slR rs), (23, .int .i64 n), (24, .int .i64 (IntKind.wrap .i64 (i + 1)))] [] (q184_2 0 Post)) :
    ∀ (m j : Nat) (b : List UInt8), m + j = ns.length → b ++ (ns.drop j).flatMap needB = P →
    AWP Try.prog 73 0 c184_9 [(3, sl1 b), (22, slR rs), (23, .int .i64 n), (24, .int .i64 i), (37, slN ns), (38, .int .i64 ns.length), (39, .int .i64 j)] [] (q184_6 0 Post) := by
  unfold lim at hs hn
  intro m
  induction m with
  | zero =>
    intro j b hm h
    refine v184_9 _ _ _ _ _ _ _ _ _ (condD (fun hc => by omega) fun _ => ?_)
    rw [List.drop_eq_nil_of_le (by omega)] at h
    simp only [List.flatMap_nil, List.append_nil] at h
    subst h; exact k
  | succ m ih =>
    intro j b hm h
    have hbl : b.length ≤ P.length := lenL h
    have hx := hs _ (memD ns ([], []) j (by omega))
    rw [dropD ns ([], []) j (by omega), List.flatMap_cons, ← List.append_assoc] at h
    refine v184_9 _ _ _ _ _ _ _ _ _ (condD (fun hc => needJ ⟨by omega, by omega⟩ ?_) fun hc => by omega)
    rw [Int.toNat_natCast]
    generalize ns.getD j ([], []) = x at h hx ⊢
    have hb2 : (b ++ needB x).length ≤ P.length := lenL h
    have hb3 : (b ++ text x.1).length ≤ (b ++ needB x).length := by simp [needB]
    have etx : b ++ enc (held x.1.length) ++ x.1 = b ++ text x.1 := by simp [text]
    refine ASpec.call (text_spec b x.1 (by unfold big; omega) _) (Les.refl _) ⟨b ++ text x.1, by rw [etx]; rfl, rfl, ⟨rfl, rfl⟩, ⟨rfl, rfl⟩, ?_⟩
    refine put_spec' (bs := b ++ text x.1) (ns := [(x.2.length : Int)]) ⟨leTok, leOne _, trivial⟩ (by unfold big; simp only [List.length_cons, List.length_nil]; omega) ⟨_, rfl, rfl, ?_⟩
    rw [put1M]
    refine AWP.shape [] [(3, sl1 (b ++ text x.1 ++ numB x.2.length)), (22, slR rs), (23, .int .i64 n), (24, .int .i64 i), (37, slN ns), (38, .int .i64 ns.length), (39, .int .i64 j), (53, slS x.2), (54, .int .i64 x.2.length), (55, .int .i64 (0 : Nat))] [] Sel.none
      ⟨rfl, sealLe _ rfl, rfl, Le.refl _, rfl, Le.refl _, rfl, Le.refl _, rfl, Le.refl _, rfl, Le.refl _, rfl, Le.refl _, rfl, Le.refl _, rfl, Le.refl _, rfl, Le.refl _, trivial⟩ ?_
    refine p13 (P := b ++ needB x) (by unfold lim; omega) (by omega) ?_ x.2.length 0 _ (by omega) (by simp [needB])
    rw [succ64 (by omega)]
    exact ih (j + 1) _ (by omega) h

theorem p5 {rs : List Rel} (hs : ∀ r ∈ rs, okN r.2) (hn : rs.length ≤ lim) {P : List UInt8} (hP : P.length ≤ 100000) (h : Post (sl1 P) []) :
    ∀ (m j : Nat) (b : List UInt8), m + j = rs.length → b ++ (rs.drop j).flatMap relB = P →
    AWP Try.prog 73 0 c184_5 [(3, sl1 b), (22, slR rs), (23, .int .i64 rs.length), (24, .int .i64 j)] [] (q184_2 0 Post) := by
  unfold lim at hn
  intro m
  induction m with
  | zero =>
    intro j b hm hb
    refine v184_5 _ _ _ _ _ _ (condD (fun hc => by omega) fun _ => ?_)
    rw [List.drop_eq_nil_of_le (by omega)] at hb
    simp only [List.flatMap_nil, List.append_nil] at hb
    subst hb; exact h
  | succ m ih =>
    intro j b hm hb
    have hbl : b.length ≤ P.length := lenL hb
    have hx := hs _ (memD rs (0, []) j (by omega))
    rw [dropD rs (0, []) j (by omega), List.flatMap_cons, ← List.append_assoc] at hb
    refine v184_5 _ _ _ _ _ _ (condD (fun hc => needJ ⟨by omega, by omega⟩ ?_) fun hc => by omega)
    rw [Int.toNat_natCast]
    generalize rs.getD j (0, []) = x at hb hx ⊢
    have hb2 : (b ++ relB x).length ≤ P.length := lenL hb
    refine put_spec' (bs := b) (ns := [x.1, (x.2.length : Int)]) ⟨Le.refl _, leTwo _ _, trivial⟩ (by unfold big; simp; omega) ⟨_, rfl, rfl, ?_⟩
    rw [put2M]
    refine AWP.shape [] [(3, sl1 (b ++ (numB x.1 ++ numB x.2.length))), (22, slR rs), (23, .int .i64 rs.length), (24, .int .i64 j), (37, slN x.2), (38, .int .i64 x.2.length), (39, .int .i64 (0 : Nat))] [] Sel.none
      ⟨rfl, sealLe _ rfl, rfl, Le.refl _, rfl, Le.refl _, rfl, Le.refl _, rfl, Le.refl _, rfl, Le.refl _, rfl, Le.refl _, trivial⟩ ?_
    refine p9 (P := b ++ relB x) (fun y hy => ⟨(hx.2 y hy).2, (hx.2 y hy).1⟩) hx.1 (by omega) ?_ x.2.length 0 _ (by omega) (by simp [relB])
    rw [succ64 (by omega)]
    exact ih (j + 1) _ (by omega) hb

theorem put_spec (m : Mani) (hm : okM m) (H : List AObj) : ASpec Try.prog 184 [.agg (encM m)] H (fun r H' => r = sl1 (putMan m) ∧ H' = H) := by
  have k : ASpec Try.prog 184 [.agg (encM m)] [] (fun r H' => r = sl1 (putMan m) ∧ H' = []) := by
    obtain ⟨hm1, hm2, hm3⟩ := hm
    unfold lim at hm1 hm2
    refine ASpec.sel (s184 _ _ (ASpec.call (maniCheck_spec m ⟨hm1, hm2, hm3⟩ _) (Les.refl _) ⟨_, rfl, rfl, condBn (fun h => ?_) fun h => ?_⟩))
    · refine ⟨[], [], sl1 [], Sel.none, Le.sl (s' := Seq.ren _ (.map encB 0 [])) rfl (.inr ⟨rfl, fun _ h => by cases h⟩) (.inr rfl), ?_, rfl⟩
      rw [putMan, if_neg (by rw [h]; simp)]
    have hlen := maniB_len h
    have hb3 : (text m.1).length ≤ (maniB m).length := by simp [maniB] <;> omega
    have etx : ([] : List UInt8) ++ enc (held m.1.length) ++ m.1 = text m.1 := by simp [text]
    refine ASpec.call (text_spec [] m.1 (by unfold big; simp; omega) _) ⟨leNil, Le.refl _, trivial⟩ ⟨text m.1, by rw [etx]; rfl, rfl, ⟨rfl, rfl⟩, ⟨rfl, rfl⟩, ?_⟩
    refine put_spec' (bs := text m.1) (ns := [(m.2.length : Int)]) ⟨leTok, leOne _, trivial⟩ (by unfold big; simp only [List.length_cons, List.length_nil]; omega) ⟨_, rfl, rfl, ?_⟩
    rw [put1M]
    refine AWP.shape [] [(3, sl1 (text m.1 ++ numB m.2.length)), (22, slR m.2), (23, .int .i64 m.2.length), (24, .int .i64 (0 : Nat))] [] Sel.none
      ⟨rfl, sealLe _ rfl, rfl, Le.refl _, rfl, Le.refl _, rfl, Le.refl _, trivial⟩ ?_
    refine p5 (P := maniB m) hm3 hm2 (by omega) ?_ m.2.length 0 _ (by omega) (by simp [maniB])
    refine ⟨[], [], sl1 (putMan m), Sel.none, ?_, rfl, rfl⟩
    rw [putMan, if_pos h]
    exact sealLe _ rfl
  exact ASpec.pureH H k _ _ rfl rfl

/-! ### the document's -/

theorem d7 {l : List Need} {i : Nat} {x : Need} (hl : l.length ≤ lim) (hi : i < l.length) (hx : l.getD i ([], []) = x) (hxs : x.2.length ≤ lim) {P : List UInt8} (hP : P.length ≤ 100000)
    (k : AWP Try.prog 63 0 c264_3 [(0, slN l), (3, .str (B P)), (4, .int .i64 (i + 1 : Nat))] [] (q264_2 0 Post)) :
    ∀ (m j : Nat) (b : List UInt8), m + j = x.2.length → b ++ (x.2.drop j).flatMap spanB = P →
    AWP Try.prog 63 0 c264_7 [(0, slN l), (3, .str (B b)), (4, .int .i64 i), (5, .int .i64 j)] [] (q264_6 0 Post) := by
  unfold lim at hl hxs
  have hin : (0 : Int) ≤ (i : Int) ∧ (i : Int) < (l.length : Int) := ⟨by omega, by omega⟩
  intro m
  induction m with
  | zero =>
    intro j b hm h
    refine v264_7 _ _ _ _ _ _ (needJ hin ?_)
    rw [Int.toNat_natCast, hx]
    refine condD (fun hc => by omega) fun _ => ?_
    rw [List.drop_eq_nil_of_le (by omega)] at h
    simp only [List.flatMap_nil, List.append_nil] at h
    subst h
    rw [succ64 (by omega)]; exact k
  | succ m ih =>
    intro j b hm h
    have hbl : b.length ≤ P.length := lenL h
    rw [dropD x.2 (0, 0) j (by omega), List.flatMap_cons, ← List.append_assoc] at h
    refine v264_7 _ _ _ _ _ _ (needJ hin ?_)
    rw [Int.toNat_natCast, hx]
    refine condD (fun hc => needJ hin (needJ ⟨by omega, by omega⟩ ?_)) fun hc => by omega
    rw [Int.toNat_natCast]
    generalize x.2.getD j (0, 0) = y at h ⊢
    have n1 := numB_len y.1
    have n2 := numB_len (IntKind.wrap .i64 (y.2 - y.1))
    refine ASpec.call (rnum_spec y.1 _) (Les.refl _) ⟨B (numB y.1), rfl, rfl, ⟨rfl, rfl⟩, ⟨rfl, rfl⟩, needJ (by rw [B_size, B_size]; omega) ?_⟩
    rw [B_append]
    refine ASpec.call (rnum_spec _ _) (Les.refl _) ⟨B (numB (IntKind.wrap .i64 (y.2 - y.1))), rfl, rfl, needJ (by rw [B_size, B_size, List.length_append]; omega) ?_⟩
    rw [B_append, succ64 (by omega)]
    refine AWP.shape [] [(0, slN l), (3, .str (B (b ++ spanB y))), (4, .int .i64 i), (5, .int .i64 (j + 1 : Nat))] [] Sel.none ⟨rfl, Le.refl _, rfl, ?_, rfl, Le.refl _, rfl, Le.refl _, trivial⟩ (ih (j + 1) _ (by omega) h)
    rw [show b ++ numB y.1 ++ numB (IntKind.wrap .i64 (y.2 - y.1)) = b ++ spanB y by simp [spanB]]
    exact Le.refl _

theorem d3 {l : List Need} (hl : okN l) {P : List UInt8} (hP : P.length ≤ 100000) (h : Post (.str (B P)) []) :
    ∀ (m i : Nat) (b : List UInt8), m + i = l.length → b ++ (l.drop i).flatMap needB = P →
    AWP Try.prog 63 0 c264_3 [(0, slN l), (3, .str (B b)), (4, .int .i64 i)] [] (q264_2 0 Post) := by
  obtain ⟨hl1, hl2⟩ := hl
  unfold lim at hl1
  intro m
  induction m with
  | zero =>
    intro i b hm hb
    refine v264_3 _ _ _ _ _ (condD (fun hc => by omega) fun _ => ?_)
    rw [List.drop_eq_nil_of_le (by omega)] at hb
    simp only [List.flatMap_nil, List.append_nil] at hb
    subst hb; exact h
  | succ m ih =>
    intro i b hm hb
    have hin : (0 : Int) ≤ (i : Int) ∧ (i : Int) < (l.length : Int) := ⟨by omega, by omega⟩
    have hbl : b.length ≤ P.length := lenL hb
    have hx := hl2 _ (memD l ([], []) i (by omega))
    rw [dropD l ([], []) i (by omega), List.flatMap_cons, ← List.append_assoc] at hb
    refine v264_3 _ _ _ _ _ (condD (fun hc => needJ hin (needJ hin ?_)) fun hc => by omega)
    rw [Int.toNat_natCast]
    generalize hxe : l.getD i ([], []) = x at hb hx ⊢
    have hb2 : (b ++ needB x).length ≤ P.length := lenL hb
    have hb3 : (b ++ text x.1).length ≤ (b ++ needB x).length := by simp [needB]
    have hb4 : (text x.1).length ≤ (b ++ text x.1).length := by simp
    have hb5 : x.1.length ≤ (text x.1).length := by simp [text]
    have n1 := numB_len x.2.length
    refine ASpec.call (rtext_spec x.1 (by unfold big; omega) _) (Les.refl _) ⟨B (text x.1), rfl, rfl, ⟨rfl, rfl⟩, ⟨rfl, rfl⟩, needJ (by rw [B_size, B_size]; omega) ?_⟩
    rw [B_append]
    refine ASpec.call (rnum_spec _ _) (Les.refl _) ⟨B (numB x.2.length), rfl, rfl, needJ (by rw [B_size, B_size]; omega) ?_⟩
    rw [B_append]
    unfold lim at hx
    exact d7 (x := x) (P := b ++ needB x) (by unfold lim; omega) (by omega) hxe (by unfold lim; omega) (by omega) (ih (i + 1) _ (by omega) hb) x.2.length 0 _ (by omega) (by simp [needB])

theorem dneeds_spec (l : List Need) (hl : okN l) (hP : (numB l.length ++ l.flatMap needB).length ≤ 100000) (H : List AObj) :
    ASpec Try.prog 264 [slN l] H (fun r H' => r = .str (B (numB l.length ++ l.flatMap needB)) ∧ H' = H) := by
  have k : ASpec Try.prog 264 [slN l] [] (fun r H' => r = .str (B (numB l.length ++ l.flatMap needB)) ∧ H' = []) :=
    s264 _ _ (ASpec.call (rnum_spec _ _) (Les.refl _) ⟨B (numB l.length), rfl, rfl, d3 hl hP ⟨rfl, rfl⟩ l.length 0 _ (by omega) rfl⟩)
  exact ASpec.pureH H k _ _ rfl rfl

theorem d5 {m : Mani} (hm : okM m) {P : List UInt8} (hP : P.length ≤ 100000) (h : Post (.str (B P)) [.cells (encM m)]) :
    ∀ (k i : Nat) (b : List UInt8), k + i = m.2.length → b ++ (m.2.drop i).flatMap relB = P →
    AWP Try.prog 41 0 c172_5 [(1, .ptr 0 0), (3, .str (B b)), (4, .int .i64 i)] [.cells (encM m)] (q172_2 0 Post) := by
  obtain ⟨hm1, hm2, hm3⟩ := hm
  unfold lim at hm2
  intro k
  induction k with
  | zero =>
    intro i b hk hb
    refine v172_5 _ _ _ _ _ (condD (fun hc => by omega) fun _ => ?_)
    rw [List.drop_eq_nil_of_le (by omega)] at hb
    simp only [List.flatMap_nil, List.append_nil] at hb
    subst hb; exact h
  | succ k ih =>
    intro i b hk hb
    have hin : (0 : Int) ≤ (i : Int) ∧ (i : Int) < (m.2.length : Int) := ⟨by omega, by omega⟩
    have hbl : b.length ≤ P.length := lenL hb
    have hx := hm3 _ (memD m.2 (0, []) i (by omega))
    rw [dropD m.2 (0, []) i (by omega), List.flatMap_cons, ← List.append_assoc] at hb
    refine v172_5 _ _ _ _ _ (condD (fun hc => needJ hin (needJ hin ?_)) fun hc => by omega)
    rw [Int.toNat_natCast]
    generalize m.2.getD i (0, []) = x at hb hx ⊢
    have hb2 : (b ++ relB x).length ≤ P.length := lenL hb
    have hb3 : b.length + (numB x.1).length + (numB x.2.length ++ x.2.flatMap needB).length = (b ++ relB x).length := by simp [relB]; omega
    refine ASpec.call (rnum_spec x.1 _) (Les.refl _) ⟨B (numB x.1), rfl, rfl, ⟨rfl, rfl⟩, ⟨rfl, rfl⟩, needJ (by rw [B_size, B_size]; omega) ?_⟩
    rw [B_append]
    refine ASpec.call (dneeds_spec x.2 hx (by omega) _) (Les.refl _) ⟨_, rfl, rfl, needJ (by rw [B_size, B_size, List.length_append]; omega) ?_⟩
    rw [B_append, succ64 (by omega)]
    refine ih (i + 1) _ (by omega) ?_
    rw [← hb]
    simp [relB]

theorem rput_spec (m : Mani) (hm : okM m) (H : List AObj) : ASpec Try.prog 172 [.agg (encM m)] H (fun r H' => r = .str (B (putMan m)) ∧ H' = H) := by
  have k : ASpec Try.prog 172 [.agg (encM m)] [] (fun r H' => r = .str (B (putMan m)) ∧ H' = []) := by
    have hm' := hm
    obtain ⟨hm1, hm2, hm3⟩ := hm
    unfold lim at hm1 hm2
    have fin : ∀ (b : List UInt8) (H' : List AObj), b = putMan m → ∃ l H2 r2, Sel 0 l H' H2 ∧ Le (.str (B b)) (AV.ren (selR l H'.length) r2) ∧ r2 = .str (B (putMan m)) ∧ H2 = [] := by
      intro b H' e; subst e
      exact ⟨[], [], .str (B (putMan m)), Sel.none, Le.refl _, rfl, rfl⟩
    refine ASpec.sel (s172 _ _ (ASpec.call (rmaniCheck_spec m hm' _) (Les.refl _) ⟨_, rfl, rfl, condBn (fun h => ?_) fun h => ?_⟩))
    · exact fin [] _ (by rw [putMan, if_neg (by rw [h]; simp)])
    have hlen := maniB_len h
    have hb3 : (text m.1).length + (numB m.2.length).length ≤ (maniB m).length := by simp [maniB] <;> omega
    have hb5 : m.1.length ≤ (text m.1).length := by simp [text]
    refine ASpec.call (rtext_spec m.1 (by unfold big; omega) _) (Les.refl _) ⟨B (text m.1), rfl, rfl, ⟨rfl, rfl⟩, ⟨rfl, rfl⟩, ?_⟩
    refine ASpec.call (rnum_spec _ _) (Les.refl _) ⟨B (numB m.2.length), rfl, rfl, needJ (by rw [B_size, B_size]; omega) ?_⟩
    rw [B_append]
    exact d5 hm' (P := maniB m) (by omega) (fin _ _ (by rw [putMan, if_pos h])) m.2.length 0 _ (by omega) (by simp [maniB])
  exact ASpec.pureH H k _ _ rfl rfl

end
end W
end

section
/- Manifests out of bytes: what the code reads. -/

set_option linter.unusedVariables false
set_option linter.unusedSimpArgs false
set_option maxRecDepth 100000
open Go Go.Ab Go.Proofs V S T C
namespace W

/-! ### the model -/

def spanR (bs : List UInt8) (p : Nat) (e : Int) : Span × Nat × Int :=
  (((numM bs p e 1000000000).1, IntKind.wrap .i64 ((numM bs p e 1000000000).1 + (numM bs (numM bs p e 1000000000).2.1 (numM bs p e 1000000000).2.2 1000000000).1)),
    (numM bs (numM bs p e 1000000000).2.1 (numM bs p e 1000000000).2.2 1000000000).2)

def listR {α : Type} (one : Nat → Int → α × Nat × Int) : Nat → Nat → Int → List α × Nat × Int
  | 0, p, e => ([], p, e)
  | k + 1, p, e => if e = 0 then ((one p e).1 :: (listR one k (one p e).2.1 (one p e).2.2).1, (listR one k (one p e).2.1 (one p e).2.2).2) else ([], p, e)

def listM {α : Type} (one : Nat → Int → α × Nat × Int) (bs : List UInt8) (p : Nat) (e most : Int) : List α × Nat × Int :=
  listR one (numM bs p e most).1.toNat (numM bs p e most).2.1 (numM bs p e most).2.2

def needR (bs : List UInt8) (p : Nat) (e : Int) : Need × Nat × Int :=
  (((strM bs p e 24).1, (listM (spanR bs) bs (strM bs p e 24).2.1 (strM bs p e 24).2.2 6).1), (listM (spanR bs) bs (strM bs p e 24).2.1 (strM bs p e 24).2.2 6).2)

def relR (bs : List UInt8) (p : Nat) (e : Int) : Rel × Nat × Int :=
  (((numM bs p e 1000000000).1, (listM (needR bs) bs (numM bs p e 1000000000).2.1 (numM bs p e 1000000000).2.2 6).1), (listM (needR bs) bs (numM bs p e 1000000000).2.1 (numM bs p e 1000000000).2.2 6).2)

def maniR (bs : List UInt8) : Mani × Nat × Int :=
  (((strM bs 0 0 24).1, (listM (relR bs) bs (strM bs 0 0 24).2.1 (strM bs 0 0 24).2.2 8).1), (listM (relR bs) bs (strM bs 0 0 24).2.1 (strM bs 0 0 24).2.2 8).2)

def endM (m : Mani) (c : Int) : Mani × Int := if c ≠ 0 then (([], []), c) else if manOk m = true then (m, 0) else (([], []), 3)

def readM (bs : List UInt8) : Mani × Int :=
  if 8192 < bs.length then (([], []), 4) else endM (maniR bs).1 (closeM (maniR bs).2.2 (bs.length - (maniR bs).2.1))

theorem lookM_most (s : List UInt8) (most : Int) (h : 0 ≤ most) : (lookM s most).1 ≤ most := by
  cases s with
  | nil => simpa [lookM] using h
  | cons c s =>
    simp only [lookM]
    split
    · exact h
    · split
      · exact h
      · split
        · exact h
        · simp only; omega

theorem numM_most (bs : List UInt8) (p : Nat) (e most : Int) (h : 0 ≤ most) : 0 ≤ (numM bs p e most).1 ∧ (numM bs p e most).1 ≤ most := by
  unfold numM
  split
  · exact ⟨Int.le_refl _, h⟩
  · exact ⟨(lookM_le _ _).2.1, lookM_most _ _ h⟩

theorem numM_p {bs : List UInt8} {p : Nat} {e most : Int} (hp : p ≤ bs.length) : (numM bs p e most).2.1 ≤ bs.length := (num_doc bs p e most hp).2
theorem strM_p {bs : List UInt8} {p : Nat} {e most : Int} (hp : p ≤ bs.length) : (strM bs p e most).2.1 ≤ bs.length := (str_doc bs p e most hp).2

theorem strM_len (bs : List UInt8) (p : Nat) (e most : Int) (h : 0 ≤ most) : ((strM bs p e most).1.length : Int) ≤ most := by
  unfold strM
  have := lookM_most (bs.drop p) most h
  have h2 := (lookM_le (bs.drop p) most).2.1
  repeat' split
  all_goals (simp only [List.length_nil, List.length_take]; omega)

/-- one keeps its place in the bytes -/
def Inside {α : Type} (bs : List UInt8) (one : Nat → Int → α × Nat × Int) : Prop := ∀ p e, p ≤ bs.length → (one p e).2.1 ≤ bs.length

theorem listR_p {α : Type} {bs : List UInt8} {one : Nat → Int → α × Nat × Int} (h : Inside bs one) : ∀ (k p : Nat) (e : Int), p ≤ bs.length → (listR one k p e).2.1 ≤ bs.length
  | 0, p, e, hp => hp
  | k + 1, p, e, hp => by
    simp only [listR]
    split
    · exact listR_p h k _ _ (h p e hp)
    · exact hp

theorem listM_p {α : Type} {bs : List UInt8} {one : Nat → Int → α × Nat × Int} (h : Inside bs one) {p : Nat} {e most : Int} (hp : p ≤ bs.length) : (listM one bs p e most).2.1 ≤ bs.length :=
  listR_p h _ _ _ (numM_p hp)

theorem listR_len {α : Type} (one : Nat → Int → α × Nat × Int) : ∀ (k p : Nat) (e : Int), (listR one k p e).1.length ≤ k
  | 0, p, e => by simp [listR]
  | k + 1, p, e => by
    simp only [listR]
    split
    · have := listR_len one k (one p e).2.1 (one p e).2.2
      simp only [List.length_cons]; omega
    · simp

theorem listM_len {α : Type} (one : Nat → Int → α × Nat × Int) (bs : List UInt8) (p : Nat) (e most : Int) (h : 0 ≤ most) : ((listM one bs p e most).1.length : Int) ≤ most := by
  have h1 := numM_most bs p e most h
  have h2 := listR_len one (numM bs p e most).1.toNat (numM bs p e most).2.1 (numM bs p e most).2.2
  unfold listM
  omega

theorem listR_all {α : Type} {one : Nat → Int → α × Nat × Int} {Q : α → Prop} (h : ∀ p e, Q (one p e).1) : ∀ (k p : Nat) (e : Int), ∀ x ∈ (listR one k p e).1, Q x
  | 0, p, e, x, hx => by simp [listR] at hx
  | k + 1, p, e, x, hx => by
    simp only [listR] at hx
    split at hx
    · rcases List.mem_cons.1 hx with rfl | hx
      · exact h p e
      · exact listR_all h k _ _ x hx
    · simp at hx

theorem spanR_p (bs : List UInt8) : Inside bs (spanR bs) := fun p e hp => numM_p (numM_p hp)
theorem needR_p (bs : List UInt8) : Inside bs (needR bs) := fun p e hp => listM_p (spanR_p bs) (strM_p hp)
theorem relR_p (bs : List UInt8) : Inside bs (relR bs) := fun p e hp => listM_p (needR_p bs) (numM_p hp)
theorem maniR_p (bs : List UInt8) : (maniR bs).2.1 ≤ bs.length := listM_p (relR_p bs) (strM_p (Nat.zero_le _))

theorem needR_ok (bs : List UInt8) (p : Nat) (e : Int) : (needR bs p e).1.1.length ≤ 24 ∧ (needR bs p e).1.2.length ≤ 6 := by
  have h1 := strM_len bs p e 24 (by omega)
  have h2 := listM_len (spanR bs) bs (strM bs p e 24).2.1 (strM bs p e 24).2.2 6 (by omega)
  simp only [needR]; omega

theorem relR_ok (bs : List UInt8) (p : Nat) (e : Int) : (relR bs p e).1.2.length ≤ 6 ∧ okN (relR bs p e).1.2 := by
  have h2 := listM_len (needR bs) bs (numM bs p e 1000000000).2.1 (numM bs p e 1000000000).2.2 6 (by omega)
  refine ⟨by simp only [relR]; omega, by simp only [relR]; unfold lim; omega, fun n hn => ?_⟩
  have := listR_all (Q := fun n : Need => n.1.length ≤ 24 ∧ n.2.length ≤ 6) (needR_ok bs) _ _ _ n hn
  unfold lim; omega

theorem maniR_ok (bs : List UInt8) : okM (maniR bs).1 := by
  have h1 := strM_len bs 0 0 24 (by omega)
  have h2 := listM_len (relR bs) bs (strM bs 0 0 24).2.1 (strM bs 0 0 24).2.2 8 (by omega)
  refine ⟨by simp only [maniR]; unfold lim; omega, by simp only [maniR]; unfold lim; omega, fun r hr => ?_⟩
  exact (listR_all (Q := fun r : Rel => r.2.length ≤ 6 ∧ okN r.2) (relR_ok bs) _ _ _ r hr).2

theorem readM_ok (bs : List UInt8) : okM (readM bs).1 := by
  have h0 : okM (([], []) : Mani) := ⟨by simp, by simp, fun r hr => by simp at hr⟩
  unfold readM
  split
  · exact h0
  · unfold endM
    split
    · exact h0
    · split
      · exact maniR_ok bs
      · exact h0

/-! ### the walk -/

section
variable {bs : List UInt8} {p : Nat} {e : Int}

theorem selHR (q : List AObj) : Sel 5 [0, 1, 2, 3, 4] (HR bs p e ++ q) (HR bs p e) := by
  refine ⟨by decide, rfl, by decide, fun i hi => ?_, fun i hi => .inl ?_⟩
  · match i, hi with
    | 0, _ | 1, _ | 2, _ | 3, _ | 4, _ => rfl
  · match i, hi with
    | 0, _ | 1, _ | 2, _ | 3, _ | 4, _ => rfl

theorem selTokR : Sel 5 [0, 1, 2, 3, 4, 6] (HR bs p e ++ [.gone, .tok]) (HR bs p e ++ [.tok]) := by
  refine ⟨by decide, rfl, by decide, fun i hi => ?_, fun i hi => .inl ?_⟩
  · match i, hi with
    | 0, _ | 1, _ | 2, _ | 3, _ | 4, _ => rfl
  · match i, hi with
    | 0, _ | 1, _ | 2, _ | 3, _ | 4, _ | 5, _ => rfl

theorem subHR {f : FuncId} {args : List AV} {r0 : AV} {p' : Nat} {e' : Int} (q : List AObj) (k : ASpec Try.prog f args (HR bs p e) (fun r H' => r = r0 ∧ H' = HR bs p' e'))
    (ha : args.map (AV.ren (callR [0, 1, 2, 3, 4] (HR bs p e ++ q).length)) = args) (hr : AV.ren (callR [0, 1, 2, 3, 4] (HR bs p e ++ q).length) r0 = r0) :
    ASpec Try.prog f args (HR bs p e ++ q) (fun r H' => r = r0 ∧ H' = HR bs p' e' ++ q) := by
  refine ASpec.subH [0, 1, 2, 3, 4] _ _ k args r0 (by decide) rfl ha hr (fun i hi => ?_) ?_
  · match i, hi with
    | 0, _ | 1, _ | 2, _ | 3, _ | 4, _ => rfl
  · show HR bs p' e' ++ q ++ [] = _
    rw [List.append_nil]

theorem leAppT {α : Type} {en : α → List AV} {d : α} (hr : ∀ ρ x, renL ρ (en x) = en x) {acc : List α} {x : α} {sz k j : Nat} {ρ : Nat → Nat} {ex : List AV} (hx : ex = en x) (hk : ρ j = k) :
    Le (.sl sz (.app (.map en d acc) (.raw [ex])) (.tok k)) (AV.ren ρ (.sl sz (.map en d (acc ++ [x])) (.tok j))) := by
  subst hk; subst hx
  refine Le.sl (s' := Seq.ren ρ (.map en d (acc ++ [x]))) ?_ (.inl rfl) (.inl rfl)
  simp [Ab.Seq.toList, Seq.ren, hr]

theorem leNone {α : Type} {en : α → List AV} {d : α} (hr : ∀ ρ x, renL ρ (en x) = en x) {acc : List α} {sz : Nat} {tip : Tip} {ρ : Nat → Nat} :
    Le (.sl sz (.map en d acc) tip) (AV.ren ρ (.sl sz (.map en d acc) .none)) :=
  Le.sl (s' := Seq.ren ρ (.map en d acc)) (by simp [Ab.Seq.toList, Seq.ren, hr]) (.inl rfl) (.inr rfl)

theorem renS (ρ : Nat → Nat) (x : Span) : renL ρ (encS x) = encS x := rfl
theorem renN (ρ : Nat → Nat) (x : Need) : renL ρ (encN x) = encN x := rfl
theorem renR (ρ : Nat → Nat) (x : Rel) : renL ρ (T.encR x) = T.encR x := rfl

theorem name98 (hb : bs.length ≤ big) (hp : p ≤ bs.length) : ASpec Try.prog 270 [.ptr 1 0] (HR bs p e) (fun r H' => r = .str (B (strM bs p e 24).1) ∧ H' = HR bs (strM bs p e 24).2.1 (strM bs p e 24).2.2) :=
  s270 _ _ _ _ (ASpec.call (str_spec (H := HR bs p e) (id := 0) (bs := bs) (p := p) (e := e) 24 hb hp rfl) (Les.refl _) ⟨(B (strM bs p e 24).1, ((strM bs p e 24).2.1 : Nat), (strM bs p e 24).2.2), rfl, rfl, rfl, rfl⟩)

theorem span99 (hb : bs.length ≤ big) (hp : p ≤ bs.length) : ASpec Try.prog 271 [.ptr 1 0] (HR bs p e) (fun r H' => r = .agg (encS (spanR bs p e).1) ∧ H' = HR bs (spanR bs p e).2.1 (spanR bs p e).2.2) := by
  have h1 := numM_p (e := e) (most := 1000000000) hp
  refine ASpec.sel (s271 _ _ _ _ (ASpec.call (num_spec (H := HR bs p e ++ [.cells [.int .i64 0, .int .i64 0]]) (id := 0) (bs := bs) (p := p) (e := e) 1000000000 hb hp rfl) (Les.refl _) ⟨((numM bs p e 1000000000).1, ((numM bs p e 1000000000).2.1 : Nat), (numM bs p e 1000000000).2.2), rfl, rfl, ?_⟩))
  refine ASpec.call (num_spec (H := HR bs (numM bs p e 1000000000).2.1 (numM bs p e 1000000000).2.2 ++ [.cells [.int .i64 0, .int .i64 0]]) (id := 0) (bs := bs) (p := (numM bs p e 1000000000).2.1) (e := (numM bs p e 1000000000).2.2) 1000000000 hb h1 rfl) (Les.refl _)
    ⟨((numM bs (numM bs p e 1000000000).2.1 (numM bs p e 1000000000).2.2 1000000000).1, ((numM bs (numM bs p e 1000000000).2.1 (numM bs p e 1000000000).2.2 1000000000).2.1 : Nat), (numM bs (numM bs p e 1000000000).2.1 (numM bs p e 1000000000).2.2 1000000000).2.2), rfl, rfl, ?_⟩
  exact ⟨[0, 1, 2, 3, 4], HR bs (spanR bs p e).2.1 (spanR bs p e).2.2, .agg (encS (spanR bs p e).1), selHR _, Le.refl _, rfl, rfl⟩

theorem loop101 {Post : AV → List AObj → Prop} (hb : bs.length ≤ big) : ∀ (k p : Nat) (e : Int) (acc : List Span), p ≤ bs.length → acc.length + k ≤ 100 →
    Post (.sl 2 (.map encS (0, 0) (acc ++ (listR (spanR bs) k p e).1)) (.tok 5)) (HR bs (listR (spanR bs) k p e).2.1 (listR (spanR bs) k p e).2.2 ++ [.tok]) →
    AWP Try.prog 27 5 c273_3 [(0, .ptr 0 0), (2, .fn 271 [.ptr 1 0]), (7, .sl 2 (.map encS (0, 0) acc) (.tok 5)), (8, .int .i64 k)] (HR bs p e ++ [.tok]) (q273_2 5 Post) := by
  intro k
  induction k with
  | zero =>
    intro p e acc hp ha h
    refine v273_3 _ _ _ _ _ _ _ (condD (fun hc => by omega) fun _ => ?_)
    simp only [listR, List.append_nil] at h
    exact h
  | succ k ih =>
    intro p e acc hp ha h
    simp only [listR] at h
    refine v273_3 _ _ _ _ _ _ _ (condD (fun _ => ?_) fun hc => by omega)
    refine ASpec.call (err_spec (H := HR bs p e ++ [.tok]) (id := 0) (bs := bs) (p := p) (e := e) rfl) (Les.refl _) ⟨e, rfl, rfl, condE (fun he => ?_) fun he => ?_⟩
    · rw [if_pos he] at h
      refine ASpec.call (subHR [.tok] (span99 (e := e) hb hp) rfl rfl) (Les.refl _) ⟨((spanR bs p e).1, ((spanR bs p e).2.1 : Nat), (spanR bs p e).2.2), rfl, rfl, needJ (by omega) ?_⟩
      rw [show IntKind.wrap .i64 (((k + 1 : Nat) : Int) - 1) = (k : Int) by rw [wrap64 (by omega) (by omega)]; omega]
      refine AWP.shape [0, 1, 2, 3, 4, 6] [(0, .ptr 0 0), (2, .fn 271 [.ptr 1 0]), (7, .sl 2 (.map encS (0, 0) (acc ++ [(spanR bs p e).1])) (.tok 5)), (8, .int .i64 k)] _ selTokR
        ⟨rfl, Le.refl _, rfl, Le.refl _, rfl, leAppT renS rfl rfl, rfl, Le.refl _, trivial⟩ (ih _ _ _ (spanR_p bs p e hp) (by simp; omega) ?_)
      simpa using h
    · rw [if_neg he] at h
      simp only [List.append_nil] at h
      exact h

theorem list101 {most : Int} (hm : 0 ≤ most ∧ most ≤ 100) (hb : bs.length ≤ big) (hp : p ≤ bs.length) : ASpec Try.prog 273 [.ptr 0 0, .int .i64 most, .fn 271 [.ptr 1 0]] (HR bs p e)
    (fun r H' => r = slS (listM (spanR bs) bs p e most).1 ∧ H' = HR bs (listM (spanR bs) bs p e most).2.1 (listM (spanR bs) bs p e most).2.2) := by
  have hn := numM_most bs p e most hm.1
  refine ASpec.sel (s273 _ _ _ _ _ (ASpec.call (num_spec (H := HR bs p e) (id := 0) (bs := bs) (p := p) (e := e) most hb hp rfl) (Les.refl _) ⟨((numM bs p e most).1, ((numM bs p e most).2.1 : Nat), (numM bs p e most).2.2), rfl, rfl, ?_⟩))
  refine AWP.re (ReSt.tok (H := HR bs (numM bs p e most).2.1 (numM bs p e most).2.2) (k := 7) (q' := .map encS (0, 0) []) (sz' := 2) (s2 := [(0, .ptr 0 0), (2, .fn 271 [.ptr 1 0]), (7, .sl 2 (.map encS (0, 0) []) (.tok 5)), (8, .int .i64 (numM bs p e most).1)]) rfl (.inl rfl) rfl (.inr rfl) (fun d hd => ?_) rfl) ?_
  · simp only [Ab.get]
    have e : Nat.beq 7 d = false := by
      cases hx : Nat.beq 7 d with
      | false => rfl
      | true => exact absurd (Nat.eq_of_beq_eq_true hx).symm hd
    rw [e]; rfl
  · obtain ⟨k, hk⟩ := Int.eq_ofNat_of_zero_le hn.1
    rw [hk]
    refine loop101 hb k _ _ [] (numM_p hp) (by simp; omega) ?_
    have hL : listR (spanR bs) k (numM bs p e most).2.1 (numM bs p e most).2.2 = listM (spanR bs) bs p e most := by rw [listM, hk]; rfl
    rw [hL, List.nil_append]
    exact ⟨[0, 1, 2, 3, 4], _, slS (listM (spanR bs) bs p e most).1, selHR _, leNone renS, rfl, rfl⟩

theorem need100 (hb : bs.length ≤ big) (hp : p ≤ bs.length) : ASpec Try.prog 272 [.ptr 2 0, .ptr 1 0, .ptr 3 0] (HR bs p e) (fun r H' => r = .agg (encN (needR bs p e).1) ∧ H' = HR bs (needR bs p e).2.1 (needR bs p e).2.2) := by
  have h1 := strM_p (e := e) (most := 24) hp
  refine ASpec.sel (s272 _ _ _ _ (ASpec.call (subHR [.cells [.str ⟨#[]⟩, .sl 0 (.raw []) .nil]] (name98 (e := e) hb hp) rfl rfl) (Les.refl _) ⟨(B (strM bs p e 24).1, ((strM bs p e 24).2.1 : Nat), (strM bs p e 24).2.2), rfl, rfl, ?_⟩))
  refine ASpec.call (subHR [.cells [.str ⟨#[]⟩, .sl 0 (.raw []) .nil], .cells [.str (B (strM bs p e 24).1), .sl 0 (.raw []) .nil]] (list101 (e := (strM bs p e 24).2.2) (most := 6) (by omega) hb h1) rfl rfl) (Les.refl _)
    ⟨((listM (spanR bs) bs (strM bs p e 24).2.1 (strM bs p e 24).2.2 6).1, ((listM (spanR bs) bs (strM bs p e 24).2.1 (strM bs p e 24).2.2 6).2.1 : Nat), (listM (spanR bs) bs (strM bs p e 24).2.1 (strM bs p e 24).2.2 6).2.2), rfl, rfl, ?_⟩
  exact ⟨[0, 1, 2, 3, 4], HR bs (needR bs p e).2.1 (needR bs p e).2.2, .agg (encN (needR bs p e).1), selHR _, Le.refl _, rfl, rfl⟩

theorem loop104 {Post : AV → List AObj → Prop} (hb : bs.length ≤ big) : ∀ (k p : Nat) (e : Int) (acc : List Need), p ≤ bs.length → acc.length + k ≤ 100 →
    Post (.sl 2 (.map encN ([], []) (acc ++ (listR (needR bs) k p e).1)) (.tok 5)) (HR bs (listR (needR bs) k p e).2.1 (listR (needR bs) k p e).2.2 ++ [.tok]) →
    AWP Try.prog 27 5 c276_3 [(0, .ptr 0 0), (2, .fn 272 [.ptr 2 0, .ptr 1 0, .ptr 3 0]), (7, .sl 2 (.map encN ([], []) acc) (.tok 5)), (8, .int .i64 k)] (HR bs p e ++ [.tok]) (q276_2 5 Post) := by
  intro k
  induction k with
  | zero =>
    intro p e acc hp ha h
    refine v276_3 _ _ _ _ _ _ _ (condD (fun hc => by omega) fun _ => ?_)
    simp only [listR, List.append_nil] at h
    exact h
  | succ k ih =>
    intro p e acc hp ha h
    simp only [listR] at h
    refine v276_3 _ _ _ _ _ _ _ (condD (fun _ => ?_) fun hc => by omega)
    refine ASpec.call (err_spec (H := HR bs p e ++ [.tok]) (id := 0) (bs := bs) (p := p) (e := e) rfl) (Les.refl _) ⟨e, rfl, rfl, condE (fun he => ?_) fun he => ?_⟩
    · rw [if_pos he] at h
      refine ASpec.call (subHR [.tok] (need100 (e := e) hb hp) rfl rfl) (Les.refl _) ⟨((needR bs p e).1, ((needR bs p e).2.1 : Nat), (needR bs p e).2.2), rfl, rfl, needJ (by omega) ?_⟩
      rw [show IntKind.wrap .i64 (((k + 1 : Nat) : Int) - 1) = (k : Int) by rw [wrap64 (by omega) (by omega)]; omega]
      refine AWP.shape [0, 1, 2, 3, 4, 6] [(0, .ptr 0 0), (2, .fn 272 [.ptr 2 0, .ptr 1 0, .ptr 3 0]), (7, .sl 2 (.map encN ([], []) (acc ++ [(needR bs p e).1])) (.tok 5)), (8, .int .i64 k)] _ selTokR
        ⟨rfl, Le.refl _, rfl, Le.refl _, rfl, leAppT renN rfl rfl, rfl, Le.refl _, trivial⟩ (ih _ _ _ (needR_p bs p e hp) (by simp; omega) ?_)
      simpa using h
    · rw [if_neg he] at h
      simp only [List.append_nil] at h
      exact h

theorem list104 {most : Int} (hm : 0 ≤ most ∧ most ≤ 100) (hb : bs.length ≤ big) (hp : p ≤ bs.length) : ASpec Try.prog 276 [.ptr 0 0, .int .i64 most, .fn 272 [.ptr 2 0, .ptr 1 0, .ptr 3 0]] (HR bs p e)
    (fun r H' => r = slN (listM (needR bs) bs p e most).1 ∧ H' = HR bs (listM (needR bs) bs p e most).2.1 (listM (needR bs) bs p e most).2.2) := by
  have hn := numM_most bs p e most hm.1
  refine ASpec.sel (s276 _ _ _ _ _ (ASpec.call (num_spec (H := HR bs p e) (id := 0) (bs := bs) (p := p) (e := e) most hb hp rfl) (Les.refl _) ⟨((numM bs p e most).1, ((numM bs p e most).2.1 : Nat), (numM bs p e most).2.2), rfl, rfl, ?_⟩))
  refine AWP.re (ReSt.tok (H := HR bs (numM bs p e most).2.1 (numM bs p e most).2.2) (k := 7) (q' := .map encN ([], []) []) (sz' := 2) (s2 := [(0, .ptr 0 0), (2, .fn 272 [.ptr 2 0, .ptr 1 0, .ptr 3 0]), (7, .sl 2 (.map encN ([], []) []) (.tok 5)), (8, .int .i64 (numM bs p e most).1)]) rfl (.inl rfl) rfl (.inr rfl) (fun d hd => ?_) rfl) ?_
  · simp only [Ab.get]
    have e : Nat.beq 7 d = false := by
      cases hx : Nat.beq 7 d with
      | false => rfl
      | true => exact absurd (Nat.eq_of_beq_eq_true hx).symm hd
    rw [e]; rfl
  · obtain ⟨k, hk⟩ := Int.eq_ofNat_of_zero_le hn.1
    rw [hk]
    refine loop104 hb k _ _ [] (numM_p hp) (by simp; omega) ?_
    have hL : listR (needR bs) k (numM bs p e most).2.1 (numM bs p e most).2.2 = listM (needR bs) bs p e most := by rw [listM, hk]; rfl
    rw [hL, List.nil_append]
    exact ⟨[0, 1, 2, 3, 4], _, slN (listM (needR bs) bs p e most).1, selHR _, leNone renN, rfl, rfl⟩

theorem rel103 (hb : bs.length ≤ big) (hp : p ≤ bs.length) : ASpec Try.prog 275 [.ptr 1 0, .ptr 4 0] (HR bs p e) (fun r H' => r = .agg (T.encR (relR bs p e).1) ∧ H' = HR bs (relR bs p e).2.1 (relR bs p e).2.2) := by
  have h1 := numM_p (e := e) (most := 1000000000) hp
  refine ASpec.sel (s275 _ _ _ _ (ASpec.call (num_spec (H := HR bs p e ++ [.cells [.int .i64 0, .sl 0 (.raw []) .nil]]) (id := 0) (bs := bs) (p := p) (e := e) 1000000000 hb hp rfl) (Les.refl _) ⟨((numM bs p e 1000000000).1, ((numM bs p e 1000000000).2.1 : Nat), (numM bs p e 1000000000).2.2), rfl, rfl, ?_⟩))
  refine ASpec.call (subHR [.cells [.int .i64 0, .sl 0 (.raw []) .nil], .cells [.int .i64 (numM bs p e 1000000000).1, .sl 0 (.raw []) .nil]] (list104 (e := (numM bs p e 1000000000).2.2) (most := 6) (by omega) hb h1) rfl rfl) (Les.refl _)
    ⟨((listM (needR bs) bs (numM bs p e 1000000000).2.1 (numM bs p e 1000000000).2.2 6).1, ((listM (needR bs) bs (numM bs p e 1000000000).2.1 (numM bs p e 1000000000).2.2 6).2.1 : Nat), (listM (needR bs) bs (numM bs p e 1000000000).2.1 (numM bs p e 1000000000).2.2 6).2.2), rfl, rfl, ?_⟩
  exact ⟨[0, 1, 2, 3, 4], HR bs (relR bs p e).2.1 (relR bs p e).2.2, .agg (T.encR (relR bs p e).1), selHR _, Le.refl _, rfl, rfl⟩

theorem loop102 {Post : AV → List AObj → Prop} (hb : bs.length ≤ big) : ∀ (k p : Nat) (e : Int) (acc : List Rel), p ≤ bs.length → acc.length + k ≤ 100 →
    Post (.sl 2 (.map T.encR (0, []) (acc ++ (listR (relR bs) k p e).1)) (.tok 5)) (HR bs (listR (relR bs) k p e).2.1 (listR (relR bs) k p e).2.2 ++ [.tok]) →
    AWP Try.prog 27 5 c274_3 [(0, .ptr 0 0), (2, .fn 275 [.ptr 1 0, .ptr 4 0]), (7, .sl 2 (.map T.encR (0, []) acc) (.tok 5)), (8, .int .i64 k)] (HR bs p e ++ [.tok]) (q274_2 5 Post) := by
  intro k
  induction k with
  | zero =>
    intro p e acc hp ha h
    refine v274_3 _ _ _ _ _ _ _ (condD (fun hc => by omega) fun _ => ?_)
    simp only [listR, List.append_nil] at h
    exact h
  | succ k ih =>
    intro p e acc hp ha h
    simp only [listR] at h
    refine v274_3 _ _ _ _ _ _ _ (condD (fun _ => ?_) fun hc => by omega)
    refine ASpec.call (err_spec (H := HR bs p e ++ [.tok]) (id := 0) (bs := bs) (p := p) (e := e) rfl) (Les.refl _) ⟨e, rfl, rfl, condE (fun he => ?_) fun he => ?_⟩
    · rw [if_pos he] at h
      refine ASpec.call (subHR [.tok] (rel103 (e := e) hb hp) rfl rfl) (Les.refl _) ⟨((relR bs p e).1, ((relR bs p e).2.1 : Nat), (relR bs p e).2.2), rfl, rfl, needJ (by omega) ?_⟩
      rw [show IntKind.wrap .i64 (((k + 1 : Nat) : Int) - 1) = (k : Int) by rw [wrap64 (by omega) (by omega)]; omega]
      refine AWP.shape [0, 1, 2, 3, 4, 6] [(0, .ptr 0 0), (2, .fn 275 [.ptr 1 0, .ptr 4 0]), (7, .sl 2 (.map T.encR (0, []) (acc ++ [(relR bs p e).1])) (.tok 5)), (8, .int .i64 k)] _ selTokR
        ⟨rfl, Le.refl _, rfl, Le.refl _, rfl, leAppT renR rfl rfl, rfl, Le.refl _, trivial⟩ (ih _ _ _ (relR_p bs p e hp) (by simp; omega) ?_)
      simpa using h
    · rw [if_neg he] at h
      simp only [List.append_nil] at h
      exact h

theorem list102 {most : Int} (hm : 0 ≤ most ∧ most ≤ 100) (hb : bs.length ≤ big) (hp : p ≤ bs.length) : ASpec Try.prog 274 [.ptr 0 0, .int .i64 most, .fn 275 [.ptr 1 0, .ptr 4 0]] (HR bs p e)
    (fun r H' => r = slR (listM (relR bs) bs p e most).1 ∧ H' = HR bs (listM (relR bs) bs p e most).2.1 (listM (relR bs) bs p e most).2.2) := by
  have hn := numM_most bs p e most hm.1
  refine ASpec.sel (s274 _ _ _ _ _ (ASpec.call (num_spec (H := HR bs p e) (id := 0) (bs := bs) (p := p) (e := e) most hb hp rfl) (Les.refl _) ⟨((numM bs p e most).1, ((numM bs p e most).2.1 : Nat), (numM bs p e most).2.2), rfl, rfl, ?_⟩))
  refine AWP.re (ReSt.tok (H := HR bs (numM bs p e most).2.1 (numM bs p e most).2.2) (k := 7) (q' := .map T.encR (0, []) []) (sz' := 2) (s2 := [(0, .ptr 0 0), (2, .fn 275 [.ptr 1 0, .ptr 4 0]), (7, .sl 2 (.map T.encR (0, []) []) (.tok 5)), (8, .int .i64 (numM bs p e most).1)]) rfl (.inl rfl) rfl (.inr rfl) (fun d hd => ?_) rfl) ?_
  · simp only [Ab.get]
    have e : Nat.beq 7 d = false := by
      cases hx : Nat.beq 7 d with
      | false => rfl
      | true => exact absurd (Nat.eq_of_beq_eq_true hx).symm hd
    rw [e]; rfl
  · obtain ⟨k, hk⟩ := Int.eq_ofNat_of_zero_le hn.1
    rw [hk]
    refine loop102 hb k _ _ [] (numM_p hp) (by simp; omega) ?_
    have hL : listR (relR bs) k (numM bs p e most).2.1 (numM bs p e most).2.2 = listM (relR bs) bs p e most := by rw [listM, hk]; rfl
    rw [hL, List.nil_append]
    exact ⟨[0, 1, 2, 3, 4], _, slR (listM (relR bs) bs p e most).1, selHR _, leNone renR, rfl, rfl⟩

end

abbrev zM : AObj := .cells [.str ⟨#[]⟩, .sl 0 (.raw []) .nil]

theorem read_spec (bs : List UInt8) (hb : bs.length ≤ 1000000) (H : List AObj) : ASpec Try.prog 181 [sl1 bs] H (fun r H' => r = .tup [.agg (encM (readM bs).1), .int .i64 (readM bs).2] ∧ H' = H) := by
  have k : ASpec Try.prog 181 [sl1 bs] [] (fun r H' => r = .tup [.agg (encM (readM bs).1), .int .i64 (readM bs).2] ∧ H' = []) := by
    have hb' : bs.length ≤ big := by unfold big; omega
    have none_ : ∀ (c : Int) (H' : List AObj), readM bs = (([], []), c) → ∃ l H2 r2, Sel 0 l H' H2 ∧ Le (.tup [.agg [.str ⟨#[]⟩, .sl 0 (.raw []) .nil], .int .i64 c]) (AV.ren (selR l H'.length) r2) ∧
        r2 = .tup [.agg (encM (readM bs).1), .int .i64 (readM bs).2] ∧ H2 = [] := by
      intro c H' e
      rw [e]
      exact ⟨[], [], .tup [.agg (encM ([], [])), .int .i64 c], Sel.none,
        Le.tup ⟨Le.agg ⟨Le.refl _, Le.sl (s' := Seq.ren _ (.map T.encR (0, []) [])) rfl (.inr ⟨rfl, fun _ h => by cases h⟩) (.inr rfl), trivial⟩, Le.refl _, trivial⟩, rfl, rfl⟩
    refine ASpec.sel (s181 _ _ (condD (fun h => none_ 4 _ ?_) fun h => ?_))
    · rw [readM, if_pos (by omega)]
    have hR : readM bs = endM (maniR bs).1 (closeM (maniR bs).2.2 (bs.length - (maniR bs).2.1)) := by rw [readM, if_neg (by omega)]
    refine ASpec.call (V.open_spec bs hb' [zM]) (Les.refl _) ⟨bs, rfl, rfl, ?_⟩
    have c1 : ASpec Try.prog 270 [.ptr 2 0] [zM, rd bs 0 0, .cells [.ptr 1 0], .cells [.fn 270 [.ptr 2 0]], .cells [.fn 271 [.ptr 2 0]], .cells [.fn 272 [.ptr 3 0, .ptr 2 0, .ptr 4 0]]]
        (fun r H' => r = .str (B (strM bs 0 0 24).1) ∧ H' = [zM, rd bs (strM bs 0 0 24).2.1 (strM bs 0 0 24).2.2, .cells [.ptr 1 0], .cells [.fn 270 [.ptr 2 0]], .cells [.fn 271 [.ptr 2 0]], .cells [.fn 272 [.ptr 3 0, .ptr 2 0, .ptr 4 0]]]) := by
      refine ASpec.subH [1, 2, 3, 4, 5] _ _ (name98 (bs := bs) (p := 0) (e := 0) hb' (by omega)) _ _ (by decide) rfl rfl rfl (fun i hi => ?_) rfl
      match i, hi with
      | 0, _ | 1, _ | 2, _ | 3, _ | 4, _ => rfl
    refine ASpec.call c1 (Les.refl _) ⟨(B (strM bs 0 0 24).1, ((strM bs 0 0 24).2.1 : Nat), (strM bs 0 0 24).2.2), rfl, rfl, ?_⟩
    have hp1 : (strM bs 0 0 24).2.1 ≤ bs.length := strM_p (by omega)
    have c2 : ASpec Try.prog 274 [.ptr 1 0, .int .i64 8, .fn 275 [.ptr 2 0, .ptr 5 0]] [zM, rd bs (strM bs 0 0 24).2.1 (strM bs 0 0 24).2.2, .cells [.ptr 1 0], .cells [.fn 270 [.ptr 2 0]], .cells [.fn 271 [.ptr 2 0]], .cells [.fn 272 [.ptr 3 0, .ptr 2 0, .ptr 4 0]], .cells [.str (B (strM bs 0 0 24).1), .sl 0 (.raw []) .nil]]
        (fun r H' => r = slR (maniR bs).1.2 ∧ H' = [zM, rd bs (maniR bs).2.1 (maniR bs).2.2, .cells [.ptr 1 0], .cells [.fn 270 [.ptr 2 0]], .cells [.fn 271 [.ptr 2 0]], .cells [.fn 272 [.ptr 3 0, .ptr 2 0, .ptr 4 0]], .cells [.str (B (strM bs 0 0 24).1), .sl 0 (.raw []) .nil]]) := by
      refine ASpec.subH [1, 2, 3, 4, 5] _ _ (list102 (bs := bs) (p := (strM bs 0 0 24).2.1) (e := (strM bs 0 0 24).2.2) (most := 8) (by omega) hb' hp1) _ _ (by decide) rfl rfl rfl (fun i hi => ?_) rfl
      match i, hi with
      | 0, _ | 1, _ | 2, _ | 3, _ | 4, _ => rfl
    refine ASpec.call c2 (Les.refl _) ⟨((maniR bs).1.2, ((maniR bs).2.1 : Nat), (maniR bs).2.2), rfl, rfl, ?_⟩
    refine ASpec.call (close_spec (id := 1) (bs := bs) (p := (maniR bs).2.1) (e := (maniR bs).2.2) hb' (maniR_p bs) rfl) (Les.refl _) ⟨_, rfl, rfl, ?_⟩
    generalize hc : closeM (maniR bs).2.2 (bs.length - (maniR bs).2.1) = c at hR
    refine condE (fun h0 => ?_) fun h0 => condNe (fun _ => none_ _ _ (by rw [hR, endM, if_pos h0])) fun h1 => (h0 h1).elim
    refine ASpec.call (maniCheck_spec (maniR bs).1 (maniR_ok bs) _) (Les.refl _) ⟨_, rfl, rfl, condBn (fun hm => none_ _ _ ?_) fun hm => condNe (fun h1 => (h1 h0).elim) fun _ => ?_⟩
    · rw [hR, endM, if_neg (by simpa using h0), if_neg (by rw [hm]; simp)]
    · rw [hR, endM, if_neg (by simpa using h0), if_pos hm]
      exact ⟨[], [], .tup [.agg (encM (maniR bs).1), .int .i64 0], Sel.none, Le.refl _, rfl, rfl⟩
  exact ASpec.pureH H k _ _ rfl rfl

end W
end

section
/- WirePuts: the bytes of any manifest, and the manifest of any bytes, or what is wrong first, are the document's: the law's function returns true. -/

set_option linter.unusedVariables false
set_option linter.unusedSimpArgs false
set_option maxRecDepth 100000
open Go Go.Ab Go.Proofs V S T C
namespace W

/-! ### the document's model -/

def dSpan (l : List UInt8) (e : Int) : Span × List UInt8 × Int :=
  (((dnumM l e 1000000000).1, IntKind.wrap .i64 ((dnumM l e 1000000000).1 + (dnumM (dnumM l e 1000000000).2.1 (dnumM l e 1000000000).2.2 1000000000).1)),
    (dnumM (dnumM l e 1000000000).2.1 (dnumM l e 1000000000).2.2 1000000000).2)

def dF {α : Type} (one : List UInt8 → Int → α × List UInt8 × Int) : Nat → List UInt8 → Int → List α × List UInt8 × Int
  | 0, l, e => ([], l, e)
  | k + 1, l, e => ((one l e).1 :: (dF one k (one l e).2.1 (one l e).2.2).1, (dF one k (one l e).2.1 (one l e).2.2).2)

def dL {α : Type} (one : List UInt8 → Int → α × List UInt8 × Int) (l : List UInt8) (e most : Int) : List α × List UInt8 × Int :=
  dF one (dnumM l e most).1.toNat (dnumM l e most).2.1 (dnumM l e most).2.2

def dNeed (l : List UInt8) (e : Int) : Need × List UInt8 × Int :=
  (((dstrM l e 24).1, (dL dSpan (dstrM l e 24).2.1 (dstrM l e 24).2.2 6).1), (dL dSpan (dstrM l e 24).2.1 (dstrM l e 24).2.2 6).2)
def dRel (l : List UInt8) (e : Int) : Rel × List UInt8 × Int :=
  (((dnumM l e 1000000000).1, (dL dNeed (dnumM l e 1000000000).2.1 (dnumM l e 1000000000).2.2 6).1), (dL dNeed (dnumM l e 1000000000).2.1 (dnumM l e 1000000000).2.2 6).2)
def dMani (l : List UInt8) : Mani × List UInt8 × Int :=
  (((dstrM l 0 24).1, (dL dRel (dstrM l 0 24).2.1 (dstrM l 0 24).2.2 8).1), (dL dRel (dstrM l 0 24).2.1 (dstrM l 0 24).2.2 8).2)
def dRead (l : List UInt8) : Mani × Int := if 8192 < l.length then (([], []), 4) else endM (dMani l).1 (closeM (dMani l).2.2 (dMani l).2.1.length)

/-! ### it is the code's -/

def Alike {α : Type} (bs : List UInt8) (R : α × Nat × Int) (D : α × List UInt8 × Int) : Prop := D.2.1 = bs.drop R.2.1 ∧ D.2.2 = R.2.2 ∧ (R.2.2 = 0 → D.1 = R.1)

/-- behind an error nothing is taken -/
def Sticks {α : Type} (one : List UInt8 → Int → α × List UInt8 × Int) : Prop := ∀ l e, e ≠ 0 → (one l e).2 = (l, e)

theorem dnumM_err {l : List UInt8} {e most : Int} (h : e ≠ 0) : dnumM l e most = (0, l, e) := by simp only [dnumM, if_pos h]
theorem dstrM_err {l : List UInt8} {e most : Int} (h : e ≠ 0) : dstrM l e most = ([], l, e) := by simp only [dstrM, if_pos h]

theorem dF_err {α : Type} {one : List UInt8 → Int → α × List UInt8 × Int} (hs : Sticks one) {e : Int} (h : e ≠ 0) : ∀ (k : Nat) (l : List UInt8), (dF one k l e).2 = (l, e)
  | 0, l => rfl
  | k + 1, l => by
    have := hs l e h
    simp only [dF, this]
    exact dF_err hs h k l

theorem dL_err {α : Type} {one : List UInt8 → Int → α × List UInt8 × Int} (hs : Sticks one) {l : List UInt8} {e most : Int} (h : e ≠ 0) : (dL one l e most).2 = (l, e) := by
  unfold dL
  rw [dnumM_err h]
  exact dF_err hs h _ _

theorem dSpan_sticks : Sticks dSpan := fun l e h => by simp only [dSpan, dnumM_err h]
theorem dNeed_sticks : Sticks dNeed := fun l e h => by simp only [dNeed, dstrM_err h, dL_err dSpan_sticks h]
theorem dRel_sticks : Sticks dRel := fun l e h => by simp only [dRel, dnumM_err h, dL_err dNeed_sticks h]

theorem listR_err {α : Type} {one : Nat → Int → α × Nat × Int} {e : Int} (h : e ≠ 0) (k p : Nat) : listR one k p e = ([], p, e) := by
  cases k with
  | zero => rfl
  | succ k => simp only [listR, if_neg h]

theorem alikeF {α : Type} {bs : List UInt8} {one : Nat → Int → α × Nat × Int} {done : List UInt8 → Int → α × List UInt8 × Int} (h1 : ∀ p e, p ≤ bs.length → Alike bs (one p e) (done (bs.drop p) e)) (hin : Inside bs one) (hs : Sticks done) :
    ∀ (k p : Nat) (e : Int), p ≤ bs.length → Alike bs (listR one k p e) (dF done k (bs.drop p) e)
  | 0, p, e, hp => ⟨rfl, rfl, fun _ => rfl⟩
  | k + 1, p, e, hp => by
    by_cases he : e = 0
    · obtain ⟨a1, a2, a3⟩ := h1 p e hp
      obtain ⟨b1, b2, b3⟩ := alikeF h1 hin hs k (one p e).2.1 (one p e).2.2 (hin p e hp)
      simp only [listR, if_pos he, dF, a1, a2]
      refine ⟨b1, b2, fun h0 => ?_⟩
      have hz : (one p e).2.2 = 0 := by
        by_cases hz : (one p e).2.2 = 0
        · exact hz
        · simp only [listR_err hz] at h0
          exact h0
      show _ :: _ = _ :: _
      rw [a3 hz, b3 h0]
    · rw [listR_err he]
      have := dF_err hs he (k + 1) (bs.drop p)
      exact ⟨by rw [this], by rw [this], fun h => (he h).elim⟩

theorem alikeL {α : Type} {bs : List UInt8} {one : Nat → Int → α × Nat × Int} {done : List UInt8 → Int → α × List UInt8 × Int} (h1 : ∀ p e, p ≤ bs.length → Alike bs (one p e) (done (bs.drop p) e)) (hin : Inside bs one) (hs : Sticks done)
    {p : Nat} {e most : Int} (hp : p ≤ bs.length) : Alike bs (listM one bs p e most) (dL done (bs.drop p) e most) := by
  obtain ⟨hd, hq⟩ := num_doc bs p e most hp
  unfold listM dL
  rw [hd]
  exact alikeF h1 hin hs _ _ _ hq

theorem alikeSpan (bs : List UInt8) (p : Nat) (e : Int) (hp : p ≤ bs.length) : Alike bs (spanR bs p e) (dSpan (bs.drop p) e) := by
  obtain ⟨hd, hq⟩ := num_doc bs p e 1000000000 hp
  obtain ⟨hd2, hq2⟩ := num_doc bs (numM bs p e 1000000000).2.1 (numM bs p e 1000000000).2.2 1000000000 hq
  unfold dSpan spanR Alike
  rw [hd]
  simp only [hd2]
  exact ⟨trivial, trivial, fun _ => trivial⟩

theorem alikeNeed (bs : List UInt8) (p : Nat) (e : Int) (hp : p ≤ bs.length) : Alike bs (needR bs p e) (dNeed (bs.drop p) e) := by
  obtain ⟨hd, hq⟩ := str_doc bs p e 24 hp
  obtain ⟨a1, a2, a3⟩ := alikeL (alikeSpan bs) (spanR_p bs) dSpan_sticks (e := (strM bs p e 24).2.2) (most := 6) hq
  unfold dNeed needR Alike
  rw [hd]
  simp only [a1, a2]
  exact ⟨trivial, trivial, fun h => by rw [a3 h]⟩

theorem alikeRel (bs : List UInt8) (p : Nat) (e : Int) (hp : p ≤ bs.length) : Alike bs (relR bs p e) (dRel (bs.drop p) e) := by
  obtain ⟨hd, hq⟩ := num_doc bs p e 1000000000 hp
  obtain ⟨a1, a2, a3⟩ := alikeL (alikeNeed bs) (needR_p bs) dNeed_sticks (e := (numM bs p e 1000000000).2.2) (most := 6) hq
  unfold dRel relR Alike
  rw [hd]
  simp only [a1, a2]
  exact ⟨trivial, trivial, fun h => by rw [a3 h]⟩

theorem alikeMani (bs : List UInt8) : Alike bs (maniR bs) (dMani bs) := by
  obtain ⟨hd, hq⟩ := str_doc bs 0 0 24 (Nat.zero_le _)
  rw [List.drop_zero] at hd
  obtain ⟨a1, a2, a3⟩ := alikeL (alikeRel bs) (relR_p bs) dRel_sticks (e := (strM bs 0 0 24).2.2) (most := 8) hq
  unfold dMani maniR Alike
  rw [hd]
  simp only [a1, a2]
  exact ⟨trivial, trivial, fun h => by rw [a3 h]⟩

theorem dRead_eq (bs : List UInt8) : dRead bs = readM bs := by
  obtain ⟨a1, a2, a3⟩ := alikeMani bs
  unfold dRead readM
  rw [a1, a2, List.length_drop]
  by_cases h : (maniR bs).2.2 = 0
  · rw [a3 h]
  · have hc : ∀ n, closeM (maniR bs).2.2 n = (maniR bs).2.2 := fun n => by simp only [closeM, if_pos h]
    rw [hc]
    unfold endM
    rw [if_pos h, if_pos h]

/-! ### the document's walk -/

theorem dnumM_len (l : List UInt8) (e most : Int) : (dnumM l e most).2.1.length ≤ l.length := by
  unfold dnumM; split <;> simp
theorem dstrM_len (l : List UInt8) (e most : Int) : (dstrM l e most).2.1.length ≤ l.length := by
  unfold dstrM; repeat' split
  all_goals simp
theorem dnumM_most (l : List UInt8) (e most : Int) (h : 0 ≤ most) : 0 ≤ (dnumM l e most).1 ∧ (dnumM l e most).1 ≤ most := by
  unfold dnumM
  split
  · exact ⟨Int.le_refl _, h⟩
  · exact ⟨(lookM_le _ _).2.1, lookM_most _ _ h⟩
theorem dSpan_len (l : List UInt8) (e : Int) : (dSpan l e).2.1.length ≤ l.length := Nat.le_trans (dnumM_len _ _ _) (dnumM_len _ _ _)
theorem dF_len {α : Type} {one : List UInt8 → Int → α × List UInt8 × Int} (h : ∀ l e, (one l e).2.1.length ≤ l.length) : ∀ (k : Nat) (l : List UInt8) (e : Int), (dF one k l e).2.1.length ≤ l.length
  | 0, l, e => Nat.le_refl _
  | k + 1, l, e => Nat.le_trans (dF_len h k _ _) (h l e)
theorem dL_len {α : Type} {one : List UInt8 → Int → α × List UInt8 × Int} (h : ∀ l e, (one l e).2.1.length ≤ l.length) (l : List UInt8) (e most : Int) : (dL one l e most).2.1.length ≤ l.length :=
  Nat.le_trans (dF_len h _ _ _) (dnumM_len _ _ _)
theorem dNeed_len (l : List UInt8) (e : Int) : (dNeed l e).2.1.length ≤ l.length := Nat.le_trans (dL_len dSpan_len _ _ _) (dstrM_len _ _ _)
theorem dRel_len (l : List UInt8) (e : Int) : (dRel l e).2.1.length ≤ l.length := Nat.le_trans (dL_len dNeed_len _ _ _) (dnumM_len _ _ _)

section
variable {Post : AV → List AObj → Prop}

theorem q9 {acc : List Need} {n i : Int} {nm : List UInt8} (ha : acc.length ≤ 100) {k : Nat} (hk : k ≤ 100) {R : Need × List UInt8 × Int}
    (K : AWP Try.prog 47 1 c326_4 [(0, .ptr 0 0), (3, .sl 2 (.map encN ([], []) (acc ++ [R.1])) (.tok 1)), (4, .int .i64 n), (5, .int .i64 (IntKind.wrap .i64 (i + 1)))] [dr R.2.1 R.2.2, .tok] (q326_2 1 Post)) :
    ∀ (m j : Nat) (l : List UInt8) (e : Int) (sp : List Span), m + j = k → l.length ≤ 10 * big → sp.length + m ≤ 100 → R = ((nm, sp ++ (dF dSpan m l e).1), (dF dSpan m l e).2) →
    AWP Try.prog 47 1 c326_9 [(0, .ptr 0 0), (3, .sl 2 (.map encN ([], []) acc) (.tok 1)), (4, .int .i64 n), (5, .int .i64 i), (6, .ptr 2 0), (7, .int .i64 k), (8, .int .i64 j)]
      [dr l e, .tok, .cells [.str (B nm), .sl 2 (.map encS (0, 0) sp) (.tok 3)], .tok] (q326_7 1 Post) := by
  intro m
  induction m with
  | zero =>
    intro j l e sp hm hl hs hR
    refine v326_9 _ _ _ _ _ _ _ _ _ _ _ (condD (fun hc => by omega) fun _ => needJ (by omega) ?_)
    simp only [dF, List.append_nil] at hR
    subst hR
    refine AWP.shape [0, 4] [(0, .ptr 0 0), (3, .sl 2 (.map encN ([], []) (acc ++ [(nm, sp)])) (.tok 1)), (4, .int .i64 n), (5, .int .i64 (IntKind.wrap .i64 (i + 1)))] [dr l e, .tok] ?_ ⟨rfl, Le.refl _, rfl, ?_, rfl, Le.refl _, rfl, Le.refl _, trivial⟩ K
    · refine ⟨by decide, rfl, by decide, fun i hi => ?_, fun i hi => .inl ?_⟩
      · match i, hi with
        | 0, _ => rfl
      · match i, hi with
        | 0, _ | 1, _ => rfl
    · exact Le.trans (leAppE (x := (nm, sp)) ⟨Le.refl _, Le.sl rfl (.inl rfl) (.inr rfl), trivial⟩) (Le.refl _)
  | succ m ih =>
    intro j l e sp hm hl hs hR
    refine v326_9 _ _ _ _ _ _ _ _ _ _ _ (condD (fun _ => ?_) fun hc => by omega)
    have h1 := dnumM_len l e 1000000000
    refine ASpec.call (dnum_spec (H := [dr l e, .tok, .cells [.str (B nm), .sl 2 (.map encS (0, 0) sp) (.tok 3)], .tok]) (id := 0) (l := l) (e := e) 1000000000 hl rfl) (Les.refl _)
      ⟨((dnumM l e 1000000000).1, B (dnumM l e 1000000000).2.1, (dnumM l e 1000000000).2.2), rfl, rfl, ?_⟩
    refine ASpec.call (dnum_spec (H := [dr (dnumM l e 1000000000).2.1 (dnumM l e 1000000000).2.2, .tok, .cells [.str (B nm), .sl 2 (.map encS (0, 0) sp) (.tok 3)], .tok]) (id := 0) (l := (dnumM l e 1000000000).2.1) (e := (dnumM l e 1000000000).2.2) 1000000000 (by omega) rfl) (Les.refl _)
      ⟨((dnumM (dnumM l e 1000000000).2.1 (dnumM l e 1000000000).2.2 1000000000).1, B (dnumM (dnumM l e 1000000000).2.1 (dnumM l e 1000000000).2.2 1000000000).2.1, (dnumM (dnumM l e 1000000000).2.1 (dnumM l e 1000000000).2.2 1000000000).2.2), rfl, rfl, needJ (by omega) ?_⟩
    refine AWP.re (ReSt.leCell (id := 2) (cs' := [.str (B nm), .sl 2 (.map encS (0, 0) (sp ++ [(dSpan l e).1])) (.tok 4)]) rfl ⟨Le.refl _, leAppE (Les.refl _), trivial⟩) ?_
    rw [succ64 (by omega)]
    refine AWP.shape [0, 1, 2, 4] [(0, .ptr 0 0), (3, .sl 2 (.map encN ([], []) acc) (.tok 1)), (4, .int .i64 n), (5, .int .i64 i), (6, .ptr 2 0), (7, .int .i64 k), (8, .int .i64 (j + 1 : Nat))]
      [dr (dSpan l e).2.1 (dSpan l e).2.2, .tok, .cells [.str (B nm), .sl 2 (.map encS (0, 0) (sp ++ [(dSpan l e).1])) (.tok 3)], .tok] ?_
      ⟨rfl, Le.refl _, rfl, Le.refl _, rfl, Le.refl _, rfl, Le.refl _, rfl, Le.refl _, rfl, Le.refl _, rfl, Le.refl _, trivial⟩ (ih (j + 1) _ _ _ (by omega) (Nat.le_trans (dSpan_len l e) hl) (by simp; omega) ?_)
    · refine ⟨by decide, rfl, by decide, fun i hi => ?_, fun i hi => .inl ?_⟩
      · match i, hi with
        | 0, _ => rfl
      · match i, hi with
        | 0, _ | 1, _ | 2, _ | 3, _ => rfl
    · rw [hR]; simp [dF]

theorem q4 {n : Nat} (hn : n ≤ 50) : ∀ (m i : Nat) (l : List UInt8) (e : Int) (acc : List Need), m + i = n → l.length ≤ 10 * big → acc.length + m ≤ 100 →
    Post (.sl 2 (.map encN ([], []) (acc ++ (dF dNeed m l e).1)) (.tok 1)) [dr (dF dNeed m l e).2.1 (dF dNeed m l e).2.2, .tok] →
    AWP Try.prog 47 1 c326_4 [(0, .ptr 0 0), (3, .sl 2 (.map encN ([], []) acc) (.tok 1)), (4, .int .i64 n), (5, .int .i64 i)] [dr l e, .tok] (q326_2 1 Post) := by
  intro m
  induction m with
  | zero =>
    intro i l e acc hm hl ha h
    refine v326_4 _ _ _ _ _ _ _ (condD (fun hc => by omega) fun _ => ?_)
    simp only [dF, List.append_nil] at h
    exact h
  | succ m ih =>
    intro i l e acc hm hl ha h
    refine v326_4 _ _ _ _ _ _ _ (condD (fun _ => ?_) fun hc => by omega)
    have h1 := dstrM_len l e 24
    have h2 := dnumM_most (dstrM l e 24).2.1 (dstrM l e 24).2.2 6 (by omega)
    have h3 := dnumM_len (dstrM l e 24).2.1 (dstrM l e 24).2.2 6
    refine ASpec.call (dstr_spec (H := [dr l e, .tok]) (id := 0) (l := l) (e := e) 24 hl rfl) (Les.refl _) ⟨(B (dstrM l e 24).1, B (dstrM l e 24).2.1, (dstrM l e 24).2.2), rfl, rfl, ?_⟩
    refine ASpec.call (dnum_spec (H := [dr (dstrM l e 24).2.1 (dstrM l e 24).2.2, .tok, .cells [.str (B (dstrM l e 24).1), .sl 0 (.raw []) .nil]]) (id := 0) (l := (dstrM l e 24).2.1) (e := (dstrM l e 24).2.2) 6 (by omega) rfl) (Les.refl _)
      ⟨((dnumM (dstrM l e 24).2.1 (dstrM l e 24).2.2 6).1, B (dnumM (dstrM l e 24).2.1 (dstrM l e 24).2.2 6).2.1, (dnumM (dstrM l e 24).2.1 (dstrM l e 24).2.2 6).2.2), rfl, rfl, ?_⟩
    refine AWP.re (ReSt.tokCell (id := 2) (j := 1) (q' := .map encS (0, 0) []) (sz' := 2) rfl rfl (.inl rfl) rfl (.inr rfl)) ?_
    obtain ⟨k, hk⟩ := Int.eq_ofNat_of_zero_le h2.1
    rw [hk]
    refine q9 (nm := (dstrM l e 24).1) (by omega) (k := k) (by omega) (R := dNeed l e) ?_ k 0 _ _ [] (by omega) (by omega) (by simp; omega) ?_
    · rw [succ64 (by omega)]
      refine ih (i + 1) _ _ _ (by omega) (Nat.le_trans (dNeed_len l e) hl) (by simp; omega) ?_
      simp only [dF] at h
      simpa using h
    · rw [dNeed, dL, hk]; rfl

theorem dneeds_read {H : List AObj} {id : Nat} {l : List UInt8} {e : Int} (hl : l.length ≤ 10 * big) (h : AtD H id l e) :
    ASpec Try.prog 326 [.ptr id 0] H (fun r H' => r = slN (dL dNeed l e 6).1 ∧ H' = H.set id (dr (dL dNeed l e 6).2.1 (dL dNeed l e 6).2.2)) := by
  have k : ASpec Try.prog 326 [.ptr 0 0] [dr l e] (fun r H' => r = slN (dL dNeed l e 6).1 ∧ H' = [dr (dL dNeed l e 6).2.1 (dL dNeed l e 6).2.2]) := by
    have h2 := dnumM_most l e 6 (by omega)
    have h3 := dnumM_len l e 6
    refine ASpec.sel (s326 _ _ _ (ASpec.call (dnum_spec (H := [dr l e]) (id := 0) (l := l) (e := e) 6 hl rfl) (Les.refl _) ⟨((dnumM l e 6).1, B (dnumM l e 6).2.1, (dnumM l e 6).2.2), rfl, rfl, ?_⟩))
    refine AWP.re (ReSt.tok (H := [dr (dnumM l e 6).2.1 (dnumM l e 6).2.2]) (k := 3) (q' := .map encN ([], []) []) (sz' := 2) (s2 := [(0, .ptr 0 0), (3, .sl 2 (.map encN ([], []) []) (.tok 1)), (4, .int .i64 (dnumM l e 6).1), (5, .int .i64 0)]) rfl (.inl rfl) rfl (.inr rfl) (fun d hd => ?_) rfl) ?_
    · simp only [Ab.get]
      have e : Nat.beq 3 d = false := by
        cases hx : Nat.beq 3 d with
        | false => rfl
        | true => exact absurd (Nat.eq_of_beq_eq_true hx).symm hd
      rw [e]; rfl
    · obtain ⟨k, hk⟩ := Int.eq_ofNat_of_zero_le h2.1
      rw [hk]
      refine q4 (n := k) (by omega) k 0 _ _ [] (by omega) (by omega) (by simp; omega) ?_
      have hL : dF dNeed k (dnumM l e 6).2.1 (dnumM l e 6).2.2 = dL dNeed l e 6 := by rw [dL, hk]; rfl
      rw [hL, List.nil_append]
      refine ⟨[0], [dr (dL dNeed l e 6).2.1 (dL dNeed l e 6).2.2], slN (dL dNeed l e 6).1, ?_, leNone renN, rfl, rfl⟩
      refine ⟨by decide, rfl, Nat.le_refl _, fun i hi => ?_, fun i hi => .inl ?_⟩
      · match i, hi with
        | 0, _ => rfl
      · match i, hi with
        | 0, _ => rfl
  exact ASpec.oneH H id k _ _ _ rfl rfl h rfl

/-- a manifest and an error are told, whatever lies in the heap -/
abbrev PM (v : Mani × Int) : AV → List AObj → Prop := fun r H' => ∃ l H2 r2, Sel 0 l H' H2 ∧ Le r (AV.ren (selR l H'.length) r2) ∧ (r2 = .tup [.agg (encM v.1), .int .i64 v.2] ∧ H2 = [])

theorem pmNil {v : Mani × Int} {c : Int} {H' : List AObj} (h : v = (([], []), c)) : PM v (.tup [.agg [.str ⟨#[]⟩, .sl 0 (.raw []) .nil], .int .i64 c]) H' := by
  subst h
  exact ⟨[], [], .tup [.agg (encM ([], [])), .int .i64 c], Sel.none,
    Le.tup ⟨Le.agg ⟨Le.refl _, Le.sl (s' := Seq.ren _ (.map T.encR (0, []) [])) rfl (.inr ⟨rfl, fun _ h => by cases h⟩) (.inr rfl), trivial⟩, Le.refl _, trivial⟩, rfl, rfl⟩

theorem pmVal {v : Mani × Int} {nm : List UInt8} {rs : List Rel} {tip : Tip} {H' : List AObj} (h : v = ((nm, rs), 0)) : PM v (.tup [.agg [.str (B nm), .sl 2 (.map T.encR (0, []) rs) tip], .int .i64 0]) H' := by
  subst h
  exact ⟨[], [], .tup [.agg (encM (nm, rs)), .int .i64 0], Sel.none, Le.tup ⟨Le.agg ⟨Le.refl _, leNone renR, trivial⟩, Le.refl _, trivial⟩, rfl, rfl⟩

theorem q7 {nm : List UInt8} {n : Nat} (hn : n ≤ 50) {v : Mani × Int} {R : List Rel × List UInt8 × Int} (hR : v = endM (nm, R.1) (closeM R.2.2 R.2.1.length)) (hok : closeM R.2.2 R.2.1.length = 0 → okM (nm, R.1)) :
    ∀ (m i : Nat) (l : List UInt8) (e : Int) (acc : List Rel), m + i = n → l.length ≤ 10 * big → acc.length + m ≤ 100 → R = (acc ++ (dF dRel m l e).1, (dF dRel m l e).2) →
    AWP Try.prog 53 0 c277_7 [(2, .ptr 0 0), (4, .ptr 1 0), (5, .ptr 2 0), (6, .int .i64 n), (7, .int .i64 i)] [zM, dr l e, .cells [.str (B nm), .sl 2 (.map T.encR (0, []) acc) (.tok 3)], .tok] (q277_2 0 (PM v)) := by
  intro m
  induction m with
  | zero =>
    intro i l e acc hm hl ha h
    simp only [dF, List.append_nil] at h
    subst h
    refine v277_7 _ _ _ _ _ _ _ _ (condD (fun hc => by omega) fun _ => ?_)
    refine ASpec.call (dclose_spec (H := [zM, dr l e, .cells [.str (B nm), .sl 2 (.map T.encR (0, []) acc) (.tok 3)], .tok]) (id := 1) (l := l) (e := e) rfl) (Les.refl _) ⟨_, rfl, rfl, ?_⟩
    generalize closeM e l.length = c at hR hok
    refine condE (fun h0 => ?_) fun h0 => condNe (fun _ => pmNil (by rw [hR, endM, if_pos h0])) fun h1 => (h0 h1).elim
    refine ASpec.call (rmaniCheck_spec (nm, acc) (hok h0) _) ⟨Le.agg ⟨Le.refl _, Le.sl rfl (.inl rfl) (.inr rfl), trivial⟩, trivial⟩ ⟨_, rfl, rfl, condBn (fun hm => pmNil ?_) fun hm => condNe (fun h1 => (h1 h0).elim) fun _ => pmVal ?_⟩
    · rw [hR, endM, if_neg (by simpa using h0), if_neg (by rw [hm]; simp)]
    · rw [hR, endM, if_neg (by simpa using h0), if_pos hm]
  | succ m ih =>
    intro i l e acc hm hl ha h
    have h1 := dnumM_len l e 1000000000
    refine v277_7 _ _ _ _ _ _ _ _ (condD (fun _ => ?_) fun hc => by omega)
    refine ASpec.call (dnum_spec (H := [zM, dr l e, .cells [.str (B nm), .sl 2 (.map T.encR (0, []) acc) (.tok 3)], .tok]) (id := 1) (l := l) (e := e) 1000000000 hl rfl) (Les.refl _)
      ⟨((dnumM l e 1000000000).1, B (dnumM l e 1000000000).2.1, (dnumM l e 1000000000).2.2), rfl, rfl, ?_⟩
    refine ASpec.call (dneeds_read (H := [zM, dr (dnumM l e 1000000000).2.1 (dnumM l e 1000000000).2.2, .cells [.str (B nm), .sl 2 (.map T.encR (0, []) acc) (.tok 3)], .tok, .cells [.int .i64 (dnumM l e 1000000000).1, .sl 0 (.raw []) .nil]]) (id := 1) (l := (dnumM l e 1000000000).2.1) (e := (dnumM l e 1000000000).2.2) (by omega) rfl) (Les.refl _)
      ⟨((dRel l e).1.2, B (dRel l e).2.1, (dRel l e).2.2), rfl, rfl, needJ (by omega) ?_⟩
    refine AWP.re (ReSt.leCell (id := 2) (cs' := [.str (B nm), .sl 2 (.map T.encR (0, []) (acc ++ [(dRel l e).1])) (.tok 5)]) rfl ⟨Le.refl _, leAppE (Les.refl _), trivial⟩) ?_
    rw [succ64 (by omega)]
    refine AWP.shape [0, 1, 2, 5] [(2, .ptr 0 0), (4, .ptr 1 0), (5, .ptr 2 0), (6, .int .i64 n), (7, .int .i64 (i + 1 : Nat))]
      [zM, dr (dRel l e).2.1 (dRel l e).2.2, .cells [.str (B nm), .sl 2 (.map T.encR (0, []) (acc ++ [(dRel l e).1])) (.tok 3)], .tok] ?_
      ⟨rfl, Le.refl _, rfl, Le.refl _, rfl, Le.refl _, rfl, Le.refl _, rfl, Le.refl _, trivial⟩ (ih (i + 1) _ _ _ (by omega) (Nat.le_trans (dRel_len l e) hl) (by simp; omega) ?_)
    · refine ⟨by decide, rfl, by decide, fun i hi => by omega, fun i hi => .inl ?_⟩
      match i, hi with
      | 0, _ | 1, _ | 2, _ | 3, _ => rfl
    · rw [h]; simp [dF]

theorem rread_spec (bs : List UInt8) (hb : bs.length ≤ 1000000) (H : List AObj) : ASpec Try.prog 277 [.str (B bs)] H (fun r H' => r = .tup [.agg (encM (readM bs).1), .int .i64 (readM bs).2] ∧ H' = H) := by
  have k : ASpec Try.prog 277 [.str (B bs)] [] (fun r H' => r = .tup [.agg (encM (readM bs).1), .int .i64 (readM bs).2] ∧ H' = []) := by
    have hl : bs.length ≤ 10 * big := by unfold big; omega
    refine ASpec.sel (s277 _ _ ?_)
    rw [B_size]
    refine condD (fun h => pmNil ?_) fun h => ?_
    · rw [readM, if_pos (by omega)]
    have h1 := dstrM_len bs 0 24
    have h2 := dnumM_most (dstrM bs 0 24).2.1 (dstrM bs 0 24).2.2 8 (by omega)
    have h3 := dnumM_len (dstrM bs 0 24).2.1 (dstrM bs 0 24).2.2 8
    refine ASpec.call (dstr_spec (H := [zM, dr bs 0]) (id := 1) (l := bs) (e := 0) 24 hl rfl) (Les.refl _) ⟨(B (dstrM bs 0 24).1, B (dstrM bs 0 24).2.1, (dstrM bs 0 24).2.2), rfl, rfl, ?_⟩
    refine ASpec.call (dnum_spec (H := [zM, dr (dstrM bs 0 24).2.1 (dstrM bs 0 24).2.2, .cells [.str (B (dstrM bs 0 24).1), .sl 0 (.raw []) .nil]]) (id := 1) (l := (dstrM bs 0 24).2.1) (e := (dstrM bs 0 24).2.2) 8 (by omega) rfl) (Les.refl _)
      ⟨((dnumM (dstrM bs 0 24).2.1 (dstrM bs 0 24).2.2 8).1, B (dnumM (dstrM bs 0 24).2.1 (dstrM bs 0 24).2.2 8).2.1, (dnumM (dstrM bs 0 24).2.1 (dstrM bs 0 24).2.2 8).2.2), rfl, rfl, ?_⟩
    refine AWP.re (ReSt.tokCell (id := 2) (j := 1) (q' := .map T.encR (0, []) []) (sz' := 2) rfl rfl (.inl rfl) rfl (.inr rfl)) ?_
    obtain ⟨k, hk⟩ := Int.eq_ofNat_of_zero_le h2.1
    rw [hk]
    obtain ⟨a1, a2, a3⟩ := alikeMani bs
    refine q7 (n := k) (by omega) (R := ((dMani bs).1.2, (dMani bs).2)) ?_ ?_ k 0 _ _ [] (by omega) (by omega) (by simp; omega) ?_
    · rw [← dRead_eq, dRead, if_neg (by omega)]; rfl
    · intro h0
      have he : (maniR bs).2.2 = 0 := by
        by_cases he : (maniR bs).2.2 = 0
        · exact he
        · simp only [a2] at h0
          have hc : ∀ n, closeM (maniR bs).2.2 n = (maniR bs).2.2 := fun n => by simp only [closeM, if_pos he]
          rw [hc] at h0
          exact h0
      have := maniR_ok bs
      rw [← a3 he] at this
      exact this
    · simp only [dMani, dL, hk]; rfl
  exact ASpec.pureH H k _ _ rfl rfl

/-! ### are they alike? -/

theorem cons_dec {α : Type} [DecidableEq α] (x y : α) (a b : List α) : decide (x :: a = y :: b) = (decide (x = y) && decide (a = b)) := by
  rw [Bool.eq_iff_iff]; simp

theorem sameS4 {a b : List Span} {c : Bool} (hl : a.length ≤ lim) (he : a.length = b.length) : ∀ (m i : Nat), m + i = a.length → decide (a.drop i = b.drop i) = c →
    AWP Try.prog 26 0 c163_4 [(0, slS a), (1, slS b), (5, .int .i64 i)] [] (q163_2 0 (PB c)) := by
  unfold lim at hl
  intro m
  induction m with
  | zero =>
    intro i hm h
    refine v163_4 _ _ _ _ _ (condD (fun hc => by omega) fun _ => pb ?_)
    rw [List.drop_eq_nil_of_le (by omega), List.drop_eq_nil_of_le (by omega)] at h
    rw [← h]; simp
  | succ m ih =>
    intro i hm h
    rw [dropD a (0, 0) i (by omega), dropD b (0, 0) i (by omega), cons_dec] at h
    refine v163_4 _ _ _ _ _ (condD (fun hc => needJ ⟨by omega, by omega⟩ (needJ ⟨by omega, by omega⟩ ?_)) fun hc => by omega)
    rw [Int.toNat_natCast]
    generalize a.getD i (0, 0) = x at h ⊢
    generalize b.getD i (0, 0) = y at h ⊢
    have e : (x.1 == y.1 && (x.2 == y.2 && true)) = decide (x = y) := by
      obtain ⟨x1, x2⟩ := x
      obtain ⟨y1, y2⟩ := y
      rw [Bool.eq_iff_iff]; simp
    rw [e]
    refine condBn (fun h1 => pb ?_) fun h1 => ?_
    · rw [h1, Bool.false_and] at h; exact h
    · rw [h1, Bool.true_and] at h
      rw [succ64 (by omega)]
      exact ih (i + 1) (by omega) h

theorem sameS_spec (a b : List Span) (hl : a.length ≤ lim) (H : List AObj) : ASpec Try.prog 163 [slS a, slS b] H (fun r H' => r = .bool (decide (a = b)) ∧ H' = H) := by
  have k : ASpec Try.prog 163 [slS a, slS b] [] (fun r H' => r = .bool (decide (a = b)) ∧ H' = []) := by
    refine ASpec.sel (s163 _ _ _ (condNe (fun h => pb ?_) fun h => sameS4 hl (by omega) a.length 0 (by omega) rfl))
    symm
    rw [decide_eq_false]
    rintro rfl; exact h rfl
  exact ASpec.pureH H k _ _ rfl rfl

theorem sameN4 {a b : List Need} {c : Bool} (hl : okN a) (he : a.length = b.length) : ∀ (m i : Nat), m + i = a.length → decide (a.drop i = b.drop i) = c →
    AWP Try.prog 42 0 c173_4 [(0, slN a), (1, slN b), (5, .int .i64 i)] [] (q173_2 0 (PB c)) := by
  obtain ⟨hl1, hl2⟩ := hl
  unfold lim at hl1
  intro m
  induction m with
  | zero =>
    intro i hm h
    refine v173_4 _ _ _ _ _ (condD (fun hc => by omega) fun _ => pb ?_)
    rw [List.drop_eq_nil_of_le (by omega), List.drop_eq_nil_of_le (by omega)] at h
    rw [← h]; simp
  | succ m ih =>
    intro i hm h
    have hx := hl2 _ (memD a ([], []) i (by omega))
    rw [dropD a ([], []) i (by omega), dropD b ([], []) i (by omega), cons_dec] at h
    refine v173_4 _ _ _ _ _ (condD (fun hc => needJ ⟨by omega, by omega⟩ (needJ ⟨by omega, by omega⟩ ?_)) fun hc => by omega)
    rw [Int.toNat_natCast]
    generalize a.getD i ([], []) = x at h hx ⊢
    generalize b.getD i ([], []) = y at h ⊢
    have no : ¬ (x.1 = y.1 ∧ x.2 = y.2) → PB c (.bool false) [] := by
      intro hh
      rw [decide_eq_false (by rintro rfl; exact hh ⟨rfl, rfl⟩), Bool.false_and] at h
      exact pb h
    refine condSn (fun h1 => no (fun hh => h1 hh.1)) fun h1 => needJ ⟨by omega, by omega⟩ (needJ ⟨by omega, by omega⟩ ?_)
    refine ASpec.call (sameS_spec x.2 y.2 hx.2 []) (Les.refl _) ⟨_, rfl, rfl, condBn (fun h2 => no (fun hh => ?_)) fun h2 => ?_⟩
    · rw [hh.2] at h2; simp at h2
    · rw [decide_eq_true (show x = y from Prod.ext h1 (of_decide_eq_true h2)), Bool.true_and] at h
      rw [succ64 (by omega)]
      exact ih (i + 1) (by omega) h

theorem sameN_spec (a b : List Need) (hl : okN a) (H : List AObj) : ASpec Try.prog 173 [slN a, slN b] H (fun r H' => r = .bool (decide (a = b)) ∧ H' = H) := by
  have k : ASpec Try.prog 173 [slN a, slN b] [] (fun r H' => r = .bool (decide (a = b)) ∧ H' = []) := by
    refine ASpec.sel (s173 _ _ _ (condNe (fun h => pb ?_) fun h => sameN4 hl (by omega) a.length 0 (by omega) rfl))
    symm
    rw [decide_eq_false]
    rintro rfl; exact h rfl
  exact ASpec.pureH H k _ _ rfl rfl

theorem sameM4 {a b : Mani} {c : Bool} (hl : okM a) (he : a.2.length = b.2.length) : ∀ (m i : Nat), m + i = a.2.length → decide (a.2.drop i = b.2.drop i) = c →
    AWP Try.prog 56 0 c62_4 [(2, .ptr 0 0), (3, .ptr 1 0), (5, .int .i64 i)] [.cells (encM a), .cells (encM b)] (q62_2 0 (PB c)) := by
  obtain ⟨hl1, hl2, hl3⟩ := hl
  unfold lim at hl2
  intro m
  induction m with
  | zero =>
    intro i hm h
    refine v62_4 _ _ _ _ _ (condD (fun hc => by omega) fun _ => pb ?_)
    rw [List.drop_eq_nil_of_le (by omega), List.drop_eq_nil_of_le (by omega)] at h
    rw [← h]; simp
  | succ m ih =>
    intro i hm h
    have hx := hl3 _ (memD a.2 (0, []) i (by omega))
    rw [dropD a.2 (0, []) i (by omega), dropD b.2 (0, []) i (by omega), cons_dec] at h
    refine v62_4 _ _ _ _ _ (condD (fun hc => needJ ⟨by omega, by omega⟩ (needJ ⟨by omega, by omega⟩ ?_)) fun hc => by omega)
    rw [Int.toNat_natCast]
    generalize a.2.getD i (0, []) = x at h hx ⊢
    generalize b.2.getD i (0, []) = y at h ⊢
    have no : ∀ {H' : List AObj}, ¬ (x.1 = y.1 ∧ x.2 = y.2) → PB c (.bool false) H' := by
      intro H' hh
      rw [decide_eq_false (by rintro rfl; exact hh ⟨rfl, rfl⟩), Bool.false_and] at h
      exact pb h
    refine condNe (fun h1 => no (fun hh => h1 hh.1)) fun h1 => needJ ⟨by omega, by omega⟩ (needJ ⟨by omega, by omega⟩ ?_)
    refine ASpec.call (sameN_spec x.2 y.2 hx _) (Les.refl _) ⟨_, rfl, rfl, condBn (fun h2 => no (fun hh => ?_)) fun h2 => ?_⟩
    · rw [hh.2] at h2; simp at h2
    · rw [decide_eq_true (show x = y from Prod.ext h1 (of_decide_eq_true h2)), Bool.true_and] at h
      rw [succ64 (by omega)]
      exact ih (i + 1) (by omega) h

theorem sameM_spec (a b : Mani) (hl : okM a) (H : List AObj) : ASpec Try.prog 62 [.agg (encM a), .agg (encM b)] H (fun r H' => r = .bool (decide (a.1 = b.1 ∧ a.2 = b.2)) ∧ H' = H) := by
  have k : ASpec Try.prog 62 [.agg (encM a), .agg (encM b)] [] (fun r H' => r = .bool (decide (a.1 = b.1 ∧ a.2 = b.2)) ∧ H' = []) := by
    refine ASpec.sel (s62 _ _ _ (condSn (fun h => pb ?_) fun h0 => condNe (fun h => pb ?_) fun h => sameM4 hl (by omega) a.2.length 0 (by omega) ?_))
    · symm; rw [decide_eq_false]; intro hh; exact h hh.1
    · symm; rw [decide_eq_false]; intro hh; rw [hh.2] at h; exact h rfl
    · rw [List.drop_zero, List.drop_zero, Bool.eq_iff_iff, decide_eq_true_iff, decide_eq_true_iff]
      exact ⟨fun h => ⟨h0, h⟩, fun h => h.2⟩
  exact ASpec.pureH H k _ _ rfl rfl

/-! ### the law -/

theorem endT {f : FuncId} {args : List AV} (h : ASpec Try.prog f args [] (PB true)) : ASpec Try.prog f args [] (fun r H' => r = .bool true ∧ H' = []) :=
  ASpec.sel (h.mono fun r H' h => h)

end
end W
end

section
/- What was put of a manifest is read; what is read is put so. -/

set_option linter.unusedVariables false
set_option linter.unusedSimpArgs false
set_option maxRecDepth 100000
open Go Go.Ab Go.Proofs V S T C
namespace W

/-! ### what was put is read -/

def Back {α : Type} (bytes : α → List UInt8) (one : List UInt8 → Nat → Int → α × Nat × Int) (x : α) : Prop :=
  ∀ pre rest, one (pre ++ bytes x ++ rest) pre.length 0 = (x, pre.length + (bytes x).length, 0)

theorem num_back {x most : Int} (h0 : 0 ≤ x) (h1 : x ≤ most) (h2 : most ≤ 1099511627776) : Back numB (fun bs p e => numM bs p e most) x := by
  intro pre rest
  have hh := held_of (x := x) h0 (by omega)
  have hd : (pre ++ numB x ++ rest).drop pre.length = enc (held x) ++ rest := by rw [List.append_assoc, List.drop_left]; rfl
  simp only [numM, if_neg (show ¬ ((0 : Int) ≠ 0) by simp), hd, look_enc rest (v := held x) (most := most) (held_le x) (by omega)]
  rw [hh]; rfl

theorem str_back (pre s rest : List UInt8) (most : Int) (hs : (s.length : Int) ≤ most) (hl : s.length ≤ 1000000) :
    strM (pre ++ text s ++ rest) pre.length 0 most = (s, pre.length + (text s).length, 0) := by
  have hh := held_of (x := (s.length : Int)) (by omega) (by omega)
  have hh : held s.length = s.length := by omega
  have hd : (pre ++ text s ++ rest).drop pre.length = enc s.length ++ (s ++ rest) := by
    rw [List.append_assoc, List.drop_left, text, hh, List.append_assoc]
  have hd2 : (pre ++ text s ++ rest).drop (pre.length + (enc s.length).length) = s ++ rest := by
    rw [← List.drop_drop, hd, List.drop_left]
  have hk := look_enc (s ++ rest) (v := s.length) (most := most) (by omega) hs
  have hlen : (text s).length = (enc s.length).length + s.length := by rw [text, hh, List.length_append]
  simp only [strM, if_neg (show ¬ ((0 : Int) ≠ 0) by simp), hd, hk]
  rw [if_neg (by simp only [List.length_append, hlen]; omega), hd2, hlen]
  simp [Nat.add_assoc]

theorem text_back {s : List UInt8} {most : Int} (h : (s.length : Int) ≤ most) (hl : s.length ≤ 1000000) : Back text (fun bs p e => strM bs p e most) s :=
  fun pre rest => str_back pre s rest most h hl

theorem back2 {α β : Type} {ba : α → List UInt8} {bb : β → List UInt8} {oa : List UInt8 → Nat → Int → α × Nat × Int} {ob : List UInt8 → Nat → Int → β × Nat × Int} {x : α} {y : β}
    (ha : Back ba oa x) (hb : Back bb ob y) (pre rest : List UInt8) :
    oa (pre ++ (ba x ++ bb y) ++ rest) pre.length 0 = (x, pre.length + (ba x).length, 0) ∧ ob (pre ++ (ba x ++ bb y) ++ rest) (pre.length + (ba x).length) 0 = (y, pre.length + (ba x ++ bb y).length, 0) := by
  have e1 := ha pre (bb y ++ rest)
  have e2 := hb (pre ++ ba x) rest
  simp only [List.append_assoc, List.length_append] at e1 e2 ⊢
  exact ⟨e1, by rw [e2, Nat.add_assoc]⟩

theorem span_back {x : Span} (h0 : 0 ≤ x.1) (h1 : x.1 ≤ 1000000000) (h2 : x.1 ≤ x.2) (h3 : x.2 ≤ 1000000000) : Back spanB spanR x := by
  intro pre rest
  have hw : IntKind.wrap .i64 (x.2 - x.1) = x.2 - x.1 := wrap64 (by omega) (by omega)
  obtain ⟨e1, e2⟩ := back2 (num_back (x := x.1) (most := 1000000000) h0 h1 (by omega)) (num_back (x := IntKind.wrap .i64 (x.2 - x.1)) (most := 1000000000) (by omega) (by omega) (by omega)) pre rest
  simp only [spanR, spanB, e1, e2]
  rw [hw, wrap64 (x := x.1 + (x.2 - x.1)) (by omega) (by omega), show x.1 + (x.2 - x.1) = x.2 by omega]

theorem listR_back {α : Type} {bytes : α → List UInt8} {one : List UInt8 → Nat → Int → α × Nat × Int} : ∀ (l : List α), (∀ x ∈ l, Back bytes one x) → ∀ pre rest,
    listR (one (pre ++ l.flatMap bytes ++ rest)) l.length pre.length 0 = (l, pre.length + (l.flatMap bytes).length, 0)
  | [], _, pre, rest => by simp [listR]
  | x :: r, h, pre, rest => by
    have hx := h x (by simp) pre (r.flatMap bytes ++ rest)
    have hr := listR_back r (fun y hy => h y (by simp [hy])) (pre ++ bytes x) rest
    simp only [List.flatMap_cons, List.append_assoc, List.length_append, List.length_cons] at hx hr ⊢
    simp only [listR, if_pos, hx, hr]
    rw [Nat.add_assoc]

theorem listM_back {α : Type} {bytes : α → List UInt8} {one : List UInt8 → Nat → Int → α × Nat × Int} {most : Int} (l : List α) (h : ∀ x ∈ l, Back bytes one x) (hl : (l.length : Int) ≤ most) (h2 : most ≤ 1099511627776) :
    ∀ pre rest, listM (one (pre ++ (numB l.length ++ l.flatMap bytes) ++ rest)) (pre ++ (numB l.length ++ l.flatMap bytes) ++ rest) pre.length 0 most = (l, pre.length + (numB l.length ++ l.flatMap bytes).length, 0) := by
  intro pre rest
  have e1 := num_back (x := (l.length : Int)) (most := most) (by omega) hl h2 pre (l.flatMap bytes ++ rest)
  have e2 := listR_back l h (pre ++ numB l.length) rest
  simp only [List.append_assoc, List.length_append] at e1 e2 ⊢
  simp only [listM, e1, Int.toNat_natCast, e2]
  rw [Nat.add_assoc]

theorem chkS_ok : ∀ (l : List Span) (e : Int), -1 ≤ e → chkS e l = true → ∀ x ∈ l, 0 ≤ x.1 ∧ x.1 ≤ 1000000000 ∧ x.1 ≤ x.2 ∧ x.2 ≤ 1000000000
  | [], _, _, _, x, hx => by simp at hx
  | y :: r, e, he, h, x, hx => by
    simp only [chkS] at h
    split at h
    · cases h
    · rcases List.mem_cons.1 hx with rfl | hx
      · omega
      · exact chkS_ok r _ (by omega) h x hx

theorem need_back {n : Need} (h1 : n.1.length ≤ 24) (h2 : n.2.length ≤ 6) (h3 : spanOk n.2 = true) : Back needB needR n := by
  intro pre rest
  have hs : ∀ x ∈ n.2, Back spanB spanR x := fun x hx => by
    obtain ⟨a, b, c, d⟩ := chkS_ok n.2 (-1) (by omega) h3 x hx
    exact span_back a b c d
  have e1 := text_back (s := n.1) (most := 24) (by omega) (by omega) pre (numB n.2.length ++ n.2.flatMap spanB ++ rest)
  have e2 := listM_back (most := 6) n.2 hs (by omega) (by omega) (pre ++ text n.1) rest
  simp only [List.append_assoc, List.length_append] at e1 e2
  simp only [needR, needB, List.append_assoc, List.length_append, e1, e2]
  rw [Nat.add_assoc]

theorem rel_back {r : Rel} (h0 : 0 ≤ r.1) (h1 : r.1 ≤ 1000000000) (h2 : needOk r.2 = true) : Back relB relR r := by
  intro pre rest
  obtain ⟨hl, hn⟩ := needOk_ok h2
  have hs : ∀ x ∈ r.2, Back needB needR x := fun x hx => by
    obtain ⟨a, b, c, d⟩ := hn x hx
    exact need_back a b c
  have e1 := num_back (x := r.1) (most := 1000000000) h0 h1 (by omega) pre (numB r.2.length ++ r.2.flatMap needB ++ rest)
  have e2 := listM_back (most := 6) r.2 hs (by omega) (by omega) (pre ++ numB r.1) rest
  simp only [List.append_assoc, List.length_append] at e1 e2
  simp only [relR, relB, List.append_assoc, List.length_append, e1, e2]
  rw [Nat.add_assoc]

theorem mani_back {m : Mani} (h : manOk m = true) : maniR (maniB m) = (m, (maniB m).length, 0) := by
  obtain ⟨-, h1, h2, h3⟩ := manOk_ok h
  have hs : ∀ x ∈ m.2, Back relB relR x := fun x hx => by
    obtain ⟨a, b, c⟩ := h3 x hx
    exact rel_back (by omega) (by omega) a
  have e1 := text_back (s := m.1) (most := 24) (by omega) (by omega) [] (numB m.2.length ++ m.2.flatMap relB)
  have e2 := listM_back (most := 8) m.2 hs (by omega) (by omega) (text m.1) []
  simp only [List.append_assoc, List.length_append, List.nil_append, List.length_nil, Nat.zero_add, List.append_nil] at e1 e2
  simp only [maniR, maniB, List.append_assoc, List.length_append, e1, e2]

theorem maniB_pos (m : Mani) : maniB m ≠ [] := by
  intro h
  have : (enc (held m.1.length)) = [] := by
    simp only [maniB, text, List.append_eq_nil_iff] at h
    exact h.1.1.1
  simp [enc] at this

theorem read_put {m : Mani} (h : manOk m = true) : readM (maniB m) = (m, 0) := by
  have hl := maniB_len h
  rw [readM, if_neg (by omega), mani_back h]
  simp only [Nat.sub_self]
  rw [show closeM 0 0 = 0 from rfl, endM, if_neg (by simp), if_pos h]

/-! ### what is read is put so -/

theorem scan_canon : ∀ (f : Nat) (s : List UInt8) (x i n k : Nat), scan f s x i = .inr (n, k) → (0 < x ∨ s.head? ≠ some 128) → lead x ++ s = enc n ++ s.drop (k - i)
  | 0, s, x, i, n, k, h, _ => by simp [scan] at h
  | f + 1, [], x, i, n, k, h, _ => by simp [scan] at h
  | f + 1, c :: s, x, i, n, k, h, hx => by
    have hc := c.toNat_lt
    simp only [scan] at h
    split at h
    · rename_i hge
      have hk := scan_le _ _ _ _ _ _ h
      have hpos : 0 < x * 128 + c.toNat % 128 := by
        rcases hx with hx | hx
        · omega
        · have : c.toNat ≠ 128 := fun hh => hx (by
            have : c = 128 := UInt8.toNat_inj.1 (by rw [hh]; rfl)
            rw [this]; rfl)
          omega
      have := scan_canon f s _ _ _ _ h (.inl hpos)
      rw [lead_pos hpos, show (x * 128 + c.toNat % 128) / 128 = x by omega, show 128 + (x * 128 + c.toNat % 128) % 128 = c.toNat by omega, UInt8.ofNat_toNat, List.append_assoc, List.singleton_append] at this
      rw [this, show k - i = (k - (i + 1)) + 1 by omega, List.drop_succ_cons]
    · rename_i hlt
      simp only [Sum.inr.injEq, Prod.mk.injEq] at h
      obtain ⟨rfl, rfl⟩ := h
      rw [show i + 1 - i = 1 by omega]
      unfold enc
      rw [show (x * 128 + c.toNat % 128) / 128 = x by omega, show (x * 128 + c.toNat % 128) % 128 = c.toNat by omega, UInt8.ofNat_toNat]
      simp

theorem look_canon {s : List UInt8} {most : Int} (h : (lookM s most).2.2 = 0) : s = numB (lookM s most).1 ++ s.drop (lookM s most).2.1 := by
  cases s with
  | nil => simp [lookM] at h
  | cons c s =>
    simp only [lookM] at h ⊢
    split at h
    · simp at h
    · rename_i hc
      simp only [if_neg hc]
      split at h
      · rename_i e hs
        simp only at h
        subst h
        exact absurd hs (by
          intro hs
          have : ∀ (f : Nat) (s : List UInt8) (x i : Nat), scan f s x i ≠ .inl 0 := by
            intro f
            induction f with
            | zero => intro s x i hh; simp [scan] at hh
            | succ f ih =>
              intro s x i hh
              cases s with
              | nil => simp [scan] at hh
              | cons c s =>
                simp only [scan] at hh
                split at hh
                · exact ih _ _ _ hh
                · cases hh
          exact this _ _ _ _ hs)
      · rename_i n k hs
        split at h
        · simp at h
        · rename_i hn
          simp only [hs, if_neg hn]
          have := scan_canon 6 (c :: s) 0 0 n k hs (.inr (by simpa using hc))
          rw [lead_zero, List.nil_append, Nat.sub_zero] at this
          have hh : held (n : Int) = n := by
            have := held_of (x := (n : Int)) (by omega) (by omega)
            omega
          rw [numB, hh]; exact this

def Canon {α : Type} (bytes : α → List UInt8) (one : List UInt8 → Nat → Int → α × Nat × Int) : Prop :=
  ∀ bs p e, (one bs p e).2.2 = 0 → e = 0 ∧ bs.drop p = bytes (one bs p e).1 ++ bs.drop (one bs p e).2.1

theorem num_canon (most : Int) : Canon numB (fun bs p e => numM bs p e most) := by
  intro bs p e h
  simp only [numM] at h ⊢
  split at h
  · rename_i he; exact absurd h he
  · rename_i he
    simp only [if_neg he]
    refine ⟨by omega, ?_⟩
    rw [← List.drop_drop]
    exact look_canon h

theorem text_canon (most : Int) : Canon text (fun bs p e => strM bs p e most) := by
  intro bs p e h
  simp only [strM] at h ⊢
  split at h
  · rename_i he; exact absurd h he
  rename_i he
  split at h
  · rename_i h1; exact absurd h h1
  rename_i h1
  split at h
  · simp at h
  rename_i h2
  simp only [if_neg he, if_neg h1, if_neg h2]
  refine ⟨by omega, ?_⟩
  have hc := look_canon (s := bs.drop p) (most := most) (by simpa using h1)
  have hl := lookM_le (bs.drop p) most
  generalize lookM (bs.drop p) most = q at h2 hc hl ⊢
  obtain ⟨n, k, er⟩ := q
  simp only at h2 hc hl ⊢
  have hlen : ((bs.drop (p + k)).take n.toNat).length = n.toNat := by
    rw [List.length_take, List.length_drop]; omega
  rw [List.drop_drop] at hc
  rw [hc, text, hlen, show numB n = enc (held (n.toNat : Int)) by rw [numB, show ((n.toNat : Int)) = n by omega], List.append_assoc]
  congr 1
  rw [show bs.drop (p + k + n.toNat) = (bs.drop (p + k)).drop n.toNat by rw [List.drop_drop], List.take_append_drop]

theorem span_canon : Canon spanB spanR := by
  intro bs p e h
  simp only [spanR] at h ⊢
  obtain ⟨h1, h2⟩ := num_canon 1000000000 bs _ _ h
  obtain ⟨h3, h4⟩ := num_canon 1000000000 bs _ _ h1
  have m1 := numM_most bs p e 1000000000 (by omega)
  have m2 := numM_most bs (numM bs p e 1000000000).2.1 (numM bs p e 1000000000).2.2 1000000000 (by omega)
  simp only at h2 h4
  refine ⟨h3, ?_⟩
  rw [h4, h2, spanB]
  generalize (numM bs p e 1000000000).1 = a at m1 ⊢
  generalize numM bs (numM bs p e 1000000000).2.1 (numM bs p e 1000000000).2.2 1000000000 = q at m2 ⊢
  simp only
  rw [wrap64 (x := a + q.1) (by omega) (by omega), wrap64 (x := a + q.1 - a) (by omega) (by omega), show a + q.1 - a = q.1 by omega, List.append_assoc]

theorem listR_canon {α : Type} {bytes : α → List UInt8} {one : List UInt8 → Nat → Int → α × Nat × Int} (hc : Canon bytes one) (bs : List UInt8) : ∀ (k p : Nat) (e : Int), (listR (one bs) k p e).2.2 = 0 →
    e = 0 ∧ (listR (one bs) k p e).1.length = k ∧ bs.drop p = (listR (one bs) k p e).1.flatMap bytes ++ bs.drop (listR (one bs) k p e).2.1
  | 0, p, e, h => by
    simp only [listR] at h ⊢
    exact ⟨h, rfl, by simp⟩
  | k + 1, p, e, h => by
    simp only [listR] at h ⊢
    split at h
    · rename_i he
      simp only [if_pos he]
      obtain ⟨a, b, c⟩ := listR_canon hc bs k _ _ h
      obtain ⟨d, f⟩ := hc bs p e a
      refine ⟨he, by rw [List.length_cons, b], ?_⟩
      rw [f, c, List.flatMap_cons, List.append_assoc]
    · rename_i he
      exact absurd h he

theorem listM_canon {α : Type} {bytes : α → List UInt8} {one : List UInt8 → Nat → Int → α × Nat × Int} (hc : Canon bytes one) {most : Int} (hm : 0 ≤ most) : ∀ bs p e, (listM (one bs) bs p e most).2.2 = 0 →
    e = 0 ∧ bs.drop p = numB (listM (one bs) bs p e most).1.length ++ (listM (one bs) bs p e most).1.flatMap bytes ++ bs.drop (listM (one bs) bs p e most).2.1 := by
  intro bs p e h
  simp only [listM] at h ⊢
  obtain ⟨a, b, c⟩ := listR_canon hc bs _ _ _ h
  obtain ⟨d, f⟩ := num_canon most bs p e a
  have m1 := numM_most bs p e most hm
  simp only at f
  refine ⟨d, ?_⟩
  rw [b, f, c, List.append_assoc, show (((numM bs p e most).1.toNat : Nat) : Int) = (numM bs p e most).1 by omega]

theorem need_canon : Canon needB needR := by
  intro bs p e h
  simp only [needR] at h ⊢
  obtain ⟨a, b⟩ := listM_canon span_canon (by omega) bs _ _ h
  obtain ⟨c, d⟩ := text_canon 24 bs p e a
  simp only at d
  refine ⟨c, ?_⟩
  rw [d, b, needB]
  simp only [List.append_assoc]

theorem rel_canon : Canon relB relR := by
  intro bs p e h
  simp only [relR] at h ⊢
  obtain ⟨a, b⟩ := listM_canon need_canon (by omega) bs _ _ h
  obtain ⟨c, d⟩ := num_canon 1000000000 bs p e a
  simp only at d
  refine ⟨c, ?_⟩
  rw [d, b, relB]
  simp only [List.append_assoc]

theorem mani_canon (bs : List UInt8) (h : (maniR bs).2.2 = 0) : bs = maniB (maniR bs).1 ++ bs.drop (maniR bs).2.1 := by
  simp only [maniR] at h ⊢
  obtain ⟨a, b⟩ := listM_canon rel_canon (by omega) bs _ _ h
  obtain ⟨c, d⟩ := text_canon 24 bs 0 0 a
  simp only [List.drop_zero] at d
  rw [maniB]
  simp only [List.append_assoc] at b ⊢
  rw [← b]; exact d

theorem closeM_zero {e : Int} {n : Nat} (h : closeM e n = 0) : e = 0 ∧ n = 0 := by
  unfold closeM at h
  split at h
  · rename_i he; exact absurd h he
  · split at h
    · simp at h
    · exact ⟨by omega, by omega⟩

theorem put_read {bs : List UInt8} (h : (readM bs).2 = 0) : putMan (readM bs).1 = bs ∧ manOk (readM bs).1 = true := by
  unfold readM at h ⊢
  split at h
  · simp at h
  · rename_i hl
    rw [if_neg hl]
    unfold endM at h ⊢
    split at h
    · rename_i hc; exact absurd h hc
    · rename_i hc
      rw [if_neg hc]
      split at h
      · rename_i hm
        rw [if_pos hm]
        refine ⟨?_, hm⟩
        obtain ⟨h1, h2⟩ := closeM_zero (e := (maniR bs).2.2) (n := bs.length - (maniR bs).2.1) (by simpa using hc)
        have := mani_canon bs h1
        rw [List.drop_eq_nil_of_le (by omega), List.append_nil] at this
        rw [putMan, if_pos hm]
        exact this.symm
      · simp at h

/-! ### the law -/

section
variable {Post : AV → List AObj → Prop}

end
end W
end

section
/- Depots: what the code and the document's code compute. -/

set_option linter.unusedVariables false
set_option linter.unusedSimpArgs false
set_option maxRecDepth 100000
open Go Go.Ab Go.Proofs V S T C
open W (sl1 slS slN slR leNone readM putMan read_put cons_dec)
namespace Dp

abbrev PA (r0 : AV) : AV → List AObj → Prop := fun r H' => ∃ l H2 r2, Sel 0 l H' H2 ∧ Le r (AV.ren (selR l H'.length) r2) ∧ (r2 = r0 ∧ H2 = [])
theorem pa {r r0 : AV} {H' : List AObj} (h : Le r (AV.ren (selR [] H'.length) r0)) : PA r0 r H' := ⟨[], [], r0, Sel.none, h, rfl, rfl⟩
theorem condNq {a b : Bool} {A B : Prop} (h1 : a ≠ b → A) (h2 : a = b → B) : condP (!(a == b)) A B := by
  by_cases h : a = b
  · rw [beq_iff_eq.2 h]; exact h2 h
  · rw [beq_eq_false_iff_ne.2 h]; exact h1 h
theorem condQ {a b : Bool} {A B : Prop} (h1 : a = b → A) (h2 : a ≠ b → B) : condP (a == b) A B := by
  by_cases h : a = b
  · rw [beq_iff_eq.2 h]; exact h1 h
  · rw [beq_eq_false_iff_ne.2 h]; exact h2 h

noncomputable abbrev slEn (l : List Ent) : AV := .sl 2 (.map encEn ([], []) l) .none
noncomputable abbrev slL (l : List (List UInt8)) : AV := .sl 1 (.map encL [] l) .none
noncomputable abbrev slM (l : List Mani) : AV := .sl 2 (.map encM ([], []) l) .none

def okD (l : List Ent) : Prop := l.length ≤ lim ∧ ∀ x ∈ l, x.1.length ≤ lim ∧ x.2.length ≤ lim

/-! ### large -/

def largeF : List Ent → Bool
  | [] => false
  | x :: r => if 200 < x.1.length ∨ 9000 < x.2.length then true else largeF r
def largeD (l : List Ent) : Bool := if 30 < l.length then true else largeF l

theorem large4 {l : List Ent} {c : Bool} (hl : l.length ≤ 30) : ∀ (m i : Nat), m + i = l.length → largeF (l.drop i) = c →
    AWP Try.prog 29 0 c37_4 [(0, slEn l), (3, .int .i64 i)] [] (q37_2 0 (PB c)) := by
  intro m
  induction m with
  | zero =>
    intro i hm h
    refine v37_4 _ _ _ _ (condD (fun hc => by omega) fun _ => pb ?_)
    rw [List.drop_eq_nil_of_le (by omega)] at h
    exact h
  | succ m ih =>
    intro i hm h
    have hin : (0 : Int) ≤ (i : Int) ∧ (i : Int) < (l.length : Int) := ⟨by omega, by omega⟩
    rw [dropD l ([], []) i (by omega)] at h
    simp only [largeF] at h
    refine v37_4 _ _ _ _ (condD (fun hc => needJ hin ?_) fun hc => by omega)
    rw [Int.toNat_natCast]
    generalize l.getD i ([], []) = x at h ⊢
    rw [B_size]
    refine condD (fun h1 => pb ?_) fun h1 => needJ hin (condD (fun h2 => pb ?_) fun h2 => ?_)
    · rw [if_pos (by omega)] at h; exact h
    · rw [if_pos (by omega)] at h; exact h
    · rw [if_neg (by omega)] at h
      rw [succ64 (by omega)]
      exact ih (i + 1) (by omega) h

theorem largeD_spec (l : List Ent) (H : List AObj) : ASpec Try.prog 37 [slEn l] H (fun r H' => r = .bool (largeD l) ∧ H' = H) := by
  have k : ASpec Try.prog 37 [slEn l] [] (fun r H' => r = .bool (largeD l) ∧ H' = []) := by
    refine ASpec.sel (s37 _ _ (condD (fun h => pb ?_) fun h => large4 (by omega) l.length 0 (by omega) ?_))
    · rw [largeD, if_pos (by omega)]
    · rw [largeD, if_neg (by omega)]; rfl
  exact ASpec.pureH H k _ _ rfl rfl

theorem largeF_ok : ∀ (l : List Ent), largeF l = false → ∀ x ∈ l, x.1.length ≤ 200 ∧ x.2.length ≤ 9000
  | [], _, n, hn => by simp at hn
  | x :: r, h, n, hn => by
    simp only [largeF] at h
    split at h
    · cases h
    · rcases List.mem_cons.1 hn with rfl | hn
      · omega
      · exact largeF_ok r h n hn

theorem largeD_ok {l : List Ent} (h : largeD l = false) : okD l := by
  unfold largeD at h
  split at h
  · cases h
  · refine ⟨by unfold lim; omega, fun x hx => ?_⟩
    have := largeF_ok l h x hx
    unfold lim; omega

/-! ### which may be -/

theorem check3 {l : List Ent} {c : Bool} (hl : okD l) : ∀ (m i : Nat) (last : List UInt8), m + i = l.length → (depF last (l.drop i) && decide (l.length ≤ 24)) = c →
    AWP Try.prog 34 0 c58_3 [(0, slEn l), (3, .str (B last)), (6, slEn l), (7, .int .i64 l.length), (8, .int .i64 i)] [] (q58_2 0 (PB c)) := by
  obtain ⟨hl1, hl2⟩ := hl
  intro m
  induction m with
  | zero =>
    intro i last hm h
    refine v58_3 _ _ _ _ _ _ (condD (fun hc => by omega) fun _ => pb ?_)
    rw [List.drop_eq_nil_of_le (by omega)] at h
    simp only [depF, Bool.true_and] at h
    rw [show decide ((l.length : Int) ≤ 24) = decide (l.length ≤ 24) from decide_eq_decide.2 (by omega)]
    exact h
  | succ m ih =>
    intro i last hm h
    have hx := hl2 _ (memD l ([], []) i (by omega))
    rw [dropD l ([], []) i (by omega)] at h
    simp only [depF] at h
    refine v58_3 _ _ _ _ _ _ (condD (fun hc => needJ ⟨by omega, by omega⟩ ?_) fun hc => by omega)
    rw [Int.toNat_natCast]
    generalize l.getD i ([], []) = x at h hx ⊢
    have bad : ∀ {H' : List AObj}, (fitM x.1 = false ∨ leB x.1 last = true ∨ 8192 < x.2.length) → PB c (.bool false) H' := by
      intro H' hh
      rw [if_pos hh] at h
      exact pb h
    refine ASpec.call (fit_spec (l := x.1) (by unfold big; unfold lim at hx; omega) _) (Les.refl _) ⟨_, rfl, rfl, condBn (fun h1 => bad (.inl h1)) fun h1 => ?_⟩
    rw [B_toList, B_toList]
    refine condB (fun h2 => bad (.inr (.inl h2))) fun h2 => condD (fun h3 => bad (.inr (.inr (by omega)))) fun h3 => ?_
    have h2' : leB x.1 last = false := h2
    rw [if_neg (by rw [h1, h2']; simp; omega)] at h
    rw [succ64 (by unfold lim at hl1; omega)]
    exact AWP.shape [] [(0, slEn l), (3, .str (B x.1)), (6, slEn l), (7, .int .i64 l.length), (8, .int .i64 (i + 1 : Nat))] [] Sel.none
      ⟨rfl, Le.refl _, rfl, Le.refl _, rfl, Le.refl _, rfl, Le.refl _, rfl, Le.refl _, trivial⟩ (ih (i + 1) x.1 (by omega) h)

theorem check_spec (l : List Ent) (hl : okD l) (H : List AObj) : ASpec Try.prog 58 [slEn l] H (fun r H' => r = .bool (depOk l) ∧ H' = H) :=
  ASpec.pureH H (ASpec.sel (s58 _ _ (check3 hl l.length 0 [] (by omega) rfl))) _ _ rfl rfl

theorem rcheck2 {l : List Ent} {c : Bool} (hl : okD l) : ∀ (m i : Nat) (last : List UInt8), m + i = l.length → (i = 0 → last = []) → (0 < i → last = (l.getD (i - 1) ([], [])).1) → (depF last (l.drop i) && decide (l.length ≤ 24)) = c →
    AWP Try.prog 47 0 c38_2 [(0, slEn l), (3, .int .i64 i)] [] (q38_2 0 (PB c)) := by
  obtain ⟨hl1, hl2⟩ := hl
  intro m
  induction m with
  | zero =>
    intro i last hm _ _ h
    refine v38_2 _ _ _ _ (condD (fun hc => by omega) fun _ => pb ?_)
    rw [List.drop_eq_nil_of_le (by omega)] at h
    simp only [depF, Bool.true_and] at h
    rw [show decide ((l.length : Int) ≤ 24) = decide (l.length ≤ 24) from decide_eq_decide.2 (by omega)]
    exact h
  | succ m ih =>
    intro i last hm h0 he h
    have hin : (0 : Int) ≤ (i : Int) ∧ (i : Int) < (l.length : Int) := ⟨by omega, by omega⟩
    have hx := hl2 _ (memD l ([], []) i (by omega))
    rw [dropD l ([], []) i (by omega)] at h
    simp only [depF] at h
    have hnext : ¬ (fitM (l.getD i ([], [])).1 = false ∨ leB (l.getD i ([], [])).1 last = true ∨ 8192 < (l.getD i ([], [])).2.length) →
        AWP Try.prog 47 0 c38_2 [(0, slEn l), (3, .int .i64 (IntKind.wrap .i64 ((i : Int) + 1)))] [] (q38_2 0 (PB c)) := by
      intro hn
      rw [if_neg hn] at h
      rw [succ64 (by unfold lim at hl1; omega)]
      exact ih (i + 1) _ (by omega) (fun hh => by omega) (fun _ => rfl) h
    have bad : (fitM (l.getD i ([], [])).1 = false ∨ leB (l.getD i ([], [])).1 last = true ∨ 8192 < (l.getD i ([], [])).2.length) → PB c (.bool false) [] := by
      intro hh
      rw [if_pos hh] at h
      exact pb h
    refine v38_2 _ _ _ _ (condD (fun hc => needJ hin ?_) fun hc => by omega)
    rw [Int.toNat_natCast]
    clear h ih
    generalize l.getD i ([], []) = x at hx hnext bad ⊢
    refine ASpec.call (rfit_spec (l := x.1) (by unfold big; unfold lim at hx; omega) _) (Les.refl _) ⟨_, rfl, rfl, condBn (fun h1 => bad (.inl h1)) fun h1 => needJ hin (condD (fun h3 => bad (.inr (.inr (by omega)))) fun h3 => condD (fun h4 => needJ hin ?_) fun h4 => hnext ?_)⟩
    · rw [pred64 (by unfold lim at hl1; omega) (by omega), Int.toNat_natCast]
      refine needJ ⟨by omega, by omega⟩ ?_
      rw [← he (by omega), B_toList, B_toList]
      refine condB (fun h5 => bad (.inr (.inl h5))) fun h5 => hnext ?_
      have h5' : leB x.1 last = false := h5
      rw [h1, h5']; simp; omega
    · rw [h0 (by omega), h1, leB_nil h1]; simp; omega

theorem rcheck_spec (l : List Ent) (hl : okD l) (H : List AObj) : ASpec Try.prog 38 [slEn l] H (fun r H' => r = .bool (depOk l) ∧ H' = H) :=
  ASpec.pureH H (ASpec.sel (s38 _ _ (rcheck2 hl l.length 0 [] (by omega) (fun _ => rfl) (fun h => by omega) rfl))) _ _ rfl rfl

/-! ### looking for a name -/

abbrev Sorted (l : List Ent) : Prop := ∀ i, i < l.length → ∀ j, j < i → Op.bytesLess (l.getD j ([], [])).1 (l.getD i ([], [])).1 = true

theorem cmpf_spec (x : Ent) (s : List UInt8) (H : List AObj) : ASpec Try.prog 279 [.agg (encEn x), .str (B s)] H (fun r H' => r = .int .i64 (Lib.compareBytes x.1 s) ∧ H' = H) := by
  have k : ASpec Try.prog 279 [.agg (encEn x), .str (B s)] [] (fun r H' => r = .int .i64 (Lib.compareBytes x.1 s) ∧ H' = []) :=
    ASpec.sel (s279 _ _ _ (ASpec.call (cmp_spec x.1 s _) (Les.refl _) ⟨_, rfl, rfl, pa (Le.refl _)⟩))
  exact ASpec.pureH H k _ _ rfl rfl

theorem mid64 {i j : Nat} (h : i + j ≤ 10000000) : IntKind.wrap .i64 (Int.fdiv (IntKind.wrap .u64 (IntKind.wrap .i64 ((i : Int) + j))) 2) = (((i + j) / 2 : Nat) : Int) := by
  rw [wrap64 (x := (i : Int) + j) (by omega) (by omega)]
  have e : IntKind.wrap .u64 ((i : Int) + j) = ((i + j : Nat) : Int) := by
    simp only [IntKind.wrap, IntKind.bits, IntKind.signed]
    have e : (2 : Int) ^ 64 = 18446744073709551616 := by decide
    simp only [e, Bool.false_and]
    rw [if_neg (by simp)]
    omega
  rw [e, show Int.fdiv ((i + j : Nat) : Int) 2 = (((i + j) / 2 : Nat) : Int) by rw [Int.fdiv_eq_ediv_of_nonneg _ (by omega)]; omega]
  rw [wrap64 (by omega) (by omega)]

theorem find3 {l : List Ent} {s : List UInt8} (hl : l.length ≤ lim) (hs : Sorted l) : ∀ (m i j : Nat), j - i ≤ m → i ≤ cnt s l → cnt s l ≤ j → j ≤ l.length →
    AWP Try.prog 49 0 c278_3 [(0, slEn l), (1, .str (B s)), (2, .fn 279 []), (8, .int .i64 l.length), (9, .int .i64 i), (10, .int .i64 j)] []
      (q278_2 0 (PA (.tup [.int .i64 (cnt s l : Nat), .bool (decide (cnt s l < l.length ∧ (l.getD (cnt s l) ([], [])).1 = s))]))) := by
  unfold lim at hl
  have done : ∀ i : Nat, i = cnt s l → condP (decide ((i : Int) < (l.length : Int))) (needP (0 ≤ (i : Int) ∧ (i : Int) < (l.length : Int)) (ASpec Try.prog 279 [.agg (encEn (l.getD (i : Int).toNat ([], []))), .str (B s)] []
      (fun r H' => ∃ x : Int, r = .int .i64 x ∧ H' = [] ∧ PA (.tup [.int .i64 (cnt s l : Nat), .bool (decide (cnt s l < l.length ∧ (l.getD (cnt s l) ([], [])).1 = s))]) (.tup [.int .i64 i, .bool (x == 0)]) [])))
      (PA (.tup [.int .i64 (cnt s l : Nat), .bool (decide (cnt s l < l.length ∧ (l.getD (cnt s l) ([], [])).1 = s))]) (.tup [.int .i64 i, .bool false]) []) := by
    rintro i rfl
    refine condD (fun h => needJ ⟨by omega, h⟩ ?_) fun h => ?_
    · rw [Int.toNat_natCast]
      refine ASpec.call (cmpf_spec _ s _) (Les.refl _) ⟨_, rfl, rfl, pa ?_⟩
      have e : (Lib.compareBytes (l.getD (cnt s l) ([], [])).1 s == 0) = decide (cnt s l < l.length ∧ (l.getD (cnt s l) ([], [])).1 = s) := by
        rw [Bool.eq_iff_iff, beq_iff_eq, cmp_zero, decide_eq_true_iff]
        exact ⟨fun h2 => ⟨by omega, h2⟩, fun h2 => h2.2⟩
      rw [e]; exact Le.refl _
    · rw [show decide (cnt s l < l.length ∧ (l.getD (cnt s l) ([], [])).1 = s) = false from decide_eq_false (fun h2 => h (by omega))]
      exact pa (Le.refl _)
  intro m
  induction m with
  | zero =>
    intro i j h1 h2 h3 h4
    exact v278_3 _ _ _ _ _ _ _ (condD (fun hc => by omega) fun _ => done i (by omega))
  | succ m ih =>
    intro i j h1 h2 h3 h4
    refine v278_3 _ _ _ _ _ _ _ (condD (fun hc => needJ (by omega) ?_) fun _ => done i (by omega))
    rw [mid64 (by omega)]
    have hm1 : i ≤ (i + j) / 2 := by omega
    have hm2 : (i + j) / 2 < j := by omega
    refine needJ ⟨by omega, by omega⟩ ?_
    generalize (i + j) / 2 = h at hm1 hm2 ⊢
    rw [Int.toNat_natCast]
    refine ASpec.call (cmpf_spec _ s _) (Les.refl _) ⟨_, rfl, rfl, condD (fun hc => ?_) fun hc => ?_⟩
    · rw [cmp_less] at hc
      rw [succ64 (by omega)]
      refine ih (h + 1) j (by omega) ?_ h3 h4
      rcases Nat.lt_or_ge h (cnt s l) with hk | hk
      · omega
      · rw [cnt_ge hs hk (by omega)] at hc; cases hc
    · rw [cmp_less] at hc
      refine ih i h (by omega) h2 ?_ (by omega)
      rcases Nat.lt_or_ge h (cnt s l) with hk | hk
      · exact (hc (cnt_lt s l h hk)).elim
      · exact hk

theorem find_spec (l : List Ent) (s : List UInt8) (hl : l.length ≤ lim) (hs : Sorted l) (H : List AObj) :
    ASpec Try.prog 183 [slEn l, .str (B s)] H (fun r H' => r = .tup [.int .i64 (cnt s l : Nat), .bool (decide (cnt s l < l.length ∧ (l.getD (cnt s l) ([], [])).1 = s))] ∧ H' = H) := by
  have k : ASpec Try.prog 183 [slEn l, .str (B s)] [] (fun r H' => r = .tup [.int .i64 (cnt s l : Nat), .bool (decide (cnt s l < l.length ∧ (l.getD (cnt s l) ([], [])).1 = s))] ∧ H' = []) := by
    have k2 : ASpec Try.prog 278 [slEn l, .str (B s), .fn 279 []] [] (fun r H' => r = .tup [.int .i64 (cnt s l : Nat), .bool (decide (cnt s l < l.length ∧ (l.getD (cnt s l) ([], [])).1 = s))] ∧ H' = []) :=
      ASpec.sel (s278 _ _ _ (find3 hl hs l.length 0 l.length (by omega) (by omega) (cnt_le s l) (by omega)))
    exact s183 _ _ _ (ASpec.call k2 (Les.refl _) ⟨(((cnt s l : Nat) : Int), _), rfl, rfl, rfl, rfl⟩)
  exact ASpec.pureH H k _ _ rfl rfl

theorem leBt {ρ : Nat → Nat} : Le (.sl 0 (.raw []) .nil) (AV.ren ρ (sl1 [])) := Le.sl (s' := Seq.ren ρ (.map encB 0 [])) rfl (.inr ⟨rfl, fun _ h => by cases h⟩) (.inr rfl)
theorem leR0 : Le (.sl 0 (.raw []) .nil) (slR []) := Le.sl rfl (.inr ⟨rfl, fun _ h => by cases h⟩) (.inr rfl)

theorem cloneB_spec (b : List UInt8) (hb : b.length ≤ lim) (H : List AObj) : ASpec Try.prog 166 [sl1 b] H (fun r H' => r = sl1 b ∧ H' = H) := by
  unfold lim at hb
  have k : ASpec Try.prog 166 [sl1 b] [] (fun r H' => r = sl1 b ∧ H' = []) := by
    refine ASpec.sel (s166 _ _ fun c hc => condB (fun h => pa ?_) fun h => needJ (fun x => rfl) (needJ (by omega) (pa ?_)))
    · have := hc h
      simp only [Ab.Seq.toList, List.map_eq_nil_iff] at this
      subst this
      exact leBt
    · exact sealLe _ (by simp [Ab.Seq.toList])
  exact ASpec.pureH H k _ _ rfl rfl

/-! ### bodies and manifests -/

def bodyM (l : List Ent) (s : List UInt8) : List UInt8 := match getE s l with
  | some b => b
  | none => putMan (s, [])
def readB (s b : List UInt8) : Mani × Bool := if (readM b).2 ≠ 0 ∨ (readM b).1.1 ≠ s then ((s, []), false) else ((readM b).1, true)
def manM (l : List Ent) (s : List UInt8) : Mani × Bool := readB s (bodyM l s)

theorem okM0 {s : List UInt8} (h : s.length ≤ lim) : okM (s, []) := ⟨h, by simp, fun r hr => by simp at hr⟩

theorem getE_mem {s b : List UInt8} : ∀ {l : List Ent}, getE s l = some b → ∃ x ∈ l, x.1 = s ∧ x.2 = b
  | [], h => by cases h
  | x :: r, h => by
    simp only [getE] at h
    split at h
    · rename_i e; cases h; exact ⟨x, by simp, e, rfl⟩
    · obtain ⟨y, h1, h2⟩ := getE_mem h
      exact ⟨y, by simp [h1], h2⟩

theorem putMan_len (m : Mani) : (putMan m).length ≤ 5316 := by
  unfold putMan
  split
  · rename_i h; exact W.maniB_len h
  · simp

theorem bodyM_len {l : List Ent} (hl : okD l) (s : List UInt8) : (bodyM l s).length ≤ lim := by
  unfold bodyM
  split
  · rename_i b h
    obtain ⟨x, h1, h2, rfl⟩ := getE_mem h
    exact (hl.2 x h1).2
  · have := putMan_len (s, [])
    unfold lim; omega

theorem body_spec (l : List Ent) (s : List UInt8) (hl : okD l) (hs : Sorted l) (hn : s.length ≤ lim) (H : List AObj) : ASpec Try.prog 61 [slEn l, .str (B s)] H (fun r H' => r = sl1 (bodyM l s) ∧ H' = H) := by
  have k : ASpec Try.prog 61 [slEn l, .str (B s)] [] (fun r H' => r = sl1 (bodyM l s) ∧ H' = []) := by
    obtain ⟨g1, g2⟩ := getE_at (nm := s) hs
    refine s61 _ _ _ (ASpec.call (find_spec l s hl.1 hs _) (Les.refl _) ⟨(((cnt s l : Nat) : Int), _), rfl, rfl, condD (fun h => needJ ⟨by omega, by omega⟩ ?_) fun h => ?_⟩)
    · rw [Int.toNat_natCast]
      have hx := hl.2 _ (memD l ([], []) (cnt s l) h.1)
      refine ASpec.call (cloneB_spec _ hx.2 _) (Les.refl _) ⟨_, rfl, rfl, ?_, rfl⟩
      rw [bodyM, g1 h]
    · refine ASpec.call (W.put_spec (s, []) (okM0 hn) _) ⟨Le.agg ⟨Le.refl _, leR0, trivial⟩, trivial⟩ ⟨_, rfl, rfl, ?_, rfl⟩
      rw [bodyM, g2 h]
  exact ASpec.pureH H k _ _ rfl rfl

abbrev PMB (v : Mani × Bool) : AV → List AObj → Prop := PA (.tup [.agg (encM v.1), .bool v.2])
theorem pmNone {v : Mani × Bool} {s : List UInt8} {H' : List AObj} (h : v = ((s, []), false)) : PMB v (.tup [.agg [.str (B s), .sl 0 (.raw []) .nil], .bool false]) H' := by
  subst h
  exact pa (Le.tup ⟨Le.agg ⟨Le.refl _, Le.sl (s' := Seq.ren _ (.map T.encR (0, []) [])) rfl (.inr ⟨rfl, fun _ h => by cases h⟩) (.inr rfl), trivial⟩, Le.refl _, trivial⟩)
theorem pmSome {v : Mani × Bool} {m : Mani} {H' : List AObj} (h : v = (m, true)) : PMB v (.tup [.agg (encM m), .bool true]) H' := by
  subst h
  exact pa (Le.refl _)

theorem man_spec (l : List Ent) (s : List UInt8) (hl : okD l) (hs : Sorted l) (hn : s.length ≤ lim) (H : List AObj) : ASpec Try.prog 59 [slEn l, .str (B s)] H (fun r H' => r = .tup [.agg (encM (manM l s).1), .bool (manM l s).2] ∧ H' = H) := by
  have k : ASpec Try.prog 59 [slEn l, .str (B s)] [] (fun r H' => r = .tup [.agg (encM (manM l s).1), .bool (manM l s).2] ∧ H' = []) := by
    have hb := bodyM_len hl s
    unfold lim at hb
    refine ASpec.sel (s59 _ _ _ (ASpec.call (body_spec l s hl hs hn _) (Les.refl _) ⟨_, rfl, rfl, ?_⟩))
    refine ASpec.call (W.read_spec (bodyM l s) hb _) (Les.refl _) ⟨((readM (bodyM l s)).1, (readM (bodyM l s)).2), rfl, rfl, condNe (fun h => pmNone ?_) fun h => condSn (fun h2 => pmNone ?_) fun h2 => pmSome ?_⟩
    · rw [manM, readB, if_pos (.inl h)]
    · rw [manM, readB, if_pos (.inr h2)]
    · rw [manM, readB, if_neg (by rintro (h3 | h3); exact h3 h; exact h3 h2)]
  exact ASpec.pureH H k _ _ rfl rfl

def brokenF (D : List Ent) : List Ent → List (List UInt8)
  | [] => []
  | x :: r => if (manM D x.1).2 = false then x.1 :: brokenF D r else brokenF D r
def brokenM (l : List Ent) : List (List UInt8) := brokenF l l

theorem renLb (ρ : Nat → Nat) (x : List UInt8) : renL ρ (encL x) = encL x := rfl

theorem broken3 {l : List Ent} (hl : okD l) (hs : Sorted l) {R : List (List UInt8)} : ∀ (m i : Nat) (acc : List (List UInt8)), m + i = l.length → acc.length ≤ i → acc ++ brokenF l (l.drop i) = R →
    AWP Try.prog 30 0 c64_3 [(0, slEn l), (3, .sl 1 (.map encL [] acc) (.tok 0)), (8, slEn l), (9, .int .i64 l.length), (10, .int .i64 i)] [.tok] (q64_2 0 (PA (slL R))) := by
  have hl1 := hl.1
  unfold lim at hl1
  intro m
  induction m with
  | zero =>
    intro i acc hm ha h
    refine v64_3 _ _ _ _ _ _ (condD (fun hc => by omega) fun _ => pa ?_)
    rw [List.drop_eq_nil_of_le (by omega)] at h
    simp only [brokenF, List.append_nil] at h
    subst h
    exact leNone renLb
  | succ m ih =>
    intro i acc hm ha h
    have hx := hl.2 _ (memD l ([], []) i (by omega))
    rw [dropD l ([], []) i (by omega)] at h
    simp only [brokenF] at h
    refine v64_3 _ _ _ _ _ _ (condD (fun hc => needJ ⟨by omega, by omega⟩ ?_) fun hc => by omega)
    rw [Int.toNat_natCast]
    generalize l.getD i ([], []) = x at h hx ⊢
    refine ASpec.call (man_spec l x.1 hl hs hx.1 _) (Les.refl _) ⟨((manM l x.1).1, (manM l x.1).2), rfl, rfl, condBn (fun h1 => needJ (by omega) ?_) fun h1 => ?_⟩
    · simp only at h1
      rw [if_pos h1] at h
      rw [succ64 (by omega)]
      refine AWP.shape [3] [(0, slEn l), (3, .sl 1 (.map encL [] (acc ++ [x.1])) (.tok 0)), (8, slEn l), (9, .int .i64 l.length), (10, .int .i64 (i + 1 : Nat))] [.tok] (Sel.one 3 rfl rfl)
        ⟨rfl, Le.refl _, rfl, ?_, rfl, Le.refl _, rfl, Le.refl _, rfl, Le.refl _, trivial⟩ (ih (i + 1) _ (by omega) (by simp; omega) (by rw [← h]; simp))
      exact W.leAppT renLb rfl rfl
    · simp only at h1
      rw [if_neg (by rw [h1]; simp)] at h
      rw [succ64 (by omega)]
      exact AWP.shape [0] [(0, slEn l), (3, .sl 1 (.map encL [] acc) (.tok 0)), (8, slEn l), (9, .int .i64 l.length), (10, .int .i64 (i + 1 : Nat))] [.tok] (Sel.one 0 rfl rfl)
        ⟨rfl, Le.refl _, rfl, Le.refl _, rfl, Le.refl _, rfl, Le.refl _, rfl, Le.refl _, trivial⟩ (ih (i + 1) _ (by omega) (by omega) h)

theorem broken_spec (l : List Ent) (hl : okD l) (hs : Sorted l) (H : List AObj) : ASpec Try.prog 64 [slEn l] H (fun r H' => r = slL (brokenM l) ∧ H' = H) := by
  have k : ASpec Try.prog 64 [slEn l] [] (fun r H' => r = slL (brokenM l) ∧ H' = []) := by
    refine ASpec.sel (s64 _ _ ?_)
    refine AWP.re (ReSt.tok (H := []) (k := 3) (q' := .map encL [] []) (sz' := 1) (s2 := [(0, slEn l), (3, .sl 1 (.map encL [] []) (.tok 0)), (8, slEn l), (9, .int .i64 l.length), (10, .int .i64 (0 : Nat))]) rfl (.inl rfl) rfl (.inr rfl) (fun d hd => ?_) rfl) ?_
    · simp only [Ab.get]
      have e : Nat.beq 3 d = false := by
        cases hx : Nat.beq 3 d with
        | false => rfl
        | true => exact absurd (Nat.eq_of_beq_eq_true hx).symm hd
      rw [e]; rfl
    · exact broken3 hl hs l.length 0 [] (by omega) (by simp) rfl
  exact ASpec.pureH H k _ _ rfl rfl

/-! ### the document's -/

theorem rbody2 {l : List Ent} {s : List UInt8} (hl : okD l) (hn : s.length ≤ lim) {R : List UInt8} : ∀ (m i : Nat), m + i = l.length → bodyM (l.drop i) s = R →
    AWP Try.prog 28 0 c47_2 [(0, slEn l), (1, .str (B s)), (5, .int .i64 i)] [] (q47_2 0 (PA (.str (B R)))) := by
  have hl1 := hl.1
  unfold lim at hl1
  intro m
  induction m with
  | zero =>
    intro i hm h
    refine v47_2 _ _ _ _ _ (condD (fun hc => by omega) fun _ => ?_)
    rw [List.drop_eq_nil_of_le (by omega)] at h
    refine ASpec.call (W.rput_spec (s, []) (okM0 hn) _) ⟨Le.agg ⟨Le.refl _, leR0, trivial⟩, trivial⟩ ⟨_, rfl, rfl, pa ?_⟩
    rw [← h]; exact Le.refl _
  | succ m ih =>
    intro i hm h
    have hin : (0 : Int) ≤ (i : Int) ∧ (i : Int) < (l.length : Int) := ⟨by omega, by omega⟩
    rw [dropD l ([], []) i (by omega)] at h
    refine v47_2 _ _ _ _ _ (condD (fun hc => needJ hin ?_) fun hc => by omega)
    rw [Int.toNat_natCast]
    generalize l.getD i ([], []) = x at h ⊢
    simp only [bodyM, getE] at h
    refine condS (fun h1 => needJ hin (needJ (allBytes_map _) (pa ?_))) fun h1 => ?_
    · rw [if_pos h1] at h
      have h : x.2 = R := h
      rw [bytesOf_map, h]; exact Le.refl _
    · rw [if_neg h1] at h
      rw [succ64 (by omega)]
      exact ih (i + 1) (by omega) h

theorem rbody_spec (l : List Ent) (s : List UInt8) (hl : okD l) (hn : s.length ≤ lim) (H : List AObj) : ASpec Try.prog 47 [slEn l, .str (B s)] H (fun r H' => r = .str (B (bodyM l s)) ∧ H' = H) :=
  ASpec.pureH (r0 := .str (B (bodyM l s))) H (ASpec.sel (s47 _ _ _ (rbody2 hl hn l.length 0 (by omega) rfl))) _ _ rfl rfl

theorem rread_spec (s b : List UInt8) (hb : b.length ≤ 1000000) (H : List AObj) : ASpec Try.prog 182 [.str (B s), .str (B b)] H (fun r H' => r = .tup [.agg (encM (readB s b).1), .bool (readB s b).2] ∧ H' = H) := by
  have k : ASpec Try.prog 182 [.str (B s), .str (B b)] [] (fun r H' => r = .tup [.agg (encM (readB s b).1), .bool (readB s b).2] ∧ H' = []) := by
    refine ASpec.sel (s182 _ _ _ (ASpec.call (W.rread_spec b hb _) (Les.refl _) ⟨((readM b).1, (readM b).2), rfl, rfl, condNe (fun h => pmNone ?_) fun h => condSn (fun h2 => pmNone ?_) fun h2 => pmSome ?_⟩))
    · rw [readB, if_pos (.inl h)]
    · rw [readB, if_pos (.inr h2)]
    · rw [readB, if_neg (by rintro (h3 | h3); exact h3 h; exact h3 h2)]
  exact ASpec.pureH H k _ _ rfl rfl

theorem rman_spec (l : List Ent) (s : List UInt8) (hl : okD l) (hn : s.length ≤ lim) (H : List AObj) : ASpec Try.prog 60 [slEn l, .str (B s)] H (fun r H' => r = .tup [.agg (encM (manM l s).1), .bool (manM l s).2] ∧ H' = H) := by
  have k : ASpec Try.prog 60 [slEn l, .str (B s)] [] (fun r H' => r = .tup [.agg (encM (manM l s).1), .bool (manM l s).2] ∧ H' = []) := by
    have hb := bodyM_len hl s
    unfold lim at hb
    refine ASpec.sel (s60 _ _ _ (ASpec.call (rbody_spec l s hl hn _) (Les.refl _) ⟨_, rfl, rfl, ?_⟩))
    exact ASpec.call (rread_spec s (bodyM l s) hb _) (Les.refl _) ⟨((manM l s).1, (manM l s).2), rfl, rfl, pa (Le.refl _)⟩
  exact ASpec.pureH H k _ _ rfl rfl

theorem rbroken3 {l : List Ent} (hl : okD l) {R : List (List UInt8)} : ∀ (m i : Nat) (acc : List (List UInt8)), m + i = l.length → acc.length ≤ i → acc ++ brokenF l (l.drop i) = R →
    AWP Try.prog 34 0 c65_3 [(0, slEn l), (3, .sl 1 (.map encL [] acc) (.tok 0)), (4, .int .i64 i)] [.tok] (q65_2 0 (PA (slL R))) := by
  have hl1 := hl.1
  unfold lim at hl1
  intro m
  induction m with
  | zero =>
    intro i acc hm ha h
    refine v65_3 _ _ _ _ _ (condD (fun hc => by omega) fun _ => pa ?_)
    rw [List.drop_eq_nil_of_le (by omega)] at h
    simp only [brokenF, List.append_nil] at h
    subst h
    exact leNone renLb
  | succ m ih =>
    intro i acc hm ha h
    have hin : (0 : Int) ≤ (i : Int) ∧ (i : Int) < (l.length : Int) := ⟨by omega, by omega⟩
    have hx := hl.2 _ (memD l ([], []) i (by omega))
    rw [dropD l ([], []) i (by omega)] at h
    simp only [brokenF] at h
    refine v65_3 _ _ _ _ _ (condD (fun hc => needJ hin ?_) fun hc => by omega)
    rw [Int.toNat_natCast]
    generalize l.getD i ([], []) = x at h hx ⊢
    refine ASpec.call (rman_spec l x.1 hl hx.1 _) (Les.refl _) ⟨((manM l x.1).1, (manM l x.1).2), rfl, rfl, condBn (fun h1 => needJ hin (needJ (by omega) ?_)) fun h1 => ?_⟩
    · simp only at h1
      rw [if_pos h1] at h
      rw [succ64 (by omega)]
      refine AWP.shape [2] [(0, slEn l), (3, .sl 1 (.map encL [] (acc ++ [x.1])) (.tok 0)), (4, .int .i64 (i + 1 : Nat))] [.tok] (Sel.one 2 rfl rfl)
        ⟨rfl, Le.refl _, rfl, ?_, rfl, Le.refl _, trivial⟩ (ih (i + 1) _ (by omega) (by simp; omega) (by rw [← h]; simp))
      exact W.leAppT renLb rfl rfl
    · simp only at h1
      rw [if_neg (by rw [h1]; simp)] at h
      rw [succ64 (by omega)]
      exact AWP.shape [0] [(0, slEn l), (3, .sl 1 (.map encL [] acc) (.tok 0)), (4, .int .i64 (i + 1 : Nat))] [.tok] (Sel.one 0 rfl rfl)
        ⟨rfl, Le.refl _, rfl, Le.refl _, rfl, Le.refl _, trivial⟩ (ih (i + 1) _ (by omega) (by omega) h)

theorem rbroken_spec (l : List Ent) (hl : okD l) (H : List AObj) : ASpec Try.prog 65 [slEn l] H (fun r H' => r = slL (brokenM l) ∧ H' = H) := by
  have k : ASpec Try.prog 65 [slEn l] [] (fun r H' => r = slL (brokenM l) ∧ H' = []) := by
    refine ASpec.sel (s65 _ _ ?_)
    refine AWP.re (ReSt.tok (H := []) (k := 3) (q' := .map encL [] []) (sz' := 1) (s2 := [(0, slEn l), (3, .sl 1 (.map encL [] []) (.tok 0)), (4, .int .i64 (0 : Nat))]) rfl (.inl rfl) rfl (.inr rfl) (fun d hd => ?_) rfl) ?_
    · simp only [Ab.get]
      have e : Nat.beq 3 d = false := by
        cases hx : Nat.beq 3 d with
        | false => rfl
        | true => exact absurd (Nat.eq_of_beq_eq_true hx).symm hd
      rw [e]; rfl
    · exact rbroken3 hl l.length 0 [] (by omega) (by simp) rfl
  exact ASpec.pureH H k _ _ rfl rfl

theorem names4 {a b : List (List UInt8)} {c : Bool} (hl : a.length ≤ lim) (he : a.length = b.length) : ∀ (m i : Nat), m + i = a.length → decide (a.drop i = b.drop i) = c →
    AWP Try.prog 26 0 c63_4 [(0, slL a), (1, slL b), (5, .int .i64 i)] [] (q63_2 0 (PB c)) := by
  unfold lim at hl
  intro m
  induction m with
  | zero =>
    intro i hm h
    refine v63_4 _ _ _ _ _ (condD (fun hc => by omega) fun _ => pb ?_)
    rw [List.drop_eq_nil_of_le (by omega), List.drop_eq_nil_of_le (by omega)] at h
    rw [← h]; simp
  | succ m ih =>
    intro i hm h
    rw [dropD a [] i (by omega), dropD b [] i (by omega), cons_dec] at h
    refine v63_4 _ _ _ _ _ (condD (fun hc => needJ ⟨by omega, by omega⟩ (needJ ⟨by omega, by omega⟩ ?_)) fun hc => by omega)
    rw [Int.toNat_natCast]
    generalize a.getD i [] = x at h ⊢
    generalize b.getD i [] = y at h ⊢
    refine condSn (fun h1 => pb ?_) fun h1 => ?_
    · rw [decide_eq_false h1, Bool.false_and] at h; exact h
    · rw [decide_eq_true h1, Bool.true_and] at h
      rw [succ64 (by omega)]
      exact ih (i + 1) (by omega) h

theorem names_spec (a b : List (List UInt8)) (hl : a.length ≤ lim) (H : List AObj) : ASpec Try.prog 63 [slL a, slL b] H (fun r H' => r = .bool (decide (a = b)) ∧ H' = H) := by
  have k : ASpec Try.prog 63 [slL a, slL b] [] (fun r H' => r = .bool (decide (a = b)) ∧ H' = []) := by
    refine ASpec.sel (s63 _ _ _ (condNe (fun h => pb ?_) fun h => names4 hl (by omega) a.length 0 (by omega) rfl))
    symm
    rw [decide_eq_false]
    rintro rfl; exact h rfl
  exact ASpec.pureH H k _ _ rfl rfl

/-! ### the examples -/

theorem sortedNil : Sorted [] := fun i h => by simp at h
theorem okD0 : okD [] := ⟨by simp, fun x hx => by simp at hx⟩
theorem leD0 : Le (.sl 0 (.raw []) .nil) (slEn []) := Le.sl rfl (.inr ⟨rfl, fun _ h => by cases h⟩) (.inr rfl)

theorem awake_spec (H : List AObj) : ASpec Try.prog 57 [] H (fun r H' => r = .bool true ∧ H' = H) := by
  have k : ASpec Try.prog 57 [] [] (fun r H' => r = .bool true ∧ H' = []) := by
    have hok : manOk (([97], []) : Mani) = true := by decide +kernel
    have e1 : bodyM [] [97] = [1, 97, 0] := by
      have : putMan (([97], []) : Mani) = [1, 97, 0] := by decide +kernel
      exact this
    have e2 : manM [] [97] = (([97], []), true) := by
      have h := read_put hok
      have h2 : putMan (([97], []) : Mani) = W.maniB ([97], []) := by rw [putMan, if_pos hok]
      have h3 : bodyM [] [97] = W.maniB ([97], []) := h2
      rw [manM, readB, h3, h]; simp
    refine ASpec.sel (s57 _ (ASpec.call (man_spec [] [97] okD0 sortedNil (by unfold lim; simp) _) ⟨leD0, Le.refl _, trivial⟩ ⟨((manM [] [97]).1, (manM [] [97]).2), rfl, rfl, ?_⟩))
    refine ASpec.call (body_spec [] [97] okD0 sortedNil (by unfold lim; simp) _) ⟨leD0, Le.refl _, trivial⟩ ⟨_, rfl, rfl, needJ (allBytes_map _) ?_⟩
    rw [bytesOf_map, e1, e2]
    refine condS (b := [1, 97, 0]) (fun _ => ?_) fun h => (h rfl).elim
    refine condS (b := [97]) (fun _ => condE (fun _ => pb rfl) fun h => (h rfl).elim) fun h => (h rfl).elim
  exact ASpec.pureH H k _ _ rfl rfl

/-! ### the law -/

theorem brokenF_len (D : List Ent) : ∀ l : List Ent, (brokenF D l).length ≤ l.length
  | [] => Nat.le_refl _
  | x :: r => by
    simp only [brokenF]
    split
    · have := brokenF_len D r; simp; omega
    · have := brokenF_len D r; simp; omega

theorem readB_ok (s b : List UInt8) (hs : s.length ≤ lim) : okM (readB s b).1 := by
  unfold readB
  split
  · exact okM0 hs
  · exact W.readM_ok b

theorem depotTells_spec (l : List Ent) (s : List UInt8) : ASpec Try.prog 7 [slEn l, .str (B s)] [] (fun r H' => r = .bool true ∧ H' = []) := by
  refine ASpec.sel ?_
  show ASpec Try.prog 7 [slEn l, .str (B s)] [] (PB true)
  refine s7 _ _ _ (ASpec.call (largeD_spec l _) (Les.refl _) ⟨_, rfl, rfl, condB (fun _ => ASpec.call (awake_spec _) (Les.refl _) ⟨(), rfl, rfl, pb rfl⟩) fun hlg => condD (fun _ => ASpec.call (awake_spec _) (Les.refl _) ⟨(), rfl, rfl, pb rfl⟩) fun h1 => ?_⟩)
  rw [B_size] at h1
  have hl := largeD_ok hlg
  have hn : s.length ≤ lim := by unfold lim; omega
  refine ASpec.call (check_spec l hl _) (Les.refl _) ⟨_, rfl, rfl, ?_⟩
  refine ASpec.call (rcheck_spec l hl _) (Les.refl _) ⟨_, rfl, rfl, condNq (fun h => (h rfl).elim) fun _ => ?_⟩
  refine ASpec.call (rcheck_spec l hl _) (Les.refl _) ⟨_, rfl, rfl, condBn (fun _ => ASpec.call (awake_spec _) (Les.refl _) ⟨(), rfl, rfl, pb rfl⟩) fun hok => ?_⟩
  have hs : Sorted l := fun i hi => ((depOk_ok hok).2 i hi).2.2
  refine ASpec.call (rfit_spec (l := s) (by unfold big; omega) _) (Les.refl _) ⟨_, rfl, rfl, condBn (fun _ => ASpec.call (awake_spec _) (Les.refl _) ⟨(), rfl, rfl, pb rfl⟩) fun _ => ?_⟩
  refine ASpec.call (man_spec l s hl hs hn _) (Les.refl _) ⟨((manM l s).1, (manM l s).2), rfl, rfl, ?_⟩
  refine ASpec.call (rman_spec l s hl hn _) (Les.refl _) ⟨((manM l s).1, (manM l s).2), rfl, rfl, ?_⟩
  refine ASpec.call (body_spec l s hl hs hn _) (Les.refl _) ⟨_, rfl, rfl, needJ (allBytes_map _) ?_⟩
  refine ASpec.call (rbody_spec l s hl hn _) (Les.refl _) ⟨_, rfl, rfl, ?_⟩
  rw [bytesOf_map]
  refine condS (fun _ => ?_) fun h => (h rfl).elim
  refine ASpec.call (W.sameM_spec (manM l s).1 (manM l s).1 (readB_ok _ _ hn) _) (Les.refl _) ⟨_, rfl, rfl, condB (fun _ => condQ (fun _ => ?_) fun h => (h rfl).elim) fun h => by simp at h⟩
  refine ASpec.call (broken_spec l hl hs _) (Les.refl _) ⟨_, rfl, rfl, ?_⟩
  refine ASpec.call (rbroken_spec l hl _) (Les.refl _) ⟨_, rfl, rfl, ?_⟩
  refine ASpec.call (names_spec (brokenM l) (brokenM l) (Nat.le_trans (brokenF_len l l) hl.1) _) (Les.refl _) ⟨_, rfl, rfl, condB (fun _ => ASpec.call (awake_spec _) (Les.refl _) ⟨(), rfl, rfl, pb rfl⟩) fun h => by simp at h⟩
end Dp
end

section
/- SealPacks: the bytes of any reply, and the reply of any bytes, are the document's: the law's function returns true. -/

set_option linter.unusedVariables false
set_option linter.unusedSimpArgs false
set_option maxRecDepth 100000
open Go Go.Ab Go.Proofs V
namespace S

def txt (s : List UInt8) : List UInt8 := enc (held s.length) ++ s
def packM (s body : List UInt8) : List UInt8 := if fitM s = true ∧ body.length ≤ 8192 then sealM (txt s ++ txt body) else []

theorem txt_len (s : List UInt8) : (txt s).length ≤ s.length + 6 := by
  have := enc_length (held s.length) (held_le _)
  simp [txt]; omega

def takeM (x : List UInt8) : List UInt8 × List UInt8 × Int :=
  if closeM (strM x (strM x 0 0 24).2.1 (strM x 0 0 24).2.2 8192).2.2 (x.length - (strM x (strM x 0 0 24).2.1 (strM x 0 0 24).2.2 8192).2.1) ≠ 0 then
    ([], [], closeM (strM x (strM x 0 0 24).2.1 (strM x 0 0 24).2.2 8192).2.2 (x.length - (strM x (strM x 0 0 24).2.1 (strM x 0 0 24).2.2 8192).2.1))
  else if fitM (strM x 0 0 24).1 = true then ((strM x 0 0 24).1, (strM x (strM x 0 0 24).2.1 (strM x 0 0 24).2.2 8192).1, 0) else ([], [], 3)

def sOpenM (b : List UInt8) : List UInt8 × List UInt8 × Int := if (openM b).2 = true then takeM (openM b).1 else ([], [], 8)

theorem pack_spec (s body : List UInt8) (hs : s.length ≤ 10000) (hb : body.length ≤ 1000000) (H : List AObj) :
    ASpec Try.prog 262 [.str (B s), .sl 1 (.map encB 0 body) .none] H (fun r H' => r = .sl 1 (.map encB 0 (packM s body)) .none ∧ H' = H) := by
  have k : ASpec Try.prog 262 [.str (B s), .sl 1 (.map encB 0 body) .none] [] (fun r H' => r = .sl 1 (.map encB 0 (packM s body)) .none ∧ H' = []) := by
    have hno : ∀ (h : ¬ (fitM s = true ∧ body.length ≤ 8192)), ∃ l H2 r2, Sel 0 l [] H2 ∧ Le (.sl 0 (.raw []) .nil) (AV.ren (selR l 0) r2) ∧ r2 = .sl 1 (.map encB 0 (packM s body)) .none ∧ H2 = [] := by
      intro h
      refine ⟨[], [], .sl 1 (.map encB 0 (packM s body)) .none, Sel.none, ?_, rfl, rfl⟩
      rw [packM, if_neg h]
      exact Le.sl (s' := Seq.ren _ (.map encB 0 [])) rfl (.inr ⟨rfl, fun _ h => by cases h⟩) (.inr rfl)
    have ht := txt_len s
    refine ASpec.sel (s262 _ _ _ (ASpec.call (fit_spec (by unfold big; omega) []) (Les.refl _) ⟨_, rfl, rfl, condBn (fun hf => hno (by rw [hf]; simp)) fun hf => condD (fun hg => hno (by omega)) fun hg => needJ (allBytes_map _) ?_⟩))
    rw [bytesOf_map]
    refine ASpec.call (text_spec [] s (by unfold big; simp; omega) []) ⟨leNil, Le.refl _, trivial⟩ ⟨_, rfl, rfl, ?_⟩
    have e : ([] : List UInt8) ++ enc (held s.length) ++ s = txt s := by simp [txt]
    rw [e]
    refine ASpec.call (text_spec (txt s) body (by unfold big; omega) [.tok]) ⟨Le.sl rfl (.inl rfl) (.inr rfl), Le.refl _, trivial⟩ ⟨_, rfl, rfl, ?_⟩
    have e2 : txt s ++ enc (held body.length) ++ body = txt s ++ txt body := by simp [txt]
    rw [e2]
    have ht2 := txt_len body
    refine ASpec.call (seal_spec (txt s ++ txt body) (by unfold big; simp; omega) [.tok, .tok]) ⟨Le.sl rfl (.inl rfl) (.inr rfl), trivial⟩ ⟨_, rfl, rfl, [], [], .sl 1 (.map encB 0 (packM s body)) .none, Sel.none, ?_, rfl, rfl⟩
    rw [packM, if_pos ⟨hf, by omega⟩]
    exact sealLe _ rfl
  exact ASpec.pureH H k _ _ rfl rfl

theorem rpack_spec (s body : List UInt8) (hs : s.length ≤ 10000) (hb : body.length ≤ 1000000) (H : List AObj) :
    ASpec Try.prog 325 [.str (B s), .str (B body)] H (fun r H' => r = .str (B (packM s body)) ∧ H' = H) := by
  have k : ASpec Try.prog 325 [.str (B s), .str (B body)] [] (fun r H' => r = .str (B (packM s body)) ∧ H' = []) := by
    have ht := txt_len s
    have ht2 := txt_len body
    have hno : ∀ (h : ¬ (fitM s = true ∧ body.length ≤ 8192)), B [] = B (packM s body) := by
      intro h; rw [packM, if_neg h]
    refine s325 _ _ _ (ASpec.call (rfit_spec (by unfold big; omega) []) (Les.refl _) ⟨_, rfl, rfl, condBn (fun hf => ⟨by rw [← hno (by rw [hf]; simp)], rfl⟩) fun hf => condD (fun hg => ⟨by rw [← hno (by rw [B_size] at hg; omega)], rfl⟩) fun hg => ?_⟩)
    rw [B_size] at hg
    refine ASpec.call (rtext_spec s (by unfold big; omega) []) (Les.refl _) ⟨_, rfl, rfl, ?_⟩
    refine ASpec.call (rtext_spec body (by unfold big; omega) []) (Les.refl _) ⟨_, rfl, rfl, needJ ?_ ?_⟩
    · have e1 : (enc (held s.length) ++ s).length = (txt s).length := rfl
      have e2 : (enc (held body.length) ++ body).length = (txt body).length := rfl
      simp only [B_size, e1, e2]; omega
    · simp only [B_append]
      refine ASpec.call (rseal_spec (txt s ++ txt body) (by unfold big; simp; omega) []) (Les.refl _) ⟨_, rfl, rfl, ?_⟩
      rw [packM, if_pos ⟨hf, by omega⟩]
      exact ⟨rfl, trivial⟩
  exact ASpec.pureH H k _ _ rfl rfl

theorem openM_len (b : List UInt8) : (openM b).1.length ≤ b.length := by
  unfold openM
  repeat' split
  all_goals simp

theorem ropen_spec (b : List UInt8) (hb : b.length ≤ 1000000) (H : List AObj) :
    ASpec Try.prog 45 [.str (B b)] H (fun r H' => r = .tup [.str (B (sOpenM b).1), .str (B (sOpenM b).2.1), .int .i64 (sOpenM b).2.2] ∧ H' = H) := by
  have k : ASpec Try.prog 45 [.str (B b)] [] (fun r H' => r = .tup [.str (B (sOpenM b).1), .str (B (sOpenM b).2.1), .int .i64 (sOpenM b).2.2] ∧ H' = []) := by
    have hlen := openM_len b
    refine s45 _ _ (ASpec.call (rsopen_spec b (by unfold big; omega) []) (Les.refl _) ⟨(B (openM b).1, (openM b).2), rfl, rfl, condBn (fun h => ?_) fun h => ?_⟩)
    · rw [sOpenM, if_neg (by rw [h]; simp)]
      exact ⟨rfl, rfl⟩
    have hS : sOpenM b = takeM (openM b).1 := by rw [sOpenM, if_pos h]
    generalize (openM b).1 = x at hlen hS ⊢
    have hx : x.length ≤ 10 * big := by unfold big; omega
    have hd := str_doc x 0 0 24 (by omega)
    have hd2 := str_doc x (strM x 0 0 24).2.1 (strM x 0 0 24).2.2 8192 hd.2
    rw [takeM] at hS
    rw [List.drop_zero] at hd
    have c1 := dstr_spec (H := [dr x 0]) (id := 0) (l := x) (e := 0) 24 hx rfl
    rw [hd.1] at c1
    refine ASpec.call c1 (Les.refl _) ⟨(B (strM x 0 0 24).1, B (x.drop (strM x 0 0 24).2.1), (strM x 0 0 24).2.2), rfl, rfl, ?_⟩
    have c2 := dstr_spec (H := [dr (x.drop (strM x 0 0 24).2.1) (strM x 0 0 24).2.2]) (id := 0) (l := x.drop (strM x 0 0 24).2.1) (e := (strM x 0 0 24).2.2) 8192 (by rw [List.length_drop]; omega) rfl
    rw [hd2.1] at c2
    refine ASpec.call c2 (Les.refl _) ⟨(B (strM x (strM x 0 0 24).2.1 (strM x 0 0 24).2.2 8192).1, B (x.drop (strM x (strM x 0 0 24).2.1 (strM x 0 0 24).2.2 8192).2.1), (strM x (strM x 0 0 24).2.1 (strM x 0 0 24).2.2 8192).2.2), rfl, rfl, ?_⟩
    generalize strM x 0 0 24 = a at hS hd hd2 ⊢
    generalize strM x a.2.1 a.2.2 8192 = c at hS hd2 ⊢
    have c3 := dclose_spec (H := [dr (x.drop c.2.1) c.2.2]) (id := 0) (l := x.drop c.2.1) (e := c.2.2) rfl
    rw [List.length_drop] at c3
    refine ASpec.call c3 (Les.refl _) ⟨_, rfl, rfl, ?_⟩
    have ha : a.1.length ≤ x.length := by
      have h1 := congrArg (fun q : List UInt8 × List UInt8 × Int => q.1.length) hd.1
      simp only at h1
      rw [← h1]
      unfold dstrM
      repeat' split
      all_goals (simp; try omega)
    have last : ∀ e : Int, (if e ≠ 0 then ([], [], e) else (a.1, c.1, 0)) = sOpenM b → AWP Try.prog 39 0 c45_10 [(8, .str (B a.1)), (9, .str (B c.1)), (10, .int .i64 e)] [dr (x.drop c.2.1) c.2.2] (q45_0 0 (fun r H' => r = .tup [.str (B (sOpenM b).1), .str (B (sOpenM b).2.1), .int .i64 (sOpenM b).2.2] ∧ H' = [])) := by
      intro e he
      refine AWP.shape [] [(8, .str (B a.1)), (9, .str (B c.1)), (10, .int .i64 e)] [] Sel.none ⟨rfl, Le.refl _, rfl, Le.refl _, rfl, Le.refl _, trivial⟩ (v45_10 (B a.1) (B c.1) e _ _ (condNe (fun hne => ?_) fun heq => ?_))
      · rw [if_pos hne] at he
        rw [← he]; exact ⟨rfl, rfl⟩
      · rw [if_neg (by rw [heq]; simp)] at he
        rw [← he]; exact ⟨rfl, rfl⟩
    refine condE (fun h0 => ?_) fun h0 => last _ ?_
    · rw [if_neg (by rw [h0]; simp)] at hS
      refine ASpec.call (rfit_spec (l := a.1) (by omega) _) (Les.refl _) ⟨_, rfl, rfl, condBn (fun hf => last _ ?_) fun hf => last _ ?_⟩
      · rw [if_pos (by omega), hS, if_neg (by rw [hf]; simp)]
      · rw [if_neg (by rw [h0]; simp), hS, if_pos hf]
    · rw [if_pos h0] at hS
      rw [if_pos h0, hS]
  exact ASpec.pureH H k _ _ rfl rfl

end S
end

section
/- A stand as an object: its functions in any heap; rows that are cut. -/

set_option linter.unusedVariables false
set_option linter.unusedSimpArgs false
set_option maxRecDepth 100000
open Go Go.Ab Go.Proofs V S T C
open W (sl1 slS slN slR)
open Dp (slEn okD Sorted bodyM)
namespace St

/-! ### objects -/
section
variable {H : List AObj} {p a b : Nat} {D D' : List Ent} {W W' : List T.Item} {S S' : List Ev}

abbrev At (H : List AObj) (p a b : Nat) (D : List Ent) (W : List T.Item) (S : List Ev) : Prop :=
  H[p]? = some (stO D W S a b) ∧ H[a]? = some .tok ∧ H[b]? = some .tok ∧ p ≠ a ∧ p ≠ b ∧ a ≠ b

theorem at0 (q : List AObj) : At (HS D W S ++ q) 0 1 2 D W S := ⟨rfl, rfl, rfl, by decide, by decide, by decide⟩

theorem hobjs (h : At H p a b D W S) : ∀ i (hi : i < (HS D W S).length), H[[p, a, b].getD i 0]? = some (AObj.ren (callR [p, a, b] H.length) (HS D W S)[i]) := by
  intro i hi
  match i, hi with
  | 0, _ => exact h.1
  | 1, _ => exact h.2.1
  | 2, _ => exact h.2.2.1
theorem nd (h : At H p a b D W S) : [p, a, b].Nodup := by
  obtain ⟨_, _, _, h1, h2, h3⟩ := h
  simp [h1, h2, h3]

theorem liftG {f : FuncId} {args args' : List AV} {r0 r' : AV} {Hl2 Hx : List AObj} (h : At H p a b D W S) (k : ASpec Try.prog f args (HS D W S) (fun r H' => r = r0 ∧ H' = Hl2))
    (ha : args.map (AV.ren (callR [p, a, b] H.length)) = args') (hr : AV.ren (callR [p, a, b] H.length) r0 = r') (hx : graftH (callR [p, a, b] H.length) [p, a, b] H Hl2 = Hx) :
    ASpec Try.prog f args' H (fun r H' => r = r' ∧ H' = Hx) := ASpec.subH [p, a, b] H Hx k args' r' (nd h) rfl ha hr (hobjs h) hx

theorem gSame (h : At H p a b D W S) : graftH (callR [p, a, b] H.length) [p, a, b] H (HS D W S) = H := by
  have e : graftH (callR [p, a, b] H.length) [p, a, b] H (HS D W S) = ((H.set p (stO D W S a b)).set a .tok).set b .tok ++ [] := rfl
  rw [e, set_same h.1, set_same h.2.1, set_same h.2.2.1, List.append_nil]

noncomputable abbrev hWt (H : List AObj) (p a b : Nat) (D : List Ent) (W : List T.Item) (S : List Ev) : List AObj := (H.set a .gone).set p (stO D W S H.length b) ++ [.tok]
noncomputable abbrev hSt (H : List AObj) (p a b : Nat) (D : List Ent) (W : List T.Item) (S : List Ev) : List AObj := ((H.set a .gone).set b .gone).set p (stO D W S H.length (H.length + 1)) ++ [.tok, .tok]

theorem gW (h : At H p a b D W S) : graftH (callR [p, a, b] H.length) [p, a, b] H [stO D W' S 3 2, .gone, .tok, .tok] = hWt H p a b D W' S := by
  have e : graftH (callR [p, a, b] H.length) [p, a, b] H [stO D W' S 3 2, .gone, .tok, .tok] = ((H.set p (stO D W' S H.length b)).set a .gone).set b .tok ++ [.tok] := rfl
  obtain ⟨_, _, h3, n1, n2, n3⟩ := h
  rw [e, set_same (l := (H.set p (stO D W' S H.length b)).set a .gone) (by rw [List.getElem?_set_ne n3, List.getElem?_set_ne n2]; exact h3), hWt, List.set_comm _ _ n1]

theorem gS (h : At H p a b D W S) : graftH (callR [p, a, b] H.length) [p, a, b] H [stO D W' S' 3 4, .gone, .gone, .tok, .tok] = hSt H p a b D W' S' := by
  have e : graftH (callR [p, a, b] H.length) [p, a, b] H [stO D W' S' 3 4, .gone, .gone, .tok, .tok] = ((H.set p (stO D W' S' H.length (H.length + 1))).set a .gone).set b .gone ++ [.tok, .tok] := rfl
  obtain ⟨_, _, h3, n1, n2, n3⟩ := h
  rw [e, hSt, List.set_comm _ _ n1, List.set_comm _ _ n2]

theorem gM (h : At H p a b D W S) (x : List UInt8) : graftH (callR [p, a, b] H.length) [p, a, b] H (HS D W S ++ [.arr 1 (.map encB 0 x)]) = H ++ [.arr 1 (.map encB 0 x)] := by
  have e : graftH (callR [p, a, b] H.length) [p, a, b] H (HS D W S ++ [.arr 1 (.map encB 0 x)]) = ((H.set p (stO D W S a b)).set a .tok).set b .tok ++ [.arr 1 (.map encB 0 x)] := rfl
  rw [e, set_same h.1, set_same h.2.1, set_same h.2.2.1]

theorem leIt {W : List T.Item} {t : Tip} : Le (.sl 2 (.map encIt (0, []) W) t) (.sl 2 (.map encIt (0, []) W) .none) := Le.sl rfl (.inl rfl) (.inr rfl)

/-- at the end, an object's cells are spelled otherwise -/
theorem ASpec.cellEnd {P : Program} {f : FuncId} {args : List AV} {Post : AV → List AObj → Prop}
    (h : ASpec P f args H (fun r H' => ∃ id cs cs', H'[id]? = some (.cells cs) ∧ Les cs cs' ∧ Post r (H'.set id (.cells cs')))) : ASpec P f args H Post := by
  intro M loc w vs ht hr hv
  refine (h M loc w vs ht hr hv).mono fun e w' hh => ?_
  obtain ⟨v, r, H', M', loc', he, ⟨id, cs, cs', ho, hq, hP⟩, r1, r2, r3⟩ := hh
  have hl := hq.len
  obtain ⟨k1, k2⟩ := r1.respell id (.cells cs) (.cells cs') ho (by intro h; cases h) (by intro h; cases h) (fun hO => by
    obtain ⟨b, vs, T, fr, e1, e2, e3, e4, e5, hs, e6⟩ := hO
    exact ⟨b, vs, T, fr, e1, e2, e3, e4, e5, by omega, fun i hi => hq.get i (by omega) hi _ _ _ _ (e6 i (by omega))⟩)
  exact ⟨v, r, _, M', loc', he, hP, k1, r2.keeps (k2.keeps r1), StepN.trans r3 k2 r3.len⟩

/-! ### small functions -/

theorem len_spec (h : At H p a b D W S) : ASpec Try.prog 49 [.ptr p 0] H (fun r H' => r = .int .i64 W.length ∧ H' = H) := by
  have k : ASpec Try.prog 49 [.ptr 0 0] (HS D W S) (fun r H' => r = .int .i64 W.length ∧ H' = HS D W S) := Sd.s49 _ _ _ _ ⟨rfl, rfl⟩
  exact liftG h k rfl rfl (gSame h)

theorem has_spec (k : Int) (h : At H p a b D W S) : ASpec Try.prog 167 [.ptr p 0, .int .i64 k] H (fun r H' => r = .bool (decide (0 ≤ k ∧ k < (W.length : Int))) ∧ H' = H) := by
  have k0 : ASpec Try.prog 167 [.ptr 0 0, .int .i64 k] (HS D W S) (fun r H' => r = .bool (decide (0 ≤ k ∧ k < (W.length : Int))) ∧ H' = HS D W S) := by
    refine Sd.s167 _ _ _ _ _ (condD (fun h0 => ?_) fun h0 => ?_)
    · refine ASpec.call (len_spec (at0 [])) (Les.refl _) ⟨_, rfl, rfl, ?_, rfl⟩
      congr 1
      rw [decide_eq_decide]; omega
    · refine ⟨?_, rfl⟩
      rw [decide_eq_false (by omega)]
  exact liftG h k0 rfl rfl (gSame h)

theorem clone_spec (l : List T.Item) (h1 : l ≠ []) (hl : l.length ≤ lim) (H : List AObj) :
    ASpec Try.prog 266 [.sl 2 (.map encIt (0, []) l) .none] H (fun r H' => r = .msl 2 H.length 0 l.length ∧ H' = H ++ [.arr 2 (.map encIt (0, []) l)]) := by
  unfold lim at hl
  have hp := List.length_pos_iff.2 h1
  have k : ASpec Try.prog 266 [.sl 2 (.map encIt (0, []) l) .none] [] (fun r H' => r = .msl 2 0 0 l.length ∧ H' = [.arr 2 (.map encIt (0, []) l)]) := by
    refine Sd.s266 _ _ fun c hc => condB (fun h => ?_) fun h => needJ (fun x => rfl) (needJ (by omega) (needJ (by omega) ⟨rfl, rfl⟩))
    have := hc h
    simp only [Ab.Seq.toList, List.map_eq_nil_iff] at this
    exact absurd this h1
  exact ASpec.anyH H k _ _ _ rfl rfl rfl

theorem copied_list (d s : Seq) (off : Nat) : (copied d off s).toList = d.toList.take off ++ (s.toList ++ d.toList.drop (off + s.toList.length)) := rfl

theorem one_slot {x y : AV} (d : Nat) (hd : d ≠ 0) : get [(0, x)] d = get [(0, y)] d ∨ get [(0, x)] d = .bad := by
  left
  have : Nat.beq 0 d = false := by
    cases hx : Nat.beq 0 d with
    | false => rfl
    | true => exact absurd (Nat.eq_of_beq_eq_true hx).symm hd
  simp only [Ab.get, this]; rfl

theorem del7 {l : List T.Item} {i m i0 m0 : Nat} {s z : Seq} (hi : i < l.length) (hs : s.toList = (l.drop (i + 1)).map encIt) (hm : m = i + (l.drop (i + 1)).length) (e1 : i = i0) (e2 : m = m0) :
    AWP Try.prog 33 1 Sd.c265_7 [(0, .msl 2 0 0 m)] [.arr 2 (copied (copied (.map encIt (0, []) l) i0 s) m0 z)] (Sd.q265_0 1 (fun r H' => r = .sl 2 (.map encIt (0, []) (l.eraseIdx i)) (.tok 1) ∧ H' = [.gone, .tok])) := by
  subst e1 e2
  have hcl : (copied (.map encIt (0, []) l) i s).toList.length = l.length := by
    rw [copied_list, hs]; simp [Ab.Seq.toList]; omega
  have hml : m = l.length - 1 := by rw [hm, List.length_drop]; omega
  refine AWP.re (ReSt.tokArr (id := 0) (sz := 2) (k := 0) (len := m) (q' := .map encIt (0, []) (l.eraseIdx i)) (s2 := [(0, .sl 2 (.map encIt (0, []) (l.eraseIdx i)) (.tok 1))]) rfl (by simp) rfl ?_ rfl ?_ (fun d hd => one_slot d hd)) (Sd.v265_7 _ _ _ ⟨rfl, rfl⟩)
  · rw [copied_list]
    simp only [List.length_append, List.length_take, hcl]
    omega
  · rw [copied_list, List.take_append_of_le_length (by rw [List.length_take, hcl]; omega), List.take_take, Nat.min_self, copied_list, hs]
    simp only [Ab.Seq.toList]
    rw [← List.append_assoc, List.take_append_of_le_length (by simp; omega), List.take_of_length_le (by simp; omega), List.eraseIdx_eq_take_drop_succ]
    simp

theorem delete0 (l : List T.Item) (i : Nat) (hi : i < l.length) (hl : l.length ≤ lim) :
    ASpec Try.prog 265 [.msl 2 0 0 l.length, .int .i64 i, .int .i64 (i + 1 : Nat)] [.arr 2 (.map encIt (0, []) l)] (fun r H' => r = .sl 2 (.map encIt (0, []) (l.eraseIdx i)) (.tok 1) ∧ H' = [.gone, .tok]) := by
  unfold lim at hl
  have hcl : ∀ s : Seq, s.toList = (l.drop (i + 1)).map encIt → (copied (.map encIt (0, []) l) i s).toList.length = l.length := by
    intro s hs
    rw [copied_list, hs]; simp [Ab.Seq.toList]; omega
  refine Sd.s265 _ _ _ _ _ (needJ ⟨by omega, by omega, by omega, by omega⟩ (condE (fun h => by omega) fun h => needJ ⟨by omega, by omega⟩ (needJ ⟨by omega, by omega⟩ (condD (fun hlt => ?_) fun hlt => ?_))))
  · have hdl : (List.drop (0 + Int.toNat ((i + 1 : Nat) : Int)) (List.take (0 + Int.toNat ((i + 1 : Nat) : Int) + (l.length - Int.toNat ((i + 1 : Nat) : Int))) l)) = l.drop (i + 1) := by
      rw [Int.toNat_natCast, Nat.zero_add, show i + 1 + (l.length - (i + 1)) = l.length by omega, List.take_length]
    rw [hdl]
    simp only [Int.toNat_natCast, Nat.zero_add]
    have hc := hcl (.map encIt (0, []) (l.drop (i + 1))) rfl
    refine needJ (by omega) (needJ (fun x => rfl) (needJ (by rw [List.length_drop]; omega) (needJ ?_ (needJ ?_ (del7 hi rfl rfl rfl rfl)))))
    · refine ⟨by omega, by rw [List.length_drop]; omega, ?_⟩
      simp only [rowLen, List.getElem?_cons_zero, Seq.len_eq, hc]; omega
    · rw [Seq.len_eq, hc, List.length_drop]; omega
  · have hd0 : l.drop (i + 1) = [] := List.drop_eq_nil_of_le (by omega)
    have hc := hcl (.raw []) (by rw [hd0]; rfl)
    simp only [Int.toNat_natCast, Nat.zero_add, Nat.add_zero]
    refine needJ (by omega) (needJ ?_ (needJ ?_ (del7 hi (by rw [hd0]; rfl) (by rw [hd0]; rfl) rfl rfl)))
    · refine ⟨by omega, by omega, ?_⟩
      simp only [rowLen, List.getElem?_cons_zero, Seq.len_eq, hc]; omega
    · rw [Seq.len_eq, hc]; omega

theorem delete_spec (l : List T.Item) (i : Nat) (hi : i < l.length) (hl : l.length ≤ lim) (H : List AObj) (id : Nat) (ho : H[id]? = some (.arr 2 (.map encIt (0, []) l))) :
    ASpec Try.prog 265 [.msl 2 id 0 l.length, .int .i64 i, .int .i64 (i + 1 : Nat)] H (fun r H' => r = .sl 2 (.map encIt (0, []) (l.eraseIdx i)) (.tok H.length) ∧ H' = H.set id .gone ++ [.tok]) := by
  refine ASpec.subH [id] H _ (delete0 l i hi hl) _ _ (by simp) rfl rfl rfl (fun j hj => ?_) rfl
  match j, hj with
  | 0, _ => exact ho

end
end St
end

section
/- What a stand does. -/

set_option linter.unusedVariables false
set_option linter.unusedSimpArgs false
set_option maxRecDepth 100000
open Go Go.Ab Go.Proofs V S T C
open W (sl1 slS slN slR)
open Dp (slEn okD Sorted bodyM)
namespace St

/-- the end of a call, spelled otherwise -/
theorem ASpec.re {P : Program} {f : FuncId} {args : List AV} {H : List AObj} {Post : AV → List AObj → Prop}
    (h : ASpec P f args H (fun r H' => ∃ r2 H2, ReSt H.length [(0, r)] H' [(0, r2)] H2 ∧ Post r2 H2)) : ASpec P f args H Post := by
  intro M loc w vs ht hr hv
  refine (h M loc w vs ht hr hv).mono fun e w' hh => ?_
  obtain ⟨v, r, H', M', loc', he, ⟨r2, H2, hs, hP⟩, r1, r2', r3⟩ := hh
  obtain ⟨M2, loc2, q1, q2, q3⟩ := hs M' loc' w' #[v] r3.len r1 (fun d => by
    by_cases hd : d = 0
    · subst hd; exact r2'
    · have : Nat.beq 0 d = false := by
        cases hx : Nat.beq 0 d with
        | false => rfl
        | true => exact absurd (Nat.eq_of_beq_eq_true hx).symm hd
      simp only [Ab.get, this]
      exact .bad _)
  exact ⟨v, r2, H2, M2, loc2, he, hP, q1, q2 0, StepN.trans r3 q3 (Nat.le_refl _)⟩

section
variable {H : List AObj} {p a b : Nat} {D : List Ent} {W : List T.Item} {S : List Ev}

theorem atL (D : List Ent) (W : List T.Item) (S : List Ev) (q : List AObj) : At (stO D W S 1 2 :: .tok :: .tok :: q) 0 1 2 D W S := ⟨rfl, rfl, rfl, by decide, by decide, by decide⟩

theorem sel4 {o o' : AObj} {x3 x4 x5 : AObj} (h0 : o = AObj.ren (selR [0, 1, 2, 6] 7) o') : Sel 3 [0, 1, 2, 6] [o, .tok, .tok, x3, x4, x5, .tok] [o', .gone, .tok, .tok] := by
  refine ⟨by decide, rfl, by decide, fun i hi => ?_, fun i hi => ?_⟩
  · match i, hi with
    | 0, _ | 1, _ | 2, _ => rfl
  · match i, hi with
    | 0, _ => exact .inl (congrArg some h0)
    | 1, _ => exact .inr ⟨rfl, by show 1 < 7; omega⟩
    | 2, _ => exact .inl rfl
    | 3, _ => exact .inl rfl

theorem take0 (k : Nat) (hk : k < W.length) (hl : W.length ≤ lim) :
    ASpec Try.prog 174 [.ptr 0 0, .int .i64 k] (HS D W S) (fun r H' => r = .agg (encIt (W.getD k (0, []))) ∧ H' = [stO D (W.eraseIdx k) S 3 2, .gone, .tok, .tok]) := by
  have hne : W ≠ [] := by intro h; rw [h] at hk; simp at hk
  refine ASpec.sel (Sd.s174 _ _ _ _ _ (needJ ⟨by omega, by omega⟩ ?_))
  rw [Int.toNat_natCast]
  refine ASpec.call (clone_spec W hne hl _) ⟨leIt, trivial⟩ ⟨W, rfl, rfl, ?_⟩
  rw [succ64 (by unfold lim at hl; omega)]
  refine ASpec.call (delete_spec W k hk hl _ 5 rfl) (Les.refl _) ⟨W.eraseIdx k, rfl, rfl, ?_⟩
  exact ⟨[0, 1, 2, 6], [stO D (W.eraseIdx k) S 3 2, .gone, .tok, .tok], .agg (encIt (W.getD k (0, []))), sel4 rfl, Le.refl _, rfl, rfl⟩

theorem take_spec (h : At H p a b D W S) (k : Nat) (hk : k < W.length) (hl : W.length ≤ lim) :
    ASpec Try.prog 174 [.ptr p 0, .int .i64 k] H (fun r H' => r = .agg (encIt (W.getD k (0, []))) ∧ H' = hWt H p a b D (W.eraseIdx k) S) :=
  liftG h (take0 k hk hl) rfl rfl (gW h)

theorem copied_spec (e : Ev) (hb : e.2.2.2.2.length ≤ lim) (H : List AObj) : ASpec Try.prog 171 [.agg (encE e)] H (fun r H' => r = .agg (encE e) ∧ H' = H) := by
  have k : ASpec Try.prog 171 [.agg (encE e)] [] (fun r H' => r = .agg (encE e) ∧ H' = []) :=
    ASpec.sel (Sd.s171 _ _ (ASpec.call (Dp.cloneB_spec _ hb _) (Les.refl _) ⟨_, rfl, rfl, Dp.pa (Le.refl _)⟩))
  exact ASpec.pureH H k _ _ rfl rfl

theorem leN0 {ρ : Nat → Nat} : Le (.sl 0 (.raw []) .nil) (AV.ren ρ (.sl 2 (.map encN ([], []) []) .none)) := Le.sl (s' := Seq.ren ρ (.map encN ([], []) [])) rfl (.inr ⟨rfl, fun _ h => by cases h⟩) (.inr rfl)
theorem leB0 {ρ : Nat → Nat} : Le (.sl 0 (.raw []) .nil) (AV.ren ρ (.sl 1 (.map encB 0 []) .none)) := Le.sl (s' := Seq.ren ρ (.map encB 0 [])) rfl (.inr ⟨rfl, fun _ h => by cases h⟩) (.inr rfl)

theorem lesE0 {ρ : Nat → Nat} : Les [.int .i64 0, .sl 0 (.raw []) .nil, .int .i64 0, .int .i64 0, .sl 0 (.raw []) .nil] ((encE noEv).map (AV.ren ρ)) := ⟨Le.refl _, leN0, Le.refl _, Le.refl _, leB0, trivial⟩

/-- the reply to one -/
abbrev rep (W : List T.Item) (k : Nat) (b : List UInt8) : Ev := (3, [], 0, (W.getD k (0, [])).1, b)

theorem sel5 {o o' : AObj} {x3 x5 : AObj} (h0 : o = AObj.ren (selR [0, 1, 2, 4, 6] 7) o') : Sel 3 [0, 1, 2, 4, 6] [o, .gone, .gone, x3, .tok, x5, .tok] [o', .gone, .gone, .tok, .tok] := by
  refine ⟨by decide, rfl, by decide, fun i hi => ?_, fun i hi => ?_⟩
  · match i, hi with
    | 0, _ | 1, _ | 2, _ => rfl
  · match i, hi with
    | 0, _ => exact .inl (congrArg some h0)
    | 1, _ => exact .inl rfl
    | 2, _ => exact .inl rfl
    | 3, _ => exact .inl rfl
    | 4, _ => exact .inl rfl

theorem send0 (k : Nat) (x : List UInt8) (hk : k < W.length) (hl : W.length ≤ lim) (hx : x.length ≤ lim) (hS : S.length ≤ lim) :
    ASpec Try.prog 168 [.ptr 0 0, .int .i64 k, sl1 x] (HS D W S) (fun r H' => r = .tup [.agg (encE (rep W k x)), .bool true] ∧ H' = [stO D (W.eraseIdx k) (S ++ [rep W k x]) 3 4, .gone, .gone, .tok, .tok]) := by
  unfold lim at hS
  refine ASpec.sel (ASpec.cellEnd (Sd.s168 _ _ _ _ _ _ (ASpec.call (take_spec (atL D W S _) k hk hl) (Les.refl _) ⟨(W.getD k (0, []), W.eraseIdx k), rfl, rfl, ?_⟩)))
  refine ASpec.call (copied_spec (rep W k x) hx _) ⟨Le.agg ⟨Le.refl _, leN0 (ρ := id), Le.refl _, Le.refl _, Le.refl _, trivial⟩, trivial⟩ ⟨rep W k x, rfl, rfl, ?_⟩
  refine ⟨⟨rfl, rfl⟩, needJ (by omega) ?_⟩
  refine ⟨0, _, [.sl 2 (.map encEn ([], []) D) .none, .sl 2 (.map encIt (0, []) (W.eraseIdx k)) (.tok 4), .sl 1 (.map encSn noEv (S ++ [rep W k x])) (.tok 6)], rfl, ⟨Le.refl _, Le.refl _, leAppE (Les.refl _), trivial⟩, ?_⟩
  exact ⟨[0, 1, 2, 4, 6], [stO D (W.eraseIdx k) (S ++ [rep W k x]) 3 4, .gone, .gone, .tok, .tok], .tup [.agg (encE (rep W k x)), .bool true], sel5 rfl, Le.tup ⟨Le.agg ⟨Le.refl _, leN0, Le.refl _, Le.refl _, Le.refl _, trivial⟩, Le.refl _, trivial⟩, rfl, rfl⟩

theorem send_spec (h : At H p a b D W S) (k : Nat) (x : List UInt8) (hk : k < W.length) (hl : W.length ≤ lim) (hx : x.length ≤ lim) (hS : S.length ≤ lim) :
    ASpec Try.prog 168 [.ptr p 0, .int .i64 k, sl1 x] H (fun r H' => r = .tup [.agg (encE (rep W k x)), .bool true] ∧ H' = hSt H p a b D (W.eraseIdx k) (S ++ [rep W k x])) :=
  liftG h (send0 k x hk hl hx hS) rfl rfl (gS h)

/-! ### replies -/

/-- a stand that may be -/
def okSt (D : List Ent) (W : List T.Item) (S : List Ev) : Prop :=
  okD D ∧ Sorted D ∧ (∀ x ∈ D, x.2.length ≤ 8192) ∧ W.length ≤ lim ∧ (∀ x ∈ W, fitM x.2 = true) ∧ S.length ≤ lim ∧ ∀ e ∈ S, e.2.2.2.2.length ≤ lim

abbrev rightM (D : List Ent) (n : List UInt8) : List UInt8 := packM n (bodyM D n)

theorem getD_mem {α : Type} {l : List α} {d : α} {i : Nat} (h : i < l.length) : l.getD i d ∈ l := by
  rw [List.getD_eq_getElem?_getD, List.getElem?_eq_getElem h]; exact List.getElem_mem h

theorem body_ok (h : okSt D W S) (n : List UInt8) : (bodyM D n).length ≤ 8192 := by
  unfold bodyM
  split
  · rename_i b hb
    obtain ⟨x, hx, _, rfl⟩ := Dp.getE_mem hb
    exact h.2.2.1 x hx
  · have := Dp.putMan_len (n, []); omega

theorem pack_len (n x : List UInt8) (hn : n.length ≤ 24) (hx : x.length ≤ 8192) : (packM n x).length ≤ lim := by
  have h1 := txt_len n
  have h2 := txt_len x
  unfold packM lim
  split
  · simp only [sealM, List.length_append, be4, List.length_cons, List.length_nil]; omega
  · simp

theorem right_spec (h : At H p a b D W S) (ok : okSt D W S) (k : Nat) (hk : k < W.length) :
    ASpec Try.prog 169 [.ptr p 0, .int .i64 k] H (fun r H' => r = sl1 (rightM D (W.getD k (0, [])).2) ∧ H' = H) := by
  have hf := fitM_short (ok.2.2.2.2.1 _ (getD_mem (d := (0, [])) hk))
  have hb := body_ok ok (W.getD k (0, [])).2
  have k0 : ASpec Try.prog 169 [.ptr 0 0, .int .i64 k] (HS D W S) (fun r H' => r = sl1 (rightM D (W.getD k (0, [])).2) ∧ H' = HS D W S) := by
    refine Sd.s169 _ _ _ _ _ (needJ ⟨by omega, by omega⟩ ?_)
    rw [Int.toNat_natCast]
    refine ASpec.call (Dp.body_spec D (W.getD k (0, [])).2 ok.1 ok.2.1 (by unfold lim; omega) _) (Les.refl _) ⟨_, rfl, rfl, ?_⟩
    exact ASpec.call (pack_spec (W.getD k (0, [])).2 _ (by omega) (by omega) _) (Les.refl _) ⟨_, rfl, rfl, rfl, rfl⟩
  exact liftG h k0 rfl rfl (gSame h)

theorem good_no (h : At H p a b D W S) (k : Int) (hk : ¬ (0 ≤ k ∧ k < (W.length : Int))) :
    ASpec Try.prog 43 [.ptr p 0, .int .i64 k] H (fun r H' => r = .tup [.agg (encE noEv), .bool false] ∧ H' = H) := by
  have k0 : ASpec Try.prog 43 [.ptr 0 0, .int .i64 k] (HS D W S) (fun r H' => r = .tup [.agg (encE noEv), .bool false] ∧ H' = HS D W S) := by
    refine ASpec.sel (Sd.s43 _ _ _ _ _ (ASpec.call (has_spec k (atL D W S _)) (Les.refl _) ⟨_, rfl, rfl, condBn (fun _ => ?_) fun h => ?_⟩))
    · refine ⟨[0, 1, 2], HS D W S, .tup [.agg (encE noEv), .bool false], ⟨by decide, rfl, by show 3 ≤ 3; omega, fun i hi => ?_, fun i hi => ?_⟩, Le.tup ⟨Le.agg lesE0, Le.refl _, trivial⟩, rfl, rfl⟩
      · match i, hi with
        | 0, _ | 1, _ | 2, _ => rfl
      · match i, hi with
        | 0, _ | 1, _ | 2, _ => exact .inl rfl
    · exact absurd (of_decide_eq_true h) hk
  exact liftG h k0 rfl rfl (gSame h)

theorem good_spec (h : At H p a b D W S) (ok : okSt D W S) (k : Nat) (hk : k < W.length) :
    ASpec Try.prog 43 [.ptr p 0, .int .i64 k] H (fun r H' => r = .tup [.agg (encE (rep W k (rightM D (W.getD k (0, [])).2))), .bool true] ∧ H' = hSt H p a b D (W.eraseIdx k) (S ++ [rep W k (rightM D (W.getD k (0, [])).2)])) := by
  have hf := fitM_short (ok.2.2.2.2.1 _ (getD_mem (d := (0, [])) hk))
  have hb := body_ok ok (W.getD k (0, [])).2
  have k0 : ASpec Try.prog 43 [.ptr 0 0, .int .i64 k] (HS D W S) (fun r H' => r = .tup [.agg (encE (rep W k (rightM D (W.getD k (0, [])).2))), .bool true] ∧ H' = [stO D (W.eraseIdx k) (S ++ [rep W k (rightM D (W.getD k (0, [])).2)]) 3 4, .gone, .gone, .tok, .tok]) := by
    refine ASpec.sel (Sd.s43 _ _ _ _ _ (ASpec.call (has_spec k (atL D W S _)) (Les.refl _) ⟨_, rfl, rfl, condBn (fun h => ?_) fun _ => ?_⟩))
    · exact absurd ⟨by omega, by omega⟩ (of_decide_eq_false h)
    · refine ASpec.call (right_spec (atL D W S _) ok k hk) (Les.refl _) ⟨_, rfl, rfl, ?_⟩
      refine ASpec.call (send_spec (atL D W S _) k _ hk ok.2.2.2.1 (pack_len _ _ hf hb) ok.2.2.2.2.2.1) (Les.refl _) ⟨(rep W k (rightM D (W.getD k (0, [])).2), true, W.eraseIdx k, S ++ [rep W k (rightM D (W.getD k (0, [])).2)]), rfl, rfl, ?_⟩
      refine ⟨[0, 1, 2, 4, 5], [stO D (W.eraseIdx k) (S ++ [rep W k (rightM D (W.getD k (0, [])).2)]) 3 4, .gone, .gone, .tok, .tok], _, ⟨by decide, rfl, by show 3 ≤ 5; omega, fun i hi => ?_, fun i hi => ?_⟩, Le.refl _, rfl, rfl⟩
      · match i, hi with
        | 0, _ | 1, _ | 2, _ => rfl
      · match i, hi with
        | 0, _ | 1, _ | 2, _ | 3, _ | 4, _ => exact .inl rfl
  exact liftG h k0 rfl rfl (gS h)

end
end St
end

section
/- What a stand does: replies once more, a new one, fetches that are taken. -/

set_option linter.unusedVariables false
set_option linter.unusedSimpArgs false
set_option maxRecDepth 100000
open Go Go.Ab Go.Proofs V S T C
open W (sl1 slS slN slR)
open Dp (slEn okD Sorted bodyM)
namespace St
section
variable {H : List AObj} {p a b : Nat} {D : List Ent} {W : List T.Item} {S : List Ev}

theorem again_no (h : At H p a b D W S) (k : Int) (hk : ¬ (0 ≤ k ∧ k < (S.length : Int))) :
    ASpec Try.prog 46 [.ptr p 0, .int .i64 k] H (fun r H' => r = .tup [.agg (encE noEv), .bool false] ∧ H' = H) := by
  have hz : ∀ q, ∃ l H2 r2, Sel 3 l (stO D W S 1 2 :: .tok :: .tok :: q) H2 ∧ Le (.tup [.agg [.int .i64 0, .sl 0 (.raw []) .nil, .int .i64 0, .int .i64 0, .sl 0 (.raw []) .nil], .bool false]) (AV.ren (selR l (stO D W S 1 2 :: .tok :: .tok :: q).length) r2) ∧ r2 = .tup [.agg (encE noEv), .bool false] ∧ H2 = HS D W S := by
    intro q
    refine ⟨[0, 1, 2], HS D W S, .tup [.agg (encE noEv), .bool false], ⟨by decide, rfl, by decide, fun i hi => ?_, fun i hi => ?_⟩, Le.tup ⟨Le.agg lesE0, Le.refl _, trivial⟩, rfl, rfl⟩
    · match i, hi with
      | 0, _ | 1, _ | 2, _ => rfl
    · match i, hi with
      | 0, _ | 1, _ | 2, _ => exact .inl rfl
  have k0 : ASpec Try.prog 46 [.ptr 0 0, .int .i64 k] (HS D W S) (fun r H' => r = .tup [.agg (encE noEv), .bool false] ∧ H' = HS D W S) :=
    ASpec.sel (Sd.s46 _ _ _ _ _ (condD (fun _ => hz _) fun h1 => condD (fun _ => hz _) fun h2 => absurd ⟨by omega, by omega⟩ hk))
  exact liftG h k0 rfl rfl (gSame h)

theorem again_spec (h : At H p a b D W S) (k : Nat) (hk : k < S.length) (hb : (S.getD k noEv).2.2.2.2.length ≤ lim) :
    ASpec Try.prog 46 [.ptr p 0, .int .i64 k] H (fun r H' => r = .tup [.agg (encE (S.getD k noEv)), .bool true] ∧ H' = H) := by
  have k0 : ASpec Try.prog 46 [.ptr 0 0, .int .i64 k] (HS D W S) (fun r H' => r = .tup [.agg (encE (S.getD k noEv)), .bool true] ∧ H' = HS D W S) := by
    refine ASpec.sel (Sd.s46 _ _ _ _ _ (condD (fun _ => by omega) fun h1 => condD (fun _ => by omega) fun h2 => needJ ⟨by omega, by omega⟩ ?_))
    rw [Int.toNat_natCast]
    refine ASpec.call (copied_spec (S.getD k noEv) hb _) (Les.refl _) ⟨_, rfl, rfl, ?_⟩
    refine ⟨[0, 1, 2], HS D W S, _, ⟨by decide, rfl, by show 3 ≤ 3; omega, fun i hi => ?_, fun i hi => ?_⟩, Le.refl _, rfl, rfl⟩
    · match i, hi with
      | 0, _ | 1, _ | 2, _ => rfl
    · match i, hi with
      | 0, _ | 1, _ | 2, _ => exact .inl rfl
  exact liftG h k0 rfl rfl (gSame h)

/-! ### a new one -/

abbrev PN (r0 : AV) (H0 : List AObj) : AV → List AObj → Prop := fun r H' => ∃ r2 H2, ReSt 0 [(0, r)] H' [(0, r2)] H2 ∧ ∃ q H3 r3, Sel 0 q H2 H3 ∧ Le r2 (AV.ren (selR q H2.length) r3) ∧ (r3 = r0 ∧ H3 = H0)

theorem pnNil : PN .nilp [] .nilp [] := ⟨.nilp, [], ReSt.le (fun d => Le.refl _) (by simp), [], [], .nilp, Sel.none, Le.refl _, rfl, rfl⟩

theorem pnNew (l : List Ent) : PN (.ptr 0 0) (HS l [] []) (.ptr 0 0) [.cells [.sl 2 (.map encEn ([], []) l) (.tok 1), .sl 0 (.raw []) .nil, .sl 0 (.raw []) .nil], .tok] := by
  refine ⟨.ptr 0 0, [.cells [.sl 2 (.map encEn ([], []) l) .none, .sl 2 (.map encIt (0, []) []) (.tok 2), .sl 1 (.map encSn noEv []) (.tok 3)], .tok, .tok, .tok], ?_, [0, 2, 3], HS l [] [], .ptr 0 0, ⟨by decide, rfl, by omega, fun i hi => by omega, fun i hi => ?_⟩, Le.refl _, rfl, rfl⟩
  · refine ReSt.trans (ReSt.leCell (id := 0) (cs' := [.sl 2 (.map encEn ([], []) l) .none, .sl 0 (.raw []) .nil, .sl 0 (.raw []) .nil]) rfl ⟨Le.sl rfl (.inl rfl) (.inr rfl), Le.refl _, Le.refl _, trivial⟩) ?_
    refine ReSt.trans (ReSt.tokCell (id := 0) (j := 1) (sz := 0) (q := .raw []) (tip := .nil) (cs := [.sl 2 (.map encEn ([], []) l) .none, .sl 0 (.raw []) .nil, .sl 0 (.raw []) .nil]) (q' := .map encIt (0, []) []) (sz' := 2) rfl rfl (.inl rfl) rfl (.inr rfl)) ?_
    exact ReSt.tokCell (id := 0) (j := 2) (sz := 0) (q := .raw []) (tip := .nil) (cs := [.sl 2 (.map encEn ([], []) l) .none, .sl 2 (.map encIt (0, []) []) (.tok 2), .sl 0 (.raw []) .nil]) (q' := .map encSn noEv []) (sz' := 1) rfl rfl (.inl rfl) rfl (.inr rfl)
  · match i, hi with
    | 0, _ | 1, _ | 2, _ => exact .inl rfl

theorem new5 {l : List Ent} (hl : okD l) : ∀ (m i : Nat) (acc : List Ent), m + i = l.length → acc.length = i → acc ++ l.drop i = l →
    AWP Try.prog 34 0 Sd.c41_5 [(3, .ptr 0 0), (11, slEn l), (12, .int .i64 l.length), (13, .int .i64 i)] [.cells [.sl 2 (.map encEn ([], []) acc) (.tok 1), .sl 0 (.raw []) .nil, .sl 0 (.raw []) .nil], .tok] (Sd.q41_2 0 (PN (.ptr 0 0) (HS l [] []))) := by
  have hl1 := hl.1
  unfold lim at hl1
  intro m
  induction m with
  | zero =>
    intro i acc hm ha h
    refine Sd.v41_5 _ _ _ _ _ _ (condD (fun hc => by omega) fun _ => ?_)
    rw [List.drop_eq_nil_of_le (by omega), List.append_nil] at h
    subst h
    exact pnNew acc
  | succ m ih =>
    intro i acc hm ha h
    have hin : (0 : Int) ≤ (i : Int) ∧ (i : Int) < (l.length : Int) := ⟨by omega, by omega⟩
    refine Sd.v41_5 _ _ _ _ _ _ (condD (fun hc => needJ hin ?_) fun hc => by omega)
    rw [Int.toNat_natCast]
    have hx := hl.2 _ (getD_mem (d := ([], [])) (show i < l.length by omega))
    rw [dropD l ([], []) i (by omega)] at h
    generalize l.getD i ([], []) = x at h hx ⊢
    refine ASpec.call (Dp.cloneB_spec x.2 hx.2 _) (Les.refl _) ⟨x.2, rfl, rfl, ⟨rfl, rfl⟩, ⟨rfl, rfl⟩, needJ (by omega) ?_⟩
    rw [succ64 (by omega)]
    refine AWP.re (ReSt.leCell (id := 0) (cs' := [.sl 2 (.map encEn ([], []) (acc ++ [x])) (.tok 3), .sl 0 (.raw []) .nil, .sl 0 (.raw []) .nil]) rfl ⟨leAppE (Les.refl _), Le.refl _, Le.refl _, trivial⟩) ?_
    refine AWP.shape [0, 3] [(3, .ptr 0 0), (11, slEn l), (12, .int .i64 l.length), (13, .int .i64 (i + 1 : Nat))] [.cells [.sl 2 (.map encEn ([], []) (acc ++ [x])) (.tok 1), .sl 0 (.raw []) .nil, .sl 0 (.raw []) .nil], .tok]
      ⟨by decide, rfl, by omega, fun j hj => by omega, fun j hj => ?_⟩ ⟨rfl, Le.refl _, rfl, Le.refl _, rfl, Le.refl _, rfl, Le.refl _, trivial⟩ (ih (i + 1) _ (by omega) (by simp; omega) (by simpa using h))
    match j, hj with
    | 0, _ | 1, _ => exact .inl rfl

theorem new_spec (l : List Ent) (hl : okD l) (hd : Dp.depOk l = true) (H : List AObj) :
    ASpec Try.prog 41 [slEn l] H (fun r H' => r = .ptr H.length 0 ∧ H' = H ++ [stO l [] [] (H.length + 1) (H.length + 2), .tok, .tok]) := by
  have k0 : ASpec Try.prog 41 [slEn l] [] (fun r H' => r = .ptr 0 0 ∧ H' = HS l [] []) := by
    refine ASpec.sel (ASpec.re (Sd.s41 _ _ (ASpec.call (Dp.check_spec l hl _) (Les.refl _) ⟨_, rfl, rfl, condBn (fun h => by rw [hd] at h; cases h) fun _ => ?_⟩)))
    refine AWP.re (ReSt.tokCell (id := 0) (j := 0) (q' := .map encEn ([], []) []) (sz' := 2) rfl rfl (.inl rfl) rfl (.inr rfl)) ?_
    exact new5 hl l.length 0 [] (by omega) rfl rfl
  exact ASpec.anyH H k0 _ _ _ rfl rfl rfl

theorem new_no (l : List Ent) (hl : okD l) (hd : Dp.depOk l = false) (H : List AObj) : ASpec Try.prog 41 [slEn l] H (fun r H' => r = .nilp ∧ H' = H) := by
  have k0 : ASpec Try.prog 41 [slEn l] [] (fun r H' => r = .nilp ∧ H' = []) :=
    ASpec.sel (ASpec.re (Sd.s41 _ _ (ASpec.call (Dp.check_spec l hl _) (Les.refl _) ⟨_, rfl, rfl, condBn (fun _ => pnNil) fun h => by rw [hd] at h; cases h⟩)))
  exact ASpec.pureH H k0 _ _ rfl rfl

/-! ### fetches that are taken -/

noncomputable abbrev slA (l : List Ac) : AV := .sl 7 (.map encA (0, 0, []) l) .none

def items : List Ac → List T.Item
  | [] => []
  | x :: r => if x.1 = 1 then (x.2.1, x.2.2) :: items r else items r

theorem items_len : ∀ l : List Ac, (items l).length ≤ l.length
  | [] => by simp [items]
  | x :: r => by
    have := items_len r
    simp only [items, List.length_cons]
    split
    · simp only [List.length_cons]; omega
    · omega

theorem takeB {l : List Ac} (hl : l.length ≤ 1000) {Post : AV → List AObj → Prop} : ∀ (m i : Nat) (W : List T.Item) (c : Nat), m + i = l.length → W.length + m ≤ lim → c ≤ i →
    Post (.int .i64 (c + (items (l.drop i)).length : Nat)) (HS2 D (W ++ items (l.drop i)) S) →
    AWP Try.prog 39 3 Sb.c42_3 [(0, .ptr 0 0), (5, .int .i64 c), (8, slA l), (9, .int .i64 l.length), (10, .int .i64 i)] (HS2 D W S) (Sb.q42_2 3 Post) := by
  intro m
  induction m with
  | zero =>
    intro i W c hm hW hc h
    refine Sb.v42_3 _ _ _ _ _ _ _ _ _ (condD (fun hc => by omega) fun _ => ?_)
    rw [List.drop_eq_nil_of_le (by omega)] at h
    simp only [items, List.length_nil, Nat.add_zero, List.append_nil] at h
    exact h
  | succ m ih =>
    intro i W c hm hW hc h
    have hin : (0 : Int) ≤ (i : Int) ∧ (i : Int) < (l.length : Int) := ⟨by omega, by omega⟩
    refine Sb.v42_3 _ _ _ _ _ _ _ _ _ (condD (fun hc => needJ hin ?_) fun hc => by omega)
    rw [Int.toNat_natCast]
    rw [dropD l (0, 0, []) i (by omega)] at h
    generalize l.getD i (0, 0, []) = x at h ⊢
    simp only [items] at h
    rw [succ64 (by omega), succ64 (by omega)]
    refine condE (fun h1 => needJ (by unfold lim at hW; omega) ?_) fun h1 => ?_
    · rw [if_pos h1] at h
      refine AWP.re (ReSt.leCell (id := 0) (cs' := [.sl 2 (.map encEn ([], []) D) .none, .sl 2 (.map encIt (0, []) (W ++ [(x.2.1, x.2.2)])) (.tok 5), .sl 1 (.map encSn noEv S) (.tok 2)]) rfl ⟨Le.refl _, leAppE (Les.refl _), Le.refl _, trivial⟩) ?_
      refine AWP.shape [0, 1, 2, 5] [(0, .ptr 0 0), (5, .int .i64 (c + 1 : Nat)), (8, slA l), (9, .int .i64 l.length), (10, .int .i64 (i + 1 : Nat))] (HS2 D (W ++ [(x.2.1, x.2.2)]) S)
        ⟨by decide, rfl, by decide, fun j hj => ?_, fun j hj => ?_⟩ ⟨rfl, Le.refl _, rfl, Le.refl _, rfl, Le.refl _, rfl, Le.refl _, rfl, Le.refl _, trivial⟩ (ih (i + 1) _ _ (by omega) (by simp; omega) (by omega) ?_)
      · match j, hj with
        | 0, _ | 1, _ | 2, _ => rfl
      · match j, hj with
        | 0, _ | 1, _ | 2, _ | 3, _ => exact .inl rfl
      · simpa [Nat.add_assoc, Nat.add_comm, Nat.add_left_comm] using h
    · rw [if_neg h1] at h
      refine AWP.shape [0, 1, 2, 3] [(0, .ptr 0 0), (5, .int .i64 c), (8, slA l), (9, .int .i64 l.length), (10, .int .i64 (i + 1 : Nat))] (HS2 D W S)
        ⟨by decide, rfl, by decide, fun j hj => ?_, fun j hj => ?_⟩ ⟨rfl, Le.refl _, rfl, Le.refl _, rfl, Le.refl _, rfl, Le.refl _, rfl, Le.refl _, trivial⟩ (ih (i + 1) _ _ (by omega) (by omega) (by omega) h)
      · match j, hj with
        | 0, _ | 1, _ | 2, _ => rfl
      · match j, hj with
        | 0, _ | 1, _ | 2, _ | 3, _ => exact .inl rfl

theorem takeL_spec (h : At H p a b D W S) (t : Int) (n : List UInt8) (r : List Ac) (hr : r.length ≤ 100) (hW : W.length ≤ 100000) :
    ASpec Try.prog 42 [.ptr p 0, slA ((1, t, n) :: r)] H (fun v H' => v = .int .i64 ((1 + (items r).length : Nat)) ∧ H' = hWt H p a b D (W ++ (t, n) :: items r) S) := by
  have k0 : ASpec Try.prog 42 [.ptr 0 0, slA ((1, t, n) :: r)] (HS D W S) (fun v H' => v = .int .i64 ((1 + (items r).length : Nat)) ∧ H' = HS2 D (W ++ (t, n) :: items r) S) := by
    refine Sd.s42 _ _ _ _ _ (Sd.v42_3 _ _ _ _ _ _ _ _ _ (condD (fun _ => needJ ⟨by omega, by simp⟩ (condE (fun _ => needJ (by omega) ?_) fun h => absurd rfl h)) fun h => by simp at h))
    refine AWP.re (ReSt.leCell (id := 0) (cs' := [.sl 2 (.map encEn ([], []) D) .none, .sl 2 (.map encIt (0, []) (W ++ [(t, n)])) (.tok 4), .sl 1 (.map encSn noEv S) (.tok 2)]) rfl ⟨Le.refl _, leAppE (Les.refl _), Le.refl _, trivial⟩) ?_
    refine AWP.shape [0, 1, 2, 4] [(0, .ptr 0 0), (5, .int .i64 (1 : Nat)), (8, slA ((1, t, n) :: r)), (9, .int .i64 ((1, t, n) :: r).length), (10, .int .i64 (1 : Nat))] (HS2 D (W ++ [(t, n)]) S)
      ⟨by decide, rfl, by decide, fun j hj => ?_, fun j hj => ?_⟩ ⟨rfl, Le.refl _, rfl, Le.refl _, rfl, Le.refl _, rfl, Le.refl _, rfl, Le.refl _, trivial⟩ (takeB (by simp; omega) r.length 1 _ 1 (by simp) (by unfold lim; simp; omega) (by omega) ?_)
    · match j, hj with
      | 0, _ | 1, _ | 2, _ => rfl
    · match j, hj with
      | 0, _ | 1, _ | 2, _ | 3, _ => exact .inl rfl
    · refine ⟨rfl, ?_⟩
      simp
  exact liftG h k0 rfl rfl (gW h)

end
end St
end

section
/- Printed: what the code of functions 393, 372 asks for, by the framework's own reading of it; each line is checked against the code. -/

set_option linter.unusedVariables false
set_option maxRecDepth 100000
set_option maxHeartbeats 4000000
open Go Go.Ab Go.Proofs
namespace SM
noncomputable section

noncomputable def rets : FuncId → List Ret := lookupR (S.retS ++ V.retL)

-- 393
noncomputable def l393 : Nat → List Nat
  | 2 => [0, 7, 8, 9]
  | _ => []
noncomputable def u393 : Nat → Bool
  | _ => false
noncomputable def m393 : Nat → Bool
  | _ => false
noncomputable def g393 : Cfg := { N := 20, live := l393, cut := u393, mu := m393, ret := rets }
noncomputable def c393 : Go.Code := Go.Ab.bodyOf Go.Proofs.Try.f393
noncomputable def q393_0 : Nat → (AV → List AObj → Prop) → AQ := fun (n : Nat) (Post : AV → List AObj → Prop) => endQ Try.prog (resultsOf Try.f393) Post
noncomputable def q393_1 : Nat → (AV → List AObj → Prop) → AQ := fun (n : Nat) (Post : AV → List AObj → Prop) => seqQ (fun (s' : Slots) (H' : List AObj) => awp Try.prog g393 n (codeSnd (codeSnd c393)) s' H' (q393_0 n Post)) (q393_0 n Post)
noncomputable def q393_2 : Nat → (AV → List AObj → Prop) → AQ := fun (n : Nat) (Post : AV → List AObj → Prop) => blockQ 0 (q393_1 n Post)
noncomputable def c393_2 : Go.Code := codeFst (codeSnd (codeFst (codeSnd c393)))
theorem s393 : ∀ (x : Int) (l : List UInt8) (k : Nat) (Post : AV → List AObj → Prop),
  AWP Try.prog 20 1 c393_2
      [(0, AV.int IntKind.u32 x), (7, AV.msl 1 0 0 k), (8, AV.int IntKind.i64 (↑k : Int)), (9, AV.int IntKind.i64 (0 : Int))]
      [AObj.arr 1 (Seq.map encB (0 : UInt8) l)] (q393_2 1 Post) →
    ASpec Try.prog 393 [AV.int IntKind.u32 x, AV.msl 1 0 0 k] [AObj.arr 1 (Seq.map encB (0 : UInt8) l)] Post := fun x l k Post h => Go.Ab.ASpec.of_vc g393 Go.Proofs.Try.func393 (by kernel_rfl) (by kernel_rfl) (by kernel_rfl) (Go.Ab.kc (by kernel_rfl) h)
theorem v393_2 : ∀ (x : Int) (l : List UInt8) (k : Nat) (n i : Int) (n_1 : Nat) (Post : AV → List AObj → Prop),
  condP (decide (i < n))
      (needP ((0 : Int) ≤ i ∧ i < (↑k : Int))
        (needP (0 + Int.toNat i < List.length l)
        (AWP Try.prog 20 n_1 c393_2
        [(0,
        AV.int IntKind.u32
        (IntKind.wrap IntKind.u32
        (IntKind.wrap IntKind.u32
        (↑(BitVec.toNat (BitVec.ofInt 32 x ^^^ BitVec.ofInt 32 (IntKind.wrap IntKind.u32 (↑(UInt8.toNat (List.getD l (0 + Int.toNat i) (0 : UInt8))) : Int)))) :
        Int) *
        (16777619 : Int)))),
        (7, AV.msl 1 0 0 k), (8, AV.int IntKind.i64 n), (9, AV.int IntKind.i64 (IntKind.wrap IntKind.i64 (i + (1 : Int))))]
        [AObj.arr 1 (Seq.map encB (0 : UInt8) l)] (q393_2 n_1 Post))))
      (Post (AV.int IntKind.u32 x) [AObj.arr 1 (Seq.map encB (0 : UInt8) l)]) →
    AWP Try.prog 20 n_1 c393_2 [(0, AV.int IntKind.u32 x), (7, AV.msl 1 0 0 k), (8, AV.int IntKind.i64 n), (9, AV.int IntKind.i64 i)]
      [AObj.arr 1 (Seq.map encB (0 : UInt8) l)] (q393_2 n_1 Post) := fun x l k n i n Post h => Go.Ab.AWP.loop' g393 (Cfg.live g393) c393_2 (by kernel_rfl) (by kernel_rfl) (Go.Ab.kc (by kernel_rfl) h)

-- 372
noncomputable def l372 : Nat → List Nat
  | _ => []
noncomputable def u372 : Nat → Bool
  | _ => false
noncomputable def m372 : Nat → Bool
  | _ => false
noncomputable def g372 : Cfg := { N := 5, live := l372, cut := u372, mu := m372, ret := rets }
noncomputable def c372 : Go.Code := Go.Ab.bodyOf Go.Proofs.Try.f372
theorem s372 : ∀ (l : List UInt8) (k : Nat) (Post : AV → List AObj → Prop),
  (ASpec Try.prog 393 [AV.int IntKind.u32 (2166136261 : Int), AV.msl 1 0 0 k] [AObj.arr 1 (Seq.map encB (0 : UInt8) l)] fun (r : AV) (H' : List AObj) =>
      ∃ (x : Int), r = AV.int IntKind.u32 x ∧ H' = [AObj.arr 1 (Seq.map encB (0 : UInt8) l)] ∧ Post (AV.int IntKind.u32 x) [AObj.arr 1 (Seq.map encB (0 : UInt8) l)]) →
    ASpec Try.prog 372 [AV.msl 1 0 0 k] [AObj.arr 1 (Seq.map encB (0 : UInt8) l)] Post := fun l k Post h => Go.Ab.ASpec.of_vc g372 Go.Proofs.Try.func372 (by kernel_rfl) (by kernel_rfl) (by kernel_rfl) (Go.Ab.kc (by kernel_rfl) h)

end
end SM
end

section
/- SealBack: what was packed is opened; with one byte that is another one it is ErrSum: the law's function returns true. -/

set_option linter.unusedVariables false
set_option linter.unusedSimpArgs false
set_option maxRecDepth 100000
open Go Go.Ab Go.Proofs V S
namespace SM

/-! ### the plain law -/

theorem mul_back {x : Nat} (hx : x < 4294967296) : x * 16777619 % 4294967296 * 899433627 % 4294967296 = x := by
  rw [Nat.mul_mod, Nat.mod_mod, ← Nat.mul_mod, Nat.mul_assoc, show 16777619 * 899433627 = 4294967296 * 3513497 + 1 by decide, Nat.mul_add, Nat.mul_one,
    Nat.mul_left_comm, Nat.mul_add_mod, Nat.mod_eq_of_lt hx]

theorem mul_inj {a b : Nat} (ha : a < 4294967296) (hb : b < 4294967296) (h : a * 16777619 % 4294967296 = b * 16777619 % 4294967296) : a = b := by
  rw [← mul_back ha, h, mul_back hb]

theorem xor_inj {a b c : Nat} (h : a ^^^ c = b ^^^ c) : a = b := by
  have := congrArg (· ^^^ c) h
  simpa [Nat.xor_assoc] using this

theorem xor_inj' {a b c : Nat} (h : c ^^^ a = c ^^^ b) : a = b := by
  rw [Nat.xor_comm c a, Nat.xor_comm c b] at h
  exact xor_inj h

theorem fnv_inj : ∀ (l : List UInt8) (a b : Nat), a < 4294967296 → b < 4294967296 → fnv a l = fnv b l → a = b
  | [], a, b, _, _, h => h
  | c :: l, a, b, ha, hb, h => by
    have hc : c.toNat < 256 := c.toNat_lt
    have := fnv_inj l _ _ (Nat.mod_lt _ (by omega)) (Nat.mod_lt _ (by omega)) h
    exact xor_inj (mul_inj (xor_lt ha hc) (xor_lt hb hc) this)

theorem fnv_set : ∀ (l : List UInt8) (n i : Nat) (b : UInt8), n < 4294967296 → i < l.length → fnv n (l.set i b) = fnv n l → l.getD i 0 = b
  | [], n, i, b, _, hi, _ => by simp at hi
  | c :: l, n, 0, b, hn, _, h => by
    have hc : c.toNat < 256 := c.toNat_lt
    have hb : b.toNat < 256 := b.toNat_lt
    simp only [List.set_cons_zero, fnv] at h
    have := fnv_inj l _ _ (Nat.mod_lt _ (by omega)) (Nat.mod_lt _ (by omega)) h
    have := xor_inj' (mul_inj (xor_lt hn hb) (xor_lt hn hc) this)
    exact (u8_ext this).symm
  | c :: l, n, i + 1, b, hn, hi, h => by
    simp only [List.set_cons_succ, fnv] at h
    have := fnv_set l _ i b (Nat.mod_lt _ (by omega)) (by simpa using hi) h
    simpa using this

theorem be4_len (n : Nat) : (be4 n).length = 4 := rfl
theorem seal_len (x : List UInt8) : (sealM x).length = x.length + 4 := by simp [sealM, be4_len]

theorem open_seal (x : List UInt8) : openM (sealM x) = (x, true) := by
  unfold openM
  rw [if_neg (by rw [seal_len]; omega)]
  have e : (sealM x).take ((sealM x).length - 4) = x := by
    rw [seal_len, Nat.add_sub_cancel]
    unfold sealM
    rw [List.take_left]
  rw [e, if_pos rfl]

/-- one byte that is another one -/
theorem open_bad (x : List UInt8) (i : Nat) (b : UInt8) (hi : i < (sealM x).length) (hb : (sealM x).getD i 0 ≠ b) : openM ((sealM x).set i b) = ([], false) := by
  unfold openM
  rw [if_neg (by rw [List.length_set, seal_len]; omega), if_neg]
  intro h
  rw [List.length_set, seal_len, Nat.add_sub_cancel] at h
  by_cases c : i < x.length
  · have e1 : ((sealM x).set i b).take x.length = x.set i b := by
      unfold sealM
      rw [List.set_append_left _ _ c, List.take_left' (by simp)]
    rw [e1] at h
    unfold sealM at h
    rw [List.set_append_left _ _ c] at h
    have h2 := List.append_cancel_left h
    have h3 : sum (x.set i b) = sum x := by
      have := congrArg beV h2
      rwa [beV_be4 (sum_lt _), beV_be4 (sum_lt _)] at this
    have h4 := fnv_set x _ i b (by omega) c h3
    apply hb
    unfold sealM
    simp only [List.getD] at h4 ⊢
    rw [List.getElem?_append_left c]
    exact h4
  · have e1 : ((sealM x).set i b).take x.length = x := by
      unfold sealM
      rw [List.set_append_right _ _ (by omega), List.take_left]
    rw [e1] at h
    apply hb
    rw [h]
    simp only [List.getD]
    rw [List.getElem?_set_self hi]
    rfl

theorem str_back (pre s rest : List UInt8) (most : Int) (hs : (s.length : Int) ≤ most) (hl : s.length ≤ 1000000) :
    strM (pre ++ txt s ++ rest) pre.length 0 most = (s, pre.length + (txt s).length, 0) := by
  have hh := held_of (x := (s.length : Int)) (by omega) (by omega)
  have hh : held s.length = s.length := by omega
  have hd : (pre ++ txt s ++ rest).drop pre.length = enc s.length ++ (s ++ rest) := by
    rw [List.append_assoc, List.drop_left, txt, hh, List.append_assoc]
  have hd2 : (pre ++ txt s ++ rest).drop (pre.length + (enc s.length).length) = s ++ rest := by
    rw [← List.drop_drop, hd, List.drop_left]
  have hk := look_enc (s ++ rest) (v := s.length) (most := most) (by omega) hs
  have hlen : (txt s).length = (enc s.length).length + s.length := by rw [txt, hh, List.length_append]
  simp only [strM, if_neg (show ¬ ((0 : Int) ≠ 0) by simp), hd, hk]
  rw [if_neg (by simp only [List.length_append, hlen]; omega), hd2, hlen]
  simp [Nat.add_assoc]

theorem take_back (s body : List UInt8) (hf : fitM s = true) (hb : body.length ≤ 8192) : takeM (txt s ++ txt body) = (s, body, 0) := by
  have hs := fitM_short hf
  have e1 := str_back [] s (txt body) 24 (by omega) (by omega)
  have e2 := str_back (txt s) body [] 8192 (by omega) (by omega)
  simp only [List.nil_append, List.length_nil, Nat.zero_add, List.append_nil] at e1 e2
  unfold takeM
  rw [e1]
  simp only [e2]
  have hc : closeM 0 ((txt s ++ txt body).length - ((txt s).length + (txt body).length)) = 0 := by
    rw [List.length_append, Nat.sub_self]; rfl
  rw [if_neg (by rw [hc]; simp), if_pos hf]

theorem sopen_back (s body : List UInt8) (hf : fitM s = true) (hb : body.length ≤ 8192) : sOpenM (packM s body) = (s, body, 0) := by
  rw [packM, if_pos ⟨hf, hb⟩, sOpenM, open_seal, if_pos rfl, take_back s body hf hb]

/-! ### the walk over a row that may be written -/

theorem selOne {o : AObj} {rest : List AObj} (e : ∀ ρ, AObj.ren ρ o = o) : Sel 1 [0] (o :: rest) [o] := by
  refine ⟨by simp, rfl, by simp, fun i hi => ?_, fun i hi => ?_⟩
  · have : i = 0 := by omega
    subst this; rfl
  · have : i = 0 := by simpa using hi
    subst this
    left
    show some o = some _
    rw [show [o][0] = o from rfl, e]

abbrev AR (l : List UInt8) : AObj := .arr 1 (.map encB 0 l)

section
variable {l : List UInt8} {Post : AV → List AObj → Prop}

theorem on2 {k : Nat} (hl : l.length ≤ 10 * big) (hk : k ≤ l.length) : ∀ (m i n : Nat), m + i = k → n < 4294967296 → Post (.int .u32 (fnv n ((l.take k).drop i) : Nat)) [AR l] →
    AWP Try.prog 20 1 c393_2 [(0, .int .u32 n), (7, .msl 1 0 0 k), (8, .int .i64 k), (9, .int .i64 i)] [AR l] (q393_2 1 Post) := by
  unfold big at hl
  have hlk : (l.take k).length = k := by simp; omega
  intro m
  induction m with
  | zero =>
    intro i n hm hn h
    refine v393_2 _ _ _ _ _ _ _ (condD (fun hc => by omega) fun _ => ?_)
    rw [List.drop_eq_nil_of_le (by omega)] at h
    exact h
  | succ m ih =>
    intro i n hm hn h
    refine v393_2 _ _ _ _ _ _ _ (condD (fun hc => needJ ⟨by omega, by omega⟩ (needJ (by omega) ?_)) fun hc => by omega)
    rw [Int.toNat_natCast, Nat.zero_add]
    rw [getD_drop (l.take k) i (by omega)] at h
    have hg : (l.take k).getD i 0 = l.getD i 0 := by simp [List.getD, List.getElem?_take, show i < k by omega]
    rw [hg] at h
    simp only [fnv] at h
    generalize l.getD i 0 = c at h ⊢
    have hc8 : c.toNat < 256 := c.toNat_lt
    have hx2 := xor_lt (n := n) (c := c.toNat) hn hc8
    rw [wrapU32N (n := c.toNat) (by omega), bvx hn (by omega), wrapU32N hx2]
    generalize n ^^^ c.toNat = z at hx2 h ⊢
    have e2 : IntKind.wrap .u32 ((z : Int) * 16777619) = ((z * 16777619 % 4294967296 : Nat) : Int) := by rw [wrapU32]; omega
    rw [e2]
    rw [show IntKind.wrap .i64 ((i : Int) + 1) = ((i + 1 : Nat) : Int) by rw [wrap64 (by omega) (by omega)]; simp]
    exact ih (i + 1) _ (by omega) (Nat.mod_lt _ (by omega)) h

theorem of_spec {k : Nat} (hl : l.length ≤ 10 * big) (hk : k ≤ l.length) : ASpec Try.prog 372 [.msl 1 0 0 k] [AR l] (fun r H' => r = .int .u32 (sum (l.take k) : Nat) ∧ H' = [AR l]) := by
  have k1 : ASpec Try.prog 393 [.int .u32 2166136261, .msl 1 0 0 k] [AR l] (fun r H' => r = .int .u32 (sum (l.take k) : Nat) ∧ H' = [AR l]) :=
    s393 _ _ _ _ (on2 hl hk k 0 2166136261 (by omega) (by omega) ⟨rfl, rfl⟩)
  exact s372 _ _ _ (ASpec.call k1 (Les.refl _) ⟨_, rfl, rfl, rfl, rfl⟩)

end

/-! ### the law -/

theorem byte_other (c : UInt8) (a : Nat) (ha : a < 65536) :
    ∃ b : UInt8, [AV.int .u8 (IntKind.wrap .u8 (IntKind.wrap .u8 ((c.toNat : Int) + 1) + Int.tmod (IntKind.wrap .u8 (IntKind.wrap .u16 (Int.tdiv (a : Int) 256))) 255))] = encB b ∧ c ≠ b := by
  have hc : c.toNat < 256 := c.toNat_lt
  have e1 : Int.tdiv (a : Int) 256 = ((a / 256 : Nat) : Int) := tdivN a 256
  have e2 : IntKind.wrap .u16 ((a / 256 : Nat) : Int) = ((a / 256 : Nat) : Int) := by
    simp only [IntKind.wrap, IntKind.bits, IntKind.signed]
    have e : (2 : Int) ^ 16 = 65536 := by decide
    simp only [e, Bool.false_and]
    simp
    omega
  have e3 : Int.tmod ((a / 256 % 256 : Nat) : Int) 255 = ((a / 256 % 256 % 255 : Nat) : Int) := tmodN (a / 256 % 256) 255
  rw [e1, e2, wrapU8N, e3, show ((c.toNat : Int) + 1) = ((c.toNat + 1 : Nat) : Int) by simp, wrapU8N, ← Int.natCast_add, wrapU8N, encB_mod]
  refine ⟨_, rfl, ?_⟩
  intro h
  have := congrArg UInt8.toNat h
  rw [UInt8.toNat_ofNat'] at this
  omega

end SM
end

section
/- What a stand does: a bad reply; the law's own functions. -/

set_option linter.unusedVariables false
set_option linter.unusedSimpArgs false
set_option maxRecDepth 100000
open Go Go.Ab Go.Proofs V S T C
open W (sl1 slS slN slR)
open Dp (slEn okD Sorted bodyM)
namespace St
section
variable {H : List AObj} {p a b : Nat} {D : List Ent} {W : List T.Item} {S : List Ev}

/-! ### a row of bytes that may be written -/

theorem seal_len4 (l : List UInt8) : (sealM l).length = 0 + l.length + 4 := by simp [sealM, be4]

theorem selArr {x : AObj} {q : List AObj} (k : Nat) (h : q[k]? = some x) (e : ∀ ρ, AObj.ren ρ x = x) : Sel 0 [k] q [x] := Sel.one k h (e _)

theorem sealMu_spec (l : List UInt8) (hl : l.length + 100 ≤ big) (H : List AObj) :
    ASpec Try.prog 323 [.sl 1 (.map encB 0 l) .none] H (fun r H' => r = .msl 1 H.length 0 (sealM l).length ∧ H' = H ++ [.arr 1 (.map encB 0 (sealM l))]) := by
  have k : ASpec Try.prog 323 [.sl 1 (.map encB 0 l) .none] [] (fun r H' => r = .msl 1 0 0 (sealM l).length ∧ H' = [.arr 1 (.map encB 0 (sealM l))]) := by
    unfold big at hl
    have hs := sum_lt l
    refine ASpec.sel (ASpec.arrEnd (Sb.s323 _ _ (ASpec.call (S.of_spec l (by unfold big; omega) []) (Les.refl _) ⟨_, rfl, rfl, ?_⟩)))
    rw [show IntKind.wrap .i64 ((l.length : Int) + 4) = ((l.length + 4 : Nat) : Int) by rw [wrap64 (by omega) (by omega)]; simp]
    refine needJ (by omega) (needJ oneB (needJ (by omega) (needJ (by decide) (needJ (by decide) (needJ (by decide) (needJ (by omega) ?_))))))
    refine ⟨2, 1, _, .map encB 0 (sealM l), rfl, ?_, [2], [.arr 1 (.map encB 0 (sealM l))], .msl 1 0 0 (0 + l.length + 4), Sel.one 2 rfl rfl, Le.refl _, by rw [seal_len4], rfl⟩
    unfold sealM
    generalize sum l = v at hs
    rw [show (16777216 : Int) = ((16777216 : Nat) : Int) from rfl, show (65536 : Int) = ((65536 : Nat) : Int) from rfl, show (256 : Int) = ((256 : Nat) : Int) from rfl,
      fdivN, fdivN, fdivN, wrapU8N, wrapU8N, wrapU8N, wrapU8N, encB_mod, encB_mod, encB_mod, encB_mod]
    simp [Ab.Seq.toList, be4]
  exact ASpec.anyH H k _ _ _ rfl rfl rfl

theorem packMu_spec (s body : List UInt8) (hf : fitM s = true) (hb : body.length ≤ 8192) (H : List AObj) :
    ASpec Try.prog 262 [.str (B s), .sl 1 (.map encB 0 body) .none] H (fun r H' => r = .msl 1 H.length 0 (packM s body).length ∧ H' = H ++ [.arr 1 (.map encB 0 (packM s body))]) := by
  have hs := fitM_short hf
  have k : ASpec Try.prog 262 [.str (B s), .sl 1 (.map encB 0 body) .none] [] (fun r H' => r = .msl 1 0 0 (packM s body).length ∧ H' = [.arr 1 (.map encB 0 (packM s body))]) := by
    have ht := txt_len s
    refine ASpec.sel (Sb.s262 _ _ _ (ASpec.call (fit_spec (by unfold big; omega) []) (Les.refl _) ⟨_, rfl, rfl, condBn (fun h => by rw [hf] at h; cases h) fun _ => condD (fun hg => by omega) fun hg => needJ (allBytes_map _) ?_⟩))
    rw [bytesOf_map]
    refine ASpec.call (text_spec [] s (by unfold big; simp; omega) []) ⟨leNil, Le.refl _, trivial⟩ ⟨_, rfl, rfl, ?_⟩
    have e : ([] : List UInt8) ++ enc (held s.length) ++ s = txt s := by simp [txt]
    rw [e]
    refine ASpec.call (text_spec (txt s) body (by unfold big; omega) [.tok]) ⟨Le.sl rfl (.inl rfl) (.inr rfl), Le.refl _, trivial⟩ ⟨_, rfl, rfl, ?_⟩
    have e2 : txt s ++ enc (held body.length) ++ body = txt s ++ txt body := by simp [txt]
    rw [e2]
    have ht2 := txt_len body
    have e3 : packM s body = sealM (txt s ++ txt body) := by rw [packM, if_pos ⟨hf, hb⟩]
    rw [e3]
    exact ASpec.call (sealMu_spec (txt s ++ txt body) (by unfold big; simp; omega) [.tok, .tok]) ⟨Le.sl rfl (.inl rfl) (.inr rfl), trivial⟩
      ⟨_, rfl, rfl, [2], [.arr 1 (.map encB 0 (sealM (txt s ++ txt body)))], .msl 1 0 0 (sealM (txt s ++ txt body)).length, Sel.one 2 rfl rfl, Le.refl _, rfl, rfl⟩
  exact ASpec.anyH H k _ _ _ rfl rfl rfl

theorem rightMu_spec (h : At H p a b D W S) (ok : okSt D W S) (k : Nat) (hk : k < W.length) :
    ASpec Try.prog 169 [.ptr p 0, .int .i64 k] H (fun r H' => r = .msl 1 H.length 0 (rightM D (W.getD k (0, [])).2).length ∧ H' = H ++ [.arr 1 (.map encB 0 (rightM D (W.getD k (0, [])).2))]) := by
  have hf := ok.2.2.2.2.1 _ (getD_mem (d := (0, [])) hk)
  have hf' := fitM_short hf
  have hb := body_ok ok (W.getD k (0, [])).2
  have k0 : ASpec Try.prog 169 [.ptr 0 0, .int .i64 k] (HS D W S) (fun r H' => r = .msl 1 3 0 (rightM D (W.getD k (0, [])).2).length ∧ H' = HS D W S ++ [.arr 1 (.map encB 0 (rightM D (W.getD k (0, [])).2))]) := by
    refine Sb.s169 _ _ _ _ _ (needJ ⟨by omega, by omega⟩ ?_)
    rw [Int.toNat_natCast]
    refine ASpec.call (Dp.body_spec D (W.getD k (0, [])).2 ok.1 ok.2.1 (by unfold lim; omega) _) (Les.refl _) ⟨_, rfl, rfl, ?_⟩
    exact ASpec.call (packMu_spec (W.getD k (0, [])).2 _ hf hb _) (Les.refl _) ⟨_, rfl, rfl, rfl, rfl⟩
  exact liftG h k0 rfl rfl (gM h _)

/-! ### a bad reply -/

def idxM (x : List UInt8) (t : Int) : Nat := t.toNat % x.length
def badM (x : List UInt8) (t : Int) (y : UInt8) : List UInt8 := x.set (idxM x t) (UInt8.ofNat ((x.getD (idxM x t) 0).toNat + max y.toNat 1))

theorem badM_other (x : List UInt8) (t : Int) (y : UInt8) : x.getD (idxM x t) 0 ≠ UInt8.ofNat ((x.getD (idxM x t) 0).toNat + max y.toNat 1) := by
  generalize x.getD (idxM x t) 0 = c
  have hc : c.toNat < 256 := c.toNat_lt
  have hy : y.toNat < 256 := y.toNat_lt
  intro h
  have := congrArg UInt8.toNat h
  rw [UInt8.toNat_ofNat'] at this
  omega

theorem badM_len (x : List UInt8) (t : Int) (y : UInt8) : (badM x t y).length = x.length := by simp [badM]

theorem pack_pos (n x : List UInt8) (hf : fitM n = true) (hb : x.length ≤ 8192) : 0 < (packM n x).length := by
  rw [packM, if_pos ⟨hf, hb⟩, seal_len4]; omega

theorem bad_no (h : At H p a b D W S) (k t : Int) (y : UInt8) (hk : ¬ (0 ≤ k ∧ k < (W.length : Int))) :
    ASpec Try.prog 44 [.ptr p 0, .int .i64 k, .int .i64 t, .int .u8 (y.toNat : Int)] H (fun r H' => r = .tup [.agg (encE noEv), .bool false] ∧ H' = H) := by
  have k0 : ASpec Try.prog 44 [.ptr 0 0, .int .i64 k, .int .i64 t, .int .u8 (y.toNat : Int)] (HS D W S) (fun r H' => r = .tup [.agg (encE noEv), .bool false] ∧ H' = HS D W S) := by
    refine ASpec.sel (Sb.s44 _ _ _ _ _ _ _ (ASpec.call (has_spec k (atL D W S _)) (Les.refl _) ⟨_, rfl, rfl, condBn (fun _ => ?_) fun h => ?_⟩))
    · refine ⟨[0, 1, 2], HS D W S, .tup [.agg (encE noEv), .bool false], ⟨by decide, rfl, by show 3 ≤ 3; omega, fun i hi => ?_, fun i hi => ?_⟩, Le.tup ⟨Le.agg lesE0, Le.refl _, trivial⟩, rfl, rfl⟩
      · match i, hi with
        | 0, _ | 1, _ | 2, _ => rfl
      · match i, hi with
        | 0, _ | 1, _ | 2, _ => exact .inl rfl
    · exact absurd (of_decide_eq_true h) hk
  exact liftG h k0 rfl rfl (gSame h)

theorem bad6 {x : List UInt8} (ok : okSt D W S) (k : Nat) (hk : k < W.length) (hx : x.length ≤ lim) :
    AWP Try.prog 40 3 Sb.c44_6 [(0, .ptr 0 0), (1, .int .i64 k), (8, .ptr 3 0), (10, .sl 1 (.map encB 0 x) .none)] (HS D W S ++ [.cells [.int .i64 0, .sl 0 (.raw []) .nil, .int .i64 0, .int .i64 0, .sl 0 (.raw []) .nil]])
      (Sb.q44_0 3 (fun r H' => ∃ l H2 r2, Sel (HS D W S).length l H' H2 ∧ Le r (AV.ren (selR l H'.length) r2) ∧ (r2 = .tup [.agg (encE (rep W k x)), .bool true] ∧ H2 = [stO D (W.eraseIdx k) (S ++ [rep W k x]) 3 4, .gone, .gone, .tok, .tok]))) := by
  refine Sb.v44_6 _ _ _ _ _ _ _ (ASpec.call (send_spec (atL D W S _) k _ hk ok.2.2.2.1 hx ok.2.2.2.2.2.1) (Les.refl _) ⟨(rep W k x, true, W.eraseIdx k, S ++ [rep W k x]), rfl, rfl, ?_⟩)
  refine ⟨[0, 1, 2, 4, 5], [stO D (W.eraseIdx k) (S ++ [rep W k x]) 3 4, .gone, .gone, .tok, .tok], _, ⟨by decide, rfl, by show 3 ≤ 5; omega, fun i hi => ?_, fun i hi => ?_⟩, Le.refl _, rfl, rfl⟩
  · match i, hi with
    | 0, _ | 1, _ | 2, _ => rfl
  · match i, hi with
    | 0, _ | 1, _ | 2, _ | 3, _ | 4, _ => exact .inl rfl

theorem bad_spec (h : At H p a b D W S) (ok : okSt D W S) (k : Nat) (t : Int) (y : UInt8) (hk : k < W.length) :
    ASpec Try.prog 44 [.ptr p 0, .int .i64 k, .int .i64 t, .int .u8 (y.toNat : Int)] H (fun r H' => r = .tup [.agg (encE (rep W k (badM (rightM D (W.getD k (0, [])).2) t y))), .bool true] ∧ H' = hSt H p a b D (W.eraseIdx k) (S ++ [rep W k (badM (rightM D (W.getD k (0, [])).2) t y)])) := by
  have hf := ok.2.2.2.2.1 _ (getD_mem (d := (0, [])) hk)
  have hf' := fitM_short hf
  have hb := body_ok ok (W.getD k (0, [])).2
  have hp := pack_pos _ _ hf hb
  have hl := pack_len _ _ hf' hb
  have hr := rightMu_spec (atL D W S [.cells [.int .i64 0, .sl 0 (.raw []) .nil, .int .i64 0, .int .i64 0, .sl 0 (.raw []) .nil]]) ok k hk
  have k0 : ASpec Try.prog 44 [.ptr 0 0, .int .i64 k, .int .i64 t, .int .u8 (y.toNat : Int)] (HS D W S) (fun r H' => r = .tup [.agg (encE (rep W k (badM (rightM D (W.getD k (0, [])).2) t y))), .bool true] ∧ H' = [stO D (W.eraseIdx k) (S ++ [rep W k (badM (rightM D (W.getD k (0, [])).2) t y)]) 3 4, .gone, .gone, .tok, .tok]) := by
    refine ASpec.sel (Sb.s44 _ _ _ _ _ _ _ (ASpec.call (has_spec k (atL D W S _)) (Les.refl _) ⟨_, rfl, rfl, condBn (fun h => ?_) fun _ => ?_⟩))
    · exact absurd ⟨by omega, by omega⟩ (of_decide_eq_false h)
    · refine ASpec.call hr (Les.refl _) ⟨rightM D (W.getD k (0, [])).2, rfl, rfl, ?_⟩
      have hbl := badM_len (rightM D (W.getD k (0, [])).2) t y
      have hbd : badM (rightM D (W.getD k (0, [])).2) t y = (rightM D (W.getD k (0, [])).2).set (idxM (rightM D (W.getD k (0, [])).2) t) (UInt8.ofNat (((rightM D (W.getD k (0, [])).2).getD (idxM (rightM D (W.getD k (0, [])).2) t) 0).toNat + max y.toNat 1)) := rfl
      generalize hxd : badM (rightM D (W.getD k (0, [])).2) t y = xb at hbl hbd ⊢
      clear hr
      change 0 < (rightM D (W.getD k (0, [])).2).length at hp
      change (rightM D (W.getD k (0, [])).2).length ≤ lim at hl
      generalize rightM D (W.getD k (0, [])).2 = x at hp hl hbl hbd ⊢
      have hm : (if (0 : Int) > t then (0 : Int) else t) = ((t.toNat : Nat) : Int) := by split <;> omega
      have hmod : Int.tmod (if (0 : Int) > t then (0 : Int) else t) (x.length : Int) = ((idxM x t : Nat) : Int) := by rw [hm, tmodN]; rfl
      have hix : idxM x t < x.length := Nat.mod_lt _ hp
      refine condD (fun _ => needJ (by omega) ?_) fun h => by omega
      rw [hmod]
      simp only [Int.toNat_natCast, Nat.zero_add]
      refine needJ ⟨by omega, by omega⟩ (needJ hix (needJ ⟨by omega, by omega⟩ (needJ hix ?_)))
      refine AWP.re (ReSt.freeze (id := 4) (sz := 1) (q := .raw ((x.map encB).set (idxM x t) [.int .u8 (IntKind.wrap .u8 (((x.getD (idxM x t) 0).toNat : Int) + if (1 : Int) > (y.toNat : Int) then (1 : Int) else (y.toNat : Int)))]))
        (s2 := [(0, .ptr 0 0), (1, .int .i64 k), (8, .ptr 3 0), (10, .sl 1 (.map encB 0 xb) .none)]) rfl (by simp) (fun d => ?_)) ?_
      · by_cases e : d = 10
        · subst e
          right; right
          refine ⟨0, x.length, .map encB 0 xb, rfl, by simp [Ab.Seq.toList], rfl, ?_⟩
          have hz : (((x.getD (idxM x t) 0).toNat : Int) + if (1 : Int) > (y.toNat : Int) then (1 : Int) else (y.toNat : Int)) = (((x.getD (idxM x t) 0).toNat + max y.toNat 1 : Nat) : Int) := by split <;> omega
          rw [hz, wrapU8N, encB_mod, hbd]
          simp only [Ab.Seq.toList, Nat.zero_add, List.drop_zero]
          rw [List.take_of_length_le (by simp), List.map_set]
        · left
          have : Nat.beq 10 d = false := by
            cases hx : Nat.beq 10 d with
            | false => rfl
            | true => exact absurd (Nat.eq_of_beq_eq_true hx).symm e
          simp only [Ab.get, this]; rfl
      · refine AWP.shape [0, 1, 2, 3] [(0, .ptr 0 0), (1, .int .i64 k), (8, .ptr 3 0), (10, .sl 1 (.map encB 0 xb) .none)] (HS D W S ++ [.cells [.int .i64 0, .sl 0 (.raw []) .nil, .int .i64 0, .int .i64 0, .sl 0 (.raw []) .nil]])
          ⟨by decide, rfl, by show 3 ≤ 4; omega, fun j hj => ?_, fun j hj => ?_⟩ ⟨rfl, Le.refl _, rfl, Le.refl _, rfl, Le.refl _, rfl, Le.refl _, trivial⟩ (bad6 ok k hk (by omega))
        · match j, hj with
          | 0, _ | 1, _ | 2, _ => rfl
        · match j, hj with
          | 0, _ | 1, _ | 2, _ | 3, _ => exact .inl rfl
  exact liftG h k0 rfl rfl (gS h)

/-! ### alike -/

theorem ev_dec (a b : Ev) (h1 : a.1 = b.1) (h2 : a.2.2.1 = b.2.2.1) (h3 : a.2.2.2.1 = b.2.2.2.1) : decide (a = b) = (decide (a.2.1 = b.2.1) && decide (a.2.2.2.2 = b.2.2.2.2)) := by
  obtain ⟨a1, a2, a3, a4, a5⟩ := a
  obtain ⟨b1, b2, b3, b4, b5⟩ := b
  simp only at h1 h2 h3 ⊢
  subst h1 h2 h3
  rw [Bool.eq_iff_iff]; simp

theorem bytesBeq (a b : List UInt8) : ((bytesOf (.map encB 0 a)).toList == (bytesOf (.map encB 0 b)).toList) = decide (a = b) := by
  rw [bytesOf_map, bytesOf_map, B_beq, Bool.eq_iff_iff]; simp

theorem rsame_spec (x y : Ev) (hl : okN x.2.1) (H : List AObj) : ASpec Try.prog 48 [.agg (encE x), .agg (encE y)] H (fun r H' => r = .bool (decide (x = y)) ∧ H' = H) := by
  have k : ASpec Try.prog 48 [.agg (encE x), .agg (encE y)] [] (fun r H' => r = .bool (decide (x = y)) ∧ H' = []) := by
    refine ASpec.sel (Sd.s48 _ _ _ (condE (fun h1 => ?_) fun h => Dp.pa ?_))
    · refine ASpec.call (W.sameN_spec _ _ hl _) (Les.refl _) ⟨_, rfl, rfl, condB (fun h4 => condE (fun h2 => condE (fun h3 => ?_) fun h => Dp.pa ?_) fun h => Dp.pa ?_) fun h4 => Dp.pa ?_⟩
      · refine needJ (allBytes_map _) (needJ (allBytes_map _) (Dp.pa ?_))
        rw [bytesBeq, ev_dec x y h1 h2 h3, h4, Bool.true_and]
        exact Le.refl _
      · rw [decide_eq_false (by rintro rfl; exact h rfl)]; exact Le.refl _
      · rw [decide_eq_false (by rintro rfl; exact h rfl)]; exact Le.refl _
      · rw [decide_eq_false (by rintro rfl; simp at h4)]; exact Le.refl _
    · rw [decide_eq_false (by rintro rfl; exact h rfl)]; exact Le.refl _
  exact ASpec.pureH H k _ _ rfl rfl

end
end St
end

section
/- StandRight: a right reply is opened as its name and body, a bad one not at all: the law's function returns true. -/

set_option linter.unusedVariables false
set_option linter.unusedSimpArgs false
set_option maxRecDepth 100000
open Go Go.Ab Go.Proofs V S T C
open W (sl1 slS slN slR)
open Dp (slEn okD Sorted bodyM)
namespace St

abbrev PT : AV → List AObj → Prop := Dp.PA (.bool true)
theorem pt {H' : List AObj} : PT (.bool true) H' := Dp.pa (Le.refl _)

theorem leA (l : List Ac) {q : Seq} {t : Tip} (h : (Seq.map encA (0, 0, []) l).toList = q.toList) : Le (.sl 7 q t) (slA l) := Le.sl h (.inl rfl) (.inr rfl)

theorem okSt_of {D : List Ent} (hd : Dp.depOk D = true) (hl : okD D) (W : List T.Item) (S : List Ev) (hW : W.length ≤ lim) (hf : ∀ x ∈ W, fitM x.2 = true) (hS : S.length ≤ lim) (hb : ∀ e ∈ S, e.2.2.2.2.length ≤ lim) : okSt D W S := by
  obtain ⟨_, h⟩ := Dp.depOk_ok hd
  refine ⟨hl, fun i hi => (h i hi).2.2, fun x hx => ?_, hW, hf, hS, hb⟩
  obtain ⟨i, hi, rfl⟩ := List.getElem_of_mem hx
  have := (h i hi).2.1
  rwa [List.getD_eq_getElem?_getD, List.getElem?_eq_getElem hi] at this

theorem condTrue {A C : Prop} (h : A) : condP true A C := h

theorem awake_spec (H : List AObj) : ASpec Try.prog 40 [] H (fun r H' => r = .bool true ∧ H' = H) := by
  have k : ASpec Try.prog 40 [] [] (fun r H' => r = .bool true ∧ H' = []) := by
    have hf : fitM [97] = true := by decide +kernel
    have h97 : ((B [97]).toList == (⟨#[97]⟩ : ByteArray).toList) = true := by decide +kernel
    have ok : okSt [] [(1, [97])] [] := okSt_of rfl Dp.okD0 _ _ (by unfold lim; simp) (by simp [hf]) (by simp) (by simp)
    have hb := body_ok ok [97]
    have hl := pack_len [97] _ (by simp) hb
    refine ASpec.sel (Sd.s40 _ (ASpec.call (new_spec [] Dp.okD0 rfl _) ⟨Dp.leD0, trivial⟩ (.inl ⟨[], rfl, rfl, ?_⟩)))
    refine ASpec.call (takeL_spec (atL [] [] [] []) 1 [97] [] (by simp) (by simp)) ⟨Le.refl _, leA [(1, 1, [97])] rfl, trivial⟩ ⟨((1 : Int), [(1, [97])]), rfl, rfl, ?_⟩
    refine ASpec.call (good_spec (p := 0) (a := 3) (b := 2) (D := []) (W := [(1, [97])]) (S := []) ⟨rfl, rfl, rfl, by decide, by decide, by decide⟩ ok 0 (by simp)) (Les.refl _)
      (.inl ⟨(rep [(1, [97])] 0 (rightM [] [97]), true, [], [rep [(1, [97])] 0 (rightM [] [97])]), rfl, rfl, needJ (allBytes_map _) ?_⟩)
    rw [bytesOf_map]
    have ho := ropen_spec (rightM [] [97]) (by unfold lim at hl; exact hl)
    rw [SM.sopen_back [97] _ hf hb] at ho
    refine ASpec.call (ho _) (Les.refl _) ⟨(B [97], B (bodyM [] [97]), 0), rfl, rfl, ?_⟩
    exact condE (fun _ => condTrue (condE (fun _ => condB (fun _ => pt) fun h => Bool.noConfusion (h97.symm.trans h)) fun h => absurd rfl h)) fun h => absurd rfl h
  exact ASpec.pureH H k _ _ rfl rfl

/-! ### the law -/
section
variable {l : List Ent} {s : List UInt8}

noncomputable abbrev oD (kd n t : Int) (y : UInt8) (nm : List UInt8) : AObj := .cells [.int .i64 kd, .int .i64 n, .int .i64 t, .int .u8 (y.toNat : Int), .str (B nm)]

theorem beqS (s : List UInt8) : ((B s).toList == (B s).toList) = true := by rw [B_beq]; simp

/-- the events that are sent -/
abbrev evG (l : List Ent) (s : List UInt8) : Ev := (3, [], 0, 7, rightM l s)
abbrev evB (l : List Ent) (s : List UInt8) (t : Int) (y : UInt8) : Ev := (3, [], 0, 8, badM (rightM l s) t y)

theorem law10 (hl : okD l) (hs : s.length ≤ 60) (hf : fitM s = true) {t : Int} {y : UInt8} :
    AWP Try.prog 137 0 Sd.c5_10 [(0, slEn l), (1, .str (B s)), (7, .ptr 0 0), (8, .int .i64 2), (9, .ptr 3 0), (10, .bool true), (11, .ptr 4 0), (12, .bool true), (13, .str (B s)), (14, .str (B (bodyM l s))), (15, .int .i64 0), (18, .int .i64 8), (19, .ptr 5 0), (20, .bool true)]
      (HS l [] [evG l s, evB l s t y] ++ [.cells (encE (evG l s)), .cells (encE (evB l s t y)), .cells (encE (evG l s))]) (Sd.q5_0 0 PT) := by
  refine Sd.v5_10 _ _ _ _ _ _ _ _ _ _ _ _ _ _ _ _ _ _ (condE (fun _ => condTrue (condTrue (condE (fun _ => condE (fun _ => condE (fun _ => condB (fun _ => ?_) fun h => Bool.noConfusion ((beqS s).symm.trans h)) fun h => absurd rfl h) fun h => absurd rfl h) fun h => absurd rfl h))) fun h => absurd rfl h)
  refine ASpec.call (Dp.rbody_spec l s hl (by unfold lim; omega) _) (Les.refl _) ⟨B (bodyM l s), rfl, rfl, condB (fun _ => condE (fun _ => condTrue ?_) fun h => absurd rfl h) fun h => Bool.noConfusion ((beqS (bodyM l s)).symm.trans h)⟩
  refine ASpec.call (rsame_spec (evG l s) (evG l s) ⟨by unfold lim; simp, fun n hn => by simp at hn⟩ _) (Les.refl _) ⟨_, rfl, rfl, ?_⟩
  rw [decide_eq_true rfl]
  refine condTrue (ASpec.call (len_spec (atL l [] [evG l s, evB l s t y] _)) (Les.refl _) ⟨_, rfl, rfl, condE (fun _ => ?_) fun h => absurd rfl h⟩)
  exact ASpec.call (awake_spec _) (Les.refl _) ⟨(), rfl, rfl, pt⟩

theorem law7 (hl : okD l) (hd : Dp.depOk l = true) (hs : s.length ≤ 60) (hf : fitM s = true) {t : Int} {y : UInt8} :
    AWP Try.prog 137 0 Sd.c5_7 [(0, slEn l), (1, .str (B s)), (7, .ptr 0 0), (8, .int .i64 2), (9, .ptr 3 0), (10, .bool true), (11, .ptr 4 0), (12, .bool true)]
      (HS l [] [evG l s, evB l s t y] ++ [.cells (encE (evG l s)), .cells (encE (evB l s t y))]) (Sd.q5_0 0 PT) := by
  have ok : okSt l [] [] := okSt_of hd hl _ _ (by unfold lim; simp) (by simp) (by simp) (by simp)
  have hb := body_ok ok s
  have hp := pack_len s _ (fitM_short hf) hb
  unfold lim at hp
  refine Sd.v5_7 _ _ _ _ _ _ _ _ _ _ _ _ (needJ (allBytes_map _) ?_)
  rw [bytesOf_map]
  have ho := ropen_spec (rightM l s) hp
  rw [SM.sopen_back s _ hf hb] at ho
  refine ASpec.call (ho _) (Les.refl _) ⟨(B s, B (bodyM l s), 0), rfl, rfl, ?_⟩
  refine Sd.v5_8 _ _ _ _ _ _ _ _ _ _ _ _ _ _ _ (needJ (allBytes_map _) ?_)
  rw [bytesOf_map]
  have hbad : sOpenM (badM (rightM l s) t y) = ([], [], 8) := by
    have e : rightM l s = sealM (txt s ++ txt (bodyM l s)) := by rw [rightM, packM, if_pos ⟨hf, hb⟩]
    have h1 := SM.open_bad (txt s ++ txt (bodyM l s)) (idxM (rightM l s) t) (UInt8.ofNat (((rightM l s).getD (idxM (rightM l s) t) 0).toNat + max y.toNat 1))
    rw [← e] at h1
    have h2 := h1 (Nat.mod_lt _ (pack_pos s _ hf hb)) (badM_other (rightM l s) t y)
    change openM (badM (rightM l s) t y) = ([], false) at h2
    rw [sOpenM, h2]; rfl
  have ho2 := ropen_spec (badM (rightM l s) t y) (by rw [badM_len]; exact hp)
  rw [hbad] at ho2
  refine ASpec.call (ho2 _) (Les.refl _) ⟨(B [], B [], 8), rfl, rfl, ?_⟩
  refine Sd.v5_9 _ _ _ _ _ _ _ _ _ _ _ _ _ _ _ _ ?_
  refine ASpec.call (again_spec (atL l [] [evG l s, evB l s t y] _) 0 (by simp) hp) (Les.refl _) ⟨(evG l s, true), rfl, rfl, ?_⟩
  exact law10 hl hs hf

theorem law4 (hl : okD l) (hd : Dp.depOk l = true) (hs : s.length ≤ 60) (hf : fitM s = true) {kd n t : Int} {y : UInt8} {nm : List UInt8} :
    AWP Try.prog 137 0 Sd.c5_4 [(0, slEn l), (1, .str (B s)), (5, .ptr 3 0), (7, .ptr 0 0)] (HS l [] [] ++ [oD kd n t y nm]) (Sd.q5_0 0 PT) := by
  have ok2 : okSt l [(7, s), (8, s)] [] := okSt_of hd hl _ _ (by unfold lim; simp) (by simp [hf]) (by simp) (by simp)
  have hb := body_ok ok2 s
  have hp := pack_len s _ (fitM_short hf) hb
  have ok1 : okSt l [(8, s)] [evG l s] := okSt_of hd hl _ _ (by unfold lim; simp) (by simp [hf]) (by unfold lim; simp) (by simpa using hp)
  refine Sd.v5_4 _ _ _ _ _ _ _ _ _ (ASpec.call (takeL_spec (atL l [] [] [oD kd n t y nm]) 7 s [(1, 8, s)] (by simp) (by simp)) ⟨Le.refl _, leA [(1, 7, s), (1, 8, s)] rfl, trivial⟩ ⟨((2 : Int), [(7, s), (8, s)]), rfl, rfl, ?_⟩)
  refine AWP.shape [0, 4, 2, 3] [(0, slEn l), (1, .str (B s)), (5, .ptr 3 0), (7, .ptr 0 0), (8, .int .i64 2)] (HS l [(7, s), (8, s)] [] ++ [oD kd n t y nm]) ⟨by decide, rfl, by omega, fun j hj => by omega, fun j hj => ?_⟩
    ⟨rfl, Le.refl _, rfl, Le.refl _, rfl, Le.refl _, rfl, Le.refl _, rfl, Le.refl _, trivial⟩ ?_
  · match j, hj with
    | 0, _ | 1, _ | 2, _ | 3, _ => exact .inl rfl
  refine Sd.v5_5 _ _ _ _ _ _ _ _ _ _ _ _ _ (ASpec.call (good_spec (atL l [(7, s), (8, s)] [] [oD kd n t y nm]) ok2 0 (by simp)) (Les.refl _) (.inl ⟨(evG l s, true, [(8, s)], [evG l s]), rfl, rfl, ?_⟩))
  refine AWP.shape [0, 4, 5, 3, 6] [(0, slEn l), (1, .str (B s)), (5, .ptr 3 0), (7, .ptr 0 0), (8, .int .i64 2), (9, .ptr 4 0), (10, .bool true)] (HS l [(8, s)] [evG l s] ++ [oD kd n t y nm, .cells (encE (evG l s))]) ⟨by decide, rfl, by omega, fun j hj => by omega, fun j hj => ?_⟩
    ⟨rfl, Le.refl _, rfl, Le.refl _, rfl, Le.refl _, rfl, Le.refl _, rfl, Le.refl _, rfl, Le.refl _, rfl, Le.refl _, trivial⟩ ?_
  · match j, hj with
    | 0, _ | 1, _ | 2, _ | 3, _ | 4, _ => exact .inl rfl
  refine Sd.v5_6 _ _ _ _ _ _ _ _ _ _ _ _ _ _ _ (ASpec.call (bad_spec (atL l [(8, s)] [evG l s] [oD kd n t y nm, .cells (encE (evG l s))]) ok1 0 t y (by simp)) (Les.refl _) (.inl ⟨(evB l s t y, true, [], [evG l s, evB l s t y]), rfl, rfl, ?_⟩))
  refine AWP.shape [0, 5, 6, 4, 7] [(0, slEn l), (1, .str (B s)), (7, .ptr 0 0), (8, .int .i64 2), (9, .ptr 3 0), (10, .bool true), (11, .ptr 4 0), (12, .bool true)] (HS l [] [evG l s, evB l s t y] ++ [.cells (encE (evG l s)), .cells (encE (evB l s t y))]) ⟨by decide, rfl, by omega, fun j hj => by omega, fun j hj => ?_⟩
    ⟨rfl, Le.refl _, rfl, Le.refl _, rfl, Le.refl _, rfl, Le.refl _, rfl, Le.refl _, rfl, Le.refl _, rfl, Le.refl _, rfl, Le.refl _, trivial⟩ (law7 hl hd hs hf)
  match j, hj with
  | 0, _ | 1, _ | 2, _ | 3, _ | 4, _ => exact .inl rfl

theorem standRight_spec (l : List Ent) (s : List UInt8) (kd n t : Int) (y : UInt8) (nm : List UInt8) :
    ASpec Try.prog 5 [slEn l, .str (B s), .agg [.int .i64 kd, .int .i64 n, .int .i64 t, .int .u8 (y.toNat : Int), .str (B nm)]] [] (fun r H' => r = .bool true ∧ H' = []) := by
  have aw : ∀ H, ASpec Try.prog 40 [] H (fun r H' => ∃ (x : Unit), r = .bool true ∧ H' = H ∧ PT (.bool true) H) := fun H => ASpec.call (awake_spec H) (Les.refl _) ⟨(), rfl, rfl, pt⟩
  refine ASpec.sel (Sd.s5 _ _ _ _ _ _ _ _ (ASpec.call (Dp.largeD_spec l _) (Les.refl _) ⟨_, rfl, rfl, condB (fun _ => aw _) fun h => ?_⟩))
  have hl := Dp.largeD_ok h
  refine ASpec.call (Dp.rcheck_spec l hl _) (Les.refl _) ⟨_, rfl, rfl, condBn (fun _ => aw _) fun hd => condD (fun _ => aw _) fun hs => ?_⟩
  rw [B_size] at hs
  refine ASpec.call (rfit_spec (l := s) (by unfold big; omega) _) (Les.refl _) ⟨_, rfl, rfl, condBn (fun _ => aw _) fun hf => ?_⟩
  refine ASpec.call (new_spec l hl hd _) (Les.refl _) (.inl ⟨l, rfl, rfl, ?_⟩)
  refine AWP.shape [1, 2, 3, 0] [(0, slEn l), (1, .str (B s)), (5, .ptr 3 0), (7, .ptr 0 0)] (HS l [] [] ++ [oD kd n t y nm]) ⟨by decide, rfl, by omega, fun j hj => by omega, fun j hj => ?_⟩
    ⟨rfl, Le.refl _, rfl, Le.refl _, rfl, Le.refl _, rfl, Le.refl _, trivial⟩ (law4 hl hd (by omega) hf)
  match j, hj with
  | 0, _ | 1, _ | 2, _ | 3, _ => exact .inl rfl

end
end St
end

section
/- The codecs of this seat's plain arguments. -/

open Go Go.Ab Go.Proofs
namespace Go.Ab

noncomputable def cInt : Codec Try.prog 3 Int := Codec.int .i64 Try.underlying3
noncomputable def cStr : Codec Try.prog 9 ByteArray := Codec.str Try.underlying9
noncomputable def cInts : Codec Try.prog 153 (List Int) := Codec.slice (sz := 1) cInt Try.underlying153 (by kernel_rfl) (by omega) (fun _ => rfl)
/-- a byte -/
noncomputable def cByte : Codec Try.prog 5 UInt8 where
  enc b := encB b
  ok _ := True
  dflt := 0
  opens := by
    intro H e w fuel cs x h
    obtain ⟨n, h1, h2⟩ := (Codec.int .u8 Try.underlying5).opens e w fuel cs x h
    have hn : 0 ≤ n ∧ n ≤ 255 := by simpa [Codec.int, Lit.wf, IntKind.min, IntKind.max, IntKind.signed, IntKind.bits] using h1
    refine ⟨UInt8.ofNat n.toNat, trivial, ?_⟩
    rw [← encB_ofNat hn.1 (by omega)]
    exact h2
noncomputable def cBytes : Codec Try.prog 23 (List UInt8) := Codec.slice (sz := 1) cByte Try.underlying23 (by kernel_rfl) (by omega) (fun _ => rfl)

end Go.Ab
end

section
/- The codecs of manifests. -/

open Go Go.Ab Go.Proofs
namespace Go.Ab

noncomputable def cName : Codec Try.prog 9 (List UInt8) := cStr.iso (fun s => s.data.toList) (fun l => [.str ⟨l.toArray⟩]) (fun _ => True) (fun _ => rfl) (fun _ _ => trivial)
noncomputable def cSpan : Codec Try.prog 200 T.Span :=
  (Codec.struct (n := 2) Try.underlying200 (FC.cons (k := 1) (n := 1) cInt rfl (by kernel_rfl) (FC.cons (k := 1) (n := 0) cInt rfl (by kernel_rfl) FC.nil)) (by kernel_rfl)).iso (fun x => (x.1, x.2.1)) T.encS (fun _ => True) (fun _ => rfl) (fun _ _ => trivial)
noncomputable def cSpans : Codec Try.prog 38 (List T.Span) := Codec.slice (sz := 2) cSpan Try.underlying38 (by kernel_rfl) (by omega) (fun _ => rfl)
noncomputable def cNeed : Codec Try.prog 290 T.Need :=
  (Codec.struct (n := 2) Try.underlying290 (FC.cons (k := 1) (n := 1) cName rfl (by kernel_rfl) (FC.cons (k := 1) (n := 0) cSpans rfl (by kernel_rfl) FC.nil)) (by kernel_rfl)).iso (fun x => (x.1, x.2.1)) T.encN (fun _ => True) (fun _ => rfl) (fun _ _ => trivial)
noncomputable def cNeeds : Codec Try.prog 66 (List T.Need) := Codec.slice (sz := 2) cNeed Try.underlying66 (by kernel_rfl) (by omega) (fun _ => rfl)
noncomputable def cRel : Codec Try.prog 177 T.Rel :=
  (Codec.struct (n := 2) Try.underlying177 (FC.cons (k := 1) (n := 1) cInt rfl (by kernel_rfl) (FC.cons (k := 1) (n := 0) cNeeds rfl (by kernel_rfl) FC.nil)) (by kernel_rfl)).iso (fun x => (x.1, x.2.1)) T.encR (fun _ => True) (fun _ => rfl) (fun _ _ => trivial)
noncomputable def cRels : Codec Try.prog 90 (List T.Rel) := Codec.slice (sz := 2) cRel Try.underlying90 (by kernel_rfl) (by omega) (fun _ => rfl)
noncomputable def cMani : Codec Try.prog 92 T.Mani :=
  (Codec.struct (n := 2) Try.underlying92 (FC.cons (k := 1) (n := 1) cName rfl (by kernel_rfl) (FC.cons (k := 1) (n := 0) cRels rfl (by kernel_rfl) FC.nil)) (by kernel_rfl)).iso (fun x => (x.1, x.2.1)) T.encM (fun _ => True) (fun _ => rfl) (fun _ _ => trivial)

end Go.Ab
end

section
/- The codecs of lists of entries and of manifests. -/

open Go Go.Ab Go.Proofs
namespace Go.Ab
noncomputable def cEnt : Codec Try.prog 163 T.Ent :=
  (Codec.struct (n := 2) Try.underlying163 (FC.cons (k := 1) (n := 1) cName rfl (by kernel_rfl) (FC.cons (k := 1) (n := 0) cBytes rfl (by kernel_rfl) FC.nil)) (by kernel_rfl)).iso (fun x => (x.1, x.2.1)) T.encEn (fun _ => True) (fun _ => rfl) (fun _ _ => trivial)
noncomputable def cEnts : Codec Try.prog 52 (List T.Ent) := Codec.slice (sz := 2) cEnt Try.underlying52 (by kernel_rfl) (by omega) (fun _ => rfl)
noncomputable def cManis : Codec Try.prog 101 (List T.Mani) := Codec.slice (sz := 2) cMani Try.underlying101 (by kernel_rfl) (by omega) (fun _ => rfl)
end Go.Ab
end

section
/- The codec of what is done to a stand. -/

open Go Go.Ab Go.Proofs
namespace T
/-- kind, number, place, byte, name -/
abbrev Do := Int × Int × Int × UInt8 × List UInt8
noncomputable def encDo (x : Do) : List AV := [.int .i64 x.1, .int .i64 x.2.1, .int .i64 x.2.2.1, .int .u8 (x.2.2.2.1.toNat : Int), .str ⟨x.2.2.2.2.toArray⟩]
end T
namespace Go.Ab
noncomputable def cDo : Codec Try.prog 54 T.Do :=
  (Codec.struct (n := 5) Try.underlying54 (FC.cons (k := 1) (n := 4) cInt rfl (by kernel_rfl) (FC.cons (k := 1) (n := 3) cInt rfl (by kernel_rfl) (FC.cons (k := 1) (n := 2) cInt rfl (by kernel_rfl) (FC.cons (k := 1) (n := 1) cByte rfl (by kernel_rfl)
    (FC.cons (k := 1) (n := 0) cName rfl (by kernel_rfl) FC.nil))))) (by kernel_rfl)).iso (fun x => (x.1, x.2.1, x.2.2.1, x.2.2.2.1, x.2.2.2.2.1)) T.encDo (fun _ => True) (fun _ => rfl) (fun _ _ => trivial)
end Go.Ab
end

section
/- What is asked of the program alone, once for all statements. -/

namespace Go.Proofs.Facts
open Go Go.Proofs
theorem andT {a b : Bool} (h : a = true) (k : b = true) : (a && b) = true := by rw [h, k]; rfl
theorem laid : laidOutB Try.prog = true := by kernel_rfl
theorem mapsRowed : Go.mapsRowed Try.prog = true := by kernel_rfl
theorem stops : (Try.prog.stops == []) = true := by kernel_rfl
theorem stopKnobs : (Try.prog.stopKnobs == []) = true := by kernel_rfl
theorem heard : Try.prog.stopsHeard = true := by kernel_rfl
theorem may : Try.prog.mayEnter = true := by kernel_rfl
theorem lifted : (false == Try.prog.liftsFinal) = true := by kernel_rfl
theorem plain : (true == Try.prog.plainKeys) = true := by kernel_rfl
theorem made : (Try.prog.make == some .cut) = true := by kernel_rfl
theorem own : ownKnob Try.prog.godebug = none := by kernel_rfl
end Go.Proofs.Facts
end
