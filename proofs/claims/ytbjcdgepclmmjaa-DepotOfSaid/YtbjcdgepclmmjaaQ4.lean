/- Q4: several of this proof's own texts, one behind the other: what each proves stands at its head. -/
import Derived.Test.YtbjcdgepclmmjaaQ3
import Derived.Test.YtbjcdgepclmmjaaQ2
import Derived.Sort.Walk0
import Derived.Lib.Bytealg
import Derived.Shelf.Lays
import Derived.Shelf.Small.Strs
import Derived.Test.YtbjcdgepclmmjaaProg
import Derived.Test.YtbjcdgepclmmjaaA1
import Derived.Test.YtbjcdgepclmmjaaChecked
import Derived.KernelRfl
import Derived.JoinedOf
section
/- The order of names, and looking for one by halves: plain laws. -/

set_option linter.unusedVariables false
set_option linter.unusedSimpArgs false
open Go Go.Ab Go.Proofs V S T C
namespace Dp

theorem less_iff {a b : List UInt8} : Op.bytesLess a b = true ↔ a < b := by rw [bytesLess_eq]; simp
theorem less_trans {a b c : List UInt8} (h : Op.bytesLess a b = true) (k : Op.bytesLess b c = true) : Op.bytesLess a c = true := by
  rw [less_iff] at *; exact List.lt_trans h k
theorem less_irrefl (a : List UInt8) : Op.bytesLess a a = false := by
  rw [bytesLess_eq, decide_eq_false_iff_not]; exact List.lt_irrefl a
theorem less_tri : ∀ {a b : List UInt8}, Op.bytesLess a b = false → a ≠ b → Op.bytesLess b a = true
  | [], [], _, h => absurd rfl h
  | [], _ :: _, h, _ => by simp [Op.bytesLess] at h
  | _ :: _, [], _, _ => by simp [Op.bytesLess]
  | x :: a, y :: b, h, hne => by
    simp only [Op.bytesLess, Bool.or_eq_false_iff, decide_eq_false_iff_not, Bool.and_eq_false_iff, beq_eq_false_iff_ne] at h
    simp only [Op.bytesLess, Bool.or_eq_true, decide_eq_true_eq, Bool.and_eq_true, beq_iff_eq]
    by_cases e : x = y
    · subst e
      rcases h.2 with h2 | h2
      · exact absurd rfl h2
      · exact .inr ⟨rfl, less_tri h2 (fun h3 => hne (by rw [h3]))⟩
    · left
      have h1 := h.1
      rw [UInt8.not_lt] at h1
      exact UInt8.lt_of_le_of_ne h1 (fun h => e h.symm)
theorem leB_false {a b : List UInt8} : leB a b = false ↔ Op.bytesLess b a = true := by
  unfold leB
  rw [Bool.or_eq_false_iff, beq_eq_false_iff_ne]
  constructor
  · rintro ⟨h1, h2⟩; exact less_tri h1 h2
  · intro h
    refine ⟨?_, ?_⟩
    · cases hx : Op.bytesLess a b with
      | false => rfl
      | true => have := less_trans h hx; rw [less_irrefl] at this; cases this
    · rintro rfl; rw [less_irrefl] at h; cases h

theorem cmp_less : ∀ (a b : List UInt8), (Lib.compareBytes a b < 0) ↔ Op.bytesLess a b = true
  | [], [] => by simp [Lib.compareBytes, Op.bytesLess]
  | [], _ :: _ => by simp [Lib.compareBytes, Op.bytesLess]
  | _ :: _, [] => by simp [Lib.compareBytes, Op.bytesLess]
  | x :: a, y :: b => by
    simp only [Lib.compareBytes, Op.bytesLess, Bool.or_eq_true, decide_eq_true_eq, Bool.and_eq_true, beq_iff_eq]
    by_cases h1 : x < y
    · simp [h1]
    · by_cases h2 : y < x
      · rw [if_neg h1, if_pos h2]
        constructor
        · intro h; omega
        · rintro (h | ⟨rfl, _⟩)
          · exact absurd h h1
          · exact absurd h2 h1
      · rw [if_neg h1, if_neg h2, cmp_less a b]
        have e : x = y := UInt8.le_antisymm (UInt8.not_lt.1 h2) (UInt8.not_lt.1 h1)
        simp [h1, e]
theorem cmp_zero : ∀ (a b : List UInt8), (Lib.compareBytes a b = 0) ↔ a = b
  | [], [] => by simp [Lib.compareBytes]
  | [], _ :: _ => by simp [Lib.compareBytes]
  | _ :: _, [] => by simp [Lib.compareBytes]
  | x :: a, y :: b => by
    simp only [Lib.compareBytes, List.cons.injEq]
    by_cases h1 : x < y
    · rw [if_pos h1]
      constructor
      · intro h; omega
      · rintro ⟨rfl, _⟩; exact absurd h1 (UInt8.lt_irrefl _)
    · by_cases h2 : y < x
      · rw [if_neg h1, if_pos h2]
        constructor
        · intro h; omega
        · rintro ⟨rfl, _⟩; exact absurd h2 (UInt8.lt_irrefl _)
      · rw [if_neg h1, if_neg h2, cmp_zero a b]
        have e : x = y := UInt8.le_antisymm (UInt8.not_lt.1 h2) (UInt8.not_lt.1 h1)
        simp [e]

/-! ### entries that may be -/

def depF (last : List UInt8) : List Ent → Bool
  | [] => true
  | x :: r => if fitM x.1 = false ∨ leB x.1 last = true ∨ 8192 < x.2.length then false else depF x.1 r
def depOk (l : List Ent) : Bool := depF [] l && decide (l.length ≤ 24)

theorem depF_ok : ∀ (l : List Ent) (last : List UInt8), depF last l = true → ∀ i, i < l.length →
    fitM (l.getD i ([], [])).1 = true ∧ (l.getD i ([], [])).2.length ≤ 8192 ∧ Op.bytesLess last (l.getD i ([], [])).1 = true ∧ ∀ j, j < i → Op.bytesLess (l.getD j ([], [])).1 (l.getD i ([], [])).1 = true
  | [], _, _, i, hi => by simp at hi
  | x :: r, last, h, i, hi => by
    simp only [depF] at h
    split at h
    · cases h
    · rename_i hx
      simp only [not_or, Bool.not_eq_false, Bool.not_eq_true, Nat.not_lt] at hx
      obtain ⟨h1, h2, h3⟩ := hx
      rw [leB_false] at h2
      match i, hi with
      | 0, _ => exact ⟨h1, h3, h2, fun j hj => by omega⟩
      | i + 1, hi =>
        obtain ⟨k1, k2, k3, k4⟩ := depF_ok r x.1 h i (by simpa using hi)
        simp only [List.getD_cons_succ]
        refine ⟨k1, k2, less_trans h2 k3, fun j hj => ?_⟩
        match j, hj with
        | 0, _ => exact k3
        | j + 1, hj => exact k4 j (by omega)

theorem depOk_ok {l : List Ent} (h : depOk l = true) : l.length ≤ 24 ∧ ∀ i, i < l.length → fitM (l.getD i ([], [])).1 = true ∧ (l.getD i ([], [])).2.length ≤ 8192 ∧ ∀ j, j < i → Op.bytesLess (l.getD j ([], [])).1 (l.getD i ([], [])).1 = true := by
  simp only [depOk, Bool.and_eq_true, decide_eq_true_eq] at h
  refine ⟨h.2, fun i hi => ?_⟩
  obtain ⟨a, b, _, d⟩ := depF_ok l [] h.1 i hi
  exact ⟨a, b, d⟩

/-- how many names stand ahead -/
def cnt (nm : List UInt8) : List Ent → Nat
  | [] => 0
  | x :: r => if Op.bytesLess x.1 nm = true then cnt nm r + 1 else 0

theorem cnt_le (nm : List UInt8) : ∀ l : List Ent, cnt nm l ≤ l.length
  | [] => Nat.le_refl _
  | x :: r => by
    simp only [cnt]
    split
    · have := cnt_le nm r; simp; omega
    · simp
theorem cnt_lt (nm : List UInt8) : ∀ (l : List Ent) (i : Nat), i < cnt nm l → Op.bytesLess (l.getD i ([], [])).1 nm = true
  | [], i, h => by simp [cnt] at h
  | x :: r, i, h => by
    simp only [cnt] at h
    split at h
    · rename_i hx
      match i, h with
      | 0, _ => exact hx
      | i + 1, h => exact cnt_lt nm r i (by omega)
    · omega
theorem cnt_at (nm : List UInt8) : ∀ (l : List Ent), cnt nm l < l.length → Op.bytesLess (l.getD (cnt nm l) ([], [])).1 nm = false
  | [], h => by simp at h
  | x :: r, h => by
    simp only [cnt] at h ⊢
    split
    · rename_i hx
      rw [if_pos hx] at h
      exact cnt_at nm r (by simpa using h)
    · rename_i hx
      simpa using hx
theorem cnt_ge {nm : List UInt8} {l : List Ent} (hs : ∀ i, i < l.length → ∀ j, j < i → Op.bytesLess (l.getD j ([], [])).1 (l.getD i ([], [])).1 = true) {i : Nat} (h : cnt nm l ≤ i) (hi : i < l.length) :
    Op.bytesLess (l.getD i ([], [])).1 nm = false := by
  have h0 := cnt_at nm l (by omega)
  rcases Nat.eq_or_lt_of_le h with e | e
  · rw [← e]; exact h0
  · cases hx : Op.bytesLess (l.getD i ([], [])).1 nm with
    | false => rfl
    | true =>
      have := less_trans (hs i hi _ e) hx
      rw [h0] at this; cases this

/-- a name's body, if it is there -/
def getE (nm : List UInt8) : List Ent → Option (List UInt8)
  | [] => none
  | x :: r => if x.1 = nm then some x.2 else getE nm r

theorem getE_at {nm : List UInt8} : ∀ {l : List Ent}, (∀ i, i < l.length → ∀ j, j < i → Op.bytesLess (l.getD j ([], [])).1 (l.getD i ([], [])).1 = true) →
    (cnt nm l < l.length ∧ (l.getD (cnt nm l) ([], [])).1 = nm → getE nm l = some (l.getD (cnt nm l) ([], [])).2) ∧ (¬ (cnt nm l < l.length ∧ (l.getD (cnt nm l) ([], [])).1 = nm) → getE nm l = none)
  | [], _ => ⟨fun h => by simp at h, fun _ => rfl⟩
  | x :: r, hs => by
    have hr : ∀ i, i < r.length → ∀ j, j < i → Op.bytesLess (r.getD j ([], [])).1 (r.getD i ([], [])).1 = true := fun i hi j hj => by
      have := hs (i + 1) (by simpa using hi) (j + 1) (by omega)
      simpa using this
    obtain ⟨k1, k2⟩ := getE_at (nm := nm) hr
    simp only [cnt, getE]
    by_cases hx : Op.bytesLess x.1 nm = true
    · rw [if_pos hx]
      have hne : ¬ x.1 = nm := by rintro rfl; rw [less_irrefl] at hx; cases hx
      rw [if_neg hne]
      simp only [List.length_cons, List.getD_cons_succ, Nat.add_lt_add_iff_right]
      exact ⟨k1, k2⟩
    · rw [if_neg hx]
      simp only [List.length_cons, List.getD_cons_zero]
      constructor
      · intro h
        rw [if_pos h.2]
      · intro h
        have hne : ¬ x.1 = nm := fun e => h ⟨by omega, e⟩
        rw [if_neg hne]
        apply k2
        rintro ⟨h1, h2⟩
        have h3 := hs (cnt nm r + 1) (by simpa using h1) 0 (by omega)
        simp only [List.getD_cons_zero, List.getD_cons_succ, h2] at h3
        rw [h3] at hx; exact hx rfl
end Dp
end

section
/- strings.Compare, by the library's contract at this program (the laying was written by the kit's lay-plain tool). -/

set_option linter.unusedVariables false
set_option linter.unusedSimpArgs false
namespace Go.Proofs
open Go.Shelf
def Try.lays106_ren : Go.Shelf.Ren := ⟨fun | 106 => 280 | 213 => 327 | 265 => 374 | n => n, fun | 9 => 9 | 3 => 3 | n => n, fun | n => n⟩
theorem Try.lays106 : Go.Proofs.Lays.n106 Try.prog Try.lays106_ren := {
  mixed := by kernel_rfl
  f106 := Try.func280.trans (congrArg some (by kernel_rfl))
  f213 := Try.func327.trans (congrArg some (by kernel_rfl))
  f265 := Try.func374.trans (congrArg some (by kernel_rfl))
  t3 := Try.underlying3
  a3 := Try.isAgg3
  z3 := Try.sizeOf3
  v3 := Try.zeroValue3
  t9 := Try.underlying9
  a9 := Try.isAgg9
  z9 := Try.sizeOf9
  v9 := Try.zeroValue9 }
end Go.Proofs
open Go Go.Ab Go.Proofs V S T C
namespace Dp
theorem cmp_spec (a b : List UInt8) (H : List AObj) : ASpec Try.prog 280 [.str (B a), .str (B b)] H (fun r H' => r = .int .i64 (Lib.compareBytes a b) ∧ H' = H) := by
  refine ASpec.of_calls fun M loc w vs ht hv => ?_
  obtain ⟨hs, hv⟩ := hv
  have hv0 := hv 0 (by simp)
  have hv1 := hv 1 (by simp)
  simp only [List.getElem_cons_zero, List.getElem_cons_succ] at hv0 hv1
  have hvs : vs = #[vs[0]'(by simp at hs; omega), vs[1]'(by simp at hs; omega)] := by
    apply Array.ext
    · simpa using hs
    · intro i h1 h2
      have : i < 2 := by simpa using h2
      match i, this with
      | 0, _ => rfl
      | 1, _ => rfl
  generalize vs[0]'(by simp at hs; omega) = v0 at hv0 hvs
  generalize vs[1]'(by simp at hs; omega) = v1 at hv1 hvs
  subst hvs
  cases hv0
  cases hv1
  refine (Any.strings_Compare Try.lays106 (B a) (B b) w).mono ?_
  rintro e w' ⟨rfl, rfl⟩
  exact ⟨_, rfl, .int _ _, Grown.refl _⟩
end Dp
end

section
/- Manifests as bytes: what the code puts, and the document. -/

set_option linter.unusedVariables false
set_option linter.unusedSimpArgs false
set_option maxRecDepth 100000
open Go Go.Ab Go.Proofs V S T C
namespace W

def numB (x : Int) : List UInt8 := enc (held x)
def text (s : List UInt8) : List UInt8 := enc (held s.length) ++ s
def spanB (s : Span) : List UInt8 := numB s.1 ++ numB (IntKind.wrap .i64 (s.2 - s.1))
def needB (n : Need) : List UInt8 := text n.1 ++ numB n.2.length ++ n.2.flatMap spanB
def relB (r : Rel) : List UInt8 := numB r.1 ++ numB r.2.length ++ r.2.flatMap needB
def maniB (m : Mani) : List UInt8 := text m.1 ++ numB m.2.length ++ m.2.flatMap relB
def putMan (m : Mani) : List UInt8 := if manOk m = true then maniB m else []

theorem numB_len (x : Int) : (numB x).length ≤ 6 := enc_length _ (held_le _)
theorem text_len (s : List UInt8) : (text s).length ≤ s.length + 6 := by
  have := enc_length (held s.length) (held_le _)
  simp [text]; omega

theorem flat_len {α : Type} (f : α → List UInt8) (k : Nat) : ∀ (l : List α), (∀ x ∈ l, (f x).length ≤ k) → (l.flatMap f).length ≤ l.length * k
  | [], _ => by simp
  | x :: r, h => by
    have h1 := h x (by simp)
    have h2 := flat_len f k r (fun y hy => h y (by simp [hy]))
    rw [List.flatMap_cons, List.length_append, List.length_cons, Nat.add_mul]
    omega

theorem spanB_len (s : Span) : (spanB s).length ≤ 12 := by
  have h1 := numB_len s.1
  have h2 := numB_len (IntKind.wrap .i64 (s.2 - s.1))
  simp only [spanB, List.length_append]; omega

theorem needB_len {n : Need} (h1 : n.1.length ≤ 24) (h2 : n.2.length ≤ 6) : (needB n).length ≤ 108 := by
  have a := text_len n.1
  have b := numB_len n.2.length
  have c := flat_len spanB 12 n.2 (fun x _ => spanB_len x)
  have d : n.2.length * 12 ≤ 6 * 12 := Nat.mul_le_mul_right _ h2
  simp only [needB, List.length_append]; omega

theorem needsF_ok : ∀ (l : List Need) (last : List UInt8), needsF last l = true → ∀ n ∈ l, n.1.length ≤ 24 ∧ n.2.length ≤ 6 ∧ spanOk n.2 = true ∧ fitM n.1 = true
  | [], _, _, n, hn => by simp at hn
  | x :: r, last, h, n, hn => by
    simp only [needsF] at h
    split at h
    · cases h
    · rename_i hh
      rcases List.mem_cons.1 hn with rfl | hn
      · have hf : fitM n.1 = true := by
          cases hq : fitM n.1 with
          | true => rfl
          | false => exact (hh (.inl hq)).elim
        have hs : spanOk n.2 = true := by
          cases hq : spanOk n.2 with
          | true => rfl
          | false => exact (hh (.inr (.inr (.inr hq)))).elim
        exact ⟨fitM_short hf, by omega, hs, hf⟩
      · exact needsF_ok r _ h n hn

theorem needOk_ok {l : List Need} (h : needOk l = true) : l.length ≤ 6 ∧ ∀ n ∈ l, n.1.length ≤ 24 ∧ n.2.length ≤ 6 ∧ spanOk n.2 = true ∧ fitM n.1 = true := by
  unfold needOk at h
  rw [Bool.and_eq_true] at h
  exact ⟨of_decide_eq_true h.2, needsF_ok l _ h.1⟩

theorem relB_len {r : Rel} (h : needOk r.2 = true) : (relB r).length ≤ 660 := by
  obtain ⟨h1, h2⟩ := needOk_ok h
  have a := numB_len r.1
  have b := numB_len r.2.length
  have c := flat_len needB 108 r.2 (fun x hx => needB_len (h2 x hx).1 (h2 x hx).2.1)
  have d : r.2.length * 108 ≤ 6 * 108 := Nat.mul_le_mul_right _ h1
  simp only [relB, List.length_append]; omega

theorem relF_ok : ∀ (l : List Rel) (e : Int), relF e l = true → ∀ r ∈ l, needOk r.2 = true ∧ e < r.1 ∧ r.1 < 1000000000
  | [], _, _, n, hn => by simp at hn
  | x :: r, e, h, n, hn => by
    simp only [relF] at h
    split at h
    · cases h
    · rename_i hh
      rcases List.mem_cons.1 hn with rfl | hn
      · refine ⟨?_, by omega, by omega⟩
        cases hq : needOk n.2 with
        | true => rfl
        | false => exact (hh (.inr (.inr hq))).elim
      · have := relF_ok r _ h n hn
        exact ⟨this.1, by omega, this.2.2⟩

theorem manOk_ok {m : Mani} (h : manOk m = true) : fitM m.1 = true ∧ m.1.length ≤ 24 ∧ m.2.length ≤ 8 ∧ ∀ r ∈ m.2, needOk r.2 = true ∧ -1 < r.1 ∧ r.1 < 1000000000 := by
  unfold manOk at h
  rw [Bool.and_eq_true, Bool.and_eq_true] at h
  exact ⟨h.2.1, fitM_short h.2.1, of_decide_eq_true h.2.2, relF_ok _ _ h.1⟩

theorem maniB_len {m : Mani} (h : manOk m = true) : (maniB m).length ≤ 5316 := by
  obtain ⟨-, h1, h2, h3⟩ := manOk_ok h
  have a := text_len m.1
  have b := numB_len m.2.length
  have c := flat_len relB 660 m.2 (fun x hx => relB_len (h3 x hx).1)
  have d : m.2.length * 660 ≤ 8 * 660 := Nat.mul_le_mul_right _ h2
  simp only [maniB, List.length_append]; omega

theorem lenL {α : Type} {a c P : List α} (h : a ++ c = P) : a.length ≤ P.length := by rw [← h]; simp

theorem leTwo (a b : Int) : Le (.sl 1 (.raw [[.int .i64 a], [.int .i64 b]]) .full) (.sl 1 (.map encI 0 [a, b]) .none) := Le.sl rfl (.inl rfl) (.inr rfl)
theorem leTok {l : List UInt8} {t : Tip} : Le (.sl 1 (.map encB 0 l) t) (.sl 1 (.map encB 0 l) .none) := Le.sl rfl (.inl rfl) (.inr rfl)
theorem put1M (b : List UInt8) (x : Int) : putM b [x] = b ++ numB x := by simp [putM, numB]
theorem put2M (b : List UInt8) (x y : Int) : putM b [x, y] = b ++ (numB x ++ numB y) := by simp [putM, numB]

section
variable {Post : AV → List AObj → Prop}

abbrev sl1 (b : List UInt8) : AV := .sl 1 (.map encB 0 b) .none
noncomputable abbrev slR (l : List Rel) : AV := .sl 2 (.map T.encR (0, []) l) .none
noncomputable abbrev slN (l : List Need) : AV := .sl 2 (.map encN ([], []) l) .none
noncomputable abbrev slS (l : List Span) : AV := .sl 2 (.map encS (0, 0) l) .none

theorem p13 {rs : List Rel} {ns : List Need} {ss : List Span} {n i i2 : Int} {n2 : Int} (hs : ss.length ≤ lim) {P : List UInt8} (hP : P.length ≤ 100000)
    (k : AWP Try.prog 73 0 c184_9 [(3, sl1 P), (22, slR rs), (23, .int .i64 n), (24, .int .i64 i), (37, slN ns), (38, .int .i64 n2), (39, .int .i64 (IntKind.wrap .i64 (i2 + 1)))] [] (q184_6 0 Post)) :
    ∀ (m j : Nat) (b : List UInt8), m + j = ss.length → b ++ (ss.drop j).flatMap spanB = P →
    AWP Try.prog 73 0 c184_13 [(3, sl1 b), (22, slR rs), (23, .int .i64 n), (24, .int .i64 i), (37, slN ns), (38, .int .i64 n2), (39, .int .i64 i2), (53, slS ss), (54, .int .i64 ss.length), (55, .int .i64 j)] [] (q184_10 0 Post) := by
  unfold lim at hs
  intro m
  induction m with
  | zero =>
    intro j b hm h
    refine v184_13 _ _ _ _ _ _ _ _ _ _ _ _ (condD (fun hc => by omega) fun _ => ?_)
    rw [List.drop_eq_nil_of_le (by omega)] at h
    simp only [List.flatMap_nil, List.append_nil] at h
    subst h; exact k
  | succ m ih =>
    intro j b hm h
    have hbl : b.length ≤ P.length := lenL h
    rw [dropD ss (0, 0) j (by omega), List.flatMap_cons, ← List.append_assoc] at h
    refine v184_13 _ _ _ _ _ _ _ _ _ _ _ _ (condD (fun hc => needJ ⟨by omega, by omega⟩ ?_) fun hc => by omega)
    rw [Int.toNat_natCast]
    generalize ss.getD j (0, 0) = x at h ⊢
    refine put_spec' (bs := b) (ns := [x.1, IntKind.wrap .i64 (x.2 - x.1)]) ⟨Le.refl _, leTwo _ _, trivial⟩ (by unfold big; simp; omega) ⟨_, rfl, rfl, ?_⟩
    rw [put2M]
    rw [succ64 (by omega)]
    exact AWP.shape [] [(3, sl1 (b ++ spanB x)), (22, slR rs), (23, .int .i64 n), (24, .int .i64 i), (37, slN ns), (38, .int .i64 n2), (39, .int .i64 i2), (53, slS ss), (54, .int .i64 ss.length), (55, .int .i64 (j + 1 : Nat))] [] Sel.none
      ⟨rfl, sealLe _ rfl, rfl, Le.refl _, rfl, Le.refl _, rfl, Le.refl _, rfl, Le.refl _, rfl, Le.refl _, rfl, Le.refl _, rfl, Le.refl _, rfl, Le.refl _, rfl, Le.refl _, trivial⟩ (ih (j + 1) _ (by omega) h)

theorem p9 {rs : List Rel} {ns : List Need} {n i : Int} (hs : ∀ x ∈ ns, x.2.length ≤ lim ∧ x.1.length ≤ lim) (hn : ns.length ≤ lim) {P : List UInt8} (hP : P.length ≤ 100000)
    (k : AWP Try.prog 73 0 c184_5 [(3, sl1 P), (22, slR rs), (23, .int .i64 n), (24, .int .i64 (IntKind.wrap .i64 (i + 1)))] [] (q184_2 0 Post)) :
    ∀ (m j : Nat) (b : List UInt8), m + j = ns.length → b ++ (ns.drop j).flatMap needB = P →
    AWP Try.prog 73 0 c184_9 [(3, sl1 b), (22, slR rs), (23, .int .i64 n), (24, .int .i64 i), (37, slN ns), (38, .int .i64 ns.length), (39, .int .i64 j)] [] (q184_6 0 Post) := by
  unfold lim at hs hn
  intro m
  induction m with
  | zero =>
    intro j b hm h
    refine v184_9 _ _ _ _ _ _ _ _ _ (condD (fun hc => by omega) fun _ => ?_)
    rw [List.drop_eq_nil_of_le (by omega)] at h
    simp only [List.flatMap_nil, List.append_nil] at h
    subst h; exact k
  | succ m ih =>
    intro j b hm h
    have hbl : b.length ≤ P.length := lenL h
    have hx := hs _ (memD ns ([], []) j (by omega))
    rw [dropD ns ([], []) j (by omega), List.flatMap_cons, ← List.append_assoc] at h
    refine v184_9 _ _ _ _ _ _ _ _ _ (condD (fun hc => needJ ⟨by omega, by omega⟩ ?_) fun hc => by omega)
    rw [Int.toNat_natCast]
    generalize ns.getD j ([], []) = x at h hx ⊢
    have hb2 : (b ++ needB x).length ≤ P.length := lenL h
    have hb3 : (b ++ text x.1).length ≤ (b ++ needB x).length := by simp [needB]
    have etx : b ++ enc (held x.1.length) ++ x.1 = b ++ text x.1 := by simp [text]
    refine ASpec.call (text_spec b x.1 (by unfold big; omega) _) (Les.refl _) ⟨b ++ text x.1, by rw [etx]; rfl, rfl, ⟨rfl, rfl⟩, ⟨rfl, rfl⟩, ?_⟩
    refine put_spec' (bs := b ++ text x.1) (ns := [(x.2.length : Int)]) ⟨leTok, leOne _, trivial⟩ (by unfold big; simp only [List.length_cons, List.length_nil]; omega) ⟨_, rfl, rfl, ?_⟩
    rw [put1M]
    refine AWP.shape [] [(3, sl1 (b ++ text x.1 ++ numB x.2.length)), (22, slR rs), (23, .int .i64 n), (24, .int .i64 i), (37, slN ns), (38, .int .i64 ns.length), (39, .int .i64 j), (53, slS x.2), (54, .int .i64 x.2.length), (55, .int .i64 (0 : Nat))] [] Sel.none
      ⟨rfl, sealLe _ rfl, rfl, Le.refl _, rfl, Le.refl _, rfl, Le.refl _, rfl, Le.refl _, rfl, Le.refl _, rfl, Le.refl _, rfl, Le.refl _, rfl, Le.refl _, rfl, Le.refl _, trivial⟩ ?_
    refine p13 (P := b ++ needB x) (by unfold lim; omega) (by omega) ?_ x.2.length 0 _ (by omega) (by simp [needB])
    rw [succ64 (by omega)]
    exact ih (j + 1) _ (by omega) h

theorem p5 {rs : List Rel} (hs : ∀ r ∈ rs, okN r.2) (hn : rs.length ≤ lim) {P : List UInt8} (hP : P.length ≤ 100000) (h : Post (sl1 P) []) :
    ∀ (m j : Nat) (b : List UInt8), m + j = rs.length → b ++ (rs.drop j).flatMap relB = P →
    AWP Try.prog 73 0 c184_5 [(3, sl1 b), (22, slR rs), (23, .int .i64 rs.length), (24, .int .i64 j)] [] (q184_2 0 Post) := by
  unfold lim at hn
  intro m
  induction m with
  | zero =>
    intro j b hm hb
    refine v184_5 _ _ _ _ _ _ (condD (fun hc => by omega) fun _ => ?_)
    rw [List.drop_eq_nil_of_le (by omega)] at hb
    simp only [List.flatMap_nil, List.append_nil] at hb
    subst hb; exact h
  | succ m ih =>
    intro j b hm hb
    have hbl : b.length ≤ P.length := lenL hb
    have hx := hs _ (memD rs (0, []) j (by omega))
    rw [dropD rs (0, []) j (by omega), List.flatMap_cons, ← List.append_assoc] at hb
    refine v184_5 _ _ _ _ _ _ (condD (fun hc => needJ ⟨by omega, by omega⟩ ?_) fun hc => by omega)
    rw [Int.toNat_natCast]
    generalize rs.getD j (0, []) = x at hb hx ⊢
    have hb2 : (b ++ relB x).length ≤ P.length := lenL hb
    refine put_spec' (bs := b) (ns := [x.1, (x.2.length : Int)]) ⟨Le.refl _, leTwo _ _, trivial⟩ (by unfold big; simp; omega) ⟨_, rfl, rfl, ?_⟩
    rw [put2M]
    refine AWP.shape [] [(3, sl1 (b ++ (numB x.1 ++ numB x.2.length))), (22, slR rs), (23, .int .i64 rs.length), (24, .int .i64 j), (37, slN x.2), (38, .int .i64 x.2.length), (39, .int .i64 (0 : Nat))] [] Sel.none
      ⟨rfl, sealLe _ rfl, rfl, Le.refl _, rfl, Le.refl _, rfl, Le.refl _, rfl, Le.refl _, rfl, Le.refl _, rfl, Le.refl _, trivial⟩ ?_
    refine p9 (P := b ++ relB x) (fun y hy => ⟨(hx.2 y hy).2, (hx.2 y hy).1⟩) hx.1 (by omega) ?_ x.2.length 0 _ (by omega) (by simp [relB])
    rw [succ64 (by omega)]
    exact ih (j + 1) _ (by omega) hb

theorem put_spec (m : Mani) (hm : okM m) (H : List AObj) : ASpec Try.prog 184 [.agg (encM m)] H (fun r H' => r = sl1 (putMan m) ∧ H' = H) := by
  have k : ASpec Try.prog 184 [.agg (encM m)] [] (fun r H' => r = sl1 (putMan m) ∧ H' = []) := by
    obtain ⟨hm1, hm2, hm3⟩ := hm
    unfold lim at hm1 hm2
    refine ASpec.sel (s184 _ _ (ASpec.call (maniCheck_spec m ⟨hm1, hm2, hm3⟩ _) (Les.refl _) ⟨_, rfl, rfl, condBn (fun h => ?_) fun h => ?_⟩))
    · refine ⟨[], [], sl1 [], Sel.none, Le.sl (s' := Seq.ren _ (.map encB 0 [])) rfl (.inr ⟨rfl, fun _ h => by cases h⟩) (.inr rfl), ?_, rfl⟩
      rw [putMan, if_neg (by rw [h]; simp)]
    have hlen := maniB_len h
    have hb3 : (text m.1).length ≤ (maniB m).length := by simp [maniB] <;> omega
    have etx : ([] : List UInt8) ++ enc (held m.1.length) ++ m.1 = text m.1 := by simp [text]
    refine ASpec.call (text_spec [] m.1 (by unfold big; simp; omega) _) ⟨leNil, Le.refl _, trivial⟩ ⟨text m.1, by rw [etx]; rfl, rfl, ⟨rfl, rfl⟩, ⟨rfl, rfl⟩, ?_⟩
    refine put_spec' (bs := text m.1) (ns := [(m.2.length : Int)]) ⟨leTok, leOne _, trivial⟩ (by unfold big; simp only [List.length_cons, List.length_nil]; omega) ⟨_, rfl, rfl, ?_⟩
    rw [put1M]
    refine AWP.shape [] [(3, sl1 (text m.1 ++ numB m.2.length)), (22, slR m.2), (23, .int .i64 m.2.length), (24, .int .i64 (0 : Nat))] [] Sel.none
      ⟨rfl, sealLe _ rfl, rfl, Le.refl _, rfl, Le.refl _, rfl, Le.refl _, trivial⟩ ?_
    refine p5 (P := maniB m) hm3 hm2 (by omega) ?_ m.2.length 0 _ (by omega) (by simp [maniB])
    refine ⟨[], [], sl1 (putMan m), Sel.none, ?_, rfl, rfl⟩
    rw [putMan, if_pos h]
    exact sealLe _ rfl
  exact ASpec.pureH H k _ _ rfl rfl

/-! ### the document's -/

theorem d7 {l : List Need} {i : Nat} {x : Need} (hl : l.length ≤ lim) (hi : i < l.length) (hx : l.getD i ([], []) = x) (hxs : x.2.length ≤ lim) {P : List UInt8} (hP : P.length ≤ 100000)
    (k : AWP Try.prog 63 0 c264_3 [(0, slN l), (3, .str (B P)), (4, .int .i64 (i + 1 : Nat))] [] (q264_2 0 Post)) :
    ∀ (m j : Nat) (b : List UInt8), m + j = x.2.length → b ++ (x.2.drop j).flatMap spanB = P →
    AWP Try.prog 63 0 c264_7 [(0, slN l), (3, .str (B b)), (4, .int .i64 i), (5, .int .i64 j)] [] (q264_6 0 Post) := by
  unfold lim at hl hxs
  have hin : (0 : Int) ≤ (i : Int) ∧ (i : Int) < (l.length : Int) := ⟨by omega, by omega⟩
  intro m
  induction m with
  | zero =>
    intro j b hm h
    refine v264_7 _ _ _ _ _ _ (needJ hin ?_)
    rw [Int.toNat_natCast, hx]
    refine condD (fun hc => by omega) fun _ => ?_
    rw [List.drop_eq_nil_of_le (by omega)] at h
    simp only [List.flatMap_nil, List.append_nil] at h
    subst h
    rw [succ64 (by omega)]; exact k
  | succ m ih =>
    intro j b hm h
    have hbl : b.length ≤ P.length := lenL h
    rw [dropD x.2 (0, 0) j (by omega), List.flatMap_cons, ← List.append_assoc] at h
    refine v264_7 _ _ _ _ _ _ (needJ hin ?_)
    rw [Int.toNat_natCast, hx]
    refine condD (fun hc => needJ hin (needJ ⟨by omega, by omega⟩ ?_)) fun hc => by omega
    rw [Int.toNat_natCast]
    generalize x.2.getD j (0, 0) = y at h ⊢
    have n1 := numB_len y.1
    have n2 := numB_len (IntKind.wrap .i64 (y.2 - y.1))
    refine ASpec.call (rnum_spec y.1 _) (Les.refl _) ⟨B (numB y.1), rfl, rfl, ⟨rfl, rfl⟩, ⟨rfl, rfl⟩, needJ (by rw [B_size, B_size]; omega) ?_⟩
    rw [B_append]
    refine ASpec.call (rnum_spec _ _) (Les.refl _) ⟨B (numB (IntKind.wrap .i64 (y.2 - y.1))), rfl, rfl, needJ (by rw [B_size, B_size, List.length_append]; omega) ?_⟩
    rw [B_append, succ64 (by omega)]
    refine AWP.shape [] [(0, slN l), (3, .str (B (b ++ spanB y))), (4, .int .i64 i), (5, .int .i64 (j + 1 : Nat))] [] Sel.none ⟨rfl, Le.refl _, rfl, ?_, rfl, Le.refl _, rfl, Le.refl _, trivial⟩ (ih (j + 1) _ (by omega) h)
    rw [show b ++ numB y.1 ++ numB (IntKind.wrap .i64 (y.2 - y.1)) = b ++ spanB y by simp [spanB]]
    exact Le.refl _

theorem d3 {l : List Need} (hl : okN l) {P : List UInt8} (hP : P.length ≤ 100000) (h : Post (.str (B P)) []) :
    ∀ (m i : Nat) (b : List UInt8), m + i = l.length → b ++ (l.drop i).flatMap needB = P →
    AWP Try.prog 63 0 c264_3 [(0, slN l), (3, .str (B b)), (4, .int .i64 i)] [] (q264_2 0 Post) := by
  obtain ⟨hl1, hl2⟩ := hl
  unfold lim at hl1
  intro m
  induction m with
  | zero =>
    intro i b hm hb
    refine v264_3 _ _ _ _ _ (condD (fun hc => by omega) fun _ => ?_)
    rw [List.drop_eq_nil_of_le (by omega)] at hb
    simp only [List.flatMap_nil, List.append_nil] at hb
    subst hb; exact h
  | succ m ih =>
    intro i b hm hb
    have hin : (0 : Int) ≤ (i : Int) ∧ (i : Int) < (l.length : Int) := ⟨by omega, by omega⟩
    have hbl : b.length ≤ P.length := lenL hb
    have hx := hl2 _ (memD l ([], []) i (by omega))
    rw [dropD l ([], []) i (by omega), List.flatMap_cons, ← List.append_assoc] at hb
    refine v264_3 _ _ _ _ _ (condD (fun hc => needJ hin (needJ hin ?_)) fun hc => by omega)
    rw [Int.toNat_natCast]
    generalize hxe : l.getD i ([], []) = x at hb hx ⊢
    have hb2 : (b ++ needB x).length ≤ P.length := lenL hb
    have hb3 : (b ++ text x.1).length ≤ (b ++ needB x).length := by simp [needB]
    have hb4 : (text x.1).length ≤ (b ++ text x.1).length := by simp
    have hb5 : x.1.length ≤ (text x.1).length := by simp [text]
    have n1 := numB_len x.2.length
    refine ASpec.call (rtext_spec x.1 (by unfold big; omega) _) (Les.refl _) ⟨B (text x.1), rfl, rfl, ⟨rfl, rfl⟩, ⟨rfl, rfl⟩, needJ (by rw [B_size, B_size]; omega) ?_⟩
    rw [B_append]
    refine ASpec.call (rnum_spec _ _) (Les.refl _) ⟨B (numB x.2.length), rfl, rfl, needJ (by rw [B_size, B_size]; omega) ?_⟩
    rw [B_append]
    unfold lim at hx
    exact d7 (x := x) (P := b ++ needB x) (by unfold lim; omega) (by omega) hxe (by unfold lim; omega) (by omega) (ih (i + 1) _ (by omega) hb) x.2.length 0 _ (by omega) (by simp [needB])

theorem dneeds_spec (l : List Need) (hl : okN l) (hP : (numB l.length ++ l.flatMap needB).length ≤ 100000) (H : List AObj) :
    ASpec Try.prog 264 [slN l] H (fun r H' => r = .str (B (numB l.length ++ l.flatMap needB)) ∧ H' = H) := by
  have k : ASpec Try.prog 264 [slN l] [] (fun r H' => r = .str (B (numB l.length ++ l.flatMap needB)) ∧ H' = []) :=
    s264 _ _ (ASpec.call (rnum_spec _ _) (Les.refl _) ⟨B (numB l.length), rfl, rfl, d3 hl hP ⟨rfl, rfl⟩ l.length 0 _ (by omega) rfl⟩)
  exact ASpec.pureH H k _ _ rfl rfl

theorem d5 {m : Mani} (hm : okM m) {P : List UInt8} (hP : P.length ≤ 100000) (h : Post (.str (B P)) [.cells (encM m)]) :
    ∀ (k i : Nat) (b : List UInt8), k + i = m.2.length → b ++ (m.2.drop i).flatMap relB = P →
    AWP Try.prog 41 0 c172_5 [(1, .ptr 0 0), (3, .str (B b)), (4, .int .i64 i)] [.cells (encM m)] (q172_2 0 Post) := by
  obtain ⟨hm1, hm2, hm3⟩ := hm
  unfold lim at hm2
  intro k
  induction k with
  | zero =>
    intro i b hk hb
    refine v172_5 _ _ _ _ _ (condD (fun hc => by omega) fun _ => ?_)
    rw [List.drop_eq_nil_of_le (by omega)] at hb
    simp only [List.flatMap_nil, List.append_nil] at hb
    subst hb; exact h
  | succ k ih =>
    intro i b hk hb
    have hin : (0 : Int) ≤ (i : Int) ∧ (i : Int) < (m.2.length : Int) := ⟨by omega, by omega⟩
    have hbl : b.length ≤ P.length := lenL hb
    have hx := hm3 _ (memD m.2 (0, []) i (by omega))
    rw [dropD m.2 (0, []) i (by omega), List.flatMap_cons, ← List.append_assoc] at hb
    refine v172_5 _ _ _ _ _ (condD (fun hc => needJ hin (needJ hin ?_)) fun hc => by omega)
    rw [Int.toNat_natCast]
    generalize m.2.getD i (0, []) = x at hb hx ⊢
    have hb2 : (b ++ relB x).length ≤ P.length := lenL hb
    have hb3 : b.length + (numB x.1).length + (numB x.2.length ++ x.2.flatMap needB).length = (b ++ relB x).length := by simp [relB]; omega
    refine ASpec.call (rnum_spec x.1 _) (Les.refl _) ⟨B (numB x.1), rfl, rfl, ⟨rfl, rfl⟩, ⟨rfl, rfl⟩, needJ (by rw [B_size, B_size]; omega) ?_⟩
    rw [B_append]
    refine ASpec.call (dneeds_spec x.2 hx (by omega) _) (Les.refl _) ⟨_, rfl, rfl, needJ (by rw [B_size, B_size, List.length_append]; omega) ?_⟩
    rw [B_append, succ64 (by omega)]
    refine ih (i + 1) _ (by omega) ?_
    rw [← hb]
    simp [relB]

theorem rput_spec (m : Mani) (hm : okM m) (H : List AObj) : ASpec Try.prog 172 [.agg (encM m)] H (fun r H' => r = .str (B (putMan m)) ∧ H' = H) := by
  have k : ASpec Try.prog 172 [.agg (encM m)] [] (fun r H' => r = .str (B (putMan m)) ∧ H' = []) := by
    have hm' := hm
    obtain ⟨hm1, hm2, hm3⟩ := hm
    unfold lim at hm1 hm2
    have fin : ∀ (b : List UInt8) (H' : List AObj), b = putMan m → ∃ l H2 r2, Sel 0 l H' H2 ∧ Le (.str (B b)) (AV.ren (selR l H'.length) r2) ∧ r2 = .str (B (putMan m)) ∧ H2 = [] := by
      intro b H' e; subst e
      exact ⟨[], [], .str (B (putMan m)), Sel.none, Le.refl _, rfl, rfl⟩
    refine ASpec.sel (s172 _ _ (ASpec.call (rmaniCheck_spec m hm' _) (Les.refl _) ⟨_, rfl, rfl, condBn (fun h => ?_) fun h => ?_⟩))
    · exact fin [] _ (by rw [putMan, if_neg (by rw [h]; simp)])
    have hlen := maniB_len h
    have hb3 : (text m.1).length + (numB m.2.length).length ≤ (maniB m).length := by simp [maniB] <;> omega
    have hb5 : m.1.length ≤ (text m.1).length := by simp [text]
    refine ASpec.call (rtext_spec m.1 (by unfold big; omega) _) (Les.refl _) ⟨B (text m.1), rfl, rfl, ⟨rfl, rfl⟩, ⟨rfl, rfl⟩, ?_⟩
    refine ASpec.call (rnum_spec _ _) (Les.refl _) ⟨B (numB m.2.length), rfl, rfl, needJ (by rw [B_size, B_size]; omega) ?_⟩
    rw [B_append]
    exact d5 hm' (P := maniB m) (by omega) (fin _ _ (by rw [putMan, if_pos h])) m.2.length 0 _ (by omega) (by simp [maniB])
  exact ASpec.pureH H k _ _ rfl rfl

end
end W
end

section
/- Manifests out of bytes: what the code reads. -/

set_option linter.unusedVariables false
set_option linter.unusedSimpArgs false
set_option maxRecDepth 100000
open Go Go.Ab Go.Proofs V S T C
namespace W

/-! ### the model -/

def spanR (bs : List UInt8) (p : Nat) (e : Int) : Span × Nat × Int :=
  (((numM bs p e 1000000000).1, IntKind.wrap .i64 ((numM bs p e 1000000000).1 + (numM bs (numM bs p e 1000000000).2.1 (numM bs p e 1000000000).2.2 1000000000).1)),
    (numM bs (numM bs p e 1000000000).2.1 (numM bs p e 1000000000).2.2 1000000000).2)

def listR {α : Type} (one : Nat → Int → α × Nat × Int) : Nat → Nat → Int → List α × Nat × Int
  | 0, p, e => ([], p, e)
  | k + 1, p, e => if e = 0 then ((one p e).1 :: (listR one k (one p e).2.1 (one p e).2.2).1, (listR one k (one p e).2.1 (one p e).2.2).2) else ([], p, e)

def listM {α : Type} (one : Nat → Int → α × Nat × Int) (bs : List UInt8) (p : Nat) (e most : Int) : List α × Nat × Int :=
  listR one (numM bs p e most).1.toNat (numM bs p e most).2.1 (numM bs p e most).2.2

def needR (bs : List UInt8) (p : Nat) (e : Int) : Need × Nat × Int :=
  (((strM bs p e 24).1, (listM (spanR bs) bs (strM bs p e 24).2.1 (strM bs p e 24).2.2 6).1), (listM (spanR bs) bs (strM bs p e 24).2.1 (strM bs p e 24).2.2 6).2)

def relR (bs : List UInt8) (p : Nat) (e : Int) : Rel × Nat × Int :=
  (((numM bs p e 1000000000).1, (listM (needR bs) bs (numM bs p e 1000000000).2.1 (numM bs p e 1000000000).2.2 6).1), (listM (needR bs) bs (numM bs p e 1000000000).2.1 (numM bs p e 1000000000).2.2 6).2)

def maniR (bs : List UInt8) : Mani × Nat × Int :=
  (((strM bs 0 0 24).1, (listM (relR bs) bs (strM bs 0 0 24).2.1 (strM bs 0 0 24).2.2 8).1), (listM (relR bs) bs (strM bs 0 0 24).2.1 (strM bs 0 0 24).2.2 8).2)

def endM (m : Mani) (c : Int) : Mani × Int := if c ≠ 0 then (([], []), c) else if manOk m = true then (m, 0) else (([], []), 3)

def readM (bs : List UInt8) : Mani × Int :=
  if 8192 < bs.length then (([], []), 4) else endM (maniR bs).1 (closeM (maniR bs).2.2 (bs.length - (maniR bs).2.1))

theorem lookM_most (s : List UInt8) (most : Int) (h : 0 ≤ most) : (lookM s most).1 ≤ most := by
  cases s with
  | nil => simpa [lookM] using h
  | cons c s =>
    simp only [lookM]
    split
    · exact h
    · split
      · exact h
      · split
        · exact h
        · simp only; omega

theorem numM_most (bs : List UInt8) (p : Nat) (e most : Int) (h : 0 ≤ most) : 0 ≤ (numM bs p e most).1 ∧ (numM bs p e most).1 ≤ most := by
  unfold numM
  split
  · exact ⟨Int.le_refl _, h⟩
  · exact ⟨(lookM_le _ _).2.1, lookM_most _ _ h⟩

theorem numM_p {bs : List UInt8} {p : Nat} {e most : Int} (hp : p ≤ bs.length) : (numM bs p e most).2.1 ≤ bs.length := (num_doc bs p e most hp).2
theorem strM_p {bs : List UInt8} {p : Nat} {e most : Int} (hp : p ≤ bs.length) : (strM bs p e most).2.1 ≤ bs.length := (str_doc bs p e most hp).2

theorem strM_len (bs : List UInt8) (p : Nat) (e most : Int) (h : 0 ≤ most) : ((strM bs p e most).1.length : Int) ≤ most := by
  unfold strM
  have := lookM_most (bs.drop p) most h
  have h2 := (lookM_le (bs.drop p) most).2.1
  repeat' split
  all_goals (simp only [List.length_nil, List.length_take]; omega)

/-- one keeps its place in the bytes -/
def Inside {α : Type} (bs : List UInt8) (one : Nat → Int → α × Nat × Int) : Prop := ∀ p e, p ≤ bs.length → (one p e).2.1 ≤ bs.length

theorem listR_p {α : Type} {bs : List UInt8} {one : Nat → Int → α × Nat × Int} (h : Inside bs one) : ∀ (k p : Nat) (e : Int), p ≤ bs.length → (listR one k p e).2.1 ≤ bs.length
  | 0, p, e, hp => hp
  | k + 1, p, e, hp => by
    simp only [listR]
    split
    · exact listR_p h k _ _ (h p e hp)
    · exact hp

theorem listM_p {α : Type} {bs : List UInt8} {one : Nat → Int → α × Nat × Int} (h : Inside bs one) {p : Nat} {e most : Int} (hp : p ≤ bs.length) : (listM one bs p e most).2.1 ≤ bs.length :=
  listR_p h _ _ _ (numM_p hp)

theorem listR_len {α : Type} (one : Nat → Int → α × Nat × Int) : ∀ (k p : Nat) (e : Int), (listR one k p e).1.length ≤ k
  | 0, p, e => by simp [listR]
  | k + 1, p, e => by
    simp only [listR]
    split
    · have := listR_len one k (one p e).2.1 (one p e).2.2
      simp only [List.length_cons]; omega
    · simp

theorem listM_len {α : Type} (one : Nat → Int → α × Nat × Int) (bs : List UInt8) (p : Nat) (e most : Int) (h : 0 ≤ most) : ((listM one bs p e most).1.length : Int) ≤ most := by
  have h1 := numM_most bs p e most h
  have h2 := listR_len one (numM bs p e most).1.toNat (numM bs p e most).2.1 (numM bs p e most).2.2
  unfold listM
  omega

theorem listR_all {α : Type} {one : Nat → Int → α × Nat × Int} {Q : α → Prop} (h : ∀ p e, Q (one p e).1) : ∀ (k p : Nat) (e : Int), ∀ x ∈ (listR one k p e).1, Q x
  | 0, p, e, x, hx => by simp [listR] at hx
  | k + 1, p, e, x, hx => by
    simp only [listR] at hx
    split at hx
    · rcases List.mem_cons.1 hx with rfl | hx
      · exact h p e
      · exact listR_all h k _ _ x hx
    · simp at hx

theorem spanR_p (bs : List UInt8) : Inside bs (spanR bs) := fun p e hp => numM_p (numM_p hp)
theorem needR_p (bs : List UInt8) : Inside bs (needR bs) := fun p e hp => listM_p (spanR_p bs) (strM_p hp)
theorem relR_p (bs : List UInt8) : Inside bs (relR bs) := fun p e hp => listM_p (needR_p bs) (numM_p hp)
theorem maniR_p (bs : List UInt8) : (maniR bs).2.1 ≤ bs.length := listM_p (relR_p bs) (strM_p (Nat.zero_le _))

theorem needR_ok (bs : List UInt8) (p : Nat) (e : Int) : (needR bs p e).1.1.length ≤ 24 ∧ (needR bs p e).1.2.length ≤ 6 := by
  have h1 := strM_len bs p e 24 (by omega)
  have h2 := listM_len (spanR bs) bs (strM bs p e 24).2.1 (strM bs p e 24).2.2 6 (by omega)
  simp only [needR]; omega

theorem relR_ok (bs : List UInt8) (p : Nat) (e : Int) : (relR bs p e).1.2.length ≤ 6 ∧ okN (relR bs p e).1.2 := by
  have h2 := listM_len (needR bs) bs (numM bs p e 1000000000).2.1 (numM bs p e 1000000000).2.2 6 (by omega)
  refine ⟨by simp only [relR]; omega, by simp only [relR]; unfold lim; omega, fun n hn => ?_⟩
  have := listR_all (Q := fun n : Need => n.1.length ≤ 24 ∧ n.2.length ≤ 6) (needR_ok bs) _ _ _ n hn
  unfold lim; omega

theorem maniR_ok (bs : List UInt8) : okM (maniR bs).1 := by
  have h1 := strM_len bs 0 0 24 (by omega)
  have h2 := listM_len (relR bs) bs (strM bs 0 0 24).2.1 (strM bs 0 0 24).2.2 8 (by omega)
  refine ⟨by simp only [maniR]; unfold lim; omega, by simp only [maniR]; unfold lim; omega, fun r hr => ?_⟩
  exact (listR_all (Q := fun r : Rel => r.2.length ≤ 6 ∧ okN r.2) (relR_ok bs) _ _ _ r hr).2

theorem readM_ok (bs : List UInt8) : okM (readM bs).1 := by
  have h0 : okM (([], []) : Mani) := ⟨by simp, by simp, fun r hr => by simp at hr⟩
  unfold readM
  split
  · exact h0
  · unfold endM
    split
    · exact h0
    · split
      · exact maniR_ok bs
      · exact h0

/-! ### the walk -/

section
variable {bs : List UInt8} {p : Nat} {e : Int}

theorem selHR (q : List AObj) : Sel 5 [0, 1, 2, 3, 4] (HR bs p e ++ q) (HR bs p e) := by
  refine ⟨by decide, rfl, by decide, fun i hi => ?_, fun i hi => .inl ?_⟩
  · match i, hi with
    | 0, _ | 1, _ | 2, _ | 3, _ | 4, _ => rfl
  · match i, hi with
    | 0, _ | 1, _ | 2, _ | 3, _ | 4, _ => rfl

theorem selTokR : Sel 5 [0, 1, 2, 3, 4, 6] (HR bs p e ++ [.gone, .tok]) (HR bs p e ++ [.tok]) := by
  refine ⟨by decide, rfl, by decide, fun i hi => ?_, fun i hi => .inl ?_⟩
  · match i, hi with
    | 0, _ | 1, _ | 2, _ | 3, _ | 4, _ => rfl
  · match i, hi with
    | 0, _ | 1, _ | 2, _ | 3, _ | 4, _ | 5, _ => rfl

theorem subHR {f : FuncId} {args : List AV} {r0 : AV} {p' : Nat} {e' : Int} (q : List AObj) (k : ASpec Try.prog f args (HR bs p e) (fun r H' => r = r0 ∧ H' = HR bs p' e'))
    (ha : args.map (AV.ren (callR [0, 1, 2, 3, 4] (HR bs p e ++ q).length)) = args) (hr : AV.ren (callR [0, 1, 2, 3, 4] (HR bs p e ++ q).length) r0 = r0) :
    ASpec Try.prog f args (HR bs p e ++ q) (fun r H' => r = r0 ∧ H' = HR bs p' e' ++ q) := by
  refine ASpec.subH [0, 1, 2, 3, 4] _ _ k args r0 (by decide) rfl ha hr (fun i hi => ?_) ?_
  · match i, hi with
    | 0, _ | 1, _ | 2, _ | 3, _ | 4, _ => rfl
  · show HR bs p' e' ++ q ++ [] = _
    rw [List.append_nil]

theorem leAppT {α : Type} {en : α → List AV} {d : α} (hr : ∀ ρ x, renL ρ (en x) = en x) {acc : List α} {x : α} {sz k j : Nat} {ρ : Nat → Nat} {ex : List AV} (hx : ex = en x) (hk : ρ j = k) :
    Le (.sl sz (.app (.map en d acc) (.raw [ex])) (.tok k)) (AV.ren ρ (.sl sz (.map en d (acc ++ [x])) (.tok j))) := by
  subst hk; subst hx
  refine Le.sl (s' := Seq.ren ρ (.map en d (acc ++ [x]))) ?_ (.inl rfl) (.inl rfl)
  simp [Ab.Seq.toList, Seq.ren, hr]

theorem leNone {α : Type} {en : α → List AV} {d : α} (hr : ∀ ρ x, renL ρ (en x) = en x) {acc : List α} {sz : Nat} {tip : Tip} {ρ : Nat → Nat} :
    Le (.sl sz (.map en d acc) tip) (AV.ren ρ (.sl sz (.map en d acc) .none)) :=
  Le.sl (s' := Seq.ren ρ (.map en d acc)) (by simp [Ab.Seq.toList, Seq.ren, hr]) (.inl rfl) (.inr rfl)

theorem renS (ρ : Nat → Nat) (x : Span) : renL ρ (encS x) = encS x := rfl
theorem renN (ρ : Nat → Nat) (x : Need) : renL ρ (encN x) = encN x := rfl
theorem renR (ρ : Nat → Nat) (x : Rel) : renL ρ (T.encR x) = T.encR x := rfl

theorem name98 (hb : bs.length ≤ big) (hp : p ≤ bs.length) : ASpec Try.prog 270 [.ptr 1 0] (HR bs p e) (fun r H' => r = .str (B (strM bs p e 24).1) ∧ H' = HR bs (strM bs p e 24).2.1 (strM bs p e 24).2.2) :=
  s270 _ _ _ _ (ASpec.call (str_spec (H := HR bs p e) (id := 0) (bs := bs) (p := p) (e := e) 24 hb hp rfl) (Les.refl _) ⟨(B (strM bs p e 24).1, ((strM bs p e 24).2.1 : Nat), (strM bs p e 24).2.2), rfl, rfl, rfl, rfl⟩)

theorem span99 (hb : bs.length ≤ big) (hp : p ≤ bs.length) : ASpec Try.prog 271 [.ptr 1 0] (HR bs p e) (fun r H' => r = .agg (encS (spanR bs p e).1) ∧ H' = HR bs (spanR bs p e).2.1 (spanR bs p e).2.2) := by
  have h1 := numM_p (e := e) (most := 1000000000) hp
  refine ASpec.sel (s271 _ _ _ _ (ASpec.call (num_spec (H := HR bs p e ++ [.cells [.int .i64 0, .int .i64 0]]) (id := 0) (bs := bs) (p := p) (e := e) 1000000000 hb hp rfl) (Les.refl _) ⟨((numM bs p e 1000000000).1, ((numM bs p e 1000000000).2.1 : Nat), (numM bs p e 1000000000).2.2), rfl, rfl, ?_⟩))
  refine ASpec.call (num_spec (H := HR bs (numM bs p e 1000000000).2.1 (numM bs p e 1000000000).2.2 ++ [.cells [.int .i64 0, .int .i64 0]]) (id := 0) (bs := bs) (p := (numM bs p e 1000000000).2.1) (e := (numM bs p e 1000000000).2.2) 1000000000 hb h1 rfl) (Les.refl _)
    ⟨((numM bs (numM bs p e 1000000000).2.1 (numM bs p e 1000000000).2.2 1000000000).1, ((numM bs (numM bs p e 1000000000).2.1 (numM bs p e 1000000000).2.2 1000000000).2.1 : Nat), (numM bs (numM bs p e 1000000000).2.1 (numM bs p e 1000000000).2.2 1000000000).2.2), rfl, rfl, ?_⟩
  exact ⟨[0, 1, 2, 3, 4], HR bs (spanR bs p e).2.1 (spanR bs p e).2.2, .agg (encS (spanR bs p e).1), selHR _, Le.refl _, rfl, rfl⟩

theorem loop101 {Post : AV → List AObj → Prop} (hb : bs.length ≤ big) : ∀ (k p : Nat) (e : Int) (acc : List Span), p ≤ bs.length → acc.length + k ≤ 100 →
    Post (.sl 2 (.map encS (0, 0) (acc ++ (listR (spanR bs) k p e).1)) (.tok 5)) (HR bs (listR (spanR bs) k p e).2.1 (listR (spanR bs) k p e).2.2 ++ [.tok]) →
    AWP Try.prog 27 5 c273_3 [(0, .ptr 0 0), (2, .fn 271 [.ptr 1 0]), (7, .sl 2 (.map encS (0, 0) acc) (.tok 5)), (8, .int .i64 k)] (HR bs p e ++ [.tok]) (q273_2 5 Post) := by
  intro k
  induction k with
  | zero =>
    intro p e acc hp ha h
    refine v273_3 _ _ _ _ _ _ _ (condD (fun hc => by omega) fun _ => ?_)
    simp only [listR, List.append_nil] at h
    exact h
  | succ k ih =>
    intro p e acc hp ha h
    simp only [listR] at h
    refine v273_3 _ _ _ _ _ _ _ (condD (fun _ => ?_) fun hc => by omega)
    refine ASpec.call (err_spec (H := HR bs p e ++ [.tok]) (id := 0) (bs := bs) (p := p) (e := e) rfl) (Les.refl _) ⟨e, rfl, rfl, condE (fun he => ?_) fun he => ?_⟩
    · rw [if_pos he] at h
      refine ASpec.call (subHR [.tok] (span99 (e := e) hb hp) rfl rfl) (Les.refl _) ⟨((spanR bs p e).1, ((spanR bs p e).2.1 : Nat), (spanR bs p e).2.2), rfl, rfl, needJ (by omega) ?_⟩
      rw [show IntKind.wrap .i64 (((k + 1 : Nat) : Int) - 1) = (k : Int) by rw [wrap64 (by omega) (by omega)]; omega]
      refine AWP.shape [0, 1, 2, 3, 4, 6] [(0, .ptr 0 0), (2, .fn 271 [.ptr 1 0]), (7, .sl 2 (.map encS (0, 0) (acc ++ [(spanR bs p e).1])) (.tok 5)), (8, .int .i64 k)] _ selTokR
        ⟨rfl, Le.refl _, rfl, Le.refl _, rfl, leAppT renS rfl rfl, rfl, Le.refl _, trivial⟩ (ih _ _ _ (spanR_p bs p e hp) (by simp; omega) ?_)
      simpa using h
    · rw [if_neg he] at h
      simp only [List.append_nil] at h
      exact h

theorem list101 {most : Int} (hm : 0 ≤ most ∧ most ≤ 100) (hb : bs.length ≤ big) (hp : p ≤ bs.length) : ASpec Try.prog 273 [.ptr 0 0, .int .i64 most, .fn 271 [.ptr 1 0]] (HR bs p e)
    (fun r H' => r = slS (listM (spanR bs) bs p e most).1 ∧ H' = HR bs (listM (spanR bs) bs p e most).2.1 (listM (spanR bs) bs p e most).2.2) := by
  have hn := numM_most bs p e most hm.1
  refine ASpec.sel (s273 _ _ _ _ _ (ASpec.call (num_spec (H := HR bs p e) (id := 0) (bs := bs) (p := p) (e := e) most hb hp rfl) (Les.refl _) ⟨((numM bs p e most).1, ((numM bs p e most).2.1 : Nat), (numM bs p e most).2.2), rfl, rfl, ?_⟩))
  refine AWP.re (ReSt.tok (H := HR bs (numM bs p e most).2.1 (numM bs p e most).2.2) (k := 7) (q' := .map encS (0, 0) []) (sz' := 2) (s2 := [(0, .ptr 0 0), (2, .fn 271 [.ptr 1 0]), (7, .sl 2 (.map encS (0, 0) []) (.tok 5)), (8, .int .i64 (numM bs p e most).1)]) rfl (.inl rfl) rfl (.inr rfl) (fun d hd => ?_) rfl) ?_
  · simp only [Ab.get]
    have e : Nat.beq 7 d = false := by
      cases hx : Nat.beq 7 d with
      | false => rfl
      | true => exact absurd (Nat.eq_of_beq_eq_true hx).symm hd
    rw [e]; rfl
  · obtain ⟨k, hk⟩ := Int.eq_ofNat_of_zero_le hn.1
    rw [hk]
    refine loop101 hb k _ _ [] (numM_p hp) (by simp; omega) ?_
    have hL : listR (spanR bs) k (numM bs p e most).2.1 (numM bs p e most).2.2 = listM (spanR bs) bs p e most := by rw [listM, hk]; rfl
    rw [hL, List.nil_append]
    exact ⟨[0, 1, 2, 3, 4], _, slS (listM (spanR bs) bs p e most).1, selHR _, leNone renS, rfl, rfl⟩

theorem need100 (hb : bs.length ≤ big) (hp : p ≤ bs.length) : ASpec Try.prog 272 [.ptr 2 0, .ptr 1 0, .ptr 3 0] (HR bs p e) (fun r H' => r = .agg (encN (needR bs p e).1) ∧ H' = HR bs (needR bs p e).2.1 (needR bs p e).2.2) := by
  have h1 := strM_p (e := e) (most := 24) hp
  refine ASpec.sel (s272 _ _ _ _ (ASpec.call (subHR [.cells [.str ⟨#[]⟩, .sl 0 (.raw []) .nil]] (name98 (e := e) hb hp) rfl rfl) (Les.refl _) ⟨(B (strM bs p e 24).1, ((strM bs p e 24).2.1 : Nat), (strM bs p e 24).2.2), rfl, rfl, ?_⟩))
  refine ASpec.call (subHR [.cells [.str ⟨#[]⟩, .sl 0 (.raw []) .nil], .cells [.str (B (strM bs p e 24).1), .sl 0 (.raw []) .nil]] (list101 (e := (strM bs p e 24).2.2) (most := 6) (by omega) hb h1) rfl rfl) (Les.refl _)
    ⟨((listM (spanR bs) bs (strM bs p e 24).2.1 (strM bs p e 24).2.2 6).1, ((listM (spanR bs) bs (strM bs p e 24).2.1 (strM bs p e 24).2.2 6).2.1 : Nat), (listM (spanR bs) bs (strM bs p e 24).2.1 (strM bs p e 24).2.2 6).2.2), rfl, rfl, ?_⟩
  exact ⟨[0, 1, 2, 3, 4], HR bs (needR bs p e).2.1 (needR bs p e).2.2, .agg (encN (needR bs p e).1), selHR _, Le.refl _, rfl, rfl⟩

theorem loop104 {Post : AV → List AObj → Prop} (hb : bs.length ≤ big) : ∀ (k p : Nat) (e : Int) (acc : List Need), p ≤ bs.length → acc.length + k ≤ 100 →
    Post (.sl 2 (.map encN ([], []) (acc ++ (listR (needR bs) k p e).1)) (.tok 5)) (HR bs (listR (needR bs) k p e).2.1 (listR (needR bs) k p e).2.2 ++ [.tok]) →
    AWP Try.prog 27 5 c276_3 [(0, .ptr 0 0), (2, .fn 272 [.ptr 2 0, .ptr 1 0, .ptr 3 0]), (7, .sl 2 (.map encN ([], []) acc) (.tok 5)), (8, .int .i64 k)] (HR bs p e ++ [.tok]) (q276_2 5 Post) := by
  intro k
  induction k with
  | zero =>
    intro p e acc hp ha h
    refine v276_3 _ _ _ _ _ _ _ (condD (fun hc => by omega) fun _ => ?_)
    simp only [listR, List.append_nil] at h
    exact h
  | succ k ih =>
    intro p e acc hp ha h
    simp only [listR] at h
    refine v276_3 _ _ _ _ _ _ _ (condD (fun _ => ?_) fun hc => by omega)
    refine ASpec.call (err_spec (H := HR bs p e ++ [.tok]) (id := 0) (bs := bs) (p := p) (e := e) rfl) (Les.refl _) ⟨e, rfl, rfl, condE (fun he => ?_) fun he => ?_⟩
    · rw [if_pos he] at h
      refine ASpec.call (subHR [.tok] (need100 (e := e) hb hp) rfl rfl) (Les.refl _) ⟨((needR bs p e).1, ((needR bs p e).2.1 : Nat), (needR bs p e).2.2), rfl, rfl, needJ (by omega) ?_⟩
      rw [show IntKind.wrap .i64 (((k + 1 : Nat) : Int) - 1) = (k : Int) by rw [wrap64 (by omega) (by omega)]; omega]
      refine AWP.shape [0, 1, 2, 3, 4, 6] [(0, .ptr 0 0), (2, .fn 272 [.ptr 2 0, .ptr 1 0, .ptr 3 0]), (7, .sl 2 (.map encN ([], []) (acc ++ [(needR bs p e).1])) (.tok 5)), (8, .int .i64 k)] _ selTokR
        ⟨rfl, Le.refl _, rfl, Le.refl _, rfl, leAppT renN rfl rfl, rfl, Le.refl _, trivial⟩ (ih _ _ _ (needR_p bs p e hp) (by simp; omega) ?_)
      simpa using h
    · rw [if_neg he] at h
      simp only [List.append_nil] at h
      exact h

theorem list104 {most : Int} (hm : 0 ≤ most ∧ most ≤ 100) (hb : bs.length ≤ big) (hp : p ≤ bs.length) : ASpec Try.prog 276 [.ptr 0 0, .int .i64 most, .fn 272 [.ptr 2 0, .ptr 1 0, .ptr 3 0]] (HR bs p e)
    (fun r H' => r = slN (listM (needR bs) bs p e most).1 ∧ H' = HR bs (listM (needR bs) bs p e most).2.1 (listM (needR bs) bs p e most).2.2) := by
  have hn := numM_most bs p e most hm.1
  refine ASpec.sel (s276 _ _ _ _ _ (ASpec.call (num_spec (H := HR bs p e) (id := 0) (bs := bs) (p := p) (e := e) most hb hp rfl) (Les.refl _) ⟨((numM bs p e most).1, ((numM bs p e most).2.1 : Nat), (numM bs p e most).2.2), rfl, rfl, ?_⟩))
  refine AWP.re (ReSt.tok (H := HR bs (numM bs p e most).2.1 (numM bs p e most).2.2) (k := 7) (q' := .map encN ([], []) []) (sz' := 2) (s2 := [(0, .ptr 0 0), (2, .fn 272 [.ptr 2 0, .ptr 1 0, .ptr 3 0]), (7, .sl 2 (.map encN ([], []) []) (.tok 5)), (8, .int .i64 (numM bs p e most).1)]) rfl (.inl rfl) rfl (.inr rfl) (fun d hd => ?_) rfl) ?_
  · simp only [Ab.get]
    have e : Nat.beq 7 d = false := by
      cases hx : Nat.beq 7 d with
      | false => rfl
      | true => exact absurd (Nat.eq_of_beq_eq_true hx).symm hd
    rw [e]; rfl
  · obtain ⟨k, hk⟩ := Int.eq_ofNat_of_zero_le hn.1
    rw [hk]
    refine loop104 hb k _ _ [] (numM_p hp) (by simp; omega) ?_
    have hL : listR (needR bs) k (numM bs p e most).2.1 (numM bs p e most).2.2 = listM (needR bs) bs p e most := by rw [listM, hk]; rfl
    rw [hL, List.nil_append]
    exact ⟨[0, 1, 2, 3, 4], _, slN (listM (needR bs) bs p e most).1, selHR _, leNone renN, rfl, rfl⟩

theorem rel103 (hb : bs.length ≤ big) (hp : p ≤ bs.length) : ASpec Try.prog 275 [.ptr 1 0, .ptr 4 0] (HR bs p e) (fun r H' => r = .agg (T.encR (relR bs p e).1) ∧ H' = HR bs (relR bs p e).2.1 (relR bs p e).2.2) := by
  have h1 := numM_p (e := e) (most := 1000000000) hp
  refine ASpec.sel (s275 _ _ _ _ (ASpec.call (num_spec (H := HR bs p e ++ [.cells [.int .i64 0, .sl 0 (.raw []) .nil]]) (id := 0) (bs := bs) (p := p) (e := e) 1000000000 hb hp rfl) (Les.refl _) ⟨((numM bs p e 1000000000).1, ((numM bs p e 1000000000).2.1 : Nat), (numM bs p e 1000000000).2.2), rfl, rfl, ?_⟩))
  refine ASpec.call (subHR [.cells [.int .i64 0, .sl 0 (.raw []) .nil], .cells [.int .i64 (numM bs p e 1000000000).1, .sl 0 (.raw []) .nil]] (list104 (e := (numM bs p e 1000000000).2.2) (most := 6) (by omega) hb h1) rfl rfl) (Les.refl _)
    ⟨((listM (needR bs) bs (numM bs p e 1000000000).2.1 (numM bs p e 1000000000).2.2 6).1, ((listM (needR bs) bs (numM bs p e 1000000000).2.1 (numM bs p e 1000000000).2.2 6).2.1 : Nat), (listM (needR bs) bs (numM bs p e 1000000000).2.1 (numM bs p e 1000000000).2.2 6).2.2), rfl, rfl, ?_⟩
  exact ⟨[0, 1, 2, 3, 4], HR bs (relR bs p e).2.1 (relR bs p e).2.2, .agg (T.encR (relR bs p e).1), selHR _, Le.refl _, rfl, rfl⟩

theorem loop102 {Post : AV → List AObj → Prop} (hb : bs.length ≤ big) : ∀ (k p : Nat) (e : Int) (acc : List Rel), p ≤ bs.length → acc.length + k ≤ 100 →
    Post (.sl 2 (.map T.encR (0, []) (acc ++ (listR (relR bs) k p e).1)) (.tok 5)) (HR bs (listR (relR bs) k p e).2.1 (listR (relR bs) k p e).2.2 ++ [.tok]) →
    AWP Try.prog 27 5 c274_3 [(0, .ptr 0 0), (2, .fn 275 [.ptr 1 0, .ptr 4 0]), (7, .sl 2 (.map T.encR (0, []) acc) (.tok 5)), (8, .int .i64 k)] (HR bs p e ++ [.tok]) (q274_2 5 Post) := by
  intro k
  induction k with
  | zero =>
    intro p e acc hp ha h
    refine v274_3 _ _ _ _ _ _ _ (condD (fun hc => by omega) fun _ => ?_)
    simp only [listR, List.append_nil] at h
    exact h
  | succ k ih =>
    intro p e acc hp ha h
    simp only [listR] at h
    refine v274_3 _ _ _ _ _ _ _ (condD (fun _ => ?_) fun hc => by omega)
    refine ASpec.call (err_spec (H := HR bs p e ++ [.tok]) (id := 0) (bs := bs) (p := p) (e := e) rfl) (Les.refl _) ⟨e, rfl, rfl, condE (fun he => ?_) fun he => ?_⟩
    · rw [if_pos he] at h
      refine ASpec.call (subHR [.tok] (rel103 (e := e) hb hp) rfl rfl) (Les.refl _) ⟨((relR bs p e).1, ((relR bs p e).2.1 : Nat), (relR bs p e).2.2), rfl, rfl, needJ (by omega) ?_⟩
      rw [show IntKind.wrap .i64 (((k + 1 : Nat) : Int) - 1) = (k : Int) by rw [wrap64 (by omega) (by omega)]; omega]
      refine AWP.shape [0, 1, 2, 3, 4, 6] [(0, .ptr 0 0), (2, .fn 275 [.ptr 1 0, .ptr 4 0]), (7, .sl 2 (.map T.encR (0, []) (acc ++ [(relR bs p e).1])) (.tok 5)), (8, .int .i64 k)] _ selTokR
        ⟨rfl, Le.refl _, rfl, Le.refl _, rfl, leAppT renR rfl rfl, rfl, Le.refl _, trivial⟩ (ih _ _ _ (relR_p bs p e hp) (by simp; omega) ?_)
      simpa using h
    · rw [if_neg he] at h
      simp only [List.append_nil] at h
      exact h

theorem list102 {most : Int} (hm : 0 ≤ most ∧ most ≤ 100) (hb : bs.length ≤ big) (hp : p ≤ bs.length) : ASpec Try.prog 274 [.ptr 0 0, .int .i64 most, .fn 275 [.ptr 1 0, .ptr 4 0]] (HR bs p e)
    (fun r H' => r = slR (listM (relR bs) bs p e most).1 ∧ H' = HR bs (listM (relR bs) bs p e most).2.1 (listM (relR bs) bs p e most).2.2) := by
  have hn := numM_most bs p e most hm.1
  refine ASpec.sel (s274 _ _ _ _ _ (ASpec.call (num_spec (H := HR bs p e) (id := 0) (bs := bs) (p := p) (e := e) most hb hp rfl) (Les.refl _) ⟨((numM bs p e most).1, ((numM bs p e most).2.1 : Nat), (numM bs p e most).2.2), rfl, rfl, ?_⟩))
  refine AWP.re (ReSt.tok (H := HR bs (numM bs p e most).2.1 (numM bs p e most).2.2) (k := 7) (q' := .map T.encR (0, []) []) (sz' := 2) (s2 := [(0, .ptr 0 0), (2, .fn 275 [.ptr 1 0, .ptr 4 0]), (7, .sl 2 (.map T.encR (0, []) []) (.tok 5)), (8, .int .i64 (numM bs p e most).1)]) rfl (.inl rfl) rfl (.inr rfl) (fun d hd => ?_) rfl) ?_
  · simp only [Ab.get]
    have e : Nat.beq 7 d = false := by
      cases hx : Nat.beq 7 d with
      | false => rfl
      | true => exact absurd (Nat.eq_of_beq_eq_true hx).symm hd
    rw [e]; rfl
  · obtain ⟨k, hk⟩ := Int.eq_ofNat_of_zero_le hn.1
    rw [hk]
    refine loop102 hb k _ _ [] (numM_p hp) (by simp; omega) ?_
    have hL : listR (relR bs) k (numM bs p e most).2.1 (numM bs p e most).2.2 = listM (relR bs) bs p e most := by rw [listM, hk]; rfl
    rw [hL, List.nil_append]
    exact ⟨[0, 1, 2, 3, 4], _, slR (listM (relR bs) bs p e most).1, selHR _, leNone renR, rfl, rfl⟩

end

abbrev zM : AObj := .cells [.str ⟨#[]⟩, .sl 0 (.raw []) .nil]

theorem read_spec (bs : List UInt8) (hb : bs.length ≤ 1000000) (H : List AObj) : ASpec Try.prog 181 [sl1 bs] H (fun r H' => r = .tup [.agg (encM (readM bs).1), .int .i64 (readM bs).2] ∧ H' = H) := by
  have k : ASpec Try.prog 181 [sl1 bs] [] (fun r H' => r = .tup [.agg (encM (readM bs).1), .int .i64 (readM bs).2] ∧ H' = []) := by
    have hb' : bs.length ≤ big := by unfold big; omega
    have none_ : ∀ (c : Int) (H' : List AObj), readM bs = (([], []), c) → ∃ l H2 r2, Sel 0 l H' H2 ∧ Le (.tup [.agg [.str ⟨#[]⟩, .sl 0 (.raw []) .nil], .int .i64 c]) (AV.ren (selR l H'.length) r2) ∧
        r2 = .tup [.agg (encM (readM bs).1), .int .i64 (readM bs).2] ∧ H2 = [] := by
      intro c H' e
      rw [e]
      exact ⟨[], [], .tup [.agg (encM ([], [])), .int .i64 c], Sel.none,
        Le.tup ⟨Le.agg ⟨Le.refl _, Le.sl (s' := Seq.ren _ (.map T.encR (0, []) [])) rfl (.inr ⟨rfl, fun _ h => by cases h⟩) (.inr rfl), trivial⟩, Le.refl _, trivial⟩, rfl, rfl⟩
    refine ASpec.sel (s181 _ _ (condD (fun h => none_ 4 _ ?_) fun h => ?_))
    · rw [readM, if_pos (by omega)]
    have hR : readM bs = endM (maniR bs).1 (closeM (maniR bs).2.2 (bs.length - (maniR bs).2.1)) := by rw [readM, if_neg (by omega)]
    refine ASpec.call (V.open_spec bs hb' [zM]) (Les.refl _) ⟨bs, rfl, rfl, ?_⟩
    have c1 : ASpec Try.prog 270 [.ptr 2 0] [zM, rd bs 0 0, .cells [.ptr 1 0], .cells [.fn 270 [.ptr 2 0]], .cells [.fn 271 [.ptr 2 0]], .cells [.fn 272 [.ptr 3 0, .ptr 2 0, .ptr 4 0]]]
        (fun r H' => r = .str (B (strM bs 0 0 24).1) ∧ H' = [zM, rd bs (strM bs 0 0 24).2.1 (strM bs 0 0 24).2.2, .cells [.ptr 1 0], .cells [.fn 270 [.ptr 2 0]], .cells [.fn 271 [.ptr 2 0]], .cells [.fn 272 [.ptr 3 0, .ptr 2 0, .ptr 4 0]]]) := by
      refine ASpec.subH [1, 2, 3, 4, 5] _ _ (name98 (bs := bs) (p := 0) (e := 0) hb' (by omega)) _ _ (by decide) rfl rfl rfl (fun i hi => ?_) rfl
      match i, hi with
      | 0, _ | 1, _ | 2, _ | 3, _ | 4, _ => rfl
    refine ASpec.call c1 (Les.refl _) ⟨(B (strM bs 0 0 24).1, ((strM bs 0 0 24).2.1 : Nat), (strM bs 0 0 24).2.2), rfl, rfl, ?_⟩
    have hp1 : (strM bs 0 0 24).2.1 ≤ bs.length := strM_p (by omega)
    have c2 : ASpec Try.prog 274 [.ptr 1 0, .int .i64 8, .fn 275 [.ptr 2 0, .ptr 5 0]] [zM, rd bs (strM bs 0 0 24).2.1 (strM bs 0 0 24).2.2, .cells [.ptr 1 0], .cells [.fn 270 [.ptr 2 0]], .cells [.fn 271 [.ptr 2 0]], .cells [.fn 272 [.ptr 3 0, .ptr 2 0, .ptr 4 0]], .cells [.str (B (strM bs 0 0 24).1), .sl 0 (.raw []) .nil]]
        (fun r H' => r = slR (maniR bs).1.2 ∧ H' = [zM, rd bs (maniR bs).2.1 (maniR bs).2.2, .cells [.ptr 1 0], .cells [.fn 270 [.ptr 2 0]], .cells [.fn 271 [.ptr 2 0]], .cells [.fn 272 [.ptr 3 0, .ptr 2 0, .ptr 4 0]], .cells [.str (B (strM bs 0 0 24).1), .sl 0 (.raw []) .nil]]) := by
      refine ASpec.subH [1, 2, 3, 4, 5] _ _ (list102 (bs := bs) (p := (strM bs 0 0 24).2.1) (e := (strM bs 0 0 24).2.2) (most := 8) (by omega) hb' hp1) _ _ (by decide) rfl rfl rfl (fun i hi => ?_) rfl
      match i, hi with
      | 0, _ | 1, _ | 2, _ | 3, _ | 4, _ => rfl
    refine ASpec.call c2 (Les.refl _) ⟨((maniR bs).1.2, ((maniR bs).2.1 : Nat), (maniR bs).2.2), rfl, rfl, ?_⟩
    refine ASpec.call (close_spec (id := 1) (bs := bs) (p := (maniR bs).2.1) (e := (maniR bs).2.2) hb' (maniR_p bs) rfl) (Les.refl _) ⟨_, rfl, rfl, ?_⟩
    generalize hc : closeM (maniR bs).2.2 (bs.length - (maniR bs).2.1) = c at hR
    refine condE (fun h0 => ?_) fun h0 => condNe (fun _ => none_ _ _ (by rw [hR, endM, if_pos h0])) fun h1 => (h0 h1).elim
    refine ASpec.call (maniCheck_spec (maniR bs).1 (maniR_ok bs) _) (Les.refl _) ⟨_, rfl, rfl, condBn (fun hm => none_ _ _ ?_) fun hm => condNe (fun h1 => (h1 h0).elim) fun _ => ?_⟩
    · rw [hR, endM, if_neg (by simpa using h0), if_neg (by rw [hm]; simp)]
    · rw [hR, endM, if_neg (by simpa using h0), if_pos hm]
      exact ⟨[], [], .tup [.agg (encM (maniR bs).1), .int .i64 0], Sel.none, Le.refl _, rfl, rfl⟩
  exact ASpec.pureH H k _ _ rfl rfl

end W
end

section
/- WirePuts: the bytes of any manifest, and the manifest of any bytes, or what is wrong first, are the document's: the law's function returns true. -/

set_option linter.unusedVariables false
set_option linter.unusedSimpArgs false
set_option maxRecDepth 100000
open Go Go.Ab Go.Proofs V S T C
namespace W

/-! ### the document's model -/

def dSpan (l : List UInt8) (e : Int) : Span × List UInt8 × Int :=
  (((dnumM l e 1000000000).1, IntKind.wrap .i64 ((dnumM l e 1000000000).1 + (dnumM (dnumM l e 1000000000).2.1 (dnumM l e 1000000000).2.2 1000000000).1)),
    (dnumM (dnumM l e 1000000000).2.1 (dnumM l e 1000000000).2.2 1000000000).2)

def dF {α : Type} (one : List UInt8 → Int → α × List UInt8 × Int) : Nat → List UInt8 → Int → List α × List UInt8 × Int
  | 0, l, e => ([], l, e)
  | k + 1, l, e => ((one l e).1 :: (dF one k (one l e).2.1 (one l e).2.2).1, (dF one k (one l e).2.1 (one l e).2.2).2)

def dL {α : Type} (one : List UInt8 → Int → α × List UInt8 × Int) (l : List UInt8) (e most : Int) : List α × List UInt8 × Int :=
  dF one (dnumM l e most).1.toNat (dnumM l e most).2.1 (dnumM l e most).2.2

def dNeed (l : List UInt8) (e : Int) : Need × List UInt8 × Int :=
  (((dstrM l e 24).1, (dL dSpan (dstrM l e 24).2.1 (dstrM l e 24).2.2 6).1), (dL dSpan (dstrM l e 24).2.1 (dstrM l e 24).2.2 6).2)
def dRel (l : List UInt8) (e : Int) : Rel × List UInt8 × Int :=
  (((dnumM l e 1000000000).1, (dL dNeed (dnumM l e 1000000000).2.1 (dnumM l e 1000000000).2.2 6).1), (dL dNeed (dnumM l e 1000000000).2.1 (dnumM l e 1000000000).2.2 6).2)
def dMani (l : List UInt8) : Mani × List UInt8 × Int :=
  (((dstrM l 0 24).1, (dL dRel (dstrM l 0 24).2.1 (dstrM l 0 24).2.2 8).1), (dL dRel (dstrM l 0 24).2.1 (dstrM l 0 24).2.2 8).2)
def dRead (l : List UInt8) : Mani × Int := if 8192 < l.length then (([], []), 4) else endM (dMani l).1 (closeM (dMani l).2.2 (dMani l).2.1.length)

/-! ### it is the code's -/

def Alike {α : Type} (bs : List UInt8) (R : α × Nat × Int) (D : α × List UInt8 × Int) : Prop := D.2.1 = bs.drop R.2.1 ∧ D.2.2 = R.2.2 ∧ (R.2.2 = 0 → D.1 = R.1)

/-- behind an error nothing is taken -/
def Sticks {α : Type} (one : List UInt8 → Int → α × List UInt8 × Int) : Prop := ∀ l e, e ≠ 0 → (one l e).2 = (l, e)

theorem dnumM_err {l : List UInt8} {e most : Int} (h : e ≠ 0) : dnumM l e most = (0, l, e) := by simp only [dnumM, if_pos h]
theorem dstrM_err {l : List UInt8} {e most : Int} (h : e ≠ 0) : dstrM l e most = ([], l, e) := by simp only [dstrM, if_pos h]

theorem dF_err {α : Type} {one : List UInt8 → Int → α × List UInt8 × Int} (hs : Sticks one) {e : Int} (h : e ≠ 0) : ∀ (k : Nat) (l : List UInt8), (dF one k l e).2 = (l, e)
  | 0, l => rfl
  | k + 1, l => by
    have := hs l e h
    simp only [dF, this]
    exact dF_err hs h k l

theorem dL_err {α : Type} {one : List UInt8 → Int → α × List UInt8 × Int} (hs : Sticks one) {l : List UInt8} {e most : Int} (h : e ≠ 0) : (dL one l e most).2 = (l, e) := by
  unfold dL
  rw [dnumM_err h]
  exact dF_err hs h _ _

theorem dSpan_sticks : Sticks dSpan := fun l e h => by simp only [dSpan, dnumM_err h]
theorem dNeed_sticks : Sticks dNeed := fun l e h => by simp only [dNeed, dstrM_err h, dL_err dSpan_sticks h]
theorem dRel_sticks : Sticks dRel := fun l e h => by simp only [dRel, dnumM_err h, dL_err dNeed_sticks h]

theorem listR_err {α : Type} {one : Nat → Int → α × Nat × Int} {e : Int} (h : e ≠ 0) (k p : Nat) : listR one k p e = ([], p, e) := by
  cases k with
  | zero => rfl
  | succ k => simp only [listR, if_neg h]

theorem alikeF {α : Type} {bs : List UInt8} {one : Nat → Int → α × Nat × Int} {done : List UInt8 → Int → α × List UInt8 × Int} (h1 : ∀ p e, p ≤ bs.length → Alike bs (one p e) (done (bs.drop p) e)) (hin : Inside bs one) (hs : Sticks done) :
    ∀ (k p : Nat) (e : Int), p ≤ bs.length → Alike bs (listR one k p e) (dF done k (bs.drop p) e)
  | 0, p, e, hp => ⟨rfl, rfl, fun _ => rfl⟩
  | k + 1, p, e, hp => by
    by_cases he : e = 0
    · obtain ⟨a1, a2, a3⟩ := h1 p e hp
      obtain ⟨b1, b2, b3⟩ := alikeF h1 hin hs k (one p e).2.1 (one p e).2.2 (hin p e hp)
      simp only [listR, if_pos he, dF, a1, a2]
      refine ⟨b1, b2, fun h0 => ?_⟩
      have hz : (one p e).2.2 = 0 := by
        by_cases hz : (one p e).2.2 = 0
        · exact hz
        · simp only [listR_err hz] at h0
          exact h0
      show _ :: _ = _ :: _
      rw [a3 hz, b3 h0]
    · rw [listR_err he]
      have := dF_err hs he (k + 1) (bs.drop p)
      exact ⟨by rw [this], by rw [this], fun h => (he h).elim⟩

theorem alikeL {α : Type} {bs : List UInt8} {one : Nat → Int → α × Nat × Int} {done : List UInt8 → Int → α × List UInt8 × Int} (h1 : ∀ p e, p ≤ bs.length → Alike bs (one p e) (done (bs.drop p) e)) (hin : Inside bs one) (hs : Sticks done)
    {p : Nat} {e most : Int} (hp : p ≤ bs.length) : Alike bs (listM one bs p e most) (dL done (bs.drop p) e most) := by
  obtain ⟨hd, hq⟩ := num_doc bs p e most hp
  unfold listM dL
  rw [hd]
  exact alikeF h1 hin hs _ _ _ hq

theorem alikeSpan (bs : List UInt8) (p : Nat) (e : Int) (hp : p ≤ bs.length) : Alike bs (spanR bs p e) (dSpan (bs.drop p) e) := by
  obtain ⟨hd, hq⟩ := num_doc bs p e 1000000000 hp
  obtain ⟨hd2, hq2⟩ := num_doc bs (numM bs p e 1000000000).2.1 (numM bs p e 1000000000).2.2 1000000000 hq
  unfold dSpan spanR Alike
  rw [hd]
  simp only [hd2]
  exact ⟨trivial, trivial, fun _ => trivial⟩

theorem alikeNeed (bs : List UInt8) (p : Nat) (e : Int) (hp : p ≤ bs.length) : Alike bs (needR bs p e) (dNeed (bs.drop p) e) := by
  obtain ⟨hd, hq⟩ := str_doc bs p e 24 hp
  obtain ⟨a1, a2, a3⟩ := alikeL (alikeSpan bs) (spanR_p bs) dSpan_sticks (e := (strM bs p e 24).2.2) (most := 6) hq
  unfold dNeed needR Alike
  rw [hd]
  simp only [a1, a2]
  exact ⟨trivial, trivial, fun h => by rw [a3 h]⟩

theorem alikeRel (bs : List UInt8) (p : Nat) (e : Int) (hp : p ≤ bs.length) : Alike bs (relR bs p e) (dRel (bs.drop p) e) := by
  obtain ⟨hd, hq⟩ := num_doc bs p e 1000000000 hp
  obtain ⟨a1, a2, a3⟩ := alikeL (alikeNeed bs) (needR_p bs) dNeed_sticks (e := (numM bs p e 1000000000).2.2) (most := 6) hq
  unfold dRel relR Alike
  rw [hd]
  simp only [a1, a2]
  exact ⟨trivial, trivial, fun h => by rw [a3 h]⟩

theorem alikeMani (bs : List UInt8) : Alike bs (maniR bs) (dMani bs) := by
  obtain ⟨hd, hq⟩ := str_doc bs 0 0 24 (Nat.zero_le _)
  rw [List.drop_zero] at hd
  obtain ⟨a1, a2, a3⟩ := alikeL (alikeRel bs) (relR_p bs) dRel_sticks (e := (strM bs 0 0 24).2.2) (most := 8) hq
  unfold dMani maniR Alike
  rw [hd]
  simp only [a1, a2]
  exact ⟨trivial, trivial, fun h => by rw [a3 h]⟩

theorem dRead_eq (bs : List UInt8) : dRead bs = readM bs := by
  obtain ⟨a1, a2, a3⟩ := alikeMani bs
  unfold dRead readM
  rw [a1, a2, List.length_drop]
  by_cases h : (maniR bs).2.2 = 0
  · rw [a3 h]
  · have hc : ∀ n, closeM (maniR bs).2.2 n = (maniR bs).2.2 := fun n => by simp only [closeM, if_pos h]
    rw [hc]
    unfold endM
    rw [if_pos h, if_pos h]

/-! ### the document's walk -/

theorem dnumM_len (l : List UInt8) (e most : Int) : (dnumM l e most).2.1.length ≤ l.length := by
  unfold dnumM; split <;> simp
theorem dstrM_len (l : List UInt8) (e most : Int) : (dstrM l e most).2.1.length ≤ l.length := by
  unfold dstrM; repeat' split
  all_goals simp
theorem dnumM_most (l : List UInt8) (e most : Int) (h : 0 ≤ most) : 0 ≤ (dnumM l e most).1 ∧ (dnumM l e most).1 ≤ most := by
  unfold dnumM
  split
  · exact ⟨Int.le_refl _, h⟩
  · exact ⟨(lookM_le _ _).2.1, lookM_most _ _ h⟩
theorem dSpan_len (l : List UInt8) (e : Int) : (dSpan l e).2.1.length ≤ l.length := Nat.le_trans (dnumM_len _ _ _) (dnumM_len _ _ _)
theorem dF_len {α : Type} {one : List UInt8 → Int → α × List UInt8 × Int} (h : ∀ l e, (one l e).2.1.length ≤ l.length) : ∀ (k : Nat) (l : List UInt8) (e : Int), (dF one k l e).2.1.length ≤ l.length
  | 0, l, e => Nat.le_refl _
  | k + 1, l, e => Nat.le_trans (dF_len h k _ _) (h l e)
theorem dL_len {α : Type} {one : List UInt8 → Int → α × List UInt8 × Int} (h : ∀ l e, (one l e).2.1.length ≤ l.length) (l : List UInt8) (e most : Int) : (dL one l e most).2.1.length ≤ l.length :=
  Nat.le_trans (dF_len h _ _ _) (dnumM_len _ _ _)
theorem dNeed_len (l : List UInt8) (e : Int) : (dNeed l e).2.1.length ≤ l.length := Nat.le_trans (dL_len dSpan_len _ _ _) (dstrM_len _ _ _)
theorem dRel_len (l : List UInt8) (e : Int) : (dRel l e).2.1.length ≤ l.length := Nat.le_trans (dL_len dNeed_len _ _ _) (dnumM_len _ _ _)

section
variable {Post : AV → List AObj → Prop}

theorem q9 {acc : List Need} {n i : Int} {nm : List UInt8} (ha : acc.length ≤ 100) {k : Nat} (hk : k ≤ 100) {R : Need × List UInt8 × Int}
    (K : AWP Try.prog 47 1 c326_4 [(0, .ptr 0 0), (3, .sl 2 (.map encN ([], []) (acc ++ [R.1])) (.tok 1)), (4, .int .i64 n), (5, .int .i64 (IntKind.wrap .i64 (i + 1)))] [dr R.2.1 R.2.2, .tok] (q326_2 1 Post)) :
    ∀ (m j : Nat) (l : List UInt8) (e : Int) (sp : List Span), m + j = k → l.length ≤ 10 * big → sp.length + m ≤ 100 → R = ((nm, sp ++ (dF dSpan m l e).1), (dF dSpan m l e).2) →
    AWP Try.prog 47 1 c326_9 [(0, .ptr 0 0), (3, .sl 2 (.map encN ([], []) acc) (.tok 1)), (4, .int .i64 n), (5, .int .i64 i), (6, .ptr 2 0), (7, .int .i64 k), (8, .int .i64 j)]
      [dr l e, .tok, .cells [.str (B nm), .sl 2 (.map encS (0, 0) sp) (.tok 3)], .tok] (q326_7 1 Post) := by
  intro m
  induction m with
  | zero =>
    intro j l e sp hm hl hs hR
    refine v326_9 _ _ _ _ _ _ _ _ _ _ _ (condD (fun hc => by omega) fun _ => needJ (by omega) ?_)
    simp only [dF, List.append_nil] at hR
    subst hR
    refine AWP.shape [0, 4] [(0, .ptr 0 0), (3, .sl 2 (.map encN ([], []) (acc ++ [(nm, sp)])) (.tok 1)), (4, .int .i64 n), (5, .int .i64 (IntKind.wrap .i64 (i + 1)))] [dr l e, .tok] ?_ ⟨rfl, Le.refl _, rfl, ?_, rfl, Le.refl _, rfl, Le.refl _, trivial⟩ K
    · refine ⟨by decide, rfl, by decide, fun i hi => ?_, fun i hi => .inl ?_⟩
      · match i, hi with
        | 0, _ => rfl
      · match i, hi with
        | 0, _ | 1, _ => rfl
    · exact Le.trans (leAppE (x := (nm, sp)) ⟨Le.refl _, Le.sl rfl (.inl rfl) (.inr rfl), trivial⟩) (Le.refl _)
  | succ m ih =>
    intro j l e sp hm hl hs hR
    refine v326_9 _ _ _ _ _ _ _ _ _ _ _ (condD (fun _ => ?_) fun hc => by omega)
    have h1 := dnumM_len l e 1000000000
    refine ASpec.call (dnum_spec (H := [dr l e, .tok, .cells [.str (B nm), .sl 2 (.map encS (0, 0) sp) (.tok 3)], .tok]) (id := 0) (l := l) (e := e) 1000000000 hl rfl) (Les.refl _)
      ⟨((dnumM l e 1000000000).1, B (dnumM l e 1000000000).2.1, (dnumM l e 1000000000).2.2), rfl, rfl, ?_⟩
    refine ASpec.call (dnum_spec (H := [dr (dnumM l e 1000000000).2.1 (dnumM l e 1000000000).2.2, .tok, .cells [.str (B nm), .sl 2 (.map encS (0, 0) sp) (.tok 3)], .tok]) (id := 0) (l := (dnumM l e 1000000000).2.1) (e := (dnumM l e 1000000000).2.2) 1000000000 (by omega) rfl) (Les.refl _)
      ⟨((dnumM (dnumM l e 1000000000).2.1 (dnumM l e 1000000000).2.2 1000000000).1, B (dnumM (dnumM l e 1000000000).2.1 (dnumM l e 1000000000).2.2 1000000000).2.1, (dnumM (dnumM l e 1000000000).2.1 (dnumM l e 1000000000).2.2 1000000000).2.2), rfl, rfl, needJ (by omega) ?_⟩
    refine AWP.re (ReSt.leCell (id := 2) (cs' := [.str (B nm), .sl 2 (.map encS (0, 0) (sp ++ [(dSpan l e).1])) (.tok 4)]) rfl ⟨Le.refl _, leAppE (Les.refl _), trivial⟩) ?_
    rw [succ64 (by omega)]
    refine AWP.shape [0, 1, 2, 4] [(0, .ptr 0 0), (3, .sl 2 (.map encN ([], []) acc) (.tok 1)), (4, .int .i64 n), (5, .int .i64 i), (6, .ptr 2 0), (7, .int .i64 k), (8, .int .i64 (j + 1 : Nat))]
      [dr (dSpan l e).2.1 (dSpan l e).2.2, .tok, .cells [.str (B nm), .sl 2 (.map encS (0, 0) (sp ++ [(dSpan l e).1])) (.tok 3)], .tok] ?_
      ⟨rfl, Le.refl _, rfl, Le.refl _, rfl, Le.refl _, rfl, Le.refl _, rfl, Le.refl _, rfl, Le.refl _, rfl, Le.refl _, trivial⟩ (ih (j + 1) _ _ _ (by omega) (Nat.le_trans (dSpan_len l e) hl) (by simp; omega) ?_)
    · refine ⟨by decide, rfl, by decide, fun i hi => ?_, fun i hi => .inl ?_⟩
      · match i, hi with
        | 0, _ => rfl
      · match i, hi with
        | 0, _ | 1, _ | 2, _ | 3, _ => rfl
    · rw [hR]; simp [dF]

theorem q4 {n : Nat} (hn : n ≤ 50) : ∀ (m i : Nat) (l : List UInt8) (e : Int) (acc : List Need), m + i = n → l.length ≤ 10 * big → acc.length + m ≤ 100 →
    Post (.sl 2 (.map encN ([], []) (acc ++ (dF dNeed m l e).1)) (.tok 1)) [dr (dF dNeed m l e).2.1 (dF dNeed m l e).2.2, .tok] →
    AWP Try.prog 47 1 c326_4 [(0, .ptr 0 0), (3, .sl 2 (.map encN ([], []) acc) (.tok 1)), (4, .int .i64 n), (5, .int .i64 i)] [dr l e, .tok] (q326_2 1 Post) := by
  intro m
  induction m with
  | zero =>
    intro i l e acc hm hl ha h
    refine v326_4 _ _ _ _ _ _ _ (condD (fun hc => by omega) fun _ => ?_)
    simp only [dF, List.append_nil] at h
    exact h
  | succ m ih =>
    intro i l e acc hm hl ha h
    refine v326_4 _ _ _ _ _ _ _ (condD (fun _ => ?_) fun hc => by omega)
    have h1 := dstrM_len l e 24
    have h2 := dnumM_most (dstrM l e 24).2.1 (dstrM l e 24).2.2 6 (by omega)
    have h3 := dnumM_len (dstrM l e 24).2.1 (dstrM l e 24).2.2 6
    refine ASpec.call (dstr_spec (H := [dr l e, .tok]) (id := 0) (l := l) (e := e) 24 hl rfl) (Les.refl _) ⟨(B (dstrM l e 24).1, B (dstrM l e 24).2.1, (dstrM l e 24).2.2), rfl, rfl, ?_⟩
    refine ASpec.call (dnum_spec (H := [dr (dstrM l e 24).2.1 (dstrM l e 24).2.2, .tok, .cells [.str (B (dstrM l e 24).1), .sl 0 (.raw []) .nil]]) (id := 0) (l := (dstrM l e 24).2.1) (e := (dstrM l e 24).2.2) 6 (by omega) rfl) (Les.refl _)
      ⟨((dnumM (dstrM l e 24).2.1 (dstrM l e 24).2.2 6).1, B (dnumM (dstrM l e 24).2.1 (dstrM l e 24).2.2 6).2.1, (dnumM (dstrM l e 24).2.1 (dstrM l e 24).2.2 6).2.2), rfl, rfl, ?_⟩
    refine AWP.re (ReSt.tokCell (id := 2) (j := 1) (q' := .map encS (0, 0) []) (sz' := 2) rfl rfl (.inl rfl) rfl (.inr rfl)) ?_
    obtain ⟨k, hk⟩ := Int.eq_ofNat_of_zero_le h2.1
    rw [hk]
    refine q9 (nm := (dstrM l e 24).1) (by omega) (k := k) (by omega) (R := dNeed l e) ?_ k 0 _ _ [] (by omega) (by omega) (by simp; omega) ?_
    · rw [succ64 (by omega)]
      refine ih (i + 1) _ _ _ (by omega) (Nat.le_trans (dNeed_len l e) hl) (by simp; omega) ?_
      simp only [dF] at h
      simpa using h
    · rw [dNeed, dL, hk]; rfl

theorem dneeds_read {H : List AObj} {id : Nat} {l : List UInt8} {e : Int} (hl : l.length ≤ 10 * big) (h : AtD H id l e) :
    ASpec Try.prog 326 [.ptr id 0] H (fun r H' => r = slN (dL dNeed l e 6).1 ∧ H' = H.set id (dr (dL dNeed l e 6).2.1 (dL dNeed l e 6).2.2)) := by
  have k : ASpec Try.prog 326 [.ptr 0 0] [dr l e] (fun r H' => r = slN (dL dNeed l e 6).1 ∧ H' = [dr (dL dNeed l e 6).2.1 (dL dNeed l e 6).2.2]) := by
    have h2 := dnumM_most l e 6 (by omega)
    have h3 := dnumM_len l e 6
    refine ASpec.sel (s326 _ _ _ (ASpec.call (dnum_spec (H := [dr l e]) (id := 0) (l := l) (e := e) 6 hl rfl) (Les.refl _) ⟨((dnumM l e 6).1, B (dnumM l e 6).2.1, (dnumM l e 6).2.2), rfl, rfl, ?_⟩))
    refine AWP.re (ReSt.tok (H := [dr (dnumM l e 6).2.1 (dnumM l e 6).2.2]) (k := 3) (q' := .map encN ([], []) []) (sz' := 2) (s2 := [(0, .ptr 0 0), (3, .sl 2 (.map encN ([], []) []) (.tok 1)), (4, .int .i64 (dnumM l e 6).1), (5, .int .i64 0)]) rfl (.inl rfl) rfl (.inr rfl) (fun d hd => ?_) rfl) ?_
    · simp only [Ab.get]
      have e : Nat.beq 3 d = false := by
        cases hx : Nat.beq 3 d with
        | false => rfl
        | true => exact absurd (Nat.eq_of_beq_eq_true hx).symm hd
      rw [e]; rfl
    · obtain ⟨k, hk⟩ := Int.eq_ofNat_of_zero_le h2.1
      rw [hk]
      refine q4 (n := k) (by omega) k 0 _ _ [] (by omega) (by omega) (by simp; omega) ?_
      have hL : dF dNeed k (dnumM l e 6).2.1 (dnumM l e 6).2.2 = dL dNeed l e 6 := by rw [dL, hk]; rfl
      rw [hL, List.nil_append]
      refine ⟨[0], [dr (dL dNeed l e 6).2.1 (dL dNeed l e 6).2.2], slN (dL dNeed l e 6).1, ?_, leNone renN, rfl, rfl⟩
      refine ⟨by decide, rfl, Nat.le_refl _, fun i hi => ?_, fun i hi => .inl ?_⟩
      · match i, hi with
        | 0, _ => rfl
      · match i, hi with
        | 0, _ => rfl
  exact ASpec.oneH H id k _ _ _ rfl rfl h rfl

/-- a manifest and an error are told, whatever lies in the heap -/
abbrev PM (v : Mani × Int) : AV → List AObj → Prop := fun r H' => ∃ l H2 r2, Sel 0 l H' H2 ∧ Le r (AV.ren (selR l H'.length) r2) ∧ (r2 = .tup [.agg (encM v.1), .int .i64 v.2] ∧ H2 = [])

theorem pmNil {v : Mani × Int} {c : Int} {H' : List AObj} (h : v = (([], []), c)) : PM v (.tup [.agg [.str ⟨#[]⟩, .sl 0 (.raw []) .nil], .int .i64 c]) H' := by
  subst h
  exact ⟨[], [], .tup [.agg (encM ([], [])), .int .i64 c], Sel.none,
    Le.tup ⟨Le.agg ⟨Le.refl _, Le.sl (s' := Seq.ren _ (.map T.encR (0, []) [])) rfl (.inr ⟨rfl, fun _ h => by cases h⟩) (.inr rfl), trivial⟩, Le.refl _, trivial⟩, rfl, rfl⟩

theorem pmVal {v : Mani × Int} {nm : List UInt8} {rs : List Rel} {tip : Tip} {H' : List AObj} (h : v = ((nm, rs), 0)) : PM v (.tup [.agg [.str (B nm), .sl 2 (.map T.encR (0, []) rs) tip], .int .i64 0]) H' := by
  subst h
  exact ⟨[], [], .tup [.agg (encM (nm, rs)), .int .i64 0], Sel.none, Le.tup ⟨Le.agg ⟨Le.refl _, leNone renR, trivial⟩, Le.refl _, trivial⟩, rfl, rfl⟩

theorem q7 {nm : List UInt8} {n : Nat} (hn : n ≤ 50) {v : Mani × Int} {R : List Rel × List UInt8 × Int} (hR : v = endM (nm, R.1) (closeM R.2.2 R.2.1.length)) (hok : closeM R.2.2 R.2.1.length = 0 → okM (nm, R.1)) :
    ∀ (m i : Nat) (l : List UInt8) (e : Int) (acc : List Rel), m + i = n → l.length ≤ 10 * big → acc.length + m ≤ 100 → R = (acc ++ (dF dRel m l e).1, (dF dRel m l e).2) →
    AWP Try.prog 53 0 c277_7 [(2, .ptr 0 0), (4, .ptr 1 0), (5, .ptr 2 0), (6, .int .i64 n), (7, .int .i64 i)] [zM, dr l e, .cells [.str (B nm), .sl 2 (.map T.encR (0, []) acc) (.tok 3)], .tok] (q277_2 0 (PM v)) := by
  intro m
  induction m with
  | zero =>
    intro i l e acc hm hl ha h
    simp only [dF, List.append_nil] at h
    subst h
    refine v277_7 _ _ _ _ _ _ _ _ (condD (fun hc => by omega) fun _ => ?_)
    refine ASpec.call (dclose_spec (H := [zM, dr l e, .cells [.str (B nm), .sl 2 (.map T.encR (0, []) acc) (.tok 3)], .tok]) (id := 1) (l := l) (e := e) rfl) (Les.refl _) ⟨_, rfl, rfl, ?_⟩
    generalize closeM e l.length = c at hR hok
    refine condE (fun h0 => ?_) fun h0 => condNe (fun _ => pmNil (by rw [hR, endM, if_pos h0])) fun h1 => (h0 h1).elim
    refine ASpec.call (rmaniCheck_spec (nm, acc) (hok h0) _) ⟨Le.agg ⟨Le.refl _, Le.sl rfl (.inl rfl) (.inr rfl), trivial⟩, trivial⟩ ⟨_, rfl, rfl, condBn (fun hm => pmNil ?_) fun hm => condNe (fun h1 => (h1 h0).elim) fun _ => pmVal ?_⟩
    · rw [hR, endM, if_neg (by simpa using h0), if_neg (by rw [hm]; simp)]
    · rw [hR, endM, if_neg (by simpa using h0), if_pos hm]
  | succ m ih =>
    intro i l e acc hm hl ha h
    have h1 := dnumM_len l e 1000000000
    refine v277_7 _ _ _ _ _ _ _ _ (condD (fun _ => ?_) fun hc => by omega)
    refine ASpec.call (dnum_spec (H := [zM, dr l e, .cells [.str (B nm), .sl 2 (.map T.encR (0, []) acc) (.tok 3)], .tok]) (id := 1) (l := l) (e := e) 1000000000 hl rfl) (Les.refl _)
      ⟨((dnumM l e 1000000000).1, B (dnumM l e 1000000000).2.1, (dnumM l e 1000000000).2.2), rfl, rfl, ?_⟩
    refine ASpec.call (dneeds_read (H := [zM, dr (dnumM l e 1000000000).2.1 (dnumM l e 1000000000).2.2, .cells [.str (B nm), .sl 2 (.map T.encR (0, []) acc) (.tok 3)], .tok, .cells [.int .i64 (dnumM l e 1000000000).1, .sl 0 (.raw []) .nil]]) (id := 1) (l := (dnumM l e 1000000000).2.1) (e := (dnumM l e 1000000000).2.2) (by omega) rfl) (Les.refl _)
      ⟨((dRel l e).1.2, B (dRel l e).2.1, (dRel l e).2.2), rfl, rfl, needJ (by omega) ?_⟩
    refine AWP.re (ReSt.leCell (id := 2) (cs' := [.str (B nm), .sl 2 (.map T.encR (0, []) (acc ++ [(dRel l e).1])) (.tok 5)]) rfl ⟨Le.refl _, leAppE (Les.refl _), trivial⟩) ?_
    rw [succ64 (by omega)]
    refine AWP.shape [0, 1, 2, 5] [(2, .ptr 0 0), (4, .ptr 1 0), (5, .ptr 2 0), (6, .int .i64 n), (7, .int .i64 (i + 1 : Nat))]
      [zM, dr (dRel l e).2.1 (dRel l e).2.2, .cells [.str (B nm), .sl 2 (.map T.encR (0, []) (acc ++ [(dRel l e).1])) (.tok 3)], .tok] ?_
      ⟨rfl, Le.refl _, rfl, Le.refl _, rfl, Le.refl _, rfl, Le.refl _, rfl, Le.refl _, trivial⟩ (ih (i + 1) _ _ _ (by omega) (Nat.le_trans (dRel_len l e) hl) (by simp; omega) ?_)
    · refine ⟨by decide, rfl, by decide, fun i hi => by omega, fun i hi => .inl ?_⟩
      match i, hi with
      | 0, _ | 1, _ | 2, _ | 3, _ => rfl
    · rw [h]; simp [dF]

theorem rread_spec (bs : List UInt8) (hb : bs.length ≤ 1000000) (H : List AObj) : ASpec Try.prog 277 [.str (B bs)] H (fun r H' => r = .tup [.agg (encM (readM bs).1), .int .i64 (readM bs).2] ∧ H' = H) := by
  have k : ASpec Try.prog 277 [.str (B bs)] [] (fun r H' => r = .tup [.agg (encM (readM bs).1), .int .i64 (readM bs).2] ∧ H' = []) := by
    have hl : bs.length ≤ 10 * big := by unfold big; omega
    refine ASpec.sel (s277 _ _ ?_)
    rw [B_size]
    refine condD (fun h => pmNil ?_) fun h => ?_
    · rw [readM, if_pos (by omega)]
    have h1 := dstrM_len bs 0 24
    have h2 := dnumM_most (dstrM bs 0 24).2.1 (dstrM bs 0 24).2.2 8 (by omega)
    have h3 := dnumM_len (dstrM bs 0 24).2.1 (dstrM bs 0 24).2.2 8
    refine ASpec.call (dstr_spec (H := [zM, dr bs 0]) (id := 1) (l := bs) (e := 0) 24 hl rfl) (Les.refl _) ⟨(B (dstrM bs 0 24).1, B (dstrM bs 0 24).2.1, (dstrM bs 0 24).2.2), rfl, rfl, ?_⟩
    refine ASpec.call (dnum_spec (H := [zM, dr (dstrM bs 0 24).2.1 (dstrM bs 0 24).2.2, .cells [.str (B (dstrM bs 0 24).1), .sl 0 (.raw []) .nil]]) (id := 1) (l := (dstrM bs 0 24).2.1) (e := (dstrM bs 0 24).2.2) 8 (by omega) rfl) (Les.refl _)
      ⟨((dnumM (dstrM bs 0 24).2.1 (dstrM bs 0 24).2.2 8).1, B (dnumM (dstrM bs 0 24).2.1 (dstrM bs 0 24).2.2 8).2.1, (dnumM (dstrM bs 0 24).2.1 (dstrM bs 0 24).2.2 8).2.2), rfl, rfl, ?_⟩
    refine AWP.re (ReSt.tokCell (id := 2) (j := 1) (q' := .map T.encR (0, []) []) (sz' := 2) rfl rfl (.inl rfl) rfl (.inr rfl)) ?_
    obtain ⟨k, hk⟩ := Int.eq_ofNat_of_zero_le h2.1
    rw [hk]
    obtain ⟨a1, a2, a3⟩ := alikeMani bs
    refine q7 (n := k) (by omega) (R := ((dMani bs).1.2, (dMani bs).2)) ?_ ?_ k 0 _ _ [] (by omega) (by omega) (by simp; omega) ?_
    · rw [← dRead_eq, dRead, if_neg (by omega)]; rfl
    · intro h0
      have he : (maniR bs).2.2 = 0 := by
        by_cases he : (maniR bs).2.2 = 0
        · exact he
        · simp only [a2] at h0
          have hc : ∀ n, closeM (maniR bs).2.2 n = (maniR bs).2.2 := fun n => by simp only [closeM, if_pos he]
          rw [hc] at h0
          exact h0
      have := maniR_ok bs
      rw [← a3 he] at this
      exact this
    · simp only [dMani, dL, hk]; rfl
  exact ASpec.pureH H k _ _ rfl rfl

/-! ### are they alike? -/

theorem cons_dec {α : Type} [DecidableEq α] (x y : α) (a b : List α) : decide (x :: a = y :: b) = (decide (x = y) && decide (a = b)) := by
  rw [Bool.eq_iff_iff]; simp

theorem sameS4 {a b : List Span} {c : Bool} (hl : a.length ≤ lim) (he : a.length = b.length) : ∀ (m i : Nat), m + i = a.length → decide (a.drop i = b.drop i) = c →
    AWP Try.prog 26 0 c163_4 [(0, slS a), (1, slS b), (5, .int .i64 i)] [] (q163_2 0 (PB c)) := by
  unfold lim at hl
  intro m
  induction m with
  | zero =>
    intro i hm h
    refine v163_4 _ _ _ _ _ (condD (fun hc => by omega) fun _ => pb ?_)
    rw [List.drop_eq_nil_of_le (by omega), List.drop_eq_nil_of_le (by omega)] at h
    rw [← h]; simp
  | succ m ih =>
    intro i hm h
    rw [dropD a (0, 0) i (by omega), dropD b (0, 0) i (by omega), cons_dec] at h
    refine v163_4 _ _ _ _ _ (condD (fun hc => needJ ⟨by omega, by omega⟩ (needJ ⟨by omega, by omega⟩ ?_)) fun hc => by omega)
    rw [Int.toNat_natCast]
    generalize a.getD i (0, 0) = x at h ⊢
    generalize b.getD i (0, 0) = y at h ⊢
    have e : (x.1 == y.1 && (x.2 == y.2 && true)) = decide (x = y) := by
      obtain ⟨x1, x2⟩ := x
      obtain ⟨y1, y2⟩ := y
      rw [Bool.eq_iff_iff]; simp
    rw [e]
    refine condBn (fun h1 => pb ?_) fun h1 => ?_
    · rw [h1, Bool.false_and] at h; exact h
    · rw [h1, Bool.true_and] at h
      rw [succ64 (by omega)]
      exact ih (i + 1) (by omega) h

theorem sameS_spec (a b : List Span) (hl : a.length ≤ lim) (H : List AObj) : ASpec Try.prog 163 [slS a, slS b] H (fun r H' => r = .bool (decide (a = b)) ∧ H' = H) := by
  have k : ASpec Try.prog 163 [slS a, slS b] [] (fun r H' => r = .bool (decide (a = b)) ∧ H' = []) := by
    refine ASpec.sel (s163 _ _ _ (condNe (fun h => pb ?_) fun h => sameS4 hl (by omega) a.length 0 (by omega) rfl))
    symm
    rw [decide_eq_false]
    rintro rfl; exact h rfl
  exact ASpec.pureH H k _ _ rfl rfl

theorem sameN4 {a b : List Need} {c : Bool} (hl : okN a) (he : a.length = b.length) : ∀ (m i : Nat), m + i = a.length → decide (a.drop i = b.drop i) = c →
    AWP Try.prog 42 0 c173_4 [(0, slN a), (1, slN b), (5, .int .i64 i)] [] (q173_2 0 (PB c)) := by
  obtain ⟨hl1, hl2⟩ := hl
  unfold lim at hl1
  intro m
  induction m with
  | zero =>
    intro i hm h
    refine v173_4 _ _ _ _ _ (condD (fun hc => by omega) fun _ => pb ?_)
    rw [List.drop_eq_nil_of_le (by omega), List.drop_eq_nil_of_le (by omega)] at h
    rw [← h]; simp
  | succ m ih =>
    intro i hm h
    have hx := hl2 _ (memD a ([], []) i (by omega))
    rw [dropD a ([], []) i (by omega), dropD b ([], []) i (by omega), cons_dec] at h
    refine v173_4 _ _ _ _ _ (condD (fun hc => needJ ⟨by omega, by omega⟩ (needJ ⟨by omega, by omega⟩ ?_)) fun hc => by omega)
    rw [Int.toNat_natCast]
    generalize a.getD i ([], []) = x at h hx ⊢
    generalize b.getD i ([], []) = y at h ⊢
    have no : ¬ (x.1 = y.1 ∧ x.2 = y.2) → PB c (.bool false) [] := by
      intro hh
      rw [decide_eq_false (by rintro rfl; exact hh ⟨rfl, rfl⟩), Bool.false_and] at h
      exact pb h
    refine condSn (fun h1 => no (fun hh => h1 hh.1)) fun h1 => needJ ⟨by omega, by omega⟩ (needJ ⟨by omega, by omega⟩ ?_)
    refine ASpec.call (sameS_spec x.2 y.2 hx.2 []) (Les.refl _) ⟨_, rfl, rfl, condBn (fun h2 => no (fun hh => ?_)) fun h2 => ?_⟩
    · rw [hh.2] at h2; simp at h2
    · rw [decide_eq_true (show x = y from Prod.ext h1 (of_decide_eq_true h2)), Bool.true_and] at h
      rw [succ64 (by omega)]
      exact ih (i + 1) (by omega) h

theorem sameN_spec (a b : List Need) (hl : okN a) (H : List AObj) : ASpec Try.prog 173 [slN a, slN b] H (fun r H' => r = .bool (decide (a = b)) ∧ H' = H) := by
  have k : ASpec Try.prog 173 [slN a, slN b] [] (fun r H' => r = .bool (decide (a = b)) ∧ H' = []) := by
    refine ASpec.sel (s173 _ _ _ (condNe (fun h => pb ?_) fun h => sameN4 hl (by omega) a.length 0 (by omega) rfl))
    symm
    rw [decide_eq_false]
    rintro rfl; exact h rfl
  exact ASpec.pureH H k _ _ rfl rfl

theorem sameM4 {a b : Mani} {c : Bool} (hl : okM a) (he : a.2.length = b.2.length) : ∀ (m i : Nat), m + i = a.2.length → decide (a.2.drop i = b.2.drop i) = c →
    AWP Try.prog 56 0 c62_4 [(2, .ptr 0 0), (3, .ptr 1 0), (5, .int .i64 i)] [.cells (encM a), .cells (encM b)] (q62_2 0 (PB c)) := by
  obtain ⟨hl1, hl2, hl3⟩ := hl
  unfold lim at hl2
  intro m
  induction m with
  | zero =>
    intro i hm h
    refine v62_4 _ _ _ _ _ (condD (fun hc => by omega) fun _ => pb ?_)
    rw [List.drop_eq_nil_of_le (by omega), List.drop_eq_nil_of_le (by omega)] at h
    rw [← h]; simp
  | succ m ih =>
    intro i hm h
    have hx := hl3 _ (memD a.2 (0, []) i (by omega))
    rw [dropD a.2 (0, []) i (by omega), dropD b.2 (0, []) i (by omega), cons_dec] at h
    refine v62_4 _ _ _ _ _ (condD (fun hc => needJ ⟨by omega, by omega⟩ (needJ ⟨by omega, by omega⟩ ?_)) fun hc => by omega)
    rw [Int.toNat_natCast]
    generalize a.2.getD i (0, []) = x at h hx ⊢
    generalize b.2.getD i (0, []) = y at h ⊢
    have no : ∀ {H' : List AObj}, ¬ (x.1 = y.1 ∧ x.2 = y.2) → PB c (.bool false) H' := by
      intro H' hh
      rw [decide_eq_false (by rintro rfl; exact hh ⟨rfl, rfl⟩), Bool.false_and] at h
      exact pb h
    refine condNe (fun h1 => no (fun hh => h1 hh.1)) fun h1 => needJ ⟨by omega, by omega⟩ (needJ ⟨by omega, by omega⟩ ?_)
    refine ASpec.call (sameN_spec x.2 y.2 hx _) (Les.refl _) ⟨_, rfl, rfl, condBn (fun h2 => no (fun hh => ?_)) fun h2 => ?_⟩
    · rw [hh.2] at h2; simp at h2
    · rw [decide_eq_true (show x = y from Prod.ext h1 (of_decide_eq_true h2)), Bool.true_and] at h
      rw [succ64 (by omega)]
      exact ih (i + 1) (by omega) h

theorem sameM_spec (a b : Mani) (hl : okM a) (H : List AObj) : ASpec Try.prog 62 [.agg (encM a), .agg (encM b)] H (fun r H' => r = .bool (decide (a.1 = b.1 ∧ a.2 = b.2)) ∧ H' = H) := by
  have k : ASpec Try.prog 62 [.agg (encM a), .agg (encM b)] [] (fun r H' => r = .bool (decide (a.1 = b.1 ∧ a.2 = b.2)) ∧ H' = []) := by
    refine ASpec.sel (s62 _ _ _ (condSn (fun h => pb ?_) fun h0 => condNe (fun h => pb ?_) fun h => sameM4 hl (by omega) a.2.length 0 (by omega) ?_))
    · symm; rw [decide_eq_false]; intro hh; exact h hh.1
    · symm; rw [decide_eq_false]; intro hh; rw [hh.2] at h; exact h rfl
    · rw [List.drop_zero, List.drop_zero, Bool.eq_iff_iff, decide_eq_true_iff, decide_eq_true_iff]
      exact ⟨fun h => ⟨h0, h⟩, fun h => h.2⟩
  exact ASpec.pureH H k _ _ rfl rfl

/-! ### the law -/

theorem endT {f : FuncId} {args : List AV} (h : ASpec Try.prog f args [] (PB true)) : ASpec Try.prog f args [] (fun r H' => r = .bool true ∧ H' = []) :=
  ASpec.sel (h.mono fun r H' h => h)

end
end W
end

section
/- What was put of a manifest is read; what is read is put so. -/

set_option linter.unusedVariables false
set_option linter.unusedSimpArgs false
set_option maxRecDepth 100000
open Go Go.Ab Go.Proofs V S T C
namespace W

/-! ### what was put is read -/

def Back {α : Type} (bytes : α → List UInt8) (one : List UInt8 → Nat → Int → α × Nat × Int) (x : α) : Prop :=
  ∀ pre rest, one (pre ++ bytes x ++ rest) pre.length 0 = (x, pre.length + (bytes x).length, 0)

theorem num_back {x most : Int} (h0 : 0 ≤ x) (h1 : x ≤ most) (h2 : most ≤ 1099511627776) : Back numB (fun bs p e => numM bs p e most) x := by
  intro pre rest
  have hh := held_of (x := x) h0 (by omega)
  have hd : (pre ++ numB x ++ rest).drop pre.length = enc (held x) ++ rest := by rw [List.append_assoc, List.drop_left]; rfl
  simp only [numM, if_neg (show ¬ ((0 : Int) ≠ 0) by simp), hd, look_enc rest (v := held x) (most := most) (held_le x) (by omega)]
  rw [hh]; rfl

theorem str_back (pre s rest : List UInt8) (most : Int) (hs : (s.length : Int) ≤ most) (hl : s.length ≤ 1000000) :
    strM (pre ++ text s ++ rest) pre.length 0 most = (s, pre.length + (text s).length, 0) := by
  have hh := held_of (x := (s.length : Int)) (by omega) (by omega)
  have hh : held s.length = s.length := by omega
  have hd : (pre ++ text s ++ rest).drop pre.length = enc s.length ++ (s ++ rest) := by
    rw [List.append_assoc, List.drop_left, text, hh, List.append_assoc]
  have hd2 : (pre ++ text s ++ rest).drop (pre.length + (enc s.length).length) = s ++ rest := by
    rw [← List.drop_drop, hd, List.drop_left]
  have hk := look_enc (s ++ rest) (v := s.length) (most := most) (by omega) hs
  have hlen : (text s).length = (enc s.length).length + s.length := by rw [text, hh, List.length_append]
  simp only [strM, if_neg (show ¬ ((0 : Int) ≠ 0) by simp), hd, hk]
  rw [if_neg (by simp only [List.length_append, hlen]; omega), hd2, hlen]
  simp [Nat.add_assoc]

theorem text_back {s : List UInt8} {most : Int} (h : (s.length : Int) ≤ most) (hl : s.length ≤ 1000000) : Back text (fun bs p e => strM bs p e most) s :=
  fun pre rest => str_back pre s rest most h hl

theorem back2 {α β : Type} {ba : α → List UInt8} {bb : β → List UInt8} {oa : List UInt8 → Nat → Int → α × Nat × Int} {ob : List UInt8 → Nat → Int → β × Nat × Int} {x : α} {y : β}
    (ha : Back ba oa x) (hb : Back bb ob y) (pre rest : List UInt8) :
    oa (pre ++ (ba x ++ bb y) ++ rest) pre.length 0 = (x, pre.length + (ba x).length, 0) ∧ ob (pre ++ (ba x ++ bb y) ++ rest) (pre.length + (ba x).length) 0 = (y, pre.length + (ba x ++ bb y).length, 0) := by
  have e1 := ha pre (bb y ++ rest)
  have e2 := hb (pre ++ ba x) rest
  simp only [List.append_assoc, List.length_append] at e1 e2 ⊢
  exact ⟨e1, by rw [e2, Nat.add_assoc]⟩

theorem span_back {x : Span} (h0 : 0 ≤ x.1) (h1 : x.1 ≤ 1000000000) (h2 : x.1 ≤ x.2) (h3 : x.2 ≤ 1000000000) : Back spanB spanR x := by
  intro pre rest
  have hw : IntKind.wrap .i64 (x.2 - x.1) = x.2 - x.1 := wrap64 (by omega) (by omega)
  obtain ⟨e1, e2⟩ := back2 (num_back (x := x.1) (most := 1000000000) h0 h1 (by omega)) (num_back (x := IntKind.wrap .i64 (x.2 - x.1)) (most := 1000000000) (by omega) (by omega) (by omega)) pre rest
  simp only [spanR, spanB, e1, e2]
  rw [hw, wrap64 (x := x.1 + (x.2 - x.1)) (by omega) (by omega), show x.1 + (x.2 - x.1) = x.2 by omega]

theorem listR_back {α : Type} {bytes : α → List UInt8} {one : List UInt8 → Nat → Int → α × Nat × Int} : ∀ (l : List α), (∀ x ∈ l, Back bytes one x) → ∀ pre rest,
    listR (one (pre ++ l.flatMap bytes ++ rest)) l.length pre.length 0 = (l, pre.length + (l.flatMap bytes).length, 0)
  | [], _, pre, rest => by simp [listR]
  | x :: r, h, pre, rest => by
    have hx := h x (by simp) pre (r.flatMap bytes ++ rest)
    have hr := listR_back r (fun y hy => h y (by simp [hy])) (pre ++ bytes x) rest
    simp only [List.flatMap_cons, List.append_assoc, List.length_append, List.length_cons] at hx hr ⊢
    simp only [listR, if_pos, hx, hr]
    rw [Nat.add_assoc]

theorem listM_back {α : Type} {bytes : α → List UInt8} {one : List UInt8 → Nat → Int → α × Nat × Int} {most : Int} (l : List α) (h : ∀ x ∈ l, Back bytes one x) (hl : (l.length : Int) ≤ most) (h2 : most ≤ 1099511627776) :
    ∀ pre rest, listM (one (pre ++ (numB l.length ++ l.flatMap bytes) ++ rest)) (pre ++ (numB l.length ++ l.flatMap bytes) ++ rest) pre.length 0 most = (l, pre.length + (numB l.length ++ l.flatMap bytes).length, 0) := by
  intro pre rest
  have e1 := num_back (x := (l.length : Int)) (most := most) (by omega) hl h2 pre (l.flatMap bytes ++ rest)
  have e2 := listR_back l h (pre ++ numB l.length) rest
  simp only [List.append_assoc, List.length_append] at e1 e2 ⊢
  simp only [listM, e1, Int.toNat_natCast, e2]
  rw [Nat.add_assoc]

theorem chkS_ok : ∀ (l : List Span) (e : Int), -1 ≤ e → chkS e l = true → ∀ x ∈ l, 0 ≤ x.1 ∧ x.1 ≤ 1000000000 ∧ x.1 ≤ x.2 ∧ x.2 ≤ 1000000000
  | [], _, _, _, x, hx => by simp at hx
  | y :: r, e, he, h, x, hx => by
    simp only [chkS] at h
    split at h
    · cases h
    · rcases List.mem_cons.1 hx with rfl | hx
      · omega
      · exact chkS_ok r _ (by omega) h x hx

theorem need_back {n : Need} (h1 : n.1.length ≤ 24) (h2 : n.2.length ≤ 6) (h3 : spanOk n.2 = true) : Back needB needR n := by
  intro pre rest
  have hs : ∀ x ∈ n.2, Back spanB spanR x := fun x hx => by
    obtain ⟨a, b, c, d⟩ := chkS_ok n.2 (-1) (by omega) h3 x hx
    exact span_back a b c d
  have e1 := text_back (s := n.1) (most := 24) (by omega) (by omega) pre (numB n.2.length ++ n.2.flatMap spanB ++ rest)
  have e2 := listM_back (most := 6) n.2 hs (by omega) (by omega) (pre ++ text n.1) rest
  simp only [List.append_assoc, List.length_append] at e1 e2
  simp only [needR, needB, List.append_assoc, List.length_append, e1, e2]
  rw [Nat.add_assoc]

theorem rel_back {r : Rel} (h0 : 0 ≤ r.1) (h1 : r.1 ≤ 1000000000) (h2 : needOk r.2 = true) : Back relB relR r := by
  intro pre rest
  obtain ⟨hl, hn⟩ := needOk_ok h2
  have hs : ∀ x ∈ r.2, Back needB needR x := fun x hx => by
    obtain ⟨a, b, c, d⟩ := hn x hx
    exact need_back a b c
  have e1 := num_back (x := r.1) (most := 1000000000) h0 h1 (by omega) pre (numB r.2.length ++ r.2.flatMap needB ++ rest)
  have e2 := listM_back (most := 6) r.2 hs (by omega) (by omega) (pre ++ numB r.1) rest
  simp only [List.append_assoc, List.length_append] at e1 e2
  simp only [relR, relB, List.append_assoc, List.length_append, e1, e2]
  rw [Nat.add_assoc]

theorem mani_back {m : Mani} (h : manOk m = true) : maniR (maniB m) = (m, (maniB m).length, 0) := by
  obtain ⟨-, h1, h2, h3⟩ := manOk_ok h
  have hs : ∀ x ∈ m.2, Back relB relR x := fun x hx => by
    obtain ⟨a, b, c⟩ := h3 x hx
    exact rel_back (by omega) (by omega) a
  have e1 := text_back (s := m.1) (most := 24) (by omega) (by omega) [] (numB m.2.length ++ m.2.flatMap relB)
  have e2 := listM_back (most := 8) m.2 hs (by omega) (by omega) (text m.1) []
  simp only [List.append_assoc, List.length_append, List.nil_append, List.length_nil, Nat.zero_add, List.append_nil] at e1 e2
  simp only [maniR, maniB, List.append_assoc, List.length_append, e1, e2]

theorem maniB_pos (m : Mani) : maniB m ≠ [] := by
  intro h
  have : (enc (held m.1.length)) = [] := by
    simp only [maniB, text, List.append_eq_nil_iff] at h
    exact h.1.1.1
  simp [enc] at this

theorem read_put {m : Mani} (h : manOk m = true) : readM (maniB m) = (m, 0) := by
  have hl := maniB_len h
  rw [readM, if_neg (by omega), mani_back h]
  simp only [Nat.sub_self]
  rw [show closeM 0 0 = 0 from rfl, endM, if_neg (by simp), if_pos h]

/-! ### what is read is put so -/

theorem scan_canon : ∀ (f : Nat) (s : List UInt8) (x i n k : Nat), scan f s x i = .inr (n, k) → (0 < x ∨ s.head? ≠ some 128) → lead x ++ s = enc n ++ s.drop (k - i)
  | 0, s, x, i, n, k, h, _ => by simp [scan] at h
  | f + 1, [], x, i, n, k, h, _ => by simp [scan] at h
  | f + 1, c :: s, x, i, n, k, h, hx => by
    have hc := c.toNat_lt
    simp only [scan] at h
    split at h
    · rename_i hge
      have hk := scan_le _ _ _ _ _ _ h
      have hpos : 0 < x * 128 + c.toNat % 128 := by
        rcases hx with hx | hx
        · omega
        · have : c.toNat ≠ 128 := fun hh => hx (by
            have : c = 128 := UInt8.toNat_inj.1 (by rw [hh]; rfl)
            rw [this]; rfl)
          omega
      have := scan_canon f s _ _ _ _ h (.inl hpos)
      rw [lead_pos hpos, show (x * 128 + c.toNat % 128) / 128 = x by omega, show 128 + (x * 128 + c.toNat % 128) % 128 = c.toNat by omega, UInt8.ofNat_toNat, List.append_assoc, List.singleton_append] at this
      rw [this, show k - i = (k - (i + 1)) + 1 by omega, List.drop_succ_cons]
    · rename_i hlt
      simp only [Sum.inr.injEq, Prod.mk.injEq] at h
      obtain ⟨rfl, rfl⟩ := h
      rw [show i + 1 - i = 1 by omega]
      unfold enc
      rw [show (x * 128 + c.toNat % 128) / 128 = x by omega, show (x * 128 + c.toNat % 128) % 128 = c.toNat by omega, UInt8.ofNat_toNat]
      simp

theorem look_canon {s : List UInt8} {most : Int} (h : (lookM s most).2.2 = 0) : s = numB (lookM s most).1 ++ s.drop (lookM s most).2.1 := by
  cases s with
  | nil => simp [lookM] at h
  | cons c s =>
    simp only [lookM] at h ⊢
    split at h
    · simp at h
    · rename_i hc
      simp only [if_neg hc]
      split at h
      · rename_i e hs
        simp only at h
        subst h
        exact absurd hs (by
          intro hs
          have : ∀ (f : Nat) (s : List UInt8) (x i : Nat), scan f s x i ≠ .inl 0 := by
            intro f
            induction f with
            | zero => intro s x i hh; simp [scan] at hh
            | succ f ih =>
              intro s x i hh
              cases s with
              | nil => simp [scan] at hh
              | cons c s =>
                simp only [scan] at hh
                split at hh
                · exact ih _ _ _ hh
                · cases hh
          exact this _ _ _ _ hs)
      · rename_i n k hs
        split at h
        · simp at h
        · rename_i hn
          simp only [hs, if_neg hn]
          have := scan_canon 6 (c :: s) 0 0 n k hs (.inr (by simpa using hc))
          rw [lead_zero, List.nil_append, Nat.sub_zero] at this
          have hh : held (n : Int) = n := by
            have := held_of (x := (n : Int)) (by omega) (by omega)
            omega
          rw [numB, hh]; exact this

def Canon {α : Type} (bytes : α → List UInt8) (one : List UInt8 → Nat → Int → α × Nat × Int) : Prop :=
  ∀ bs p e, (one bs p e).2.2 = 0 → e = 0 ∧ bs.drop p = bytes (one bs p e).1 ++ bs.drop (one bs p e).2.1

theorem num_canon (most : Int) : Canon numB (fun bs p e => numM bs p e most) := by
  intro bs p e h
  simp only [numM] at h ⊢
  split at h
  · rename_i he; exact absurd h he
  · rename_i he
    simp only [if_neg he]
    refine ⟨by omega, ?_⟩
    rw [← List.drop_drop]
    exact look_canon h

theorem text_canon (most : Int) : Canon text (fun bs p e => strM bs p e most) := by
  intro bs p e h
  simp only [strM] at h ⊢
  split at h
  · rename_i he; exact absurd h he
  rename_i he
  split at h
  · rename_i h1; exact absurd h h1
  rename_i h1
  split at h
  · simp at h
  rename_i h2
  simp only [if_neg he, if_neg h1, if_neg h2]
  refine ⟨by omega, ?_⟩
  have hc := look_canon (s := bs.drop p) (most := most) (by simpa using h1)
  have hl := lookM_le (bs.drop p) most
  generalize lookM (bs.drop p) most = q at h2 hc hl ⊢
  obtain ⟨n, k, er⟩ := q
  simp only at h2 hc hl ⊢
  have hlen : ((bs.drop (p + k)).take n.toNat).length = n.toNat := by
    rw [List.length_take, List.length_drop]; omega
  rw [List.drop_drop] at hc
  rw [hc, text, hlen, show numB n = enc (held (n.toNat : Int)) by rw [numB, show ((n.toNat : Int)) = n by omega], List.append_assoc]
  congr 1
  rw [show bs.drop (p + k + n.toNat) = (bs.drop (p + k)).drop n.toNat by rw [List.drop_drop], List.take_append_drop]

theorem span_canon : Canon spanB spanR := by
  intro bs p e h
  simp only [spanR] at h ⊢
  obtain ⟨h1, h2⟩ := num_canon 1000000000 bs _ _ h
  obtain ⟨h3, h4⟩ := num_canon 1000000000 bs _ _ h1
  have m1 := numM_most bs p e 1000000000 (by omega)
  have m2 := numM_most bs (numM bs p e 1000000000).2.1 (numM bs p e 1000000000).2.2 1000000000 (by omega)
  simp only at h2 h4
  refine ⟨h3, ?_⟩
  rw [h4, h2, spanB]
  generalize (numM bs p e 1000000000).1 = a at m1 ⊢
  generalize numM bs (numM bs p e 1000000000).2.1 (numM bs p e 1000000000).2.2 1000000000 = q at m2 ⊢
  simp only
  rw [wrap64 (x := a + q.1) (by omega) (by omega), wrap64 (x := a + q.1 - a) (by omega) (by omega), show a + q.1 - a = q.1 by omega, List.append_assoc]

theorem listR_canon {α : Type} {bytes : α → List UInt8} {one : List UInt8 → Nat → Int → α × Nat × Int} (hc : Canon bytes one) (bs : List UInt8) : ∀ (k p : Nat) (e : Int), (listR (one bs) k p e).2.2 = 0 →
    e = 0 ∧ (listR (one bs) k p e).1.length = k ∧ bs.drop p = (listR (one bs) k p e).1.flatMap bytes ++ bs.drop (listR (one bs) k p e).2.1
  | 0, p, e, h => by
    simp only [listR] at h ⊢
    exact ⟨h, rfl, by simp⟩
  | k + 1, p, e, h => by
    simp only [listR] at h ⊢
    split at h
    · rename_i he
      simp only [if_pos he]
      obtain ⟨a, b, c⟩ := listR_canon hc bs k _ _ h
      obtain ⟨d, f⟩ := hc bs p e a
      refine ⟨he, by rw [List.length_cons, b], ?_⟩
      rw [f, c, List.flatMap_cons, List.append_assoc]
    · rename_i he
      exact absurd h he

theorem listM_canon {α : Type} {bytes : α → List UInt8} {one : List UInt8 → Nat → Int → α × Nat × Int} (hc : Canon bytes one) {most : Int} (hm : 0 ≤ most) : ∀ bs p e, (listM (one bs) bs p e most).2.2 = 0 →
    e = 0 ∧ bs.drop p = numB (listM (one bs) bs p e most).1.length ++ (listM (one bs) bs p e most).1.flatMap bytes ++ bs.drop (listM (one bs) bs p e most).2.1 := by
  intro bs p e h
  simp only [listM] at h ⊢
  obtain ⟨a, b, c⟩ := listR_canon hc bs _ _ _ h
  obtain ⟨d, f⟩ := num_canon most bs p e a
  have m1 := numM_most bs p e most hm
  simp only at f
  refine ⟨d, ?_⟩
  rw [b, f, c, List.append_assoc, show (((numM bs p e most).1.toNat : Nat) : Int) = (numM bs p e most).1 by omega]

theorem need_canon : Canon needB needR := by
  intro bs p e h
  simp only [needR] at h ⊢
  obtain ⟨a, b⟩ := listM_canon span_canon (by omega) bs _ _ h
  obtain ⟨c, d⟩ := text_canon 24 bs p e a
  simp only at d
  refine ⟨c, ?_⟩
  rw [d, b, needB]
  simp only [List.append_assoc]

theorem rel_canon : Canon relB relR := by
  intro bs p e h
  simp only [relR] at h ⊢
  obtain ⟨a, b⟩ := listM_canon need_canon (by omega) bs _ _ h
  obtain ⟨c, d⟩ := num_canon 1000000000 bs p e a
  simp only at d
  refine ⟨c, ?_⟩
  rw [d, b, relB]
  simp only [List.append_assoc]

theorem mani_canon (bs : List UInt8) (h : (maniR bs).2.2 = 0) : bs = maniB (maniR bs).1 ++ bs.drop (maniR bs).2.1 := by
  simp only [maniR] at h ⊢
  obtain ⟨a, b⟩ := listM_canon rel_canon (by omega) bs _ _ h
  obtain ⟨c, d⟩ := text_canon 24 bs 0 0 a
  simp only [List.drop_zero] at d
  rw [maniB]
  simp only [List.append_assoc] at b ⊢
  rw [← b]; exact d

theorem closeM_zero {e : Int} {n : Nat} (h : closeM e n = 0) : e = 0 ∧ n = 0 := by
  unfold closeM at h
  split at h
  · rename_i he; exact absurd h he
  · split at h
    · simp at h
    · exact ⟨by omega, by omega⟩

theorem put_read {bs : List UInt8} (h : (readM bs).2 = 0) : putMan (readM bs).1 = bs ∧ manOk (readM bs).1 = true := by
  unfold readM at h ⊢
  split at h
  · simp at h
  · rename_i hl
    rw [if_neg hl]
    unfold endM at h ⊢
    split at h
    · rename_i hc; exact absurd h hc
    · rename_i hc
      rw [if_neg hc]
      split at h
      · rename_i hm
        rw [if_pos hm]
        refine ⟨?_, hm⟩
        obtain ⟨h1, h2⟩ := closeM_zero (e := (maniR bs).2.2) (n := bs.length - (maniR bs).2.1) (by simpa using hc)
        have := mani_canon bs h1
        rw [List.drop_eq_nil_of_le (by omega), List.append_nil] at this
        rw [putMan, if_pos hm]
        exact this.symm
      · simp at h

/-! ### the law -/

section
variable {Post : AV → List AObj → Prop}

end
end W
end

section
/- Depots: what the code and the document's code compute. -/

set_option linter.unusedVariables false
set_option linter.unusedSimpArgs false
set_option maxRecDepth 100000
open Go Go.Ab Go.Proofs V S T C
open W (sl1 slS slN slR leNone readM putMan read_put cons_dec)
namespace Dp

abbrev PA (r0 : AV) : AV → List AObj → Prop := fun r H' => ∃ l H2 r2, Sel 0 l H' H2 ∧ Le r (AV.ren (selR l H'.length) r2) ∧ (r2 = r0 ∧ H2 = [])
theorem pa {r r0 : AV} {H' : List AObj} (h : Le r (AV.ren (selR [] H'.length) r0)) : PA r0 r H' := ⟨[], [], r0, Sel.none, h, rfl, rfl⟩
theorem condNq {a b : Bool} {A B : Prop} (h1 : a ≠ b → A) (h2 : a = b → B) : condP (!(a == b)) A B := by
  by_cases h : a = b
  · rw [beq_iff_eq.2 h]; exact h2 h
  · rw [beq_eq_false_iff_ne.2 h]; exact h1 h
theorem condQ {a b : Bool} {A B : Prop} (h1 : a = b → A) (h2 : a ≠ b → B) : condP (a == b) A B := by
  by_cases h : a = b
  · rw [beq_iff_eq.2 h]; exact h1 h
  · rw [beq_eq_false_iff_ne.2 h]; exact h2 h

noncomputable abbrev slEn (l : List Ent) : AV := .sl 2 (.map encEn ([], []) l) .none
noncomputable abbrev slL (l : List (List UInt8)) : AV := .sl 1 (.map encL [] l) .none
noncomputable abbrev slM (l : List Mani) : AV := .sl 2 (.map encM ([], []) l) .none

def okD (l : List Ent) : Prop := l.length ≤ lim ∧ ∀ x ∈ l, x.1.length ≤ lim ∧ x.2.length ≤ lim

/-! ### large -/

def largeF : List Ent → Bool
  | [] => false
  | x :: r => if 200 < x.1.length ∨ 9000 < x.2.length then true else largeF r
def largeD (l : List Ent) : Bool := if 30 < l.length then true else largeF l

theorem large4 {l : List Ent} {c : Bool} (hl : l.length ≤ 30) : ∀ (m i : Nat), m + i = l.length → largeF (l.drop i) = c →
    AWP Try.prog 29 0 c37_4 [(0, slEn l), (3, .int .i64 i)] [] (q37_2 0 (PB c)) := by
  intro m
  induction m with
  | zero =>
    intro i hm h
    refine v37_4 _ _ _ _ (condD (fun hc => by omega) fun _ => pb ?_)
    rw [List.drop_eq_nil_of_le (by omega)] at h
    exact h
  | succ m ih =>
    intro i hm h
    have hin : (0 : Int) ≤ (i : Int) ∧ (i : Int) < (l.length : Int) := ⟨by omega, by omega⟩
    rw [dropD l ([], []) i (by omega)] at h
    simp only [largeF] at h
    refine v37_4 _ _ _ _ (condD (fun hc => needJ hin ?_) fun hc => by omega)
    rw [Int.toNat_natCast]
    generalize l.getD i ([], []) = x at h ⊢
    rw [B_size]
    refine condD (fun h1 => pb ?_) fun h1 => needJ hin (condD (fun h2 => pb ?_) fun h2 => ?_)
    · rw [if_pos (by omega)] at h; exact h
    · rw [if_pos (by omega)] at h; exact h
    · rw [if_neg (by omega)] at h
      rw [succ64 (by omega)]
      exact ih (i + 1) (by omega) h

theorem largeD_spec (l : List Ent) (H : List AObj) : ASpec Try.prog 37 [slEn l] H (fun r H' => r = .bool (largeD l) ∧ H' = H) := by
  have k : ASpec Try.prog 37 [slEn l] [] (fun r H' => r = .bool (largeD l) ∧ H' = []) := by
    refine ASpec.sel (s37 _ _ (condD (fun h => pb ?_) fun h => large4 (by omega) l.length 0 (by omega) ?_))
    · rw [largeD, if_pos (by omega)]
    · rw [largeD, if_neg (by omega)]; rfl
  exact ASpec.pureH H k _ _ rfl rfl

theorem largeF_ok : ∀ (l : List Ent), largeF l = false → ∀ x ∈ l, x.1.length ≤ 200 ∧ x.2.length ≤ 9000
  | [], _, n, hn => by simp at hn
  | x :: r, h, n, hn => by
    simp only [largeF] at h
    split at h
    · cases h
    · rcases List.mem_cons.1 hn with rfl | hn
      · omega
      · exact largeF_ok r h n hn

theorem largeD_ok {l : List Ent} (h : largeD l = false) : okD l := by
  unfold largeD at h
  split at h
  · cases h
  · refine ⟨by unfold lim; omega, fun x hx => ?_⟩
    have := largeF_ok l h x hx
    unfold lim; omega

/-! ### which may be -/

theorem check3 {l : List Ent} {c : Bool} (hl : okD l) : ∀ (m i : Nat) (last : List UInt8), m + i = l.length → (depF last (l.drop i) && decide (l.length ≤ 24)) = c →
    AWP Try.prog 34 0 c58_3 [(0, slEn l), (3, .str (B last)), (6, slEn l), (7, .int .i64 l.length), (8, .int .i64 i)] [] (q58_2 0 (PB c)) := by
  obtain ⟨hl1, hl2⟩ := hl
  intro m
  induction m with
  | zero =>
    intro i last hm h
    refine v58_3 _ _ _ _ _ _ (condD (fun hc => by omega) fun _ => pb ?_)
    rw [List.drop_eq_nil_of_le (by omega)] at h
    simp only [depF, Bool.true_and] at h
    rw [show decide ((l.length : Int) ≤ 24) = decide (l.length ≤ 24) from decide_eq_decide.2 (by omega)]
    exact h
  | succ m ih =>
    intro i last hm h
    have hx := hl2 _ (memD l ([], []) i (by omega))
    rw [dropD l ([], []) i (by omega)] at h
    simp only [depF] at h
    refine v58_3 _ _ _ _ _ _ (condD (fun hc => needJ ⟨by omega, by omega⟩ ?_) fun hc => by omega)
    rw [Int.toNat_natCast]
    generalize l.getD i ([], []) = x at h hx ⊢
    have bad : ∀ {H' : List AObj}, (fitM x.1 = false ∨ leB x.1 last = true ∨ 8192 < x.2.length) → PB c (.bool false) H' := by
      intro H' hh
      rw [if_pos hh] at h
      exact pb h
    refine ASpec.call (fit_spec (l := x.1) (by unfold big; unfold lim at hx; omega) _) (Les.refl _) ⟨_, rfl, rfl, condBn (fun h1 => bad (.inl h1)) fun h1 => ?_⟩
    rw [B_toList, B_toList]
    refine condB (fun h2 => bad (.inr (.inl h2))) fun h2 => condD (fun h3 => bad (.inr (.inr (by omega)))) fun h3 => ?_
    have h2' : leB x.1 last = false := h2
    rw [if_neg (by rw [h1, h2']; simp; omega)] at h
    rw [succ64 (by unfold lim at hl1; omega)]
    exact AWP.shape [] [(0, slEn l), (3, .str (B x.1)), (6, slEn l), (7, .int .i64 l.length), (8, .int .i64 (i + 1 : Nat))] [] Sel.none
      ⟨rfl, Le.refl _, rfl, Le.refl _, rfl, Le.refl _, rfl, Le.refl _, rfl, Le.refl _, trivial⟩ (ih (i + 1) x.1 (by omega) h)

theorem check_spec (l : List Ent) (hl : okD l) (H : List AObj) : ASpec Try.prog 58 [slEn l] H (fun r H' => r = .bool (depOk l) ∧ H' = H) :=
  ASpec.pureH H (ASpec.sel (s58 _ _ (check3 hl l.length 0 [] (by omega) rfl))) _ _ rfl rfl

theorem rcheck2 {l : List Ent} {c : Bool} (hl : okD l) : ∀ (m i : Nat) (last : List UInt8), m + i = l.length → (i = 0 → last = []) → (0 < i → last = (l.getD (i - 1) ([], [])).1) → (depF last (l.drop i) && decide (l.length ≤ 24)) = c →
    AWP Try.prog 47 0 c38_2 [(0, slEn l), (3, .int .i64 i)] [] (q38_2 0 (PB c)) := by
  obtain ⟨hl1, hl2⟩ := hl
  intro m
  induction m with
  | zero =>
    intro i last hm _ _ h
    refine v38_2 _ _ _ _ (condD (fun hc => by omega) fun _ => pb ?_)
    rw [List.drop_eq_nil_of_le (by omega)] at h
    simp only [depF, Bool.true_and] at h
    rw [show decide ((l.length : Int) ≤ 24) = decide (l.length ≤ 24) from decide_eq_decide.2 (by omega)]
    exact h
  | succ m ih =>
    intro i last hm h0 he h
    have hin : (0 : Int) ≤ (i : Int) ∧ (i : Int) < (l.length : Int) := ⟨by omega, by omega⟩
    have hx := hl2 _ (memD l ([], []) i (by omega))
    rw [dropD l ([], []) i (by omega)] at h
    simp only [depF] at h
    have hnext : ¬ (fitM (l.getD i ([], [])).1 = false ∨ leB (l.getD i ([], [])).1 last = true ∨ 8192 < (l.getD i ([], [])).2.length) →
        AWP Try.prog 47 0 c38_2 [(0, slEn l), (3, .int .i64 (IntKind.wrap .i64 ((i : Int) + 1)))] [] (q38_2 0 (PB c)) := by
      intro hn
      rw [if_neg hn] at h
      rw [succ64 (by unfold lim at hl1; omega)]
      exact ih (i + 1) _ (by omega) (fun hh => by omega) (fun _ => rfl) h
    have bad : (fitM (l.getD i ([], [])).1 = false ∨ leB (l.getD i ([], [])).1 last = true ∨ 8192 < (l.getD i ([], [])).2.length) → PB c (.bool false) [] := by
      intro hh
      rw [if_pos hh] at h
      exact pb h
    refine v38_2 _ _ _ _ (condD (fun hc => needJ hin ?_) fun hc => by omega)
    rw [Int.toNat_natCast]
    clear h ih
    generalize l.getD i ([], []) = x at hx hnext bad ⊢
    refine ASpec.call (rfit_spec (l := x.1) (by unfold big; unfold lim at hx; omega) _) (Les.refl _) ⟨_, rfl, rfl, condBn (fun h1 => bad (.inl h1)) fun h1 => needJ hin (condD (fun h3 => bad (.inr (.inr (by omega)))) fun h3 => condD (fun h4 => needJ hin ?_) fun h4 => hnext ?_)⟩
    · rw [pred64 (by unfold lim at hl1; omega) (by omega), Int.toNat_natCast]
      refine needJ ⟨by omega, by omega⟩ ?_
      rw [← he (by omega), B_toList, B_toList]
      refine condB (fun h5 => bad (.inr (.inl h5))) fun h5 => hnext ?_
      have h5' : leB x.1 last = false := h5
      rw [h1, h5']; simp; omega
    · rw [h0 (by omega), h1, leB_nil h1]; simp; omega

theorem rcheck_spec (l : List Ent) (hl : okD l) (H : List AObj) : ASpec Try.prog 38 [slEn l] H (fun r H' => r = .bool (depOk l) ∧ H' = H) :=
  ASpec.pureH H (ASpec.sel (s38 _ _ (rcheck2 hl l.length 0 [] (by omega) (fun _ => rfl) (fun h => by omega) rfl))) _ _ rfl rfl

/-! ### looking for a name -/

abbrev Sorted (l : List Ent) : Prop := ∀ i, i < l.length → ∀ j, j < i → Op.bytesLess (l.getD j ([], [])).1 (l.getD i ([], [])).1 = true

theorem cmpf_spec (x : Ent) (s : List UInt8) (H : List AObj) : ASpec Try.prog 279 [.agg (encEn x), .str (B s)] H (fun r H' => r = .int .i64 (Lib.compareBytes x.1 s) ∧ H' = H) := by
  have k : ASpec Try.prog 279 [.agg (encEn x), .str (B s)] [] (fun r H' => r = .int .i64 (Lib.compareBytes x.1 s) ∧ H' = []) :=
    ASpec.sel (s279 _ _ _ (ASpec.call (cmp_spec x.1 s _) (Les.refl _) ⟨_, rfl, rfl, pa (Le.refl _)⟩))
  exact ASpec.pureH H k _ _ rfl rfl

theorem mid64 {i j : Nat} (h : i + j ≤ 10000000) : IntKind.wrap .i64 (Int.fdiv (IntKind.wrap .u64 (IntKind.wrap .i64 ((i : Int) + j))) 2) = (((i + j) / 2 : Nat) : Int) := by
  rw [wrap64 (x := (i : Int) + j) (by omega) (by omega)]
  have e : IntKind.wrap .u64 ((i : Int) + j) = ((i + j : Nat) : Int) := by
    simp only [IntKind.wrap, IntKind.bits, IntKind.signed]
    have e : (2 : Int) ^ 64 = 18446744073709551616 := by decide
    simp only [e, Bool.false_and]
    rw [if_neg (by simp)]
    omega
  rw [e, show Int.fdiv ((i + j : Nat) : Int) 2 = (((i + j) / 2 : Nat) : Int) by rw [Int.fdiv_eq_ediv_of_nonneg _ (by omega)]; omega]
  rw [wrap64 (by omega) (by omega)]

theorem find3 {l : List Ent} {s : List UInt8} (hl : l.length ≤ lim) (hs : Sorted l) : ∀ (m i j : Nat), j - i ≤ m → i ≤ cnt s l → cnt s l ≤ j → j ≤ l.length →
    AWP Try.prog 49 0 c278_3 [(0, slEn l), (1, .str (B s)), (2, .fn 279 []), (8, .int .i64 l.length), (9, .int .i64 i), (10, .int .i64 j)] []
      (q278_2 0 (PA (.tup [.int .i64 (cnt s l : Nat), .bool (decide (cnt s l < l.length ∧ (l.getD (cnt s l) ([], [])).1 = s))]))) := by
  unfold lim at hl
  have done : ∀ i : Nat, i = cnt s l → condP (decide ((i : Int) < (l.length : Int))) (needP (0 ≤ (i : Int) ∧ (i : Int) < (l.length : Int)) (ASpec Try.prog 279 [.agg (encEn (l.getD (i : Int).toNat ([], []))), .str (B s)] []
      (fun r H' => ∃ x : Int, r = .int .i64 x ∧ H' = [] ∧ PA (.tup [.int .i64 (cnt s l : Nat), .bool (decide (cnt s l < l.length ∧ (l.getD (cnt s l) ([], [])).1 = s))]) (.tup [.int .i64 i, .bool (x == 0)]) [])))
      (PA (.tup [.int .i64 (cnt s l : Nat), .bool (decide (cnt s l < l.length ∧ (l.getD (cnt s l) ([], [])).1 = s))]) (.tup [.int .i64 i, .bool false]) []) := by
    rintro i rfl
    refine condD (fun h => needJ ⟨by omega, h⟩ ?_) fun h => ?_
    · rw [Int.toNat_natCast]
      refine ASpec.call (cmpf_spec _ s _) (Les.refl _) ⟨_, rfl, rfl, pa ?_⟩
      have e : (Lib.compareBytes (l.getD (cnt s l) ([], [])).1 s == 0) = decide (cnt s l < l.length ∧ (l.getD (cnt s l) ([], [])).1 = s) := by
        rw [Bool.eq_iff_iff, beq_iff_eq, cmp_zero, decide_eq_true_iff]
        exact ⟨fun h2 => ⟨by omega, h2⟩, fun h2 => h2.2⟩
      rw [e]; exact Le.refl _
    · rw [show decide (cnt s l < l.length ∧ (l.getD (cnt s l) ([], [])).1 = s) = false from decide_eq_false (fun h2 => h (by omega))]
      exact pa (Le.refl _)
  intro m
  induction m with
  | zero =>
    intro i j h1 h2 h3 h4
    exact v278_3 _ _ _ _ _ _ _ (condD (fun hc => by omega) fun _ => done i (by omega))
  | succ m ih =>
    intro i j h1 h2 h3 h4
    refine v278_3 _ _ _ _ _ _ _ (condD (fun hc => needJ (by omega) ?_) fun _ => done i (by omega))
    rw [mid64 (by omega)]
    have hm1 : i ≤ (i + j) / 2 := by omega
    have hm2 : (i + j) / 2 < j := by omega
    refine needJ ⟨by omega, by omega⟩ ?_
    generalize (i + j) / 2 = h at hm1 hm2 ⊢
    rw [Int.toNat_natCast]
    refine ASpec.call (cmpf_spec _ s _) (Les.refl _) ⟨_, rfl, rfl, condD (fun hc => ?_) fun hc => ?_⟩
    · rw [cmp_less] at hc
      rw [succ64 (by omega)]
      refine ih (h + 1) j (by omega) ?_ h3 h4
      rcases Nat.lt_or_ge h (cnt s l) with hk | hk
      · omega
      · rw [cnt_ge hs hk (by omega)] at hc; cases hc
    · rw [cmp_less] at hc
      refine ih i h (by omega) h2 ?_ (by omega)
      rcases Nat.lt_or_ge h (cnt s l) with hk | hk
      · exact (hc (cnt_lt s l h hk)).elim
      · exact hk

theorem find_spec (l : List Ent) (s : List UInt8) (hl : l.length ≤ lim) (hs : Sorted l) (H : List AObj) :
    ASpec Try.prog 183 [slEn l, .str (B s)] H (fun r H' => r = .tup [.int .i64 (cnt s l : Nat), .bool (decide (cnt s l < l.length ∧ (l.getD (cnt s l) ([], [])).1 = s))] ∧ H' = H) := by
  have k : ASpec Try.prog 183 [slEn l, .str (B s)] [] (fun r H' => r = .tup [.int .i64 (cnt s l : Nat), .bool (decide (cnt s l < l.length ∧ (l.getD (cnt s l) ([], [])).1 = s))] ∧ H' = []) := by
    have k2 : ASpec Try.prog 278 [slEn l, .str (B s), .fn 279 []] [] (fun r H' => r = .tup [.int .i64 (cnt s l : Nat), .bool (decide (cnt s l < l.length ∧ (l.getD (cnt s l) ([], [])).1 = s))] ∧ H' = []) :=
      ASpec.sel (s278 _ _ _ (find3 hl hs l.length 0 l.length (by omega) (by omega) (cnt_le s l) (by omega)))
    exact s183 _ _ _ (ASpec.call k2 (Les.refl _) ⟨(((cnt s l : Nat) : Int), _), rfl, rfl, rfl, rfl⟩)
  exact ASpec.pureH H k _ _ rfl rfl

theorem leBt {ρ : Nat → Nat} : Le (.sl 0 (.raw []) .nil) (AV.ren ρ (sl1 [])) := Le.sl (s' := Seq.ren ρ (.map encB 0 [])) rfl (.inr ⟨rfl, fun _ h => by cases h⟩) (.inr rfl)
theorem leR0 : Le (.sl 0 (.raw []) .nil) (slR []) := Le.sl rfl (.inr ⟨rfl, fun _ h => by cases h⟩) (.inr rfl)

theorem cloneB_spec (b : List UInt8) (hb : b.length ≤ lim) (H : List AObj) : ASpec Try.prog 166 [sl1 b] H (fun r H' => r = sl1 b ∧ H' = H) := by
  unfold lim at hb
  have k : ASpec Try.prog 166 [sl1 b] [] (fun r H' => r = sl1 b ∧ H' = []) := by
    refine ASpec.sel (s166 _ _ fun c hc => condB (fun h => pa ?_) fun h => needJ (fun x => rfl) (needJ (by omega) (pa ?_)))
    · have := hc h
      simp only [Ab.Seq.toList, List.map_eq_nil_iff] at this
      subst this
      exact leBt
    · exact sealLe _ (by simp [Ab.Seq.toList])
  exact ASpec.pureH H k _ _ rfl rfl

/-! ### bodies and manifests -/

def bodyM (l : List Ent) (s : List UInt8) : List UInt8 := match getE s l with
  | some b => b
  | none => putMan (s, [])
def readB (s b : List UInt8) : Mani × Bool := if (readM b).2 ≠ 0 ∨ (readM b).1.1 ≠ s then ((s, []), false) else ((readM b).1, true)
def manM (l : List Ent) (s : List UInt8) : Mani × Bool := readB s (bodyM l s)

theorem okM0 {s : List UInt8} (h : s.length ≤ lim) : okM (s, []) := ⟨h, by simp, fun r hr => by simp at hr⟩

theorem getE_mem {s b : List UInt8} : ∀ {l : List Ent}, getE s l = some b → ∃ x ∈ l, x.1 = s ∧ x.2 = b
  | [], h => by cases h
  | x :: r, h => by
    simp only [getE] at h
    split at h
    · rename_i e; cases h; exact ⟨x, by simp, e, rfl⟩
    · obtain ⟨y, h1, h2⟩ := getE_mem h
      exact ⟨y, by simp [h1], h2⟩

theorem putMan_len (m : Mani) : (putMan m).length ≤ 5316 := by
  unfold putMan
  split
  · rename_i h; exact W.maniB_len h
  · simp

theorem bodyM_len {l : List Ent} (hl : okD l) (s : List UInt8) : (bodyM l s).length ≤ lim := by
  unfold bodyM
  split
  · rename_i b h
    obtain ⟨x, h1, h2, rfl⟩ := getE_mem h
    exact (hl.2 x h1).2
  · have := putMan_len (s, [])
    unfold lim; omega

theorem body_spec (l : List Ent) (s : List UInt8) (hl : okD l) (hs : Sorted l) (hn : s.length ≤ lim) (H : List AObj) : ASpec Try.prog 61 [slEn l, .str (B s)] H (fun r H' => r = sl1 (bodyM l s) ∧ H' = H) := by
  have k : ASpec Try.prog 61 [slEn l, .str (B s)] [] (fun r H' => r = sl1 (bodyM l s) ∧ H' = []) := by
    obtain ⟨g1, g2⟩ := getE_at (nm := s) hs
    refine s61 _ _ _ (ASpec.call (find_spec l s hl.1 hs _) (Les.refl _) ⟨(((cnt s l : Nat) : Int), _), rfl, rfl, condD (fun h => needJ ⟨by omega, by omega⟩ ?_) fun h => ?_⟩)
    · rw [Int.toNat_natCast]
      have hx := hl.2 _ (memD l ([], []) (cnt s l) h.1)
      refine ASpec.call (cloneB_spec _ hx.2 _) (Les.refl _) ⟨_, rfl, rfl, ?_, rfl⟩
      rw [bodyM, g1 h]
    · refine ASpec.call (W.put_spec (s, []) (okM0 hn) _) ⟨Le.agg ⟨Le.refl _, leR0, trivial⟩, trivial⟩ ⟨_, rfl, rfl, ?_, rfl⟩
      rw [bodyM, g2 h]
  exact ASpec.pureH H k _ _ rfl rfl

abbrev PMB (v : Mani × Bool) : AV → List AObj → Prop := PA (.tup [.agg (encM v.1), .bool v.2])
theorem pmNone {v : Mani × Bool} {s : List UInt8} {H' : List AObj} (h : v = ((s, []), false)) : PMB v (.tup [.agg [.str (B s), .sl 0 (.raw []) .nil], .bool false]) H' := by
  subst h
  exact pa (Le.tup ⟨Le.agg ⟨Le.refl _, Le.sl (s' := Seq.ren _ (.map T.encR (0, []) [])) rfl (.inr ⟨rfl, fun _ h => by cases h⟩) (.inr rfl), trivial⟩, Le.refl _, trivial⟩)
theorem pmSome {v : Mani × Bool} {m : Mani} {H' : List AObj} (h : v = (m, true)) : PMB v (.tup [.agg (encM m), .bool true]) H' := by
  subst h
  exact pa (Le.refl _)

theorem man_spec (l : List Ent) (s : List UInt8) (hl : okD l) (hs : Sorted l) (hn : s.length ≤ lim) (H : List AObj) : ASpec Try.prog 59 [slEn l, .str (B s)] H (fun r H' => r = .tup [.agg (encM (manM l s).1), .bool (manM l s).2] ∧ H' = H) := by
  have k : ASpec Try.prog 59 [slEn l, .str (B s)] [] (fun r H' => r = .tup [.agg (encM (manM l s).1), .bool (manM l s).2] ∧ H' = []) := by
    have hb := bodyM_len hl s
    unfold lim at hb
    refine ASpec.sel (s59 _ _ _ (ASpec.call (body_spec l s hl hs hn _) (Les.refl _) ⟨_, rfl, rfl, ?_⟩))
    refine ASpec.call (W.read_spec (bodyM l s) hb _) (Les.refl _) ⟨((readM (bodyM l s)).1, (readM (bodyM l s)).2), rfl, rfl, condNe (fun h => pmNone ?_) fun h => condSn (fun h2 => pmNone ?_) fun h2 => pmSome ?_⟩
    · rw [manM, readB, if_pos (.inl h)]
    · rw [manM, readB, if_pos (.inr h2)]
    · rw [manM, readB, if_neg (by rintro (h3 | h3); exact h3 h; exact h3 h2)]
  exact ASpec.pureH H k _ _ rfl rfl

def brokenF (D : List Ent) : List Ent → List (List UInt8)
  | [] => []
  | x :: r => if (manM D x.1).2 = false then x.1 :: brokenF D r else brokenF D r
def brokenM (l : List Ent) : List (List UInt8) := brokenF l l

theorem renLb (ρ : Nat → Nat) (x : List UInt8) : renL ρ (encL x) = encL x := rfl

theorem broken3 {l : List Ent} (hl : okD l) (hs : Sorted l) {R : List (List UInt8)} : ∀ (m i : Nat) (acc : List (List UInt8)), m + i = l.length → acc.length ≤ i → acc ++ brokenF l (l.drop i) = R →
    AWP Try.prog 30 0 c64_3 [(0, slEn l), (3, .sl 1 (.map encL [] acc) (.tok 0)), (8, slEn l), (9, .int .i64 l.length), (10, .int .i64 i)] [.tok] (q64_2 0 (PA (slL R))) := by
  have hl1 := hl.1
  unfold lim at hl1
  intro m
  induction m with
  | zero =>
    intro i acc hm ha h
    refine v64_3 _ _ _ _ _ _ (condD (fun hc => by omega) fun _ => pa ?_)
    rw [List.drop_eq_nil_of_le (by omega)] at h
    simp only [brokenF, List.append_nil] at h
    subst h
    exact leNone renLb
  | succ m ih =>
    intro i acc hm ha h
    have hx := hl.2 _ (memD l ([], []) i (by omega))
    rw [dropD l ([], []) i (by omega)] at h
    simp only [brokenF] at h
    refine v64_3 _ _ _ _ _ _ (condD (fun hc => needJ ⟨by omega, by omega⟩ ?_) fun hc => by omega)
    rw [Int.toNat_natCast]
    generalize l.getD i ([], []) = x at h hx ⊢
    refine ASpec.call (man_spec l x.1 hl hs hx.1 _) (Les.refl _) ⟨((manM l x.1).1, (manM l x.1).2), rfl, rfl, condBn (fun h1 => needJ (by omega) ?_) fun h1 => ?_⟩
    · simp only at h1
      rw [if_pos h1] at h
      rw [succ64 (by omega)]
      refine AWP.shape [3] [(0, slEn l), (3, .sl 1 (.map encL [] (acc ++ [x.1])) (.tok 0)), (8, slEn l), (9, .int .i64 l.length), (10, .int .i64 (i + 1 : Nat))] [.tok] (Sel.one 3 rfl rfl)
        ⟨rfl, Le.refl _, rfl, ?_, rfl, Le.refl _, rfl, Le.refl _, rfl, Le.refl _, trivial⟩ (ih (i + 1) _ (by omega) (by simp; omega) (by rw [← h]; simp))
      exact W.leAppT renLb rfl rfl
    · simp only at h1
      rw [if_neg (by rw [h1]; simp)] at h
      rw [succ64 (by omega)]
      exact AWP.shape [0] [(0, slEn l), (3, .sl 1 (.map encL [] acc) (.tok 0)), (8, slEn l), (9, .int .i64 l.length), (10, .int .i64 (i + 1 : Nat))] [.tok] (Sel.one 0 rfl rfl)
        ⟨rfl, Le.refl _, rfl, Le.refl _, rfl, Le.refl _, rfl, Le.refl _, rfl, Le.refl _, trivial⟩ (ih (i + 1) _ (by omega) (by omega) h)

theorem broken_spec (l : List Ent) (hl : okD l) (hs : Sorted l) (H : List AObj) : ASpec Try.prog 64 [slEn l] H (fun r H' => r = slL (brokenM l) ∧ H' = H) := by
  have k : ASpec Try.prog 64 [slEn l] [] (fun r H' => r = slL (brokenM l) ∧ H' = []) := by
    refine ASpec.sel (s64 _ _ ?_)
    refine AWP.re (ReSt.tok (H := []) (k := 3) (q' := .map encL [] []) (sz' := 1) (s2 := [(0, slEn l), (3, .sl 1 (.map encL [] []) (.tok 0)), (8, slEn l), (9, .int .i64 l.length), (10, .int .i64 (0 : Nat))]) rfl (.inl rfl) rfl (.inr rfl) (fun d hd => ?_) rfl) ?_
    · simp only [Ab.get]
      have e : Nat.beq 3 d = false := by
        cases hx : Nat.beq 3 d with
        | false => rfl
        | true => exact absurd (Nat.eq_of_beq_eq_true hx).symm hd
      rw [e]; rfl
    · exact broken3 hl hs l.length 0 [] (by omega) (by simp) rfl
  exact ASpec.pureH H k _ _ rfl rfl

/-! ### the document's -/

theorem rbody2 {l : List Ent} {s : List UInt8} (hl : okD l) (hn : s.length ≤ lim) {R : List UInt8} : ∀ (m i : Nat), m + i = l.length → bodyM (l.drop i) s = R →
    AWP Try.prog 28 0 c47_2 [(0, slEn l), (1, .str (B s)), (5, .int .i64 i)] [] (q47_2 0 (PA (.str (B R)))) := by
  have hl1 := hl.1
  unfold lim at hl1
  intro m
  induction m with
  | zero =>
    intro i hm h
    refine v47_2 _ _ _ _ _ (condD (fun hc => by omega) fun _ => ?_)
    rw [List.drop_eq_nil_of_le (by omega)] at h
    refine ASpec.call (W.rput_spec (s, []) (okM0 hn) _) ⟨Le.agg ⟨Le.refl _, leR0, trivial⟩, trivial⟩ ⟨_, rfl, rfl, pa ?_⟩
    rw [← h]; exact Le.refl _
  | succ m ih =>
    intro i hm h
    have hin : (0 : Int) ≤ (i : Int) ∧ (i : Int) < (l.length : Int) := ⟨by omega, by omega⟩
    rw [dropD l ([], []) i (by omega)] at h
    refine v47_2 _ _ _ _ _ (condD (fun hc => needJ hin ?_) fun hc => by omega)
    rw [Int.toNat_natCast]
    generalize l.getD i ([], []) = x at h ⊢
    simp only [bodyM, getE] at h
    refine condS (fun h1 => needJ hin (needJ (allBytes_map _) (pa ?_))) fun h1 => ?_
    · rw [if_pos h1] at h
      have h : x.2 = R := h
      rw [bytesOf_map, h]; exact Le.refl _
    · rw [if_neg h1] at h
      rw [succ64 (by omega)]
      exact ih (i + 1) (by omega) h

theorem rbody_spec (l : List Ent) (s : List UInt8) (hl : okD l) (hn : s.length ≤ lim) (H : List AObj) : ASpec Try.prog 47 [slEn l, .str (B s)] H (fun r H' => r = .str (B (bodyM l s)) ∧ H' = H) :=
  ASpec.pureH (r0 := .str (B (bodyM l s))) H (ASpec.sel (s47 _ _ _ (rbody2 hl hn l.length 0 (by omega) rfl))) _ _ rfl rfl

theorem rread_spec (s b : List UInt8) (hb : b.length ≤ 1000000) (H : List AObj) : ASpec Try.prog 182 [.str (B s), .str (B b)] H (fun r H' => r = .tup [.agg (encM (readB s b).1), .bool (readB s b).2] ∧ H' = H) := by
  have k : ASpec Try.prog 182 [.str (B s), .str (B b)] [] (fun r H' => r = .tup [.agg (encM (readB s b).1), .bool (readB s b).2] ∧ H' = []) := by
    refine ASpec.sel (s182 _ _ _ (ASpec.call (W.rread_spec b hb _) (Les.refl _) ⟨((readM b).1, (readM b).2), rfl, rfl, condNe (fun h => pmNone ?_) fun h => condSn (fun h2 => pmNone ?_) fun h2 => pmSome ?_⟩))
    · rw [readB, if_pos (.inl h)]
    · rw [readB, if_pos (.inr h2)]
    · rw [readB, if_neg (by rintro (h3 | h3); exact h3 h; exact h3 h2)]
  exact ASpec.pureH H k _ _ rfl rfl

theorem rman_spec (l : List Ent) (s : List UInt8) (hl : okD l) (hn : s.length ≤ lim) (H : List AObj) : ASpec Try.prog 60 [slEn l, .str (B s)] H (fun r H' => r = .tup [.agg (encM (manM l s).1), .bool (manM l s).2] ∧ H' = H) := by
  have k : ASpec Try.prog 60 [slEn l, .str (B s)] [] (fun r H' => r = .tup [.agg (encM (manM l s).1), .bool (manM l s).2] ∧ H' = []) := by
    have hb := bodyM_len hl s
    unfold lim at hb
    refine ASpec.sel (s60 _ _ _ (ASpec.call (rbody_spec l s hl hn _) (Les.refl _) ⟨_, rfl, rfl, ?_⟩))
    exact ASpec.call (rread_spec s (bodyM l s) hb _) (Les.refl _) ⟨((manM l s).1, (manM l s).2), rfl, rfl, pa (Le.refl _)⟩
  exact ASpec.pureH H k _ _ rfl rfl

theorem rbroken3 {l : List Ent} (hl : okD l) {R : List (List UInt8)} : ∀ (m i : Nat) (acc : List (List UInt8)), m + i = l.length → acc.length ≤ i → acc ++ brokenF l (l.drop i) = R →
    AWP Try.prog 34 0 c65_3 [(0, slEn l), (3, .sl 1 (.map encL [] acc) (.tok 0)), (4, .int .i64 i)] [.tok] (q65_2 0 (PA (slL R))) := by
  have hl1 := hl.1
  unfold lim at hl1
  intro m
  induction m with
  | zero =>
    intro i acc hm ha h
    refine v65_3 _ _ _ _ _ (condD (fun hc => by omega) fun _ => pa ?_)
    rw [List.drop_eq_nil_of_le (by omega)] at h
    simp only [brokenF, List.append_nil] at h
    subst h
    exact leNone renLb
  | succ m ih =>
    intro i acc hm ha h
    have hin : (0 : Int) ≤ (i : Int) ∧ (i : Int) < (l.length : Int) := ⟨by omega, by omega⟩
    have hx := hl.2 _ (memD l ([], []) i (by omega))
    rw [dropD l ([], []) i (by omega)] at h
    simp only [brokenF] at h
    refine v65_3 _ _ _ _ _ (condD (fun hc => needJ hin ?_) fun hc => by omega)
    rw [Int.toNat_natCast]
    generalize l.getD i ([], []) = x at h hx ⊢
    refine ASpec.call (rman_spec l x.1 hl hx.1 _) (Les.refl _) ⟨((manM l x.1).1, (manM l x.1).2), rfl, rfl, condBn (fun h1 => needJ hin (needJ (by omega) ?_)) fun h1 => ?_⟩
    · simp only at h1
      rw [if_pos h1] at h
      rw [succ64 (by omega)]
      refine AWP.shape [2] [(0, slEn l), (3, .sl 1 (.map encL [] (acc ++ [x.1])) (.tok 0)), (4, .int .i64 (i + 1 : Nat))] [.tok] (Sel.one 2 rfl rfl)
        ⟨rfl, Le.refl _, rfl, ?_, rfl, Le.refl _, trivial⟩ (ih (i + 1) _ (by omega) (by simp; omega) (by rw [← h]; simp))
      exact W.leAppT renLb rfl rfl
    · simp only at h1
      rw [if_neg (by rw [h1]; simp)] at h
      rw [succ64 (by omega)]
      exact AWP.shape [0] [(0, slEn l), (3, .sl 1 (.map encL [] acc) (.tok 0)), (4, .int .i64 (i + 1 : Nat))] [.tok] (Sel.one 0 rfl rfl)
        ⟨rfl, Le.refl _, rfl, Le.refl _, rfl, Le.refl _, trivial⟩ (ih (i + 1) _ (by omega) (by omega) h)

theorem rbroken_spec (l : List Ent) (hl : okD l) (H : List AObj) : ASpec Try.prog 65 [slEn l] H (fun r H' => r = slL (brokenM l) ∧ H' = H) := by
  have k : ASpec Try.prog 65 [slEn l] [] (fun r H' => r = slL (brokenM l) ∧ H' = []) := by
    refine ASpec.sel (s65 _ _ ?_)
    refine AWP.re (ReSt.tok (H := []) (k := 3) (q' := .map encL [] []) (sz' := 1) (s2 := [(0, slEn l), (3, .sl 1 (.map encL [] []) (.tok 0)), (4, .int .i64 (0 : Nat))]) rfl (.inl rfl) rfl (.inr rfl) (fun d hd => ?_) rfl) ?_
    · simp only [Ab.get]
      have e : Nat.beq 3 d = false := by
        cases hx : Nat.beq 3 d with
        | false => rfl
        | true => exact absurd (Nat.eq_of_beq_eq_true hx).symm hd
      rw [e]; rfl
    · exact rbroken3 hl l.length 0 [] (by omega) (by simp) rfl
  exact ASpec.pureH H k _ _ rfl rfl

theorem names4 {a b : List (List UInt8)} {c : Bool} (hl : a.length ≤ lim) (he : a.length = b.length) : ∀ (m i : Nat), m + i = a.length → decide (a.drop i = b.drop i) = c →
    AWP Try.prog 26 0 c63_4 [(0, slL a), (1, slL b), (5, .int .i64 i)] [] (q63_2 0 (PB c)) := by
  unfold lim at hl
  intro m
  induction m with
  | zero =>
    intro i hm h
    refine v63_4 _ _ _ _ _ (condD (fun hc => by omega) fun _ => pb ?_)
    rw [List.drop_eq_nil_of_le (by omega), List.drop_eq_nil_of_le (by omega)] at h
    rw [← h]; simp
  | succ m ih =>
    intro i hm h
    rw [dropD a [] i (by omega), dropD b [] i (by omega), cons_dec] at h
    refine v63_4 _ _ _ _ _ (condD (fun hc => needJ ⟨by omega, by omega⟩ (needJ ⟨by omega, by omega⟩ ?_)) fun hc => by omega)
    rw [Int.toNat_natCast]
    generalize a.getD i [] = x at h ⊢
    generalize b.getD i [] = y at h ⊢
    refine condSn (fun h1 => pb ?_) fun h1 => ?_
    · rw [decide_eq_false h1, Bool.false_and] at h; exact h
    · rw [decide_eq_true h1, Bool.true_and] at h
      rw [succ64 (by omega)]
      exact ih (i + 1) (by omega) h

theorem names_spec (a b : List (List UInt8)) (hl : a.length ≤ lim) (H : List AObj) : ASpec Try.prog 63 [slL a, slL b] H (fun r H' => r = .bool (decide (a = b)) ∧ H' = H) := by
  have k : ASpec Try.prog 63 [slL a, slL b] [] (fun r H' => r = .bool (decide (a = b)) ∧ H' = []) := by
    refine ASpec.sel (s63 _ _ _ (condNe (fun h => pb ?_) fun h => names4 hl (by omega) a.length 0 (by omega) rfl))
    symm
    rw [decide_eq_false]
    rintro rfl; exact h rfl
  exact ASpec.pureH H k _ _ rfl rfl

/-! ### the examples -/

theorem sortedNil : Sorted [] := fun i h => by simp at h
theorem okD0 : okD [] := ⟨by simp, fun x hx => by simp at hx⟩
theorem leD0 : Le (.sl 0 (.raw []) .nil) (slEn []) := Le.sl rfl (.inr ⟨rfl, fun _ h => by cases h⟩) (.inr rfl)

theorem awake_spec (H : List AObj) : ASpec Try.prog 57 [] H (fun r H' => r = .bool true ∧ H' = H) := by
  have k : ASpec Try.prog 57 [] [] (fun r H' => r = .bool true ∧ H' = []) := by
    have hok : manOk (([97], []) : Mani) = true := by decide +kernel
    have e1 : bodyM [] [97] = [1, 97, 0] := by
      have : putMan (([97], []) : Mani) = [1, 97, 0] := by decide +kernel
      exact this
    have e2 : manM [] [97] = (([97], []), true) := by
      have h := read_put hok
      have h2 : putMan (([97], []) : Mani) = W.maniB ([97], []) := by rw [putMan, if_pos hok]
      have h3 : bodyM [] [97] = W.maniB ([97], []) := h2
      rw [manM, readB, h3, h]; simp
    refine ASpec.sel (s57 _ (ASpec.call (man_spec [] [97] okD0 sortedNil (by unfold lim; simp) _) ⟨leD0, Le.refl _, trivial⟩ ⟨((manM [] [97]).1, (manM [] [97]).2), rfl, rfl, ?_⟩))
    refine ASpec.call (body_spec [] [97] okD0 sortedNil (by unfold lim; simp) _) ⟨leD0, Le.refl _, trivial⟩ ⟨_, rfl, rfl, needJ (allBytes_map _) ?_⟩
    rw [bytesOf_map, e1, e2]
    refine condS (b := [1, 97, 0]) (fun _ => ?_) fun h => (h rfl).elim
    refine condS (b := [97]) (fun _ => condE (fun _ => pb rfl) fun h => (h rfl).elim) fun h => (h rfl).elim
  exact ASpec.pureH H k _ _ rfl rfl

/-! ### the law -/

theorem brokenF_len (D : List Ent) : ∀ l : List Ent, (brokenF D l).length ≤ l.length
  | [] => Nat.le_refl _
  | x :: r => by
    simp only [brokenF]
    split
    · have := brokenF_len D r; simp; omega
    · have := brokenF_len D r; simp; omega

theorem readB_ok (s b : List UInt8) (hs : s.length ≤ lim) : okM (readB s b).1 := by
  unfold readB
  split
  · exact okM0 hs
  · exact W.readM_ok b

theorem depotTells_spec (l : List Ent) (s : List UInt8) : ASpec Try.prog 7 [slEn l, .str (B s)] [] (fun r H' => r = .bool true ∧ H' = []) := by
  refine ASpec.sel ?_
  show ASpec Try.prog 7 [slEn l, .str (B s)] [] (PB true)
  refine s7 _ _ _ (ASpec.call (largeD_spec l _) (Les.refl _) ⟨_, rfl, rfl, condB (fun _ => ASpec.call (awake_spec _) (Les.refl _) ⟨(), rfl, rfl, pb rfl⟩) fun hlg => condD (fun _ => ASpec.call (awake_spec _) (Les.refl _) ⟨(), rfl, rfl, pb rfl⟩) fun h1 => ?_⟩)
  rw [B_size] at h1
  have hl := largeD_ok hlg
  have hn : s.length ≤ lim := by unfold lim; omega
  refine ASpec.call (check_spec l hl _) (Les.refl _) ⟨_, rfl, rfl, ?_⟩
  refine ASpec.call (rcheck_spec l hl _) (Les.refl _) ⟨_, rfl, rfl, condNq (fun h => (h rfl).elim) fun _ => ?_⟩
  refine ASpec.call (rcheck_spec l hl _) (Les.refl _) ⟨_, rfl, rfl, condBn (fun _ => ASpec.call (awake_spec _) (Les.refl _) ⟨(), rfl, rfl, pb rfl⟩) fun hok => ?_⟩
  have hs : Sorted l := fun i hi => ((depOk_ok hok).2 i hi).2.2
  refine ASpec.call (rfit_spec (l := s) (by unfold big; omega) _) (Les.refl _) ⟨_, rfl, rfl, condBn (fun _ => ASpec.call (awake_spec _) (Les.refl _) ⟨(), rfl, rfl, pb rfl⟩) fun _ => ?_⟩
  refine ASpec.call (man_spec l s hl hs hn _) (Les.refl _) ⟨((manM l s).1, (manM l s).2), rfl, rfl, ?_⟩
  refine ASpec.call (rman_spec l s hl hn _) (Les.refl _) ⟨((manM l s).1, (manM l s).2), rfl, rfl, ?_⟩
  refine ASpec.call (body_spec l s hl hs hn _) (Les.refl _) ⟨_, rfl, rfl, needJ (allBytes_map _) ?_⟩
  refine ASpec.call (rbody_spec l s hl hn _) (Les.refl _) ⟨_, rfl, rfl, ?_⟩
  rw [bytesOf_map]
  refine condS (fun _ => ?_) fun h => (h rfl).elim
  refine ASpec.call (W.sameM_spec (manM l s).1 (manM l s).1 (readB_ok _ _ hn) _) (Les.refl _) ⟨_, rfl, rfl, condB (fun _ => condQ (fun _ => ?_) fun h => (h rfl).elim) fun h => by simp at h⟩
  refine ASpec.call (broken_spec l hl hs _) (Les.refl _) ⟨_, rfl, rfl, ?_⟩
  refine ASpec.call (rbroken_spec l hl _) (Les.refl _) ⟨_, rfl, rfl, ?_⟩
  refine ASpec.call (names_spec (brokenM l) (brokenM l) (Nat.le_trans (brokenF_len l l) hl.1) _) (Les.refl _) ⟨_, rfl, rfl, condB (fun _ => ASpec.call (awake_spec _) (Les.refl _) ⟨(), rfl, rfl, pb rfl⟩) fun h => by simp at h⟩
end Dp
end

section
/- DepotOf: the depot of manifests has just them, and nothing in it is broken: the law's function returns true. -/

set_option linter.unusedVariables false
set_option linter.unusedSimpArgs false
set_option maxRecDepth 100000
open Go Go.Ab Go.Proofs V S T C
open W (sl1 slS slN slR leNone readM putMan read_put cons_dec manOk_ok)
namespace Dp

def entsM (l : List Mani) : List Ent := l.map fun m => (m.1, putMan m)
def ofM (l : List Mani) : List Ent × Bool := if l.all manOk = true ∧ depOk (entsM l) = true then (entsM l, true) else ([], false)

theorem ents_ok : ∀ {l : List Mani}, (∀ m ∈ l, m.1.length ≤ lim) → l.length ≤ lim → okD (entsM l) := by
  intro l h hl
  refine ⟨by simpa [entsM] using hl, fun x hx => ?_⟩
  obtain ⟨m, hm, rfl⟩ := List.mem_map.1 hx
  have := putMan_len m
  exact ⟨h m hm, by unfold lim; simp only; omega⟩

abbrev PO (v : List Ent × Bool) : AV → List AObj → Prop := PA (.tup [slEn v.1, .bool v.2])
theorem renEn (ρ : Nat → Nat) (x : Ent) : renL ρ (encEn x) = encEn x := rfl
theorem poNone {v : List Ent × Bool} {H' : List AObj} (h : v = ([], false)) : PO v (.tup [.sl 0 (.raw []) .nil, .bool false]) H' := by
  subst h
  exact pa (Le.tup ⟨Le.sl (s' := Seq.ren _ (.map encEn ([], []) [])) rfl (.inr ⟨rfl, fun _ h => by cases h⟩) (.inr rfl), Le.refl _, trivial⟩)
theorem poSome {v : List Ent × Bool} {l : List Ent} {tip : Tip} {H' : List AObj} (h : v = (l, true)) : PO v (.tup [.sl 2 (.map encEn ([], []) l) tip, .bool true]) H' := by
  subst h
  exact pa (Le.tup ⟨leNone renEn, Le.refl _, trivial⟩)

theorem of9 {acc : List Ent} (ha : okD acc) {v : List Ent × Bool} (hv : v = if depOk acc = true then (acc, true) else ([], false)) :
    AWP Try.prog 29 0 c67_9 [(4, .sl 2 (.map encEn ([], []) acc) (.tok 0))] [.tok] (q67_0 0 (PO v)) := by
  refine v67_9 _ _ _ (ASpec.call (check_spec acc ha _) ⟨Le.sl rfl (.inl rfl) (.inr rfl), trivial⟩ ⟨_, rfl, rfl, condBn (fun h => poNone ?_) fun h => poSome ?_⟩)
  · rw [hv, h]; simp
  · rw [hv, if_pos h]

theorem rof8 {acc : List Ent} (ha : okD acc) {v : List Ent × Bool} (hv : v = if depOk acc = true then (acc, true) else ([], false)) :
    AWP Try.prog 37 0 c68_8 [(4, .sl 2 (.map encEn ([], []) acc) (.tok 0))] [.tok] (q68_0 0 (PO v)) := by
  refine v68_8 _ _ _ (ASpec.call (rcheck_spec acc ha _) ⟨Le.sl rfl (.inl rfl) (.inr rfl), trivial⟩ ⟨_, rfl, rfl, condBn (fun h => poNone ?_) fun h => poSome ?_⟩)
  · rw [hv, h]; simp
  · rw [hv, if_pos h]

/-- what is told of the manifests that are left -/
def ofF (acc : List Ent) (l : List Mani) : List Ent × Bool := if l.all manOk = true then (if depOk (acc ++ entsM l) = true then (acc ++ entsM l, true) else ([], false)) else ([], false)

theorem of3 {l : List Mani} (hl : l.length ≤ 1000) (hk : ∀ m ∈ l, okM m) {v : List Ent × Bool} : ∀ (m i : Nat) (acc : List Ent), m + i = l.length → acc = entsM (l.take i) → v = ofF acc (l.drop i) →
    AWP Try.prog 29 0 c67_3 [(4, .sl 2 (.map encEn ([], []) acc) (.tok 0)), (7, slM l), (8, .int .i64 l.length), (9, .int .i64 i)] [.tok] (q67_2 0 (PO v)) := by
  intro m
  induction m with
  | zero =>
    intro i acc hm ha h
    have hok : okD acc := by
      rw [ha]
      exact ents_ok (fun m hm => (hk m (List.mem_of_mem_take hm)).1) (by simp; unfold lim; omega)
    refine v67_3 _ _ _ _ _ _ (condD (fun hc => by omega) fun _ => of9 hok ?_)
    rw [List.drop_eq_nil_of_le (by omega)] at h
    rw [h]; simp [ofF, entsM]
  | succ m ih =>
    intro i acc hm ha h
    have hx := hk _ (memD l ([], []) i (by omega))
    have hal : acc.length ≤ 1000 := by rw [ha]; simp [entsM]; omega
    have hnx : entsM (l.take (i + 1)) = acc ++ [((l.getD i ([], [])).1, putMan (l.getD i ([], [])))] := by
      rw [ha, entsM, entsM, List.take_add_one, List.map_append]
      rw [List.getElem?_eq_getElem (by omega)]
      simp [List.getD_eq_getElem?_getD, List.getElem?_eq_getElem (show i < l.length by omega)]
    rw [dropD l ([], []) i (by omega)] at h
    refine v67_3 _ _ _ _ _ _ (condD (fun hc => needJ ⟨by omega, by omega⟩ ?_) fun hc => by omega)
    rw [Int.toNat_natCast]
    generalize l.getD i ([], []) = x at h hx hnx ⊢
    refine ASpec.call (maniCheck_spec x hx _) (Les.refl _) ⟨_, rfl, rfl, condBn (fun h1 => poNone ?_) fun h1 => ?_⟩
    · rw [h, ofF, if_neg (by simp [h1])]
    · refine ASpec.call (W.put_spec x hx _) (Les.refl _) ⟨_, rfl, rfl, ⟨rfl, rfl⟩, needJ (by omega) ?_⟩
      rw [succ64 (by omega)]
      refine AWP.shape [2] [(4, .sl 2 (.map encEn ([], []) (acc ++ [(x.1, putMan x)])) (.tok 0)), (7, slM l), (8, .int .i64 l.length), (9, .int .i64 (i + 1 : Nat))] [.tok] (Sel.one 2 rfl rfl)
        ⟨rfl, ?_, rfl, Le.refl _, rfl, Le.refl _, rfl, Le.refl _, trivial⟩ (ih (i + 1) _ (by omega) hnx.symm ?_)
      · exact W.leAppT renEn rfl rfl
      · rw [h]; simp only [ofF, List.all_cons, h1, Bool.true_and, entsM, List.map_cons, List.append_assoc, List.cons_append, List.nil_append]

theorem rof3 {l : List Mani} (hl : l.length ≤ 1000) (hk : ∀ m ∈ l, okM m) {v : List Ent × Bool} : ∀ (m i : Nat) (acc : List Ent), m + i = l.length → acc = entsM (l.take i) → v = ofF acc (l.drop i) →
    AWP Try.prog 37 0 c68_3 [(0, slM l), (4, .sl 2 (.map encEn ([], []) acc) (.tok 0)), (5, .int .i64 i)] [.tok] (q68_2 0 (PO v)) := by
  intro m
  induction m with
  | zero =>
    intro i acc hm ha h
    have hok : okD acc := by
      rw [ha]
      exact ents_ok (fun m hm => (hk m (List.mem_of_mem_take hm)).1) (by simp; unfold lim; omega)
    refine v68_3 _ _ _ _ _ (condD (fun hc => by omega) fun _ => rof8 hok ?_)
    rw [List.drop_eq_nil_of_le (by omega)] at h
    rw [h]; simp [ofF, entsM]
  | succ m ih =>
    intro i acc hm ha h
    have hin : (0 : Int) ≤ (i : Int) ∧ (i : Int) < (l.length : Int) := ⟨by omega, by omega⟩
    have hx := hk _ (memD l ([], []) i (by omega))
    have hal : acc.length ≤ 1000 := by rw [ha]; simp [entsM]; omega
    have hnx : entsM (l.take (i + 1)) = acc ++ [((l.getD i ([], [])).1, putMan (l.getD i ([], [])))] := by
      rw [ha, entsM, entsM, List.take_add_one, List.map_append]
      rw [List.getElem?_eq_getElem (by omega)]
      simp [List.getD_eq_getElem?_getD, List.getElem?_eq_getElem (show i < l.length by omega)]
    rw [dropD l ([], []) i (by omega)] at h
    refine v68_3 _ _ _ _ _ (condD (fun hc => needJ hin ?_) fun hc => by omega)
    rw [Int.toNat_natCast]
    generalize l.getD i ([], []) = x at h hx hnx ⊢
    refine ASpec.call (rmaniCheck_spec x hx _) (Les.refl _) ⟨_, rfl, rfl, condBn (fun h1 => poNone ?_) fun h1 => needJ hin (needJ hin ?_)⟩
    · rw [h, ofF, if_neg (by simp [h1])]
    · refine ASpec.call (W.rput_spec x hx _) (Les.refl _) ⟨_, rfl, rfl, ⟨rfl, rfl⟩, needJ (by omega) ?_⟩
      rw [succ64 (by omega)]
      refine AWP.shape [1] [(0, slM l), (4, .sl 2 (.map encEn ([], []) (acc ++ [(x.1, putMan x)])) (.tok 0)), (5, .int .i64 (i + 1 : Nat))] [.tok] (Sel.one 1 rfl rfl)
        ⟨rfl, Le.refl _, rfl, ?_, rfl, Le.refl _, trivial⟩ (ih (i + 1) _ (by omega) hnx.symm ?_)
      · exact Le.trans (leAppE (x := (x.1, putMan x)) ⟨Le.refl _, sealLe (ρ := id) _ (bytesSeq_toList _), trivial⟩) (Le.refl _)
      · rw [h]; simp only [ofF, List.all_cons, h1, Bool.true_and, entsM, List.map_cons, List.append_assoc, List.cons_append, List.nil_append]

theorem ofM_eq (l : List Mani) : ofM l = ofF (entsM (l.take 0)) (l.drop 0) := by
  simp only [ofM, ofF, List.take_zero, List.drop_zero]
  show _ = if l.all manOk = true then (if depOk (entsM l) = true then (entsM l, true) else ([], false)) else ([], false)
  by_cases h1 : l.all manOk = true
  · by_cases h2 : depOk (entsM l) = true
    · rw [if_pos ⟨h1, h2⟩, if_pos h1, if_pos h2]
    · rw [if_neg (fun h => h2 h.2), if_pos h1, if_neg h2]
  · rw [if_neg (fun h => h1 h.1), if_neg h1]

theorem of_spec (l : List Mani) (hl : l.length ≤ 1000) (hk : ∀ m ∈ l, okM m) (H : List AObj) : ASpec Try.prog 67 [slM l] H (fun r H' => r = .tup [slEn (ofM l).1, .bool (ofM l).2] ∧ H' = H) := by
  have k : ASpec Try.prog 67 [slM l] [] (fun r H' => r = .tup [slEn (ofM l).1, .bool (ofM l).2] ∧ H' = []) := by
    refine ASpec.sel (s67 _ _ ?_)
    refine AWP.re (ReSt.tok (H := []) (k := 4) (q' := .map encEn ([], []) []) (sz' := 2) (s2 := [(4, .sl 2 (.map encEn ([], []) []) (.tok 0)), (7, slM l), (8, .int .i64 l.length), (9, .int .i64 (0 : Nat))]) rfl (.inl rfl) rfl (.inr rfl) (fun d hd => ?_) rfl) ?_
    · simp only [Ab.get]
      have e : Nat.beq 4 d = false := by
        cases hx : Nat.beq 4 d with
        | false => rfl
        | true => exact absurd (Nat.eq_of_beq_eq_true hx).symm hd
      rw [e]; rfl
    · exact of3 hl hk l.length 0 [] (by omega) rfl (ofM_eq l)
  exact ASpec.pureH H k _ _ rfl rfl

theorem rof_spec (l : List Mani) (hl : l.length ≤ 1000) (hk : ∀ m ∈ l, okM m) (H : List AObj) : ASpec Try.prog 68 [slM l] H (fun r H' => r = .tup [slEn (ofM l).1, .bool (ofM l).2] ∧ H' = H) := by
  have k : ASpec Try.prog 68 [slM l] [] (fun r H' => r = .tup [slEn (ofM l).1, .bool (ofM l).2] ∧ H' = []) := by
    refine ASpec.sel (s68 _ _ ?_)
    refine AWP.re (ReSt.tok (H := []) (k := 4) (q' := .map encEn ([], []) []) (sz' := 2) (s2 := [(0, slM l), (4, .sl 2 (.map encEn ([], []) []) (.tok 0)), (5, .int .i64 (0 : Nat))]) rfl (.inl rfl) rfl (.inr rfl) (fun d hd => ?_) rfl) ?_
    · simp only [Ab.get]
      have e : Nat.beq 4 d = false := by
        cases hx : Nat.beq 4 d with
        | false => rfl
        | true => exact absurd (Nat.eq_of_beq_eq_true hx).symm hd
      rw [e]; rfl
    · exact rof3 hl hk l.length 0 [] (by omega) rfl (ofM_eq l)
  exact ASpec.pureH H k _ _ rfl rfl

theorem same4 {a b : List Ent} {c : Bool} (hl : a.length ≤ lim) (he : a.length = b.length) : ∀ (m i : Nat), m + i = a.length → decide (a.drop i = b.drop i) = c →
    AWP Try.prog 43 0 c69_4 [(0, slEn a), (1, slEn b), (5, .int .i64 i)] [] (q69_2 0 (PB c)) := by
  unfold lim at hl
  intro m
  induction m with
  | zero =>
    intro i hm h
    refine v69_4 _ _ _ _ _ (condD (fun hc => by omega) fun _ => pb ?_)
    rw [List.drop_eq_nil_of_le (by omega), List.drop_eq_nil_of_le (by omega)] at h
    rw [← h]; simp
  | succ m ih =>
    intro i hm h
    have ha : (0 : Int) ≤ (i : Int) ∧ (i : Int) < (a.length : Int) := ⟨by omega, by omega⟩
    have hb : (0 : Int) ≤ (i : Int) ∧ (i : Int) < (b.length : Int) := ⟨by omega, by omega⟩
    rw [dropD a ([], []) i (by omega), dropD b ([], []) i (by omega), cons_dec] at h
    refine v69_4 _ _ _ _ _ (condD (fun hc => needJ ha (needJ hb ?_)) fun hc => by omega)
    rw [Int.toNat_natCast]
    generalize a.getD i ([], []) = x at h ⊢
    generalize b.getD i ([], []) = y at h ⊢
    have no : ¬ (x.1 = y.1 ∧ x.2 = y.2) → PB c (.bool false) [] := by
      intro hh
      rw [decide_eq_false (by rintro rfl; exact hh ⟨rfl, rfl⟩), Bool.false_and] at h
      exact pb h
    refine condSn (fun h1 => no fun hh => h1 hh.1) fun h1 => needJ ha (needJ (allBytes_map _) (needJ hb (needJ (allBytes_map _) ?_)))
    rw [bytesOf_map, bytesOf_map]
    refine condSn (fun h2 => no fun hh => h2 hh.2) fun h2 => ?_
    rw [decide_eq_true (show x = y from Prod.ext h1 h2), Bool.true_and] at h
    rw [succ64 (by omega)]
    exact ih (i + 1) (by omega) h

theorem same_spec (a b : List Ent) (hl : a.length ≤ lim) (H : List AObj) : ASpec Try.prog 69 [slEn a, slEn b] H (fun r H' => r = .bool (decide (a = b)) ∧ H' = H) := by
  have k : ASpec Try.prog 69 [slEn a, slEn b] [] (fun r H' => r = .bool (decide (a = b)) ∧ H' = []) := by
    refine ASpec.sel (s69 _ _ _ (condNe (fun h => pb ?_) fun h => same4 hl (by omega) a.length 0 (by omega) rfl))
    symm
    rw [decide_eq_false]
    rintro rfl; exact h rfl
  exact ASpec.pureH H k _ _ rfl rfl

/-! ### just them -/

def wantF (s : List UInt8) (w : Mani) : List Mani → Mani
  | [] => w
  | m :: r => if m.1 = s then wantF s m r else wantF s w r

theorem sorted_cons {x : Ent} {r : List Ent} (h : Sorted (x :: r)) : Sorted r ∧ ∀ y ∈ r, Op.bytesLess x.1 y.1 = true := by
  refine ⟨fun i hi j hj => ?_, fun y hy => ?_⟩
  · have := h (i + 1) (by simpa using hi) (j + 1) (by omega)
    simpa using this
  · obtain ⟨i, hi, rfl⟩ := List.getElem_of_mem hy
    have := h (i + 1) (by simpa using hi) 0 (by omega)
    simpa [List.getD_eq_getElem?_getD, List.getElem?_eq_getElem hi] using this

theorem want_none {s : List UInt8} : ∀ {l : List Mani} (w : Mani), (∀ m ∈ l, m.1 ≠ s) → wantF s w l = w
  | [], w, _ => rfl
  | m :: r, w, h => by
    rw [wantF, if_neg (h m (by simp))]
    exact want_none w (fun y hy => h y (by simp [hy]))

theorem want_get {s : List UInt8} : ∀ {l : List Mani} (w : Mani), Sorted (entsM l) → (getE s (entsM l) = none ∧ wantF s w l = w) ∨ (∃ m ∈ l, m.1 = s ∧ getE s (entsM l) = some (putMan m) ∧ wantF s w l = m)
  | [], w, _ => .inl ⟨rfl, rfl⟩
  | m :: r, w, h => by
    obtain ⟨h1, h2⟩ := sorted_cons (x := (m.1, putMan m)) (r := entsM r) h
    by_cases e : m.1 = s
    · right
      refine ⟨m, by simp, e, ?_, ?_⟩
      · simp [entsM, getE, e]
      · rw [wantF, if_pos e]
        refine want_none m (fun y hy hys => ?_)
        have := h2 (y.1, putMan y) (List.mem_map.2 ⟨y, hy, rfl⟩)
        simp only [e, hys] at this
        rw [less_irrefl] at this; cases this
    · rw [wantF, if_neg e]
      have hg : getE s (entsM (m :: r)) = getE s (entsM r) := by simp [entsM, getE, e]
      rw [hg]
      rcases want_get w h1 with h3 | ⟨x, h3, h4⟩
      · exact .inl h3
      · exact .inr ⟨x, by simp [h3], h4⟩

theorem manOk_fit {s : List UInt8} (h : fitM s = true) : manOk (s, []) = true := by simp [manOk, relF, h]

theorem man_want {l : List Mani} (hok : ∀ m ∈ l, manOk m = true) (hs : Sorted (entsM l)) {s : List UInt8} (hf : fitM s = true) : manM (entsM l) s = (wantF s (s, []) l, true) := by
  have key : ∀ m : Mani, manOk m = true → m.1 = s → readB s (putMan m) = (m, true) := by
    intro m hm e
    have h1 : putMan m = W.maniB m := by rw [putMan, if_pos hm]
    rw [h1, readB, read_put hm]; simp [e]
  rcases want_get (s, []) hs with ⟨h1, h2⟩ | ⟨m, h1, h2, h3, h4⟩
  · rw [h2, manM, bodyM, h1]
    exact key _ (manOk_fit hf) rfl
  · rw [h4, manM, bodyM, h3]
    exact key m (hok m h1) h2

theorem broken_none {l : List Mani} (hok : ∀ m ∈ l, manOk m = true) (hs : Sorted (entsM l)) : brokenM (entsM l) = [] := by
  have : ∀ r : List Ent, (∀ x ∈ r, fitM x.1 = true) → brokenF (entsM l) r = [] := by
    intro r
    induction r with
    | nil => intro _; rfl
    | cons x r ih =>
      intro h
      rw [brokenF, man_want hok hs (h x (by simp))]
      simp only [Bool.true_eq_false, if_false]
      exact ih (fun y hy => h y (by simp [hy]))
  refine this _ (fun x hx => ?_)
  obtain ⟨m, hm, rfl⟩ := List.mem_map.1 hx
  exact (manOk_ok (hok m hm)).1

theorem law17 {l : List Mani} (hl : l.length ≤ 30) (hok : ∀ m ∈ l, manOk m = true) (hkm : ∀ m ∈ l, okM m) (hd : depOk (entsM l) = true) (hs : Sorted (entsM l)) (hD : okD (entsM l)) {s : List UInt8} (hn : s.length ≤ lim) {m : Mani} : ∀ (k i : Nat) (w : Mani), k + i = l.length → okM w → m = wantF s w (l.drop i) →
    AWP Try.prog 106 0 c8_17 [(0, slM l), (1, .str (B s)), (6, slEn (entsM l)), (10, .ptr 0 0), (11, .bool true), (12, .ptr 1 0), (13, .int .i64 i)] [.cells (encM m), .cells (encM w)] (q8_4 0 (PB true)) := by
  intro k
  induction k with
  | zero =>
    intro i w hk hw h
    rw [List.drop_eq_nil_of_le (by omega)] at h
    have h : m = w := h
    subst h
    refine v8_17 _ _ _ _ _ _ _ _ _ (condD (fun hc => by omega) fun _ => ?_)
    refine ASpec.call (check_spec _ hD _) (Les.refl _) ⟨_, rfl, rfl, condB (fun _ => condB (fun _ => ?_) fun h => by cases h) fun h => by rw [hd] at h; cases h⟩
    refine ASpec.call (W.sameM_spec m m hw _) (Les.refl _) ⟨_, rfl, rfl, condB (fun _ => ?_) fun h => by simp at h⟩
    refine ASpec.call (broken_spec _ hD hs _) (Les.refl _) ⟨_, rfl, rfl, ?_⟩
    rw [broken_none hok hs]
    exact condE (fun _ => ASpec.call (awake_spec _) (Les.refl _) ⟨(), rfl, rfl, pb rfl⟩) fun h => (h rfl).elim
  | succ k ih =>
    intro i w hk hw h
    have hin : (0 : Int) ≤ (i : Int) ∧ (i : Int) < (l.length : Int) := ⟨by omega, by omega⟩
    have hx := hkm _ (memD l ([], []) i (by omega))
    rw [dropD l ([], []) i (by omega)] at h
    refine v8_17 _ _ _ _ _ _ _ _ _ (condD (fun hc => needJ hin ?_) fun hc => by omega)
    rw [Int.toNat_natCast]
    generalize l.getD i ([], []) = x at h hx ⊢
    simp only [wantF] at h
    refine condS (fun h1 => needJ hin ?_) fun h1 => ?_
    · rw [if_pos h1] at h
      rw [succ64 (by omega)]
      exact ih (i + 1) x (by omega) hx h
    · rw [if_neg h1] at h
      rw [succ64 (by omega)]
      exact ih (i + 1) w (by omega) hw h

theorem law8 {l : List Mani} (hl : l.length ≤ 30) (hk : ∀ m ∈ l, okM m) {s : List UInt8} (hn : s.length ≤ lim) :
    AWP Try.prog 106 0 c8_8 [(0, slM l), (1, .str (B s))] [] (q8_0 0 (PB true)) := by
  refine v8_8 _ _ _ _ (ASpec.call (of_spec l (by omega) hk _) (Les.refl _) ⟨((ofM l).1, (ofM l).2), rfl, rfl, ?_⟩)
  refine ASpec.call (rof_spec l (by omega) hk _) (Les.refl _) ⟨((ofM l).1, (ofM l).2), rfl, rfl, ?_⟩
  have hlen : (ofM l).1.length ≤ lim := by
    unfold ofM
    split
    · simp [entsM]; unfold lim; omega
    · simp
  refine ASpec.call (same_spec (ofM l).1 (ofM l).1 hlen _) (Les.refl _) ⟨_, rfl, rfl, condBn (fun h => by simp at h) fun _ => condNq (fun h => (h rfl).elim) fun _ => ?_⟩
  by_cases hc : l.all manOk = true ∧ depOk (entsM l) = true
  · have e : ofM l = (entsM l, true) := by rw [ofM, if_pos hc]
    rw [e]
    refine condBn (fun h => by cases h) fun _ => ?_
    have hok : ∀ m ∈ l, manOk m = true := fun m hm => List.all_eq_true.1 hc.1 m hm
    have hs : Sorted (entsM l) := fun i hi => ((depOk_ok hc.2).2 i hi).2.2
    have hD : okD (entsM l) := ents_ok (fun m hm => (hk m hm).1) (by unfold lim; omega)
    refine ASpec.call (rfit_spec (l := s) (by unfold big; unfold lim at hn; omega) _) (Les.refl _) ⟨_, rfl, rfl, condBn (fun _ => ASpec.call (awake_spec _) (Les.refl _) ⟨(), rfl, rfl, pb rfl⟩) fun hf => ?_⟩
    have hm := man_want hok hs hf
    refine v8_14 _ _ _ _ _ (ASpec.call (man_spec (entsM l) s hD hs hn _) (Les.refl _) ⟨((manM (entsM l) s).1, (manM (entsM l) s).2), rfl, rfl, ?_⟩)
    rw [hm]
    refine AWP.re (ReSt.leCell (id := 1) (cs' := encM (s, [])) rfl ⟨Le.refl _, leR0, trivial⟩) ?_
    exact law17 hl hok hk hc.2 hs hD hn l.length 0 (s, []) (by omega) (okM0 hn) rfl
  · have e : ofM l = ([], false) := by rw [ofM, if_neg hc]
    rw [e]
    exact condBn (fun _ => ASpec.call (awake_spec _) (Les.refl _) ⟨(), rfl, rfl, pb rfl⟩) fun h => by cases h

theorem law4 {l : List Mani} (hl : l.length ≤ 30) {s : List UInt8} (hn : s.length ≤ lim) : ∀ (k i : Nat), k + i = l.length → (∀ j, j < i → okM (l.getD j ([], []))) →
    AWP Try.prog 106 0 c8_4 [(0, slM l), (1, .str (B s)), (5, .int .i64 i)] [] (q8_2 0 (PB true)) := by
  intro k
  induction k with
  | zero =>
    intro i hk h
    refine v8_4 _ _ _ _ _ (condD (fun hc => by omega) fun _ => law8 hl (fun m hm => ?_) hn)
    obtain ⟨j, hj, rfl⟩ := List.getElem_of_mem hm
    have := h j (by omega)
    rwa [List.getD_eq_getElem?_getD, List.getElem?_eq_getElem hj] at this
  | succ k ih =>
    intro i hk h
    have hin : (0 : Int) ≤ (i : Int) ∧ (i : Int) < (l.length : Int) := ⟨by omega, by omega⟩
    refine v8_4 _ _ _ _ _ (condD (fun hc => needJ hin ?_) fun hc => by omega)
    rw [Int.toNat_natCast]
    refine ASpec.call (largeM_spec _ _) (Les.refl _) ⟨_, rfl, rfl, condB (fun _ => ASpec.call (awake_spec _) (Les.refl _) ⟨(), rfl, rfl, pb rfl⟩) fun h1 => ?_⟩
    rw [succ64 (by omega)]
    refine ih (i + 1) (by omega) (fun j hj => ?_)
    rcases Nat.lt_or_ge j i with hj2 | hj2
    · exact h j hj2
    · have : j = i := by omega
      subst this
      exact largeM_ok h1

theorem depotOf_spec (l : List Mani) (s : List UInt8) : ASpec Try.prog 8 [slM l, .str (B s)] [] (fun r H' => r = .bool true ∧ H' = []) := by
  refine ASpec.sel ?_
  show ASpec Try.prog 8 [slM l, .str (B s)] [] (PB true)
  refine s8 _ _ _ (condD (fun _ => ASpec.call (awake_spec _) (Les.refl _) ⟨(), rfl, rfl, pb rfl⟩) fun h1 => condD (fun _ => ASpec.call (awake_spec _) (Les.refl _) ⟨(), rfl, rfl, pb rfl⟩) fun h2 => ?_)
  rw [B_size] at h2
  exact law4 (by omega) (by unfold lim; omega) l.length 0 (by omega) (fun j hj => by omega)
end Dp
end

section
/- The codecs of this seat's plain arguments. -/

open Go Go.Ab Go.Proofs
namespace Go.Ab

noncomputable def cInt : Codec Try.prog 3 Int := Codec.int .i64 Try.underlying3
noncomputable def cStr : Codec Try.prog 9 ByteArray := Codec.str Try.underlying9
noncomputable def cInts : Codec Try.prog 153 (List Int) := Codec.slice (sz := 1) cInt Try.underlying153 (by kernel_rfl) (by omega) (fun _ => rfl)
/-- a byte -/
noncomputable def cByte : Codec Try.prog 5 UInt8 where
  enc b := encB b
  ok _ := True
  dflt := 0
  opens := by
    intro H e w fuel cs x h
    obtain ⟨n, h1, h2⟩ := (Codec.int .u8 Try.underlying5).opens e w fuel cs x h
    have hn : 0 ≤ n ∧ n ≤ 255 := by simpa [Codec.int, Lit.wf, IntKind.min, IntKind.max, IntKind.signed, IntKind.bits] using h1
    refine ⟨UInt8.ofNat n.toNat, trivial, ?_⟩
    rw [← encB_ofNat hn.1 (by omega)]
    exact h2
noncomputable def cBytes : Codec Try.prog 23 (List UInt8) := Codec.slice (sz := 1) cByte Try.underlying23 (by kernel_rfl) (by omega) (fun _ => rfl)

end Go.Ab
end

section
/- The codecs of manifests. -/

open Go Go.Ab Go.Proofs
namespace Go.Ab

noncomputable def cName : Codec Try.prog 9 (List UInt8) := cStr.iso (fun s => s.data.toList) (fun l => [.str ⟨l.toArray⟩]) (fun _ => True) (fun _ => rfl) (fun _ _ => trivial)
noncomputable def cSpan : Codec Try.prog 200 T.Span :=
  (Codec.struct (n := 2) Try.underlying200 (FC.cons (k := 1) (n := 1) cInt rfl (by kernel_rfl) (FC.cons (k := 1) (n := 0) cInt rfl (by kernel_rfl) FC.nil)) (by kernel_rfl)).iso (fun x => (x.1, x.2.1)) T.encS (fun _ => True) (fun _ => rfl) (fun _ _ => trivial)
noncomputable def cSpans : Codec Try.prog 38 (List T.Span) := Codec.slice (sz := 2) cSpan Try.underlying38 (by kernel_rfl) (by omega) (fun _ => rfl)
noncomputable def cNeed : Codec Try.prog 290 T.Need :=
  (Codec.struct (n := 2) Try.underlying290 (FC.cons (k := 1) (n := 1) cName rfl (by kernel_rfl) (FC.cons (k := 1) (n := 0) cSpans rfl (by kernel_rfl) FC.nil)) (by kernel_rfl)).iso (fun x => (x.1, x.2.1)) T.encN (fun _ => True) (fun _ => rfl) (fun _ _ => trivial)
noncomputable def cNeeds : Codec Try.prog 66 (List T.Need) := Codec.slice (sz := 2) cNeed Try.underlying66 (by kernel_rfl) (by omega) (fun _ => rfl)
noncomputable def cRel : Codec Try.prog 177 T.Rel :=
  (Codec.struct (n := 2) Try.underlying177 (FC.cons (k := 1) (n := 1) cInt rfl (by kernel_rfl) (FC.cons (k := 1) (n := 0) cNeeds rfl (by kernel_rfl) FC.nil)) (by kernel_rfl)).iso (fun x => (x.1, x.2.1)) T.encR (fun _ => True) (fun _ => rfl) (fun _ _ => trivial)
noncomputable def cRels : Codec Try.prog 90 (List T.Rel) := Codec.slice (sz := 2) cRel Try.underlying90 (by kernel_rfl) (by omega) (fun _ => rfl)
noncomputable def cMani : Codec Try.prog 92 T.Mani :=
  (Codec.struct (n := 2) Try.underlying92 (FC.cons (k := 1) (n := 1) cName rfl (by kernel_rfl) (FC.cons (k := 1) (n := 0) cRels rfl (by kernel_rfl) FC.nil)) (by kernel_rfl)).iso (fun x => (x.1, x.2.1)) T.encM (fun _ => True) (fun _ => rfl) (fun _ _ => trivial)

end Go.Ab
end

section
/- The codecs of lists of entries and of manifests. -/

open Go Go.Ab Go.Proofs
namespace Go.Ab
noncomputable def cEnt : Codec Try.prog 163 T.Ent :=
  (Codec.struct (n := 2) Try.underlying163 (FC.cons (k := 1) (n := 1) cName rfl (by kernel_rfl) (FC.cons (k := 1) (n := 0) cBytes rfl (by kernel_rfl) FC.nil)) (by kernel_rfl)).iso (fun x => (x.1, x.2.1)) T.encEn (fun _ => True) (fun _ => rfl) (fun _ _ => trivial)
noncomputable def cEnts : Codec Try.prog 52 (List T.Ent) := Codec.slice (sz := 2) cEnt Try.underlying52 (by kernel_rfl) (by omega) (fun _ => rfl)
noncomputable def cManis : Codec Try.prog 101 (List T.Mani) := Codec.slice (sz := 2) cMani Try.underlying101 (by kernel_rfl) (by omega) (fun _ => rfl)
end Go.Ab
end

section
/- What is asked of the program alone, once for all statements. -/

namespace Go.Proofs.Facts
open Go Go.Proofs
theorem andT {a b : Bool} (h : a = true) (k : b = true) : (a && b) = true := by rw [h, k]; rfl
theorem laid : laidOutB Try.prog = true := by kernel_rfl
theorem mapsRowed : Go.mapsRowed Try.prog = true := by kernel_rfl
theorem stops : (Try.prog.stops == []) = true := by kernel_rfl
theorem stopKnobs : (Try.prog.stopKnobs == []) = true := by kernel_rfl
theorem heard : Try.prog.stopsHeard = true := by kernel_rfl
theorem may : Try.prog.mayEnter = true := by kernel_rfl
theorem lifted : (false == Try.prog.liftsFinal) = true := by kernel_rfl
theorem plain : (true == Try.prog.plainKeys) = true := by kernel_rfl
theorem made : (Try.prog.make == some .cut) = true := by kernel_rfl
theorem own : ownKnob Try.prog.godebug = none := by kernel_rfl
end Go.Proofs.Facts
end
