/- Manifests as bytes: what the code puts, and the document. -/
import Derived.Test.YtifbfcljgagacaaVWire
import Derived.Test.YtifbfcljgagacaaVMani
set_option linter.unusedVariables false
set_option linter.unusedSimpArgs false
set_option maxRecDepth 100000
open Go Go.Ab Go.Proofs V S T C
namespace W

def numB (x : Int) : List UInt8 := enc (held x)
def text (s : List UInt8) : List UInt8 := enc (held s.length) ++ s
def spanB (s : Span) : List UInt8 := numB s.1 ++ numB (IntKind.wrap .i64 (s.2 - s.1))
def needB (n : Need) : List UInt8 := text n.1 ++ numB n.2.length ++ n.2.flatMap spanB
def relB (r : Rel) : List UInt8 := numB r.1 ++ numB r.2.length ++ r.2.flatMap needB
def maniB (m : Mani) : List UInt8 := text m.1 ++ numB m.2.length ++ m.2.flatMap relB
def putMan (m : Mani) : List UInt8 := if manOk m = true then maniB m else []

theorem numB_len (x : Int) : (numB x).length ≤ 6 := enc_length _ (held_le _)
theorem text_len (s : List UInt8) : (text s).length ≤ s.length + 6 := by
  have := enc_length (held s.length) (held_le _)
  simp [text]; omega

theorem flat_len {α : Type} (f : α → List UInt8) (k : Nat) : ∀ (l : List α), (∀ x ∈ l, (f x).length ≤ k) → (l.flatMap f).length ≤ l.length * k
  | [], _ => by simp
  | x :: r, h => by
    have h1 := h x (by simp)
    have h2 := flat_len f k r (fun y hy => h y (by simp [hy]))
    rw [List.flatMap_cons, List.length_append, List.length_cons, Nat.add_mul]
    omega

theorem spanB_len (s : Span) : (spanB s).length ≤ 12 := by
  have h1 := numB_len s.1
  have h2 := numB_len (IntKind.wrap .i64 (s.2 - s.1))
  simp only [spanB, List.length_append]; omega

theorem needB_len {n : Need} (h1 : n.1.length ≤ 24) (h2 : n.2.length ≤ 6) : (needB n).length ≤ 108 := by
  have a := text_len n.1
  have b := numB_len n.2.length
  have c := flat_len spanB 12 n.2 (fun x _ => spanB_len x)
  have d : n.2.length * 12 ≤ 6 * 12 := Nat.mul_le_mul_right _ h2
  simp only [needB, List.length_append]; omega

theorem needsF_ok : ∀ (l : List Need) (last : List UInt8), needsF last l = true → ∀ n ∈ l, n.1.length ≤ 24 ∧ n.2.length ≤ 6 ∧ spanOk n.2 = true ∧ fitM n.1 = true
  | [], _, _, n, hn => by simp at hn
  | x :: r, last, h, n, hn => by
    simp only [needsF] at h
    split at h
    · cases h
    · rename_i hh
      rcases List.mem_cons.1 hn with rfl | hn
      · have hf : fitM n.1 = true := by
          cases hq : fitM n.1 with
          | true => rfl
          | false => exact (hh (.inl hq)).elim
        have hs : spanOk n.2 = true := by
          cases hq : spanOk n.2 with
          | true => rfl
          | false => exact (hh (.inr (.inr (.inr hq)))).elim
        exact ⟨fitM_short hf, by omega, hs, hf⟩
      · exact needsF_ok r _ h n hn

theorem needOk_ok {l : List Need} (h : needOk l = true) : l.length ≤ 6 ∧ ∀ n ∈ l, n.1.length ≤ 24 ∧ n.2.length ≤ 6 ∧ spanOk n.2 = true ∧ fitM n.1 = true := by
  unfold needOk at h
  rw [Bool.and_eq_true] at h
  exact ⟨of_decide_eq_true h.2, needsF_ok l _ h.1⟩

theorem relB_len {r : Rel} (h : needOk r.2 = true) : (relB r).length ≤ 660 := by
  obtain ⟨h1, h2⟩ := needOk_ok h
  have a := numB_len r.1
  have b := numB_len r.2.length
  have c := flat_len needB 108 r.2 (fun x hx => needB_len (h2 x hx).1 (h2 x hx).2.1)
  have d : r.2.length * 108 ≤ 6 * 108 := Nat.mul_le_mul_right _ h1
  simp only [relB, List.length_append]; omega

theorem relF_ok : ∀ (l : List Rel) (e : Int), relF e l = true → ∀ r ∈ l, needOk r.2 = true ∧ e < r.1 ∧ r.1 < 1000000000
  | [], _, _, n, hn => by simp at hn
  | x :: r, e, h, n, hn => by
    simp only [relF] at h
    split at h
    · cases h
    · rename_i hh
      rcases List.mem_cons.1 hn with rfl | hn
      · refine ⟨?_, by omega, by omega⟩
        cases hq : needOk n.2 with
        | true => rfl
        | false => exact (hh (.inr (.inr hq))).elim
      · have := relF_ok r _ h n hn
        exact ⟨this.1, by omega, this.2.2⟩

theorem manOk_ok {m : Mani} (h : manOk m = true) : fitM m.1 = true ∧ m.1.length ≤ 24 ∧ m.2.length ≤ 8 ∧ ∀ r ∈ m.2, needOk r.2 = true ∧ -1 < r.1 ∧ r.1 < 1000000000 := by
  unfold manOk at h
  rw [Bool.and_eq_true, Bool.and_eq_true] at h
  exact ⟨h.2.1, fitM_short h.2.1, of_decide_eq_true h.2.2, relF_ok _ _ h.1⟩

theorem maniB_len {m : Mani} (h : manOk m = true) : (maniB m).length ≤ 5316 := by
  obtain ⟨-, h1, h2, h3⟩ := manOk_ok h
  have a := text_len m.1
  have b := numB_len m.2.length
  have c := flat_len relB 660 m.2 (fun x hx => relB_len (h3 x hx).1)
  have d : m.2.length * 660 ≤ 8 * 660 := Nat.mul_le_mul_right _ h2
  simp only [maniB, List.length_append]; omega

theorem lenL {α : Type} {a c P : List α} (h : a ++ c = P) : a.length ≤ P.length := by rw [← h]; simp

theorem leTwo (a b : Int) : Le (.sl 1 (.raw [[.int .i64 a], [.int .i64 b]]) .full) (.sl 1 (.map encI 0 [a, b]) .none) := Le.sl rfl (.inl rfl) (.inr rfl)
theorem leTok {l : List UInt8} {t : Tip} : Le (.sl 1 (.map encB 0 l) t) (.sl 1 (.map encB 0 l) .none) := Le.sl rfl (.inl rfl) (.inr rfl)
theorem put1M (b : List UInt8) (x : Int) : putM b [x] = b ++ numB x := by simp [putM, numB]
theorem put2M (b : List UInt8) (x y : Int) : putM b [x, y] = b ++ (numB x ++ numB y) := by simp [putM, numB]

section
variable {Post : AV → List AObj → Prop}

abbrev sl1 (b : List UInt8) : AV := .sl 1 (.map encB 0 b) .none
noncomputable abbrev slR (l : List Rel) : AV := .sl 2 (.map T.encR (0, []) l) .none
noncomputable abbrev slN (l : List Need) : AV := .sl 2 (.map encN ([], []) l) .none
noncomputable abbrev slS (l : List Span) : AV := .sl 2 (.map encS (0, 0) l) .none

theorem p13 {rs : List Rel} {ns : List Need} {ss : List Span} {n i i2 : Int} {n2 : Int} (hs : ss.length ≤ lim) {P : List UInt8} (hP : P.length ≤ 100000)
    (k : AWP Try.prog 73 0 c42_9 [(3, sl1 P), (22, slR rs), (23, .int .i64 n), (24, .int .i64 i), (37, slN ns), (38, .int .i64 n2), (39, .int .i64 (IntKind.wrap .i64 (i2 + 1)))] [] (q42_6 0 Post)) :
    ∀ (m j : Nat) (b : List UInt8), m + j = ss.length → b ++ (ss.drop j).flatMap spanB = P →
    AWP Try.prog 73 0 c42_13 [(3, sl1 b), (22, slR rs), (23, .int .i64 n), (24, .int .i64 i), (37, slN ns), (38, .int .i64 n2), (39, .int .i64 i2), (53, slS ss), (54, .int .i64 ss.length), (55, .int .i64 j)] [] (q42_10 0 Post) := by
  unfold lim at hs
  intro m
  induction m with
  | zero =>
    intro j b hm h
    refine v42_13 _ _ _ _ _ _ _ _ _ _ _ _ (condD (fun hc => by omega) fun _ => ?_)
    rw [List.drop_eq_nil_of_le (by omega)] at h
    simp only [List.flatMap_nil, List.append_nil] at h
    subst h; exact k
  | succ m ih =>
    intro j b hm h
    have hbl : b.length ≤ P.length := lenL h
    rw [dropD ss (0, 0) j (by omega), List.flatMap_cons, ← List.append_assoc] at h
    refine v42_13 _ _ _ _ _ _ _ _ _ _ _ _ (condD (fun hc => needJ ⟨by omega, by omega⟩ ?_) fun hc => by omega)
    rw [Int.toNat_natCast]
    generalize ss.getD j (0, 0) = x at h ⊢
    refine put_spec' (bs := b) (ns := [x.1, IntKind.wrap .i64 (x.2 - x.1)]) ⟨Le.refl _, leTwo _ _, trivial⟩ (by unfold big; simp; omega) ⟨_, rfl, rfl, ?_⟩
    rw [put2M]
    rw [succ64 (by omega)]
    exact AWP.shape [] [(3, sl1 (b ++ spanB x)), (22, slR rs), (23, .int .i64 n), (24, .int .i64 i), (37, slN ns), (38, .int .i64 n2), (39, .int .i64 i2), (53, slS ss), (54, .int .i64 ss.length), (55, .int .i64 (j + 1 : Nat))] [] Sel.none
      ⟨rfl, sealLe _ rfl, rfl, Le.refl _, rfl, Le.refl _, rfl, Le.refl _, rfl, Le.refl _, rfl, Le.refl _, rfl, Le.refl _, rfl, Le.refl _, rfl, Le.refl _, rfl, Le.refl _, trivial⟩ (ih (j + 1) _ (by omega) h)

theorem p9 {rs : List Rel} {ns : List Need} {n i : Int} (hs : ∀ x ∈ ns, x.2.length ≤ lim ∧ x.1.length ≤ lim) (hn : ns.length ≤ lim) {P : List UInt8} (hP : P.length ≤ 100000)
    (k : AWP Try.prog 73 0 c42_5 [(3, sl1 P), (22, slR rs), (23, .int .i64 n), (24, .int .i64 (IntKind.wrap .i64 (i + 1)))] [] (q42_2 0 Post)) :
    ∀ (m j : Nat) (b : List UInt8), m + j = ns.length → b ++ (ns.drop j).flatMap needB = P →
    AWP Try.prog 73 0 c42_9 [(3, sl1 b), (22, slR rs), (23, .int .i64 n), (24, .int .i64 i), (37, slN ns), (38, .int .i64 ns.length), (39, .int .i64 j)] [] (q42_6 0 Post) := by
  unfold lim at hs hn
  intro m
  induction m with
  | zero =>
    intro j b hm h
    refine v42_9 _ _ _ _ _ _ _ _ _ (condD (fun hc => by omega) fun _ => ?_)
    rw [List.drop_eq_nil_of_le (by omega)] at h
    simp only [List.flatMap_nil, List.append_nil] at h
    subst h; exact k
  | succ m ih =>
    intro j b hm h
    have hbl : b.length ≤ P.length := lenL h
    have hx := hs _ (memD ns ([], []) j (by omega))
    rw [dropD ns ([], []) j (by omega), List.flatMap_cons, ← List.append_assoc] at h
    refine v42_9 _ _ _ _ _ _ _ _ _ (condD (fun hc => needJ ⟨by omega, by omega⟩ ?_) fun hc => by omega)
    rw [Int.toNat_natCast]
    generalize ns.getD j ([], []) = x at h hx ⊢
    have hb2 : (b ++ needB x).length ≤ P.length := lenL h
    have hb3 : (b ++ text x.1).length ≤ (b ++ needB x).length := by simp [needB]
    have etx : b ++ enc (held x.1.length) ++ x.1 = b ++ text x.1 := by simp [text]
    refine ASpec.call (text_spec b x.1 (by unfold big; omega) _) (Les.refl _) ⟨b ++ text x.1, by rw [etx]; rfl, rfl, ⟨rfl, rfl⟩, ⟨rfl, rfl⟩, ?_⟩
    refine put_spec' (bs := b ++ text x.1) (ns := [(x.2.length : Int)]) ⟨leTok, leOne _, trivial⟩ (by unfold big; simp only [List.length_cons, List.length_nil]; omega) ⟨_, rfl, rfl, ?_⟩
    rw [put1M]
    refine AWP.shape [] [(3, sl1 (b ++ text x.1 ++ numB x.2.length)), (22, slR rs), (23, .int .i64 n), (24, .int .i64 i), (37, slN ns), (38, .int .i64 ns.length), (39, .int .i64 j), (53, slS x.2), (54, .int .i64 x.2.length), (55, .int .i64 (0 : Nat))] [] Sel.none
      ⟨rfl, sealLe _ rfl, rfl, Le.refl _, rfl, Le.refl _, rfl, Le.refl _, rfl, Le.refl _, rfl, Le.refl _, rfl, Le.refl _, rfl, Le.refl _, rfl, Le.refl _, rfl, Le.refl _, trivial⟩ ?_
    refine p13 (P := b ++ needB x) (by unfold lim; omega) (by omega) ?_ x.2.length 0 _ (by omega) (by simp [needB])
    rw [succ64 (by omega)]
    exact ih (j + 1) _ (by omega) h

theorem p5 {rs : List Rel} (hs : ∀ r ∈ rs, okN r.2) (hn : rs.length ≤ lim) {P : List UInt8} (hP : P.length ≤ 100000) (h : Post (sl1 P) []) :
    ∀ (m j : Nat) (b : List UInt8), m + j = rs.length → b ++ (rs.drop j).flatMap relB = P →
    AWP Try.prog 73 0 c42_5 [(3, sl1 b), (22, slR rs), (23, .int .i64 rs.length), (24, .int .i64 j)] [] (q42_2 0 Post) := by
  unfold lim at hn
  intro m
  induction m with
  | zero =>
    intro j b hm hb
    refine v42_5 _ _ _ _ _ _ (condD (fun hc => by omega) fun _ => ?_)
    rw [List.drop_eq_nil_of_le (by omega)] at hb
    simp only [List.flatMap_nil, List.append_nil] at hb
    subst hb; exact h
  | succ m ih =>
    intro j b hm hb
    have hbl : b.length ≤ P.length := lenL hb
    have hx := hs _ (memD rs (0, []) j (by omega))
    rw [dropD rs (0, []) j (by omega), List.flatMap_cons, ← List.append_assoc] at hb
    refine v42_5 _ _ _ _ _ _ (condD (fun hc => needJ ⟨by omega, by omega⟩ ?_) fun hc => by omega)
    rw [Int.toNat_natCast]
    generalize rs.getD j (0, []) = x at hb hx ⊢
    have hb2 : (b ++ relB x).length ≤ P.length := lenL hb
    refine put_spec' (bs := b) (ns := [x.1, (x.2.length : Int)]) ⟨Le.refl _, leTwo _ _, trivial⟩ (by unfold big; simp; omega) ⟨_, rfl, rfl, ?_⟩
    rw [put2M]
    refine AWP.shape [] [(3, sl1 (b ++ (numB x.1 ++ numB x.2.length))), (22, slR rs), (23, .int .i64 rs.length), (24, .int .i64 j), (37, slN x.2), (38, .int .i64 x.2.length), (39, .int .i64 (0 : Nat))] [] Sel.none
      ⟨rfl, sealLe _ rfl, rfl, Le.refl _, rfl, Le.refl _, rfl, Le.refl _, rfl, Le.refl _, rfl, Le.refl _, rfl, Le.refl _, trivial⟩ ?_
    refine p9 (P := b ++ relB x) (fun y hy => ⟨(hx.2 y hy).2, (hx.2 y hy).1⟩) hx.1 (by omega) ?_ x.2.length 0 _ (by omega) (by simp [relB])
    rw [succ64 (by omega)]
    exact ih (j + 1) _ (by omega) hb

theorem put_spec (m : Mani) (hm : okM m) (H : List AObj) : ASpec Try.prog 42 [.agg (encM m)] H (fun r H' => r = sl1 (putMan m) ∧ H' = H) := by
  have k : ASpec Try.prog 42 [.agg (encM m)] [] (fun r H' => r = sl1 (putMan m) ∧ H' = []) := by
    obtain ⟨hm1, hm2, hm3⟩ := hm
    unfold lim at hm1 hm2
    refine ASpec.sel (s42 _ _ (ASpec.call (maniCheck_spec m ⟨hm1, hm2, hm3⟩ _) (Les.refl _) ⟨_, rfl, rfl, condBn (fun h => ?_) fun h => ?_⟩))
    · refine ⟨[], [], sl1 [], Sel.none, Le.sl (s' := Seq.ren _ (.map encB 0 [])) rfl (.inr ⟨rfl, fun _ h => by cases h⟩) (.inr rfl), ?_, rfl⟩
      rw [putMan, if_neg (by rw [h]; simp)]
    have hlen := maniB_len h
    have hb3 : (text m.1).length ≤ (maniB m).length := by simp [maniB] <;> omega
    have etx : ([] : List UInt8) ++ enc (held m.1.length) ++ m.1 = text m.1 := by simp [text]
    refine ASpec.call (text_spec [] m.1 (by unfold big; simp; omega) _) ⟨leNil, Le.refl _, trivial⟩ ⟨text m.1, by rw [etx]; rfl, rfl, ⟨rfl, rfl⟩, ⟨rfl, rfl⟩, ?_⟩
    refine put_spec' (bs := text m.1) (ns := [(m.2.length : Int)]) ⟨leTok, leOne _, trivial⟩ (by unfold big; simp only [List.length_cons, List.length_nil]; omega) ⟨_, rfl, rfl, ?_⟩
    rw [put1M]
    refine AWP.shape [] [(3, sl1 (text m.1 ++ numB m.2.length)), (22, slR m.2), (23, .int .i64 m.2.length), (24, .int .i64 (0 : Nat))] [] Sel.none
      ⟨rfl, sealLe _ rfl, rfl, Le.refl _, rfl, Le.refl _, rfl, Le.refl _, trivial⟩ ?_
    refine p5 (P := maniB m) hm3 hm2 (by omega) ?_ m.2.length 0 _ (by omega) (by simp [maniB])
    refine ⟨[], [], sl1 (putMan m), Sel.none, ?_, rfl, rfl⟩
    rw [putMan, if_pos h]
    exact sealLe _ rfl
  exact ASpec.pureH H k _ _ rfl rfl

/-! ### the document's -/

theorem d7 {l : List Need} {i : Nat} {x : Need} (hl : l.length ≤ lim) (hi : i < l.length) (hx : l.getD i ([], []) = x) (hxs : x.2.length ≤ lim) {P : List UInt8} (hP : P.length ≤ 100000)
    (k : AWP Try.prog 63 0 c107_3 [(0, slN l), (3, .str (B P)), (4, .int .i64 (i + 1 : Nat))] [] (q107_2 0 Post)) :
    ∀ (m j : Nat) (b : List UInt8), m + j = x.2.length → b ++ (x.2.drop j).flatMap spanB = P →
    AWP Try.prog 63 0 c107_7 [(0, slN l), (3, .str (B b)), (4, .int .i64 i), (5, .int .i64 j)] [] (q107_6 0 Post) := by
  unfold lim at hl hxs
  have hin : (0 : Int) ≤ (i : Int) ∧ (i : Int) < (l.length : Int) := ⟨by omega, by omega⟩
  intro m
  induction m with
  | zero =>
    intro j b hm h
    refine v107_7 _ _ _ _ _ _ (needJ hin ?_)
    rw [Int.toNat_natCast, hx]
    refine condD (fun hc => by omega) fun _ => ?_
    rw [List.drop_eq_nil_of_le (by omega)] at h
    simp only [List.flatMap_nil, List.append_nil] at h
    subst h
    rw [succ64 (by omega)]; exact k
  | succ m ih =>
    intro j b hm h
    have hbl : b.length ≤ P.length := lenL h
    rw [dropD x.2 (0, 0) j (by omega), List.flatMap_cons, ← List.append_assoc] at h
    refine v107_7 _ _ _ _ _ _ (needJ hin ?_)
    rw [Int.toNat_natCast, hx]
    refine condD (fun hc => needJ hin (needJ ⟨by omega, by omega⟩ ?_)) fun hc => by omega
    rw [Int.toNat_natCast]
    generalize x.2.getD j (0, 0) = y at h ⊢
    have n1 := numB_len y.1
    have n2 := numB_len (IntKind.wrap .i64 (y.2 - y.1))
    refine ASpec.call (rnum_spec y.1 _) (Les.refl _) ⟨B (numB y.1), rfl, rfl, ⟨rfl, rfl⟩, ⟨rfl, rfl⟩, needJ (by rw [B_size, B_size]; omega) ?_⟩
    rw [B_append]
    refine ASpec.call (rnum_spec _ _) (Les.refl _) ⟨B (numB (IntKind.wrap .i64 (y.2 - y.1))), rfl, rfl, needJ (by rw [B_size, B_size, List.length_append]; omega) ?_⟩
    rw [B_append, succ64 (by omega)]
    refine AWP.shape [] [(0, slN l), (3, .str (B (b ++ spanB y))), (4, .int .i64 i), (5, .int .i64 (j + 1 : Nat))] [] Sel.none ⟨rfl, Le.refl _, rfl, ?_, rfl, Le.refl _, rfl, Le.refl _, trivial⟩ (ih (j + 1) _ (by omega) h)
    rw [show b ++ numB y.1 ++ numB (IntKind.wrap .i64 (y.2 - y.1)) = b ++ spanB y by simp [spanB]]
    exact Le.refl _

theorem d3 {l : List Need} (hl : okN l) {P : List UInt8} (hP : P.length ≤ 100000) (h : Post (.str (B P)) []) :
    ∀ (m i : Nat) (b : List UInt8), m + i = l.length → b ++ (l.drop i).flatMap needB = P →
    AWP Try.prog 63 0 c107_3 [(0, slN l), (3, .str (B b)), (4, .int .i64 i)] [] (q107_2 0 Post) := by
  obtain ⟨hl1, hl2⟩ := hl
  unfold lim at hl1
  intro m
  induction m with
  | zero =>
    intro i b hm hb
    refine v107_3 _ _ _ _ _ (condD (fun hc => by omega) fun _ => ?_)
    rw [List.drop_eq_nil_of_le (by omega)] at hb
    simp only [List.flatMap_nil, List.append_nil] at hb
    subst hb; exact h
  | succ m ih =>
    intro i b hm hb
    have hin : (0 : Int) ≤ (i : Int) ∧ (i : Int) < (l.length : Int) := ⟨by omega, by omega⟩
    have hbl : b.length ≤ P.length := lenL hb
    have hx := hl2 _ (memD l ([], []) i (by omega))
    rw [dropD l ([], []) i (by omega), List.flatMap_cons, ← List.append_assoc] at hb
    refine v107_3 _ _ _ _ _ (condD (fun hc => needJ hin (needJ hin ?_)) fun hc => by omega)
    rw [Int.toNat_natCast]
    generalize hxe : l.getD i ([], []) = x at hb hx ⊢
    have hb2 : (b ++ needB x).length ≤ P.length := lenL hb
    have hb3 : (b ++ text x.1).length ≤ (b ++ needB x).length := by simp [needB]
    have hb4 : (text x.1).length ≤ (b ++ text x.1).length := by simp
    have hb5 : x.1.length ≤ (text x.1).length := by simp [text]
    have n1 := numB_len x.2.length
    refine ASpec.call (rtext_spec x.1 (by unfold big; omega) _) (Les.refl _) ⟨B (text x.1), rfl, rfl, ⟨rfl, rfl⟩, ⟨rfl, rfl⟩, needJ (by rw [B_size, B_size]; omega) ?_⟩
    rw [B_append]
    refine ASpec.call (rnum_spec _ _) (Les.refl _) ⟨B (numB x.2.length), rfl, rfl, needJ (by rw [B_size, B_size]; omega) ?_⟩
    rw [B_append]
    unfold lim at hx
    exact d7 (x := x) (P := b ++ needB x) (by unfold lim; omega) (by omega) hxe (by unfold lim; omega) (by omega) (ih (i + 1) _ (by omega) hb) x.2.length 0 _ (by omega) (by simp [needB])

theorem dneeds_spec (l : List Need) (hl : okN l) (hP : (numB l.length ++ l.flatMap needB).length ≤ 100000) (H : List AObj) :
    ASpec Try.prog 107 [slN l] H (fun r H' => r = .str (B (numB l.length ++ l.flatMap needB)) ∧ H' = H) := by
  have k : ASpec Try.prog 107 [slN l] [] (fun r H' => r = .str (B (numB l.length ++ l.flatMap needB)) ∧ H' = []) :=
    s107 _ _ (ASpec.call (rnum_spec _ _) (Les.refl _) ⟨B (numB l.length), rfl, rfl, d3 hl hP ⟨rfl, rfl⟩ l.length 0 _ (by omega) rfl⟩)
  exact ASpec.pureH H k _ _ rfl rfl

theorem d5 {m : Mani} (hm : okM m) {P : List UInt8} (hP : P.length ≤ 100000) (h : Post (.str (B P)) [.cells (encM m)]) :
    ∀ (k i : Nat) (b : List UInt8), k + i = m.2.length → b ++ (m.2.drop i).flatMap relB = P →
    AWP Try.prog 41 0 c43_5 [(1, .ptr 0 0), (3, .str (B b)), (4, .int .i64 i)] [.cells (encM m)] (q43_2 0 Post) := by
  obtain ⟨hm1, hm2, hm3⟩ := hm
  unfold lim at hm2
  intro k
  induction k with
  | zero =>
    intro i b hk hb
    refine v43_5 _ _ _ _ _ (condD (fun hc => by omega) fun _ => ?_)
    rw [List.drop_eq_nil_of_le (by omega)] at hb
    simp only [List.flatMap_nil, List.append_nil] at hb
    subst hb; exact h
  | succ k ih =>
    intro i b hk hb
    have hin : (0 : Int) ≤ (i : Int) ∧ (i : Int) < (m.2.length : Int) := ⟨by omega, by omega⟩
    have hbl : b.length ≤ P.length := lenL hb
    have hx := hm3 _ (memD m.2 (0, []) i (by omega))
    rw [dropD m.2 (0, []) i (by omega), List.flatMap_cons, ← List.append_assoc] at hb
    refine v43_5 _ _ _ _ _ (condD (fun hc => needJ hin (needJ hin ?_)) fun hc => by omega)
    rw [Int.toNat_natCast]
    generalize m.2.getD i (0, []) = x at hb hx ⊢
    have hb2 : (b ++ relB x).length ≤ P.length := lenL hb
    have hb3 : b.length + (numB x.1).length + (numB x.2.length ++ x.2.flatMap needB).length = (b ++ relB x).length := by simp [relB]; omega
    refine ASpec.call (rnum_spec x.1 _) (Les.refl _) ⟨B (numB x.1), rfl, rfl, ⟨rfl, rfl⟩, ⟨rfl, rfl⟩, needJ (by rw [B_size, B_size]; omega) ?_⟩
    rw [B_append]
    refine ASpec.call (dneeds_spec x.2 hx (by omega) _) (Les.refl _) ⟨_, rfl, rfl, needJ (by rw [B_size, B_size, List.length_append]; omega) ?_⟩
    rw [B_append, succ64 (by omega)]
    refine ih (i + 1) _ (by omega) ?_
    rw [← hb]
    simp [relB]

theorem rput_spec (m : Mani) (hm : okM m) (H : List AObj) : ASpec Try.prog 43 [.agg (encM m)] H (fun r H' => r = .str (B (putMan m)) ∧ H' = H) := by
  have k : ASpec Try.prog 43 [.agg (encM m)] [] (fun r H' => r = .str (B (putMan m)) ∧ H' = []) := by
    have hm' := hm
    obtain ⟨hm1, hm2, hm3⟩ := hm
    unfold lim at hm1 hm2
    have fin : ∀ (b : List UInt8) (H' : List AObj), b = putMan m → ∃ l H2 r2, Sel 0 l H' H2 ∧ Le (.str (B b)) (AV.ren (selR l H'.length) r2) ∧ r2 = .str (B (putMan m)) ∧ H2 = [] := by
      intro b H' e; subst e
      exact ⟨[], [], .str (B (putMan m)), Sel.none, Le.refl _, rfl, rfl⟩
    refine ASpec.sel (s43 _ _ (ASpec.call (rmaniCheck_spec m hm' _) (Les.refl _) ⟨_, rfl, rfl, condBn (fun h => ?_) fun h => ?_⟩))
    · exact fin [] _ (by rw [putMan, if_neg (by rw [h]; simp)])
    have hlen := maniB_len h
    have hb3 : (text m.1).length + (numB m.2.length).length ≤ (maniB m).length := by simp [maniB] <;> omega
    have hb5 : m.1.length ≤ (text m.1).length := by simp [text]
    refine ASpec.call (rtext_spec m.1 (by unfold big; omega) _) (Les.refl _) ⟨B (text m.1), rfl, rfl, ⟨rfl, rfl⟩, ⟨rfl, rfl⟩, ?_⟩
    refine ASpec.call (rnum_spec _ _) (Les.refl _) ⟨B (numB m.2.length), rfl, rfl, needJ (by rw [B_size, B_size]; omega) ?_⟩
    rw [B_append]
    exact d5 hm' (P := maniB m) (by omega) (fin _ _ (by rw [putMan, if_pos h])) m.2.length 0 _ (by omega) (by simp [maniB])
  exact ASpec.pureH H k _ _ rfl rfl

end
end W
