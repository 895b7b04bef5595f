/- What was put of a manifest is read; what is read is put so. -/
import Derived.Test.YtifbfcljgagacaaVWDoc
import Derived.Test.YtifbfcljgagacaaVSBack
set_option linter.unusedVariables false
set_option linter.unusedSimpArgs false
set_option maxRecDepth 100000
open Go Go.Ab Go.Proofs V S T C
namespace W

/-! ### what was put is read -/

def Back {α : Type} (bytes : α → List UInt8) (one : List UInt8 → Nat → Int → α × Nat × Int) (x : α) : Prop :=
  ∀ pre rest, one (pre ++ bytes x ++ rest) pre.length 0 = (x, pre.length + (bytes x).length, 0)

theorem num_back {x most : Int} (h0 : 0 ≤ x) (h1 : x ≤ most) (h2 : most ≤ 1099511627776) : Back numB (fun bs p e => numM bs p e most) x := by
  intro pre rest
  have hh := held_of (x := x) h0 (by omega)
  have hd : (pre ++ numB x ++ rest).drop pre.length = enc (held x) ++ rest := by rw [List.append_assoc, List.drop_left]; rfl
  simp only [numM, if_neg (show ¬ ((0 : Int) ≠ 0) by simp), hd, look_enc rest (v := held x) (most := most) (held_le x) (by omega)]
  rw [hh]; rfl

theorem text_back {s : List UInt8} {most : Int} (h : (s.length : Int) ≤ most) (hl : s.length ≤ 1000000) : Back text (fun bs p e => strM bs p e most) s :=
  fun pre rest => SM.str_back pre s rest most h hl

theorem back2 {α β : Type} {ba : α → List UInt8} {bb : β → List UInt8} {oa : List UInt8 → Nat → Int → α × Nat × Int} {ob : List UInt8 → Nat → Int → β × Nat × Int} {x : α} {y : β}
    (ha : Back ba oa x) (hb : Back bb ob y) (pre rest : List UInt8) :
    oa (pre ++ (ba x ++ bb y) ++ rest) pre.length 0 = (x, pre.length + (ba x).length, 0) ∧ ob (pre ++ (ba x ++ bb y) ++ rest) (pre.length + (ba x).length) 0 = (y, pre.length + (ba x ++ bb y).length, 0) := by
  have e1 := ha pre (bb y ++ rest)
  have e2 := hb (pre ++ ba x) rest
  simp only [List.append_assoc, List.length_append] at e1 e2 ⊢
  exact ⟨e1, by rw [e2, Nat.add_assoc]⟩

theorem span_back {x : Span} (h0 : 0 ≤ x.1) (h1 : x.1 ≤ 1000000000) (h2 : x.1 ≤ x.2) (h3 : x.2 ≤ 1000000000) : Back spanB spanR x := by
  intro pre rest
  have hw : IntKind.wrap .i64 (x.2 - x.1) = x.2 - x.1 := wrap64 (by omega) (by omega)
  obtain ⟨e1, e2⟩ := back2 (num_back (x := x.1) (most := 1000000000) h0 h1 (by omega)) (num_back (x := IntKind.wrap .i64 (x.2 - x.1)) (most := 1000000000) (by omega) (by omega) (by omega)) pre rest
  simp only [spanR, spanB, e1, e2]
  rw [hw, wrap64 (x := x.1 + (x.2 - x.1)) (by omega) (by omega), show x.1 + (x.2 - x.1) = x.2 by omega]

theorem listR_back {α : Type} {bytes : α → List UInt8} {one : List UInt8 → Nat → Int → α × Nat × Int} : ∀ (l : List α), (∀ x ∈ l, Back bytes one x) → ∀ pre rest,
    listR (one (pre ++ l.flatMap bytes ++ rest)) l.length pre.length 0 = (l, pre.length + (l.flatMap bytes).length, 0)
  | [], _, pre, rest => by simp [listR]
  | x :: r, h, pre, rest => by
    have hx := h x (by simp) pre (r.flatMap bytes ++ rest)
    have hr := listR_back r (fun y hy => h y (by simp [hy])) (pre ++ bytes x) rest
    simp only [List.flatMap_cons, List.append_assoc, List.length_append, List.length_cons] at hx hr ⊢
    simp only [listR, if_pos, hx, hr]
    rw [Nat.add_assoc]

theorem listM_back {α : Type} {bytes : α → List UInt8} {one : List UInt8 → Nat → Int → α × Nat × Int} {most : Int} (l : List α) (h : ∀ x ∈ l, Back bytes one x) (hl : (l.length : Int) ≤ most) (h2 : most ≤ 1099511627776) :
    ∀ pre rest, listM (one (pre ++ (numB l.length ++ l.flatMap bytes) ++ rest)) (pre ++ (numB l.length ++ l.flatMap bytes) ++ rest) pre.length 0 most = (l, pre.length + (numB l.length ++ l.flatMap bytes).length, 0) := by
  intro pre rest
  have e1 := num_back (x := (l.length : Int)) (most := most) (by omega) hl h2 pre (l.flatMap bytes ++ rest)
  have e2 := listR_back l h (pre ++ numB l.length) rest
  simp only [List.append_assoc, List.length_append] at e1 e2 ⊢
  simp only [listM, e1, Int.toNat_natCast, e2]
  rw [Nat.add_assoc]

theorem chkS_ok : ∀ (l : List Span) (e : Int), -1 ≤ e → chkS e l = true → ∀ x ∈ l, 0 ≤ x.1 ∧ x.1 ≤ 1000000000 ∧ x.1 ≤ x.2 ∧ x.2 ≤ 1000000000
  | [], _, _, _, x, hx => by simp at hx
  | y :: r, e, he, h, x, hx => by
    simp only [chkS] at h
    split at h
    · cases h
    · rcases List.mem_cons.1 hx with rfl | hx
      · omega
      · exact chkS_ok r _ (by omega) h x hx

theorem need_back {n : Need} (h1 : n.1.length ≤ 24) (h2 : n.2.length ≤ 6) (h3 : spanOk n.2 = true) : Back needB needR n := by
  intro pre rest
  have hs : ∀ x ∈ n.2, Back spanB spanR x := fun x hx => by
    obtain ⟨a, b, c, d⟩ := chkS_ok n.2 (-1) (by omega) h3 x hx
    exact span_back a b c d
  have e1 := text_back (s := n.1) (most := 24) (by omega) (by omega) pre (numB n.2.length ++ n.2.flatMap spanB ++ rest)
  have e2 := listM_back (most := 6) n.2 hs (by omega) (by omega) (pre ++ text n.1) rest
  simp only [List.append_assoc, List.length_append] at e1 e2
  simp only [needR, needB, List.append_assoc, List.length_append, e1, e2]
  rw [Nat.add_assoc]

theorem rel_back {r : Rel} (h0 : 0 ≤ r.1) (h1 : r.1 ≤ 1000000000) (h2 : needOk r.2 = true) : Back relB relR r := by
  intro pre rest
  obtain ⟨hl, hn⟩ := needOk_ok h2
  have hs : ∀ x ∈ r.2, Back needB needR x := fun x hx => by
    obtain ⟨a, b, c, d⟩ := hn x hx
    exact need_back a b c
  have e1 := num_back (x := r.1) (most := 1000000000) h0 h1 (by omega) pre (numB r.2.length ++ r.2.flatMap needB ++ rest)
  have e2 := listM_back (most := 6) r.2 hs (by omega) (by omega) (pre ++ numB r.1) rest
  simp only [List.append_assoc, List.length_append] at e1 e2
  simp only [relR, relB, List.append_assoc, List.length_append, e1, e2]
  rw [Nat.add_assoc]

theorem mani_back {m : Mani} (h : manOk m = true) : maniR (maniB m) = (m, (maniB m).length, 0) := by
  obtain ⟨-, h1, h2, h3⟩ := manOk_ok h
  have hs : ∀ x ∈ m.2, Back relB relR x := fun x hx => by
    obtain ⟨a, b, c⟩ := h3 x hx
    exact rel_back (by omega) (by omega) a
  have e1 := text_back (s := m.1) (most := 24) (by omega) (by omega) [] (numB m.2.length ++ m.2.flatMap relB)
  have e2 := listM_back (most := 8) m.2 hs (by omega) (by omega) (text m.1) []
  simp only [List.append_assoc, List.length_append, List.nil_append, List.length_nil, Nat.zero_add, List.append_nil] at e1 e2
  simp only [maniR, maniB, List.append_assoc, List.length_append, e1, e2]

theorem maniB_pos (m : Mani) : maniB m ≠ [] := by
  intro h
  have : (enc (held m.1.length)) = [] := by
    simp only [maniB, text, List.append_eq_nil_iff] at h
    exact h.1.1.1
  simp [enc] at this

theorem read_put {m : Mani} (h : manOk m = true) : readM (maniB m) = (m, 0) := by
  have hl := maniB_len h
  rw [readM, if_neg (by omega), mani_back h]
  simp only [Nat.sub_self]
  rw [show closeM 0 0 = 0 from rfl, endM, if_neg (by simp), if_pos h]

/-! ### what is read is put so -/

theorem scan_canon : ∀ (f : Nat) (s : List UInt8) (x i n k : Nat), scan f s x i = .inr (n, k) → (0 < x ∨ s.head? ≠ some 128) → lead x ++ s = enc n ++ s.drop (k - i)
  | 0, s, x, i, n, k, h, _ => by simp [scan] at h
  | f + 1, [], x, i, n, k, h, _ => by simp [scan] at h
  | f + 1, c :: s, x, i, n, k, h, hx => by
    have hc := c.toNat_lt
    simp only [scan] at h
    split at h
    · rename_i hge
      have hk := scan_le _ _ _ _ _ _ h
      have hpos : 0 < x * 128 + c.toNat % 128 := by
        rcases hx with hx | hx
        · omega
        · have : c.toNat ≠ 128 := fun hh => hx (by
            have : c = 128 := UInt8.toNat_inj.1 (by rw [hh]; rfl)
            rw [this]; rfl)
          omega
      have := scan_canon f s _ _ _ _ h (.inl hpos)
      rw [lead_pos hpos, show (x * 128 + c.toNat % 128) / 128 = x by omega, show 128 + (x * 128 + c.toNat % 128) % 128 = c.toNat by omega, UInt8.ofNat_toNat, List.append_assoc, List.singleton_append] at this
      rw [this, show k - i = (k - (i + 1)) + 1 by omega, List.drop_succ_cons]
    · rename_i hlt
      simp only [Sum.inr.injEq, Prod.mk.injEq] at h
      obtain ⟨rfl, rfl⟩ := h
      rw [show i + 1 - i = 1 by omega]
      unfold enc
      rw [show (x * 128 + c.toNat % 128) / 128 = x by omega, show (x * 128 + c.toNat % 128) % 128 = c.toNat by omega, UInt8.ofNat_toNat]
      simp

theorem look_canon {s : List UInt8} {most : Int} (h : (lookM s most).2.2 = 0) : s = numB (lookM s most).1 ++ s.drop (lookM s most).2.1 := by
  cases s with
  | nil => simp [lookM] at h
  | cons c s =>
    simp only [lookM] at h ⊢
    split at h
    · simp at h
    · rename_i hc
      simp only [if_neg hc]
      split at h
      · rename_i e hs
        simp only at h
        subst h
        exact absurd hs (by
          intro hs
          have : ∀ (f : Nat) (s : List UInt8) (x i : Nat), scan f s x i ≠ .inl 0 := by
            intro f
            induction f with
            | zero => intro s x i hh; simp [scan] at hh
            | succ f ih =>
              intro s x i hh
              cases s with
              | nil => simp [scan] at hh
              | cons c s =>
                simp only [scan] at hh
                split at hh
                · exact ih _ _ _ hh
                · cases hh
          exact this _ _ _ _ hs)
      · rename_i n k hs
        split at h
        · simp at h
        · rename_i hn
          simp only [hs, if_neg hn]
          have := scan_canon 6 (c :: s) 0 0 n k hs (.inr (by simpa using hc))
          rw [lead_zero, List.nil_append, Nat.sub_zero] at this
          have hh : held (n : Int) = n := by
            have := held_of (x := (n : Int)) (by omega) (by omega)
            omega
          rw [numB, hh]; exact this

def Canon {α : Type} (bytes : α → List UInt8) (one : List UInt8 → Nat → Int → α × Nat × Int) : Prop :=
  ∀ bs p e, (one bs p e).2.2 = 0 → e = 0 ∧ bs.drop p = bytes (one bs p e).1 ++ bs.drop (one bs p e).2.1

theorem num_canon (most : Int) : Canon numB (fun bs p e => numM bs p e most) := by
  intro bs p e h
  simp only [numM] at h ⊢
  split at h
  · rename_i he; exact absurd h he
  · rename_i he
    simp only [if_neg he]
    refine ⟨by omega, ?_⟩
    rw [← List.drop_drop]
    exact look_canon h

theorem text_canon (most : Int) : Canon text (fun bs p e => strM bs p e most) := by
  intro bs p e h
  simp only [strM] at h ⊢
  split at h
  · rename_i he; exact absurd h he
  rename_i he
  split at h
  · rename_i h1; exact absurd h h1
  rename_i h1
  split at h
  · simp at h
  rename_i h2
  simp only [if_neg he, if_neg h1, if_neg h2]
  refine ⟨by omega, ?_⟩
  have hc := look_canon (s := bs.drop p) (most := most) (by simpa using h1)
  have hl := lookM_le (bs.drop p) most
  generalize lookM (bs.drop p) most = q at h2 hc hl ⊢
  obtain ⟨n, k, er⟩ := q
  simp only at h2 hc hl ⊢
  have hlen : ((bs.drop (p + k)).take n.toNat).length = n.toNat := by
    rw [List.length_take, List.length_drop]; omega
  rw [List.drop_drop] at hc
  rw [hc, text, hlen, show numB n = enc (held (n.toNat : Int)) by rw [numB, show ((n.toNat : Int)) = n by omega], List.append_assoc]
  congr 1
  rw [show bs.drop (p + k + n.toNat) = (bs.drop (p + k)).drop n.toNat by rw [List.drop_drop], List.take_append_drop]

theorem span_canon : Canon spanB spanR := by
  intro bs p e h
  simp only [spanR] at h ⊢
  obtain ⟨h1, h2⟩ := num_canon 1000000000 bs _ _ h
  obtain ⟨h3, h4⟩ := num_canon 1000000000 bs _ _ h1
  have m1 := numM_most bs p e 1000000000 (by omega)
  have m2 := numM_most bs (numM bs p e 1000000000).2.1 (numM bs p e 1000000000).2.2 1000000000 (by omega)
  simp only at h2 h4
  refine ⟨h3, ?_⟩
  rw [h4, h2, spanB]
  generalize (numM bs p e 1000000000).1 = a at m1 ⊢
  generalize numM bs (numM bs p e 1000000000).2.1 (numM bs p e 1000000000).2.2 1000000000 = q at m2 ⊢
  simp only
  rw [wrap64 (x := a + q.1) (by omega) (by omega), wrap64 (x := a + q.1 - a) (by omega) (by omega), show a + q.1 - a = q.1 by omega, List.append_assoc]

theorem listR_canon {α : Type} {bytes : α → List UInt8} {one : List UInt8 → Nat → Int → α × Nat × Int} (hc : Canon bytes one) (bs : List UInt8) : ∀ (k p : Nat) (e : Int), (listR (one bs) k p e).2.2 = 0 →
    e = 0 ∧ (listR (one bs) k p e).1.length = k ∧ bs.drop p = (listR (one bs) k p e).1.flatMap bytes ++ bs.drop (listR (one bs) k p e).2.1
  | 0, p, e, h => by
    simp only [listR] at h ⊢
    exact ⟨h, rfl, by simp⟩
  | k + 1, p, e, h => by
    simp only [listR] at h ⊢
    split at h
    · rename_i he
      simp only [if_pos he]
      obtain ⟨a, b, c⟩ := listR_canon hc bs k _ _ h
      obtain ⟨d, f⟩ := hc bs p e a
      refine ⟨he, by rw [List.length_cons, b], ?_⟩
      rw [f, c, List.flatMap_cons, List.append_assoc]
    · rename_i he
      exact absurd h he

theorem listM_canon {α : Type} {bytes : α → List UInt8} {one : List UInt8 → Nat → Int → α × Nat × Int} (hc : Canon bytes one) {most : Int} (hm : 0 ≤ most) : ∀ bs p e, (listM (one bs) bs p e most).2.2 = 0 →
    e = 0 ∧ bs.drop p = numB (listM (one bs) bs p e most).1.length ++ (listM (one bs) bs p e most).1.flatMap bytes ++ bs.drop (listM (one bs) bs p e most).2.1 := by
  intro bs p e h
  simp only [listM] at h ⊢
  obtain ⟨a, b, c⟩ := listR_canon hc bs _ _ _ h
  obtain ⟨d, f⟩ := num_canon most bs p e a
  have m1 := numM_most bs p e most hm
  simp only at f
  refine ⟨d, ?_⟩
  rw [b, f, c, List.append_assoc, show (((numM bs p e most).1.toNat : Nat) : Int) = (numM bs p e most).1 by omega]

theorem need_canon : Canon needB needR := by
  intro bs p e h
  simp only [needR] at h ⊢
  obtain ⟨a, b⟩ := listM_canon span_canon (by omega) bs _ _ h
  obtain ⟨c, d⟩ := text_canon 24 bs p e a
  simp only at d
  refine ⟨c, ?_⟩
  rw [d, b, needB]
  simp only [List.append_assoc]

theorem rel_canon : Canon relB relR := by
  intro bs p e h
  simp only [relR] at h ⊢
  obtain ⟨a, b⟩ := listM_canon need_canon (by omega) bs _ _ h
  obtain ⟨c, d⟩ := num_canon 1000000000 bs p e a
  simp only at d
  refine ⟨c, ?_⟩
  rw [d, b, relB]
  simp only [List.append_assoc]

theorem mani_canon (bs : List UInt8) (h : (maniR bs).2.2 = 0) : bs = maniB (maniR bs).1 ++ bs.drop (maniR bs).2.1 := by
  simp only [maniR] at h ⊢
  obtain ⟨a, b⟩ := listM_canon rel_canon (by omega) bs _ _ h
  obtain ⟨c, d⟩ := text_canon 24 bs 0 0 a
  simp only [List.drop_zero] at d
  rw [maniB]
  simp only [List.append_assoc] at b ⊢
  rw [← b]; exact d

theorem closeM_zero {e : Int} {n : Nat} (h : closeM e n = 0) : e = 0 ∧ n = 0 := by
  unfold closeM at h
  split at h
  · rename_i he; exact absurd h he
  · split at h
    · simp at h
    · exact ⟨by omega, by omega⟩

theorem put_read {bs : List UInt8} (h : (readM bs).2 = 0) : putMan (readM bs).1 = bs ∧ manOk (readM bs).1 = true := by
  unfold readM at h ⊢
  split at h
  · simp at h
  · rename_i hl
    rw [if_neg hl]
    unfold endM at h ⊢
    split at h
    · rename_i hc; exact absurd h hc
    · rename_i hc
      rw [if_neg hc]
      split at h
      · rename_i hm
        rw [if_pos hm]
        refine ⟨?_, hm⟩
        obtain ⟨h1, h2⟩ := closeM_zero (e := (maniR bs).2.2) (n := bs.length - (maniR bs).2.1) (by simpa using hc)
        have := mani_canon bs h1
        rw [List.drop_eq_nil_of_le (by omega), List.append_nil] at this
        rw [putMan, if_pos hm]
        exact this.symm
      · simp at h

/-! ### the law -/

section
variable {Post : AV → List AObj → Prop}

theorem w8 (bs : List UInt8) (hb : bs.length ≤ 20000) : AWP Try.prog 68 0 c10_8 [(1, sl1 bs)] [] (q10_0 0 (PB true)) := by
  refine v10_8 _ _ _ (ASpec.call (read_spec bs (by omega) _) (Les.refl _) ⟨readM bs, rfl, rfl, condNe (fun _ => ASpec.call (awake_spec _) (Les.refl _) ⟨(), rfl, rfl, pb rfl⟩) fun h => needJ (allBytes_map _) ?_⟩)
  obtain ⟨h1, h2⟩ := put_read h
  refine ASpec.call (put_spec (readM bs).1 (readM_ok bs) _) (Les.refl _) ⟨putMan (readM bs).1, rfl, rfl, needJ (allBytes_map _) ?_⟩
  rw [bytesOf_map, bytesOf_map]
  refine condS (fun _ => ?_) fun h => (h h1).elim
  exact ASpec.call (rmaniCheck_spec (readM bs).1 (readM_ok bs) _) (Les.refl _) ⟨_, rfl, rfl, condB (fun _ => ASpec.call (awake_spec _) (Les.refl _) ⟨(), rfl, rfl, pb rfl⟩) fun h => by rw [h2] at h; cases h⟩

theorem w8' (bs : List UInt8) (hb : bs.length ≤ 20000) (H : List AObj) : AWP Try.prog 68 0 c10_8 [(1, sl1 bs)] H (q10_0 0 (PB true)) :=
  AWP.shape [] [(1, sl1 bs)] [] Sel.none ⟨rfl, sealLe _ rfl, trivial⟩ (w8 bs hb)

theorem wireBack_spec (m : Mani) (bs : List UInt8) : ASpec Try.prog 10 [.agg (encM m), sl1 bs] [] (fun r H' => r = .bool true ∧ H' = []) := by
  refine endT (s10 _ _ _ (condD (fun _ => ASpec.call (awake_spec _) (Les.refl _) ⟨(), rfl, rfl, pb rfl⟩) fun hb => ?_))
  refine v10_3 _ _ _ _ (ASpec.call (largeM_spec m _) (Les.refl _) ⟨_, rfl, rfl, condBn (fun hm => ?_) fun _ => w8' bs (by omega) _⟩)
  have hok := largeM_ok hm
  refine ASpec.call (rmaniCheck_spec m hok _) (Les.refl _) ⟨_, rfl, rfl, condB (fun h => ?_) fun _ => w8' bs (by omega) _⟩
  have hp : putMan m = maniB m := by rw [putMan, if_pos h]
  have hl := maniB_len h
  have hpos : 0 < (maniB m).length := List.length_pos_iff.2 (maniB_pos m)
  refine ASpec.call (put_spec m hok _) (Les.refl _) ⟨putMan m, rfl, rfl, ?_⟩
  rw [hp]
  refine ASpec.call (read_spec (maniB m) (by omega) _) (Les.refl _) ⟨readM (maniB m), rfl, rfl, ?_⟩
  rw [read_put h]
  refine condNe (fun h => (h rfl).elim) fun _ => ?_
  refine ASpec.call (sameM_spec m m hok _) (Les.refl _) ⟨true, by simp, rfl, condBn (fun h => by cases h) fun _ => ?_⟩
  exact condD (fun hc => by omega) fun _ => condE (fun hc => by omega) fun _ => w8' bs (by omega) _

end
end W
