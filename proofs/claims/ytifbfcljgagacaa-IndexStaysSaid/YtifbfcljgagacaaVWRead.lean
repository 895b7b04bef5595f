/- Manifests out of bytes: what the code reads. -/
import Derived.Test.YtifbfcljgagacaaVWPut
import Derived.Test.YtifbfcljgagacaaAbTok
set_option linter.unusedVariables false
set_option linter.unusedSimpArgs false
set_option maxRecDepth 100000
open Go Go.Ab Go.Proofs V S T C
namespace W

/-! ### the model -/

def spanR (bs : List UInt8) (p : Nat) (e : Int) : Span × Nat × Int :=
  (((numM bs p e 1000000000).1, IntKind.wrap .i64 ((numM bs p e 1000000000).1 + (numM bs (numM bs p e 1000000000).2.1 (numM bs p e 1000000000).2.2 1000000000).1)),
    (numM bs (numM bs p e 1000000000).2.1 (numM bs p e 1000000000).2.2 1000000000).2)

def listR {α : Type} (one : Nat → Int → α × Nat × Int) : Nat → Nat → Int → List α × Nat × Int
  | 0, p, e => ([], p, e)
  | k + 1, p, e => if e = 0 then ((one p e).1 :: (listR one k (one p e).2.1 (one p e).2.2).1, (listR one k (one p e).2.1 (one p e).2.2).2) else ([], p, e)

def listM {α : Type} (one : Nat → Int → α × Nat × Int) (bs : List UInt8) (p : Nat) (e most : Int) : List α × Nat × Int :=
  listR one (numM bs p e most).1.toNat (numM bs p e most).2.1 (numM bs p e most).2.2

def needR (bs : List UInt8) (p : Nat) (e : Int) : Need × Nat × Int :=
  (((strM bs p e 24).1, (listM (spanR bs) bs (strM bs p e 24).2.1 (strM bs p e 24).2.2 6).1), (listM (spanR bs) bs (strM bs p e 24).2.1 (strM bs p e 24).2.2 6).2)

def relR (bs : List UInt8) (p : Nat) (e : Int) : Rel × Nat × Int :=
  (((numM bs p e 1000000000).1, (listM (needR bs) bs (numM bs p e 1000000000).2.1 (numM bs p e 1000000000).2.2 6).1), (listM (needR bs) bs (numM bs p e 1000000000).2.1 (numM bs p e 1000000000).2.2 6).2)

def maniR (bs : List UInt8) : Mani × Nat × Int :=
  (((strM bs 0 0 24).1, (listM (relR bs) bs (strM bs 0 0 24).2.1 (strM bs 0 0 24).2.2 8).1), (listM (relR bs) bs (strM bs 0 0 24).2.1 (strM bs 0 0 24).2.2 8).2)

def endM (m : Mani) (c : Int) : Mani × Int := if c ≠ 0 then (([], []), c) else if manOk m = true then (m, 0) else (([], []), 3)

def readM (bs : List UInt8) : Mani × Int :=
  if 8192 < bs.length then (([], []), 4) else endM (maniR bs).1 (closeM (maniR bs).2.2 (bs.length - (maniR bs).2.1))

theorem lookM_most (s : List UInt8) (most : Int) (h : 0 ≤ most) : (lookM s most).1 ≤ most := by
  cases s with
  | nil => simpa [lookM] using h
  | cons c s =>
    simp only [lookM]
    split
    · exact h
    · split
      · exact h
      · split
        · exact h
        · simp only; omega

theorem numM_most (bs : List UInt8) (p : Nat) (e most : Int) (h : 0 ≤ most) : 0 ≤ (numM bs p e most).1 ∧ (numM bs p e most).1 ≤ most := by
  unfold numM
  split
  · exact ⟨Int.le_refl _, h⟩
  · exact ⟨(lookM_le _ _).2.1, lookM_most _ _ h⟩

theorem numM_p {bs : List UInt8} {p : Nat} {e most : Int} (hp : p ≤ bs.length) : (numM bs p e most).2.1 ≤ bs.length := (num_doc bs p e most hp).2
theorem strM_p {bs : List UInt8} {p : Nat} {e most : Int} (hp : p ≤ bs.length) : (strM bs p e most).2.1 ≤ bs.length := (str_doc bs p e most hp).2

theorem strM_len (bs : List UInt8) (p : Nat) (e most : Int) (h : 0 ≤ most) : ((strM bs p e most).1.length : Int) ≤ most := by
  unfold strM
  have := lookM_most (bs.drop p) most h
  have h2 := (lookM_le (bs.drop p) most).2.1
  repeat' split
  all_goals (simp only [List.length_nil, List.length_take]; omega)

/-- one keeps its place in the bytes -/
def Inside {α : Type} (bs : List UInt8) (one : Nat → Int → α × Nat × Int) : Prop := ∀ p e, p ≤ bs.length → (one p e).2.1 ≤ bs.length

theorem listR_p {α : Type} {bs : List UInt8} {one : Nat → Int → α × Nat × Int} (h : Inside bs one) : ∀ (k p : Nat) (e : Int), p ≤ bs.length → (listR one k p e).2.1 ≤ bs.length
  | 0, p, e, hp => hp
  | k + 1, p, e, hp => by
    simp only [listR]
    split
    · exact listR_p h k _ _ (h p e hp)
    · exact hp

theorem listM_p {α : Type} {bs : List UInt8} {one : Nat → Int → α × Nat × Int} (h : Inside bs one) {p : Nat} {e most : Int} (hp : p ≤ bs.length) : (listM one bs p e most).2.1 ≤ bs.length :=
  listR_p h _ _ _ (numM_p hp)

theorem listR_len {α : Type} (one : Nat → Int → α × Nat × Int) : ∀ (k p : Nat) (e : Int), (listR one k p e).1.length ≤ k
  | 0, p, e => by simp [listR]
  | k + 1, p, e => by
    simp only [listR]
    split
    · have := listR_len one k (one p e).2.1 (one p e).2.2
      simp only [List.length_cons]; omega
    · simp

theorem listM_len {α : Type} (one : Nat → Int → α × Nat × Int) (bs : List UInt8) (p : Nat) (e most : Int) (h : 0 ≤ most) : ((listM one bs p e most).1.length : Int) ≤ most := by
  have h1 := numM_most bs p e most h
  have h2 := listR_len one (numM bs p e most).1.toNat (numM bs p e most).2.1 (numM bs p e most).2.2
  unfold listM
  omega

theorem listR_all {α : Type} {one : Nat → Int → α × Nat × Int} {Q : α → Prop} (h : ∀ p e, Q (one p e).1) : ∀ (k p : Nat) (e : Int), ∀ x ∈ (listR one k p e).1, Q x
  | 0, p, e, x, hx => by simp [listR] at hx
  | k + 1, p, e, x, hx => by
    simp only [listR] at hx
    split at hx
    · rcases List.mem_cons.1 hx with rfl | hx
      · exact h p e
      · exact listR_all h k _ _ x hx
    · simp at hx

theorem spanR_p (bs : List UInt8) : Inside bs (spanR bs) := fun p e hp => numM_p (numM_p hp)
theorem needR_p (bs : List UInt8) : Inside bs (needR bs) := fun p e hp => listM_p (spanR_p bs) (strM_p hp)
theorem relR_p (bs : List UInt8) : Inside bs (relR bs) := fun p e hp => listM_p (needR_p bs) (numM_p hp)
theorem maniR_p (bs : List UInt8) : (maniR bs).2.1 ≤ bs.length := listM_p (relR_p bs) (strM_p (Nat.zero_le _))

theorem needR_ok (bs : List UInt8) (p : Nat) (e : Int) : (needR bs p e).1.1.length ≤ 24 ∧ (needR bs p e).1.2.length ≤ 6 := by
  have h1 := strM_len bs p e 24 (by omega)
  have h2 := listM_len (spanR bs) bs (strM bs p e 24).2.1 (strM bs p e 24).2.2 6 (by omega)
  simp only [needR]; omega

theorem relR_ok (bs : List UInt8) (p : Nat) (e : Int) : (relR bs p e).1.2.length ≤ 6 ∧ okN (relR bs p e).1.2 := by
  have h2 := listM_len (needR bs) bs (numM bs p e 1000000000).2.1 (numM bs p e 1000000000).2.2 6 (by omega)
  refine ⟨by simp only [relR]; omega, by simp only [relR]; unfold lim; omega, fun n hn => ?_⟩
  have := listR_all (Q := fun n : Need => n.1.length ≤ 24 ∧ n.2.length ≤ 6) (needR_ok bs) _ _ _ n hn
  unfold lim; omega

theorem maniR_ok (bs : List UInt8) : okM (maniR bs).1 := by
  have h1 := strM_len bs 0 0 24 (by omega)
  have h2 := listM_len (relR bs) bs (strM bs 0 0 24).2.1 (strM bs 0 0 24).2.2 8 (by omega)
  refine ⟨by simp only [maniR]; unfold lim; omega, by simp only [maniR]; unfold lim; omega, fun r hr => ?_⟩
  exact (listR_all (Q := fun r : Rel => r.2.length ≤ 6 ∧ okN r.2) (relR_ok bs) _ _ _ r hr).2

theorem readM_ok (bs : List UInt8) : okM (readM bs).1 := by
  have h0 : okM (([], []) : Mani) := ⟨by simp, by simp, fun r hr => by simp at hr⟩
  unfold readM
  split
  · exact h0
  · unfold endM
    split
    · exact h0
    · split
      · exact maniR_ok bs
      · exact h0

/-! ### the walk -/

section
variable {bs : List UInt8} {p : Nat} {e : Int}

theorem selHR (q : List AObj) : Sel 5 [0, 1, 2, 3, 4] (HR bs p e ++ q) (HR bs p e) := by
  refine ⟨by decide, rfl, by decide, fun i hi => ?_, fun i hi => .inl ?_⟩
  · match i, hi with
    | 0, _ | 1, _ | 2, _ | 3, _ | 4, _ => rfl
  · match i, hi with
    | 0, _ | 1, _ | 2, _ | 3, _ | 4, _ => rfl

theorem selTokR : Sel 5 [0, 1, 2, 3, 4, 6] (HR bs p e ++ [.gone, .tok]) (HR bs p e ++ [.tok]) := by
  refine ⟨by decide, rfl, by decide, fun i hi => ?_, fun i hi => .inl ?_⟩
  · match i, hi with
    | 0, _ | 1, _ | 2, _ | 3, _ | 4, _ => rfl
  · match i, hi with
    | 0, _ | 1, _ | 2, _ | 3, _ | 4, _ | 5, _ => rfl

theorem subHR {f : FuncId} {args : List AV} {r0 : AV} {p' : Nat} {e' : Int} (q : List AObj) (k : ASpec Try.prog f args (HR bs p e) (fun r H' => r = r0 ∧ H' = HR bs p' e'))
    (ha : args.map (AV.ren (callR [0, 1, 2, 3, 4] (HR bs p e ++ q).length)) = args) (hr : AV.ren (callR [0, 1, 2, 3, 4] (HR bs p e ++ q).length) r0 = r0) :
    ASpec Try.prog f args (HR bs p e ++ q) (fun r H' => r = r0 ∧ H' = HR bs p' e' ++ q) := by
  refine ASpec.subH [0, 1, 2, 3, 4] _ _ k args r0 (by decide) rfl ha hr (fun i hi => ?_) ?_
  · match i, hi with
    | 0, _ | 1, _ | 2, _ | 3, _ | 4, _ => rfl
  · show HR bs p' e' ++ q ++ [] = _
    rw [List.append_nil]

theorem leAppT {α : Type} {en : α → List AV} {d : α} (hr : ∀ ρ x, renL ρ (en x) = en x) {acc : List α} {x : α} {sz k j : Nat} {ρ : Nat → Nat} {ex : List AV} (hx : ex = en x) (hk : ρ j = k) :
    Le (.sl sz (.app (.map en d acc) (.raw [ex])) (.tok k)) (AV.ren ρ (.sl sz (.map en d (acc ++ [x])) (.tok j))) := by
  subst hk; subst hx
  refine Le.sl (s' := Seq.ren ρ (.map en d (acc ++ [x]))) ?_ (.inl rfl) (.inl rfl)
  simp [Ab.Seq.toList, Seq.ren, hr]

theorem leNone {α : Type} {en : α → List AV} {d : α} (hr : ∀ ρ x, renL ρ (en x) = en x) {acc : List α} {sz : Nat} {tip : Tip} {ρ : Nat → Nat} :
    Le (.sl sz (.map en d acc) tip) (AV.ren ρ (.sl sz (.map en d acc) .none)) :=
  Le.sl (s' := Seq.ren ρ (.map en d acc)) (by simp [Ab.Seq.toList, Seq.ren, hr]) (.inl rfl) (.inr rfl)

theorem renS (ρ : Nat → Nat) (x : Span) : renL ρ (encS x) = encS x := rfl
theorem renN (ρ : Nat → Nat) (x : Need) : renL ρ (encN x) = encN x := rfl
theorem renR (ρ : Nat → Nat) (x : Rel) : renL ρ (T.encR x) = T.encR x := rfl

theorem name98 (hb : bs.length ≤ big) (hp : p ≤ bs.length) : ASpec Try.prog 98 [.ptr 1 0] (HR bs p e) (fun r H' => r = .str (B (strM bs p e 24).1) ∧ H' = HR bs (strM bs p e 24).2.1 (strM bs p e 24).2.2) :=
  s98 _ _ _ _ (ASpec.call (str_spec (H := HR bs p e) (id := 0) (bs := bs) (p := p) (e := e) 24 hb hp rfl) (Les.refl _) ⟨(B (strM bs p e 24).1, ((strM bs p e 24).2.1 : Nat), (strM bs p e 24).2.2), rfl, rfl, rfl, rfl⟩)

theorem span99 (hb : bs.length ≤ big) (hp : p ≤ bs.length) : ASpec Try.prog 99 [.ptr 1 0] (HR bs p e) (fun r H' => r = .agg (encS (spanR bs p e).1) ∧ H' = HR bs (spanR bs p e).2.1 (spanR bs p e).2.2) := by
  have h1 := numM_p (e := e) (most := 1000000000) hp
  refine ASpec.sel (s99 _ _ _ _ (ASpec.call (num_spec (H := HR bs p e ++ [.cells [.int .i64 0, .int .i64 0]]) (id := 0) (bs := bs) (p := p) (e := e) 1000000000 hb hp rfl) (Les.refl _) ⟨((numM bs p e 1000000000).1, ((numM bs p e 1000000000).2.1 : Nat), (numM bs p e 1000000000).2.2), rfl, rfl, ?_⟩))
  refine ASpec.call (num_spec (H := HR bs (numM bs p e 1000000000).2.1 (numM bs p e 1000000000).2.2 ++ [.cells [.int .i64 0, .int .i64 0]]) (id := 0) (bs := bs) (p := (numM bs p e 1000000000).2.1) (e := (numM bs p e 1000000000).2.2) 1000000000 hb h1 rfl) (Les.refl _)
    ⟨((numM bs (numM bs p e 1000000000).2.1 (numM bs p e 1000000000).2.2 1000000000).1, ((numM bs (numM bs p e 1000000000).2.1 (numM bs p e 1000000000).2.2 1000000000).2.1 : Nat), (numM bs (numM bs p e 1000000000).2.1 (numM bs p e 1000000000).2.2 1000000000).2.2), rfl, rfl, ?_⟩
  exact ⟨[0, 1, 2, 3, 4], HR bs (spanR bs p e).2.1 (spanR bs p e).2.2, .agg (encS (spanR bs p e).1), selHR _, Le.refl _, rfl, rfl⟩

theorem loop101 {Post : AV → List AObj → Prop} (hb : bs.length ≤ big) : ∀ (k p : Nat) (e : Int) (acc : List Span), p ≤ bs.length → acc.length + k ≤ 100 →
    Post (.sl 2 (.map encS (0, 0) (acc ++ (listR (spanR bs) k p e).1)) (.tok 5)) (HR bs (listR (spanR bs) k p e).2.1 (listR (spanR bs) k p e).2.2 ++ [.tok]) →
    AWP Try.prog 27 5 c101_3 [(0, .ptr 0 0), (2, .fn 99 [.ptr 1 0]), (7, .sl 2 (.map encS (0, 0) acc) (.tok 5)), (8, .int .i64 k)] (HR bs p e ++ [.tok]) (q101_2 5 Post) := by
  intro k
  induction k with
  | zero =>
    intro p e acc hp ha h
    refine v101_3 _ _ _ _ _ _ _ (condD (fun hc => by omega) fun _ => ?_)
    simp only [listR, List.append_nil] at h
    exact h
  | succ k ih =>
    intro p e acc hp ha h
    simp only [listR] at h
    refine v101_3 _ _ _ _ _ _ _ (condD (fun _ => ?_) fun hc => by omega)
    refine ASpec.call (err_spec (H := HR bs p e ++ [.tok]) (id := 0) (bs := bs) (p := p) (e := e) rfl) (Les.refl _) ⟨e, rfl, rfl, condE (fun he => ?_) fun he => ?_⟩
    · rw [if_pos he] at h
      refine ASpec.call (subHR [.tok] (span99 (e := e) hb hp) rfl rfl) (Les.refl _) ⟨((spanR bs p e).1, ((spanR bs p e).2.1 : Nat), (spanR bs p e).2.2), rfl, rfl, needJ (by omega) ?_⟩
      rw [show IntKind.wrap .i64 (((k + 1 : Nat) : Int) - 1) = (k : Int) by rw [wrap64 (by omega) (by omega)]; omega]
      refine AWP.shape [0, 1, 2, 3, 4, 6] [(0, .ptr 0 0), (2, .fn 99 [.ptr 1 0]), (7, .sl 2 (.map encS (0, 0) (acc ++ [(spanR bs p e).1])) (.tok 5)), (8, .int .i64 k)] _ selTokR
        ⟨rfl, Le.refl _, rfl, Le.refl _, rfl, leAppT renS rfl rfl, rfl, Le.refl _, trivial⟩ (ih _ _ _ (spanR_p bs p e hp) (by simp; omega) ?_)
      simpa using h
    · rw [if_neg he] at h
      simp only [List.append_nil] at h
      exact h

theorem list101 {most : Int} (hm : 0 ≤ most ∧ most ≤ 100) (hb : bs.length ≤ big) (hp : p ≤ bs.length) : ASpec Try.prog 101 [.ptr 0 0, .int .i64 most, .fn 99 [.ptr 1 0]] (HR bs p e)
    (fun r H' => r = slS (listM (spanR bs) bs p e most).1 ∧ H' = HR bs (listM (spanR bs) bs p e most).2.1 (listM (spanR bs) bs p e most).2.2) := by
  have hn := numM_most bs p e most hm.1
  refine ASpec.sel (s101 _ _ _ _ _ (ASpec.call (num_spec (H := HR bs p e) (id := 0) (bs := bs) (p := p) (e := e) most hb hp rfl) (Les.refl _) ⟨((numM bs p e most).1, ((numM bs p e most).2.1 : Nat), (numM bs p e most).2.2), rfl, rfl, ?_⟩))
  refine AWP.re (ReSt.tok (H := HR bs (numM bs p e most).2.1 (numM bs p e most).2.2) (k := 7) (q' := .map encS (0, 0) []) (sz' := 2) (s2 := [(0, .ptr 0 0), (2, .fn 99 [.ptr 1 0]), (7, .sl 2 (.map encS (0, 0) []) (.tok 5)), (8, .int .i64 (numM bs p e most).1)]) rfl (.inl rfl) rfl (.inr rfl) (fun d hd => ?_) rfl) ?_
  · simp only [Ab.get]
    have e : Nat.beq 7 d = false := by
      cases hx : Nat.beq 7 d with
      | false => rfl
      | true => exact absurd (Nat.eq_of_beq_eq_true hx).symm hd
    rw [e]; rfl
  · obtain ⟨k, hk⟩ := Int.eq_ofNat_of_zero_le hn.1
    rw [hk]
    refine loop101 hb k _ _ [] (numM_p hp) (by simp; omega) ?_
    have hL : listR (spanR bs) k (numM bs p e most).2.1 (numM bs p e most).2.2 = listM (spanR bs) bs p e most := by rw [listM, hk]; rfl
    rw [hL, List.nil_append]
    exact ⟨[0, 1, 2, 3, 4], _, slS (listM (spanR bs) bs p e most).1, selHR _, leNone renS, rfl, rfl⟩

theorem need100 (hb : bs.length ≤ big) (hp : p ≤ bs.length) : ASpec Try.prog 100 [.ptr 2 0, .ptr 1 0, .ptr 3 0] (HR bs p e) (fun r H' => r = .agg (encN (needR bs p e).1) ∧ H' = HR bs (needR bs p e).2.1 (needR bs p e).2.2) := by
  have h1 := strM_p (e := e) (most := 24) hp
  refine ASpec.sel (s100 _ _ _ _ (ASpec.call (subHR [.cells [.str ⟨#[]⟩, .sl 0 (.raw []) .nil]] (name98 (e := e) hb hp) rfl rfl) (Les.refl _) ⟨(B (strM bs p e 24).1, ((strM bs p e 24).2.1 : Nat), (strM bs p e 24).2.2), rfl, rfl, ?_⟩))
  refine ASpec.call (subHR [.cells [.str ⟨#[]⟩, .sl 0 (.raw []) .nil], .cells [.str (B (strM bs p e 24).1), .sl 0 (.raw []) .nil]] (list101 (e := (strM bs p e 24).2.2) (most := 6) (by omega) hb h1) rfl rfl) (Les.refl _)
    ⟨((listM (spanR bs) bs (strM bs p e 24).2.1 (strM bs p e 24).2.2 6).1, ((listM (spanR bs) bs (strM bs p e 24).2.1 (strM bs p e 24).2.2 6).2.1 : Nat), (listM (spanR bs) bs (strM bs p e 24).2.1 (strM bs p e 24).2.2 6).2.2), rfl, rfl, ?_⟩
  exact ⟨[0, 1, 2, 3, 4], HR bs (needR bs p e).2.1 (needR bs p e).2.2, .agg (encN (needR bs p e).1), selHR _, Le.refl _, rfl, rfl⟩

theorem loop104 {Post : AV → List AObj → Prop} (hb : bs.length ≤ big) : ∀ (k p : Nat) (e : Int) (acc : List Need), p ≤ bs.length → acc.length + k ≤ 100 →
    Post (.sl 2 (.map encN ([], []) (acc ++ (listR (needR bs) k p e).1)) (.tok 5)) (HR bs (listR (needR bs) k p e).2.1 (listR (needR bs) k p e).2.2 ++ [.tok]) →
    AWP Try.prog 27 5 c104_3 [(0, .ptr 0 0), (2, .fn 100 [.ptr 2 0, .ptr 1 0, .ptr 3 0]), (7, .sl 2 (.map encN ([], []) acc) (.tok 5)), (8, .int .i64 k)] (HR bs p e ++ [.tok]) (q104_2 5 Post) := by
  intro k
  induction k with
  | zero =>
    intro p e acc hp ha h
    refine v104_3 _ _ _ _ _ _ _ (condD (fun hc => by omega) fun _ => ?_)
    simp only [listR, List.append_nil] at h
    exact h
  | succ k ih =>
    intro p e acc hp ha h
    simp only [listR] at h
    refine v104_3 _ _ _ _ _ _ _ (condD (fun _ => ?_) fun hc => by omega)
    refine ASpec.call (err_spec (H := HR bs p e ++ [.tok]) (id := 0) (bs := bs) (p := p) (e := e) rfl) (Les.refl _) ⟨e, rfl, rfl, condE (fun he => ?_) fun he => ?_⟩
    · rw [if_pos he] at h
      refine ASpec.call (subHR [.tok] (need100 (e := e) hb hp) rfl rfl) (Les.refl _) ⟨((needR bs p e).1, ((needR bs p e).2.1 : Nat), (needR bs p e).2.2), rfl, rfl, needJ (by omega) ?_⟩
      rw [show IntKind.wrap .i64 (((k + 1 : Nat) : Int) - 1) = (k : Int) by rw [wrap64 (by omega) (by omega)]; omega]
      refine AWP.shape [0, 1, 2, 3, 4, 6] [(0, .ptr 0 0), (2, .fn 100 [.ptr 2 0, .ptr 1 0, .ptr 3 0]), (7, .sl 2 (.map encN ([], []) (acc ++ [(needR bs p e).1])) (.tok 5)), (8, .int .i64 k)] _ selTokR
        ⟨rfl, Le.refl _, rfl, Le.refl _, rfl, leAppT renN rfl rfl, rfl, Le.refl _, trivial⟩ (ih _ _ _ (needR_p bs p e hp) (by simp; omega) ?_)
      simpa using h
    · rw [if_neg he] at h
      simp only [List.append_nil] at h
      exact h

theorem list104 {most : Int} (hm : 0 ≤ most ∧ most ≤ 100) (hb : bs.length ≤ big) (hp : p ≤ bs.length) : ASpec Try.prog 104 [.ptr 0 0, .int .i64 most, .fn 100 [.ptr 2 0, .ptr 1 0, .ptr 3 0]] (HR bs p e)
    (fun r H' => r = slN (listM (needR bs) bs p e most).1 ∧ H' = HR bs (listM (needR bs) bs p e most).2.1 (listM (needR bs) bs p e most).2.2) := by
  have hn := numM_most bs p e most hm.1
  refine ASpec.sel (s104 _ _ _ _ _ (ASpec.call (num_spec (H := HR bs p e) (id := 0) (bs := bs) (p := p) (e := e) most hb hp rfl) (Les.refl _) ⟨((numM bs p e most).1, ((numM bs p e most).2.1 : Nat), (numM bs p e most).2.2), rfl, rfl, ?_⟩))
  refine AWP.re (ReSt.tok (H := HR bs (numM bs p e most).2.1 (numM bs p e most).2.2) (k := 7) (q' := .map encN ([], []) []) (sz' := 2) (s2 := [(0, .ptr 0 0), (2, .fn 100 [.ptr 2 0, .ptr 1 0, .ptr 3 0]), (7, .sl 2 (.map encN ([], []) []) (.tok 5)), (8, .int .i64 (numM bs p e most).1)]) rfl (.inl rfl) rfl (.inr rfl) (fun d hd => ?_) rfl) ?_
  · simp only [Ab.get]
    have e : Nat.beq 7 d = false := by
      cases hx : Nat.beq 7 d with
      | false => rfl
      | true => exact absurd (Nat.eq_of_beq_eq_true hx).symm hd
    rw [e]; rfl
  · obtain ⟨k, hk⟩ := Int.eq_ofNat_of_zero_le hn.1
    rw [hk]
    refine loop104 hb k _ _ [] (numM_p hp) (by simp; omega) ?_
    have hL : listR (needR bs) k (numM bs p e most).2.1 (numM bs p e most).2.2 = listM (needR bs) bs p e most := by rw [listM, hk]; rfl
    rw [hL, List.nil_append]
    exact ⟨[0, 1, 2, 3, 4], _, slN (listM (needR bs) bs p e most).1, selHR _, leNone renN, rfl, rfl⟩

theorem rel103 (hb : bs.length ≤ big) (hp : p ≤ bs.length) : ASpec Try.prog 103 [.ptr 1 0, .ptr 4 0] (HR bs p e) (fun r H' => r = .agg (T.encR (relR bs p e).1) ∧ H' = HR bs (relR bs p e).2.1 (relR bs p e).2.2) := by
  have h1 := numM_p (e := e) (most := 1000000000) hp
  refine ASpec.sel (s103 _ _ _ _ (ASpec.call (num_spec (H := HR bs p e ++ [.cells [.int .i64 0, .sl 0 (.raw []) .nil]]) (id := 0) (bs := bs) (p := p) (e := e) 1000000000 hb hp rfl) (Les.refl _) ⟨((numM bs p e 1000000000).1, ((numM bs p e 1000000000).2.1 : Nat), (numM bs p e 1000000000).2.2), rfl, rfl, ?_⟩))
  refine ASpec.call (subHR [.cells [.int .i64 0, .sl 0 (.raw []) .nil], .cells [.int .i64 (numM bs p e 1000000000).1, .sl 0 (.raw []) .nil]] (list104 (e := (numM bs p e 1000000000).2.2) (most := 6) (by omega) hb h1) rfl rfl) (Les.refl _)
    ⟨((listM (needR bs) bs (numM bs p e 1000000000).2.1 (numM bs p e 1000000000).2.2 6).1, ((listM (needR bs) bs (numM bs p e 1000000000).2.1 (numM bs p e 1000000000).2.2 6).2.1 : Nat), (listM (needR bs) bs (numM bs p e 1000000000).2.1 (numM bs p e 1000000000).2.2 6).2.2), rfl, rfl, ?_⟩
  exact ⟨[0, 1, 2, 3, 4], HR bs (relR bs p e).2.1 (relR bs p e).2.2, .agg (T.encR (relR bs p e).1), selHR _, Le.refl _, rfl, rfl⟩

theorem loop102 {Post : AV → List AObj → Prop} (hb : bs.length ≤ big) : ∀ (k p : Nat) (e : Int) (acc : List Rel), p ≤ bs.length → acc.length + k ≤ 100 →
    Post (.sl 2 (.map T.encR (0, []) (acc ++ (listR (relR bs) k p e).1)) (.tok 5)) (HR bs (listR (relR bs) k p e).2.1 (listR (relR bs) k p e).2.2 ++ [.tok]) →
    AWP Try.prog 27 5 c102_3 [(0, .ptr 0 0), (2, .fn 103 [.ptr 1 0, .ptr 4 0]), (7, .sl 2 (.map T.encR (0, []) acc) (.tok 5)), (8, .int .i64 k)] (HR bs p e ++ [.tok]) (q102_2 5 Post) := by
  intro k
  induction k with
  | zero =>
    intro p e acc hp ha h
    refine v102_3 _ _ _ _ _ _ _ (condD (fun hc => by omega) fun _ => ?_)
    simp only [listR, List.append_nil] at h
    exact h
  | succ k ih =>
    intro p e acc hp ha h
    simp only [listR] at h
    refine v102_3 _ _ _ _ _ _ _ (condD (fun _ => ?_) fun hc => by omega)
    refine ASpec.call (err_spec (H := HR bs p e ++ [.tok]) (id := 0) (bs := bs) (p := p) (e := e) rfl) (Les.refl _) ⟨e, rfl, rfl, condE (fun he => ?_) fun he => ?_⟩
    · rw [if_pos he] at h
      refine ASpec.call (subHR [.tok] (rel103 (e := e) hb hp) rfl rfl) (Les.refl _) ⟨((relR bs p e).1, ((relR bs p e).2.1 : Nat), (relR bs p e).2.2), rfl, rfl, needJ (by omega) ?_⟩
      rw [show IntKind.wrap .i64 (((k + 1 : Nat) : Int) - 1) = (k : Int) by rw [wrap64 (by omega) (by omega)]; omega]
      refine AWP.shape [0, 1, 2, 3, 4, 6] [(0, .ptr 0 0), (2, .fn 103 [.ptr 1 0, .ptr 4 0]), (7, .sl 2 (.map T.encR (0, []) (acc ++ [(relR bs p e).1])) (.tok 5)), (8, .int .i64 k)] _ selTokR
        ⟨rfl, Le.refl _, rfl, Le.refl _, rfl, leAppT renR rfl rfl, rfl, Le.refl _, trivial⟩ (ih _ _ _ (relR_p bs p e hp) (by simp; omega) ?_)
      simpa using h
    · rw [if_neg he] at h
      simp only [List.append_nil] at h
      exact h

theorem list102 {most : Int} (hm : 0 ≤ most ∧ most ≤ 100) (hb : bs.length ≤ big) (hp : p ≤ bs.length) : ASpec Try.prog 102 [.ptr 0 0, .int .i64 most, .fn 103 [.ptr 1 0, .ptr 4 0]] (HR bs p e)
    (fun r H' => r = slR (listM (relR bs) bs p e most).1 ∧ H' = HR bs (listM (relR bs) bs p e most).2.1 (listM (relR bs) bs p e most).2.2) := by
  have hn := numM_most bs p e most hm.1
  refine ASpec.sel (s102 _ _ _ _ _ (ASpec.call (num_spec (H := HR bs p e) (id := 0) (bs := bs) (p := p) (e := e) most hb hp rfl) (Les.refl _) ⟨((numM bs p e most).1, ((numM bs p e most).2.1 : Nat), (numM bs p e most).2.2), rfl, rfl, ?_⟩))
  refine AWP.re (ReSt.tok (H := HR bs (numM bs p e most).2.1 (numM bs p e most).2.2) (k := 7) (q' := .map T.encR (0, []) []) (sz' := 2) (s2 := [(0, .ptr 0 0), (2, .fn 103 [.ptr 1 0, .ptr 4 0]), (7, .sl 2 (.map T.encR (0, []) []) (.tok 5)), (8, .int .i64 (numM bs p e most).1)]) rfl (.inl rfl) rfl (.inr rfl) (fun d hd => ?_) rfl) ?_
  · simp only [Ab.get]
    have e : Nat.beq 7 d = false := by
      cases hx : Nat.beq 7 d with
      | false => rfl
      | true => exact absurd (Nat.eq_of_beq_eq_true hx).symm hd
    rw [e]; rfl
  · obtain ⟨k, hk⟩ := Int.eq_ofNat_of_zero_le hn.1
    rw [hk]
    refine loop102 hb k _ _ [] (numM_p hp) (by simp; omega) ?_
    have hL : listR (relR bs) k (numM bs p e most).2.1 (numM bs p e most).2.2 = listM (relR bs) bs p e most := by rw [listM, hk]; rfl
    rw [hL, List.nil_append]
    exact ⟨[0, 1, 2, 3, 4], _, slR (listM (relR bs) bs p e most).1, selHR _, leNone renR, rfl, rfl⟩

end

abbrev zM : AObj := .cells [.str ⟨#[]⟩, .sl 0 (.raw []) .nil]

theorem read_spec (bs : List UInt8) (hb : bs.length ≤ 1000000) (H : List AObj) : ASpec Try.prog 40 [sl1 bs] H (fun r H' => r = .tup [.agg (encM (readM bs).1), .int .i64 (readM bs).2] ∧ H' = H) := by
  have k : ASpec Try.prog 40 [sl1 bs] [] (fun r H' => r = .tup [.agg (encM (readM bs).1), .int .i64 (readM bs).2] ∧ H' = []) := by
    have hb' : bs.length ≤ big := by unfold big; omega
    have none_ : ∀ (c : Int) (H' : List AObj), readM bs = (([], []), c) → ∃ l H2 r2, Sel 0 l H' H2 ∧ Le (.tup [.agg [.str ⟨#[]⟩, .sl 0 (.raw []) .nil], .int .i64 c]) (AV.ren (selR l H'.length) r2) ∧
        r2 = .tup [.agg (encM (readM bs).1), .int .i64 (readM bs).2] ∧ H2 = [] := by
      intro c H' e
      rw [e]
      exact ⟨[], [], .tup [.agg (encM ([], [])), .int .i64 c], Sel.none,
        Le.tup ⟨Le.agg ⟨Le.refl _, Le.sl (s' := Seq.ren _ (.map T.encR (0, []) [])) rfl (.inr ⟨rfl, fun _ h => by cases h⟩) (.inr rfl), trivial⟩, Le.refl _, trivial⟩, rfl, rfl⟩
    refine ASpec.sel (s40 _ _ (condD (fun h => none_ 4 _ ?_) fun h => ?_))
    · rw [readM, if_pos (by omega)]
    have hR : readM bs = endM (maniR bs).1 (closeM (maniR bs).2.2 (bs.length - (maniR bs).2.1)) := by rw [readM, if_neg (by omega)]
    refine ASpec.call (V.open_spec bs hb' [zM]) (Les.refl _) ⟨bs, rfl, rfl, ?_⟩
    have c1 : ASpec Try.prog 98 [.ptr 2 0] [zM, rd bs 0 0, .cells [.ptr 1 0], .cells [.fn 98 [.ptr 2 0]], .cells [.fn 99 [.ptr 2 0]], .cells [.fn 100 [.ptr 3 0, .ptr 2 0, .ptr 4 0]]]
        (fun r H' => r = .str (B (strM bs 0 0 24).1) ∧ H' = [zM, rd bs (strM bs 0 0 24).2.1 (strM bs 0 0 24).2.2, .cells [.ptr 1 0], .cells [.fn 98 [.ptr 2 0]], .cells [.fn 99 [.ptr 2 0]], .cells [.fn 100 [.ptr 3 0, .ptr 2 0, .ptr 4 0]]]) := by
      refine ASpec.subH [1, 2, 3, 4, 5] _ _ (name98 (bs := bs) (p := 0) (e := 0) hb' (by omega)) _ _ (by decide) rfl rfl rfl (fun i hi => ?_) rfl
      match i, hi with
      | 0, _ | 1, _ | 2, _ | 3, _ | 4, _ => rfl
    refine ASpec.call c1 (Les.refl _) ⟨(B (strM bs 0 0 24).1, ((strM bs 0 0 24).2.1 : Nat), (strM bs 0 0 24).2.2), rfl, rfl, ?_⟩
    have hp1 : (strM bs 0 0 24).2.1 ≤ bs.length := strM_p (by omega)
    have c2 : ASpec Try.prog 102 [.ptr 1 0, .int .i64 8, .fn 103 [.ptr 2 0, .ptr 5 0]] [zM, rd bs (strM bs 0 0 24).2.1 (strM bs 0 0 24).2.2, .cells [.ptr 1 0], .cells [.fn 98 [.ptr 2 0]], .cells [.fn 99 [.ptr 2 0]], .cells [.fn 100 [.ptr 3 0, .ptr 2 0, .ptr 4 0]], .cells [.str (B (strM bs 0 0 24).1), .sl 0 (.raw []) .nil]]
        (fun r H' => r = slR (maniR bs).1.2 ∧ H' = [zM, rd bs (maniR bs).2.1 (maniR bs).2.2, .cells [.ptr 1 0], .cells [.fn 98 [.ptr 2 0]], .cells [.fn 99 [.ptr 2 0]], .cells [.fn 100 [.ptr 3 0, .ptr 2 0, .ptr 4 0]], .cells [.str (B (strM bs 0 0 24).1), .sl 0 (.raw []) .nil]]) := by
      refine ASpec.subH [1, 2, 3, 4, 5] _ _ (list102 (bs := bs) (p := (strM bs 0 0 24).2.1) (e := (strM bs 0 0 24).2.2) (most := 8) (by omega) hb' hp1) _ _ (by decide) rfl rfl rfl (fun i hi => ?_) rfl
      match i, hi with
      | 0, _ | 1, _ | 2, _ | 3, _ | 4, _ => rfl
    refine ASpec.call c2 (Les.refl _) ⟨((maniR bs).1.2, ((maniR bs).2.1 : Nat), (maniR bs).2.2), rfl, rfl, ?_⟩
    refine ASpec.call (close_spec (id := 1) (bs := bs) (p := (maniR bs).2.1) (e := (maniR bs).2.2) hb' (maniR_p bs) rfl) (Les.refl _) ⟨_, rfl, rfl, ?_⟩
    generalize hc : closeM (maniR bs).2.2 (bs.length - (maniR bs).2.1) = c at hR
    refine condE (fun h0 => ?_) fun h0 => condNe (fun _ => none_ _ _ (by rw [hR, endM, if_pos h0])) fun h1 => (h0 h1).elim
    refine ASpec.call (maniCheck_spec (maniR bs).1 (maniR_ok bs) _) (Les.refl _) ⟨_, rfl, rfl, condBn (fun hm => none_ _ _ ?_) fun hm => condNe (fun h1 => (h1 h0).elim) fun _ => ?_⟩
    · rw [hR, endM, if_neg (by simpa using h0), if_neg (by rw [hm]; simp)]
    · rw [hR, endM, if_neg (by simpa using h0), if_pos hm]
      exact ⟨[], [], .tup [.agg (encM (maniR bs).1), .int .i64 0], Sel.none, Le.refl _, rfl, rfl⟩
  exact ASpec.pureH H k _ _ rfl rfl

end W
