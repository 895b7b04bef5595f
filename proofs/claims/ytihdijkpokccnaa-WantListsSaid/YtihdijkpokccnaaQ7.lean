/- Q7: several of this proof's own texts, one behind the other: what each proves stands at its head. -/
import Derived.Test.YtihdijkpokccnaaQ6
import Derived.Test.YtihdijkpokccnaaA3
import Derived.Test.YtihdijkpokccnaaQ5
import Derived.Test.YtihdijkpokccnaaProg
import Derived.Test.YtihdijkpokccnaaChecked
import Derived.KernelRfl
import Derived.JoinedOf
section
/- Manifests out of bytes: what the code reads. -/

set_option linter.unusedVariables false
set_option linter.unusedSimpArgs false
set_option maxRecDepth 100000
open Go Go.Ab Go.Proofs V S T C
namespace W

/-! ### the model -/

def spanR (bs : List UInt8) (p : Nat) (e : Int) : Span × Nat × Int :=
  (((numM bs p e 1000000000).1, IntKind.wrap .i64 ((numM bs p e 1000000000).1 + (numM bs (numM bs p e 1000000000).2.1 (numM bs p e 1000000000).2.2 1000000000).1)),
    (numM bs (numM bs p e 1000000000).2.1 (numM bs p e 1000000000).2.2 1000000000).2)

def listR {α : Type} (one : Nat → Int → α × Nat × Int) : Nat → Nat → Int → List α × Nat × Int
  | 0, p, e => ([], p, e)
  | k + 1, p, e => if e = 0 then ((one p e).1 :: (listR one k (one p e).2.1 (one p e).2.2).1, (listR one k (one p e).2.1 (one p e).2.2).2) else ([], p, e)

def listM {α : Type} (one : Nat → Int → α × Nat × Int) (bs : List UInt8) (p : Nat) (e most : Int) : List α × Nat × Int :=
  listR one (numM bs p e most).1.toNat (numM bs p e most).2.1 (numM bs p e most).2.2

def needR (bs : List UInt8) (p : Nat) (e : Int) : Need × Nat × Int :=
  (((strM bs p e 24).1, (listM (spanR bs) bs (strM bs p e 24).2.1 (strM bs p e 24).2.2 6).1), (listM (spanR bs) bs (strM bs p e 24).2.1 (strM bs p e 24).2.2 6).2)

def relR (bs : List UInt8) (p : Nat) (e : Int) : Rel × Nat × Int :=
  (((numM bs p e 1000000000).1, (listM (needR bs) bs (numM bs p e 1000000000).2.1 (numM bs p e 1000000000).2.2 6).1), (listM (needR bs) bs (numM bs p e 1000000000).2.1 (numM bs p e 1000000000).2.2 6).2)

def maniR (bs : List UInt8) : Mani × Nat × Int :=
  (((strM bs 0 0 24).1, (listM (relR bs) bs (strM bs 0 0 24).2.1 (strM bs 0 0 24).2.2 8).1), (listM (relR bs) bs (strM bs 0 0 24).2.1 (strM bs 0 0 24).2.2 8).2)

def endM (m : Mani) (c : Int) : Mani × Int := if c ≠ 0 then (([], []), c) else if manOk m = true then (m, 0) else (([], []), 3)

def readM (bs : List UInt8) : Mani × Int :=
  if 8192 < bs.length then (([], []), 4) else endM (maniR bs).1 (closeM (maniR bs).2.2 (bs.length - (maniR bs).2.1))

theorem lookM_most (s : List UInt8) (most : Int) (h : 0 ≤ most) : (lookM s most).1 ≤ most := by
  cases s with
  | nil => simpa [lookM] using h
  | cons c s =>
    simp only [lookM]
    split
    · exact h
    · split
      · exact h
      · split
        · exact h
        · simp only; omega

theorem numM_most (bs : List UInt8) (p : Nat) (e most : Int) (h : 0 ≤ most) : 0 ≤ (numM bs p e most).1 ∧ (numM bs p e most).1 ≤ most := by
  unfold numM
  split
  · exact ⟨Int.le_refl _, h⟩
  · exact ⟨(lookM_le _ _).2.1, lookM_most _ _ h⟩

theorem numM_p {bs : List UInt8} {p : Nat} {e most : Int} (hp : p ≤ bs.length) : (numM bs p e most).2.1 ≤ bs.length := (num_doc bs p e most hp).2
theorem strM_p {bs : List UInt8} {p : Nat} {e most : Int} (hp : p ≤ bs.length) : (strM bs p e most).2.1 ≤ bs.length := (str_doc bs p e most hp).2

theorem strM_len (bs : List UInt8) (p : Nat) (e most : Int) (h : 0 ≤ most) : ((strM bs p e most).1.length : Int) ≤ most := by
  unfold strM
  have := lookM_most (bs.drop p) most h
  have h2 := (lookM_le (bs.drop p) most).2.1
  repeat' split
  all_goals (simp only [List.length_nil, List.length_take]; omega)

/-- one keeps its place in the bytes -/
def Inside {α : Type} (bs : List UInt8) (one : Nat → Int → α × Nat × Int) : Prop := ∀ p e, p ≤ bs.length → (one p e).2.1 ≤ bs.length

theorem listR_p {α : Type} {bs : List UInt8} {one : Nat → Int → α × Nat × Int} (h : Inside bs one) : ∀ (k p : Nat) (e : Int), p ≤ bs.length → (listR one k p e).2.1 ≤ bs.length
  | 0, p, e, hp => hp
  | k + 1, p, e, hp => by
    simp only [listR]
    split
    · exact listR_p h k _ _ (h p e hp)
    · exact hp

theorem listM_p {α : Type} {bs : List UInt8} {one : Nat → Int → α × Nat × Int} (h : Inside bs one) {p : Nat} {e most : Int} (hp : p ≤ bs.length) : (listM one bs p e most).2.1 ≤ bs.length :=
  listR_p h _ _ _ (numM_p hp)

theorem listR_len {α : Type} (one : Nat → Int → α × Nat × Int) : ∀ (k p : Nat) (e : Int), (listR one k p e).1.length ≤ k
  | 0, p, e => by simp [listR]
  | k + 1, p, e => by
    simp only [listR]
    split
    · have := listR_len one k (one p e).2.1 (one p e).2.2
      simp only [List.length_cons]; omega
    · simp

theorem listM_len {α : Type} (one : Nat → Int → α × Nat × Int) (bs : List UInt8) (p : Nat) (e most : Int) (h : 0 ≤ most) : ((listM one bs p e most).1.length : Int) ≤ most := by
  have h1 := numM_most bs p e most h
  have h2 := listR_len one (numM bs p e most).1.toNat (numM bs p e most).2.1 (numM bs p e most).2.2
  unfold listM
  omega

theorem listR_all {α : Type} {one : Nat → Int → α × Nat × Int} {Q : α → Prop} (h : ∀ p e, Q (one p e).1) : ∀ (k p : Nat) (e : Int), ∀ x ∈ (listR one k p e).1, Q x
  | 0, p, e, x, hx => by simp [listR] at hx
  | k + 1, p, e, x, hx => by
    simp only [listR] at hx
    split at hx
    · rcases List.mem_cons.1 hx with rfl | hx
      · exact h p e
      · exact listR_all h k _ _ x hx
    · simp at hx

theorem spanR_p (bs : List UInt8) : Inside bs (spanR bs) := fun p e hp => numM_p (numM_p hp)
theorem needR_p (bs : List UInt8) : Inside bs (needR bs) := fun p e hp => listM_p (spanR_p bs) (strM_p hp)
theorem relR_p (bs : List UInt8) : Inside bs (relR bs) := fun p e hp => listM_p (needR_p bs) (numM_p hp)
theorem maniR_p (bs : List UInt8) : (maniR bs).2.1 ≤ bs.length := listM_p (relR_p bs) (strM_p (Nat.zero_le _))

theorem needR_ok (bs : List UInt8) (p : Nat) (e : Int) : (needR bs p e).1.1.length ≤ 24 ∧ (needR bs p e).1.2.length ≤ 6 := by
  have h1 := strM_len bs p e 24 (by omega)
  have h2 := listM_len (spanR bs) bs (strM bs p e 24).2.1 (strM bs p e 24).2.2 6 (by omega)
  simp only [needR]; omega

theorem relR_ok (bs : List UInt8) (p : Nat) (e : Int) : (relR bs p e).1.2.length ≤ 6 ∧ okN (relR bs p e).1.2 := by
  have h2 := listM_len (needR bs) bs (numM bs p e 1000000000).2.1 (numM bs p e 1000000000).2.2 6 (by omega)
  refine ⟨by simp only [relR]; omega, by simp only [relR]; unfold lim; omega, fun n hn => ?_⟩
  have := listR_all (Q := fun n : Need => n.1.length ≤ 24 ∧ n.2.length ≤ 6) (needR_ok bs) _ _ _ n hn
  unfold lim; omega

theorem maniR_ok (bs : List UInt8) : okM (maniR bs).1 := by
  have h1 := strM_len bs 0 0 24 (by omega)
  have h2 := listM_len (relR bs) bs (strM bs 0 0 24).2.1 (strM bs 0 0 24).2.2 8 (by omega)
  refine ⟨by simp only [maniR]; unfold lim; omega, by simp only [maniR]; unfold lim; omega, fun r hr => ?_⟩
  exact (listR_all (Q := fun r : Rel => r.2.length ≤ 6 ∧ okN r.2) (relR_ok bs) _ _ _ r hr).2

theorem readM_ok (bs : List UInt8) : okM (readM bs).1 := by
  have h0 : okM (([], []) : Mani) := ⟨by simp, by simp, fun r hr => by simp at hr⟩
  unfold readM
  split
  · exact h0
  · unfold endM
    split
    · exact h0
    · split
      · exact maniR_ok bs
      · exact h0

/-! ### the walk -/

section
variable {bs : List UInt8} {p : Nat} {e : Int}

theorem selHR (q : List AObj) : Sel 5 [0, 1, 2, 3, 4] (HR bs p e ++ q) (HR bs p e) := by
  refine ⟨by decide, rfl, by decide, fun i hi => ?_, fun i hi => .inl ?_⟩
  · match i, hi with
    | 0, _ | 1, _ | 2, _ | 3, _ | 4, _ => rfl
  · match i, hi with
    | 0, _ | 1, _ | 2, _ | 3, _ | 4, _ => rfl

theorem selTokR : Sel 5 [0, 1, 2, 3, 4, 6] (HR bs p e ++ [.gone, .tok]) (HR bs p e ++ [.tok]) := by
  refine ⟨by decide, rfl, by decide, fun i hi => ?_, fun i hi => .inl ?_⟩
  · match i, hi with
    | 0, _ | 1, _ | 2, _ | 3, _ | 4, _ => rfl
  · match i, hi with
    | 0, _ | 1, _ | 2, _ | 3, _ | 4, _ | 5, _ => rfl

theorem subHR {f : FuncId} {args : List AV} {r0 : AV} {p' : Nat} {e' : Int} (q : List AObj) (k : ASpec Try.prog f args (HR bs p e) (fun r H' => r = r0 ∧ H' = HR bs p' e'))
    (ha : args.map (AV.ren (callR [0, 1, 2, 3, 4] (HR bs p e ++ q).length)) = args) (hr : AV.ren (callR [0, 1, 2, 3, 4] (HR bs p e ++ q).length) r0 = r0) :
    ASpec Try.prog f args (HR bs p e ++ q) (fun r H' => r = r0 ∧ H' = HR bs p' e' ++ q) := by
  refine ASpec.subH [0, 1, 2, 3, 4] _ _ k args r0 (by decide) rfl ha hr (fun i hi => ?_) ?_
  · match i, hi with
    | 0, _ | 1, _ | 2, _ | 3, _ | 4, _ => rfl
  · show HR bs p' e' ++ q ++ [] = _
    rw [List.append_nil]

theorem leAppT {α : Type} {en : α → List AV} {d : α} (hr : ∀ ρ x, renL ρ (en x) = en x) {acc : List α} {x : α} {sz k j : Nat} {ρ : Nat → Nat} {ex : List AV} (hx : ex = en x) (hk : ρ j = k) :
    Le (.sl sz (.app (.map en d acc) (.raw [ex])) (.tok k)) (AV.ren ρ (.sl sz (.map en d (acc ++ [x])) (.tok j))) := by
  subst hk; subst hx
  refine Le.sl (s' := Seq.ren ρ (.map en d (acc ++ [x]))) ?_ (.inl rfl) (.inl rfl)
  simp [Ab.Seq.toList, Seq.ren, hr]

theorem leNone {α : Type} {en : α → List AV} {d : α} (hr : ∀ ρ x, renL ρ (en x) = en x) {acc : List α} {sz : Nat} {tip : Tip} {ρ : Nat → Nat} :
    Le (.sl sz (.map en d acc) tip) (AV.ren ρ (.sl sz (.map en d acc) .none)) :=
  Le.sl (s' := Seq.ren ρ (.map en d acc)) (by simp [Ab.Seq.toList, Seq.ren, hr]) (.inl rfl) (.inr rfl)

theorem renS (ρ : Nat → Nat) (x : Span) : renL ρ (encS x) = encS x := rfl
theorem renN (ρ : Nat → Nat) (x : Need) : renL ρ (encN x) = encN x := rfl
theorem renR (ρ : Nat → Nat) (x : Rel) : renL ρ (T.encR x) = T.encR x := rfl

theorem name98 (hb : bs.length ≤ big) (hp : p ≤ bs.length) : ASpec Try.prog 89 [.ptr 1 0] (HR bs p e) (fun r H' => r = .str (B (strM bs p e 24).1) ∧ H' = HR bs (strM bs p e 24).2.1 (strM bs p e 24).2.2) :=
  s89 _ _ _ _ (ASpec.call (str_spec (H := HR bs p e) (id := 0) (bs := bs) (p := p) (e := e) 24 hb hp rfl) (Les.refl _) ⟨(B (strM bs p e 24).1, ((strM bs p e 24).2.1 : Nat), (strM bs p e 24).2.2), rfl, rfl, rfl, rfl⟩)

theorem span99 (hb : bs.length ≤ big) (hp : p ≤ bs.length) : ASpec Try.prog 91 [.ptr 1 0] (HR bs p e) (fun r H' => r = .agg (encS (spanR bs p e).1) ∧ H' = HR bs (spanR bs p e).2.1 (spanR bs p e).2.2) := by
  have h1 := numM_p (e := e) (most := 1000000000) hp
  refine ASpec.sel (s91 _ _ _ _ (ASpec.call (num_spec (H := HR bs p e ++ [.cells [.int .i64 0, .int .i64 0]]) (id := 0) (bs := bs) (p := p) (e := e) 1000000000 hb hp rfl) (Les.refl _) ⟨((numM bs p e 1000000000).1, ((numM bs p e 1000000000).2.1 : Nat), (numM bs p e 1000000000).2.2), rfl, rfl, ?_⟩))
  refine ASpec.call (num_spec (H := HR bs (numM bs p e 1000000000).2.1 (numM bs p e 1000000000).2.2 ++ [.cells [.int .i64 0, .int .i64 0]]) (id := 0) (bs := bs) (p := (numM bs p e 1000000000).2.1) (e := (numM bs p e 1000000000).2.2) 1000000000 hb h1 rfl) (Les.refl _)
    ⟨((numM bs (numM bs p e 1000000000).2.1 (numM bs p e 1000000000).2.2 1000000000).1, ((numM bs (numM bs p e 1000000000).2.1 (numM bs p e 1000000000).2.2 1000000000).2.1 : Nat), (numM bs (numM bs p e 1000000000).2.1 (numM bs p e 1000000000).2.2 1000000000).2.2), rfl, rfl, ?_⟩
  exact ⟨[0, 1, 2, 3, 4], HR bs (spanR bs p e).2.1 (spanR bs p e).2.2, .agg (encS (spanR bs p e).1), selHR _, Le.refl _, rfl, rfl⟩

theorem loop101 {Post : AV → List AObj → Prop} (hb : bs.length ≤ big) : ∀ (k p : Nat) (e : Int) (acc : List Span), p ≤ bs.length → acc.length + k ≤ 100 →
    Post (.sl 2 (.map encS (0, 0) (acc ++ (listR (spanR bs) k p e).1)) (.tok 5)) (HR bs (listR (spanR bs) k p e).2.1 (listR (spanR bs) k p e).2.2 ++ [.tok]) →
    AWP Try.prog 27 5 c94_3 [(0, .ptr 0 0), (2, .fn 91 [.ptr 1 0]), (7, .sl 2 (.map encS (0, 0) acc) (.tok 5)), (8, .int .i64 k)] (HR bs p e ++ [.tok]) (q94_2 5 Post) := by
  intro k
  induction k with
  | zero =>
    intro p e acc hp ha h
    refine v94_3 _ _ _ _ _ _ _ (condD (fun hc => by omega) fun _ => ?_)
    simp only [listR, List.append_nil] at h
    exact h
  | succ k ih =>
    intro p e acc hp ha h
    simp only [listR] at h
    refine v94_3 _ _ _ _ _ _ _ (condD (fun _ => ?_) fun hc => by omega)
    refine ASpec.call (err_spec (H := HR bs p e ++ [.tok]) (id := 0) (bs := bs) (p := p) (e := e) rfl) (Les.refl _) ⟨e, rfl, rfl, condE (fun he => ?_) fun he => ?_⟩
    · rw [if_pos he] at h
      refine ASpec.call (subHR [.tok] (span99 (e := e) hb hp) rfl rfl) (Les.refl _) ⟨((spanR bs p e).1, ((spanR bs p e).2.1 : Nat), (spanR bs p e).2.2), rfl, rfl, needJ (by omega) ?_⟩
      rw [show IntKind.wrap .i64 (((k + 1 : Nat) : Int) - 1) = (k : Int) by rw [wrap64 (by omega) (by omega)]; omega]
      refine AWP.shape [0, 1, 2, 3, 4, 6] [(0, .ptr 0 0), (2, .fn 91 [.ptr 1 0]), (7, .sl 2 (.map encS (0, 0) (acc ++ [(spanR bs p e).1])) (.tok 5)), (8, .int .i64 k)] _ selTokR
        ⟨rfl, Le.refl _, rfl, Le.refl _, rfl, leAppT renS rfl rfl, rfl, Le.refl _, trivial⟩ (ih _ _ _ (spanR_p bs p e hp) (by simp; omega) ?_)
      simpa using h
    · rw [if_neg he] at h
      simp only [List.append_nil] at h
      exact h

theorem list101 {most : Int} (hm : 0 ≤ most ∧ most ≤ 100) (hb : bs.length ≤ big) (hp : p ≤ bs.length) : ASpec Try.prog 94 [.ptr 0 0, .int .i64 most, .fn 91 [.ptr 1 0]] (HR bs p e)
    (fun r H' => r = slS (listM (spanR bs) bs p e most).1 ∧ H' = HR bs (listM (spanR bs) bs p e most).2.1 (listM (spanR bs) bs p e most).2.2) := by
  have hn := numM_most bs p e most hm.1
  refine ASpec.sel (s94 _ _ _ _ _ (ASpec.call (num_spec (H := HR bs p e) (id := 0) (bs := bs) (p := p) (e := e) most hb hp rfl) (Les.refl _) ⟨((numM bs p e most).1, ((numM bs p e most).2.1 : Nat), (numM bs p e most).2.2), rfl, rfl, ?_⟩))
  refine AWP.re (ReSt.tok (H := HR bs (numM bs p e most).2.1 (numM bs p e most).2.2) (k := 7) (q' := .map encS (0, 0) []) (sz' := 2) (s2 := [(0, .ptr 0 0), (2, .fn 91 [.ptr 1 0]), (7, .sl 2 (.map encS (0, 0) []) (.tok 5)), (8, .int .i64 (numM bs p e most).1)]) rfl (.inl rfl) rfl (.inr rfl) (fun d hd => ?_) rfl) ?_
  · simp only [Ab.get]
    have e : Nat.beq 7 d = false := by
      cases hx : Nat.beq 7 d with
      | false => rfl
      | true => exact absurd (Nat.eq_of_beq_eq_true hx).symm hd
    rw [e]; rfl
  · obtain ⟨k, hk⟩ := Int.eq_ofNat_of_zero_le hn.1
    rw [hk]
    refine loop101 hb k _ _ [] (numM_p hp) (by simp; omega) ?_
    have hL : listR (spanR bs) k (numM bs p e most).2.1 (numM bs p e most).2.2 = listM (spanR bs) bs p e most := by rw [listM, hk]; rfl
    rw [hL, List.nil_append]
    exact ⟨[0, 1, 2, 3, 4], _, slS (listM (spanR bs) bs p e most).1, selHR _, leNone renS, rfl, rfl⟩

theorem need100 (hb : bs.length ≤ big) (hp : p ≤ bs.length) : ASpec Try.prog 93 [.ptr 2 0, .ptr 1 0, .ptr 3 0] (HR bs p e) (fun r H' => r = .agg (encN (needR bs p e).1) ∧ H' = HR bs (needR bs p e).2.1 (needR bs p e).2.2) := by
  have h1 := strM_p (e := e) (most := 24) hp
  refine ASpec.sel (s93 _ _ _ _ (ASpec.call (subHR [.cells [.str ⟨#[]⟩, .sl 0 (.raw []) .nil]] (name98 (e := e) hb hp) rfl rfl) (Les.refl _) ⟨(B (strM bs p e 24).1, ((strM bs p e 24).2.1 : Nat), (strM bs p e 24).2.2), rfl, rfl, ?_⟩))
  refine ASpec.call (subHR [.cells [.str ⟨#[]⟩, .sl 0 (.raw []) .nil], .cells [.str (B (strM bs p e 24).1), .sl 0 (.raw []) .nil]] (list101 (e := (strM bs p e 24).2.2) (most := 6) (by omega) hb h1) rfl rfl) (Les.refl _)
    ⟨((listM (spanR bs) bs (strM bs p e 24).2.1 (strM bs p e 24).2.2 6).1, ((listM (spanR bs) bs (strM bs p e 24).2.1 (strM bs p e 24).2.2 6).2.1 : Nat), (listM (spanR bs) bs (strM bs p e 24).2.1 (strM bs p e 24).2.2 6).2.2), rfl, rfl, ?_⟩
  exact ⟨[0, 1, 2, 3, 4], HR bs (needR bs p e).2.1 (needR bs p e).2.2, .agg (encN (needR bs p e).1), selHR _, Le.refl _, rfl, rfl⟩

theorem loop104 {Post : AV → List AObj → Prop} (hb : bs.length ≤ big) : ∀ (k p : Nat) (e : Int) (acc : List Need), p ≤ bs.length → acc.length + k ≤ 100 →
    Post (.sl 2 (.map encN ([], []) (acc ++ (listR (needR bs) k p e).1)) (.tok 5)) (HR bs (listR (needR bs) k p e).2.1 (listR (needR bs) k p e).2.2 ++ [.tok]) →
    AWP Try.prog 27 5 c97_3 [(0, .ptr 0 0), (2, .fn 93 [.ptr 2 0, .ptr 1 0, .ptr 3 0]), (7, .sl 2 (.map encN ([], []) acc) (.tok 5)), (8, .int .i64 k)] (HR bs p e ++ [.tok]) (q97_2 5 Post) := by
  intro k
  induction k with
  | zero =>
    intro p e acc hp ha h
    refine v97_3 _ _ _ _ _ _ _ (condD (fun hc => by omega) fun _ => ?_)
    simp only [listR, List.append_nil] at h
    exact h
  | succ k ih =>
    intro p e acc hp ha h
    simp only [listR] at h
    refine v97_3 _ _ _ _ _ _ _ (condD (fun _ => ?_) fun hc => by omega)
    refine ASpec.call (err_spec (H := HR bs p e ++ [.tok]) (id := 0) (bs := bs) (p := p) (e := e) rfl) (Les.refl _) ⟨e, rfl, rfl, condE (fun he => ?_) fun he => ?_⟩
    · rw [if_pos he] at h
      refine ASpec.call (subHR [.tok] (need100 (e := e) hb hp) rfl rfl) (Les.refl _) ⟨((needR bs p e).1, ((needR bs p e).2.1 : Nat), (needR bs p e).2.2), rfl, rfl, needJ (by omega) ?_⟩
      rw [show IntKind.wrap .i64 (((k + 1 : Nat) : Int) - 1) = (k : Int) by rw [wrap64 (by omega) (by omega)]; omega]
      refine AWP.shape [0, 1, 2, 3, 4, 6] [(0, .ptr 0 0), (2, .fn 93 [.ptr 2 0, .ptr 1 0, .ptr 3 0]), (7, .sl 2 (.map encN ([], []) (acc ++ [(needR bs p e).1])) (.tok 5)), (8, .int .i64 k)] _ selTokR
        ⟨rfl, Le.refl _, rfl, Le.refl _, rfl, leAppT renN rfl rfl, rfl, Le.refl _, trivial⟩ (ih _ _ _ (needR_p bs p e hp) (by simp; omega) ?_)
      simpa using h
    · rw [if_neg he] at h
      simp only [List.append_nil] at h
      exact h

theorem list104 {most : Int} (hm : 0 ≤ most ∧ most ≤ 100) (hb : bs.length ≤ big) (hp : p ≤ bs.length) : ASpec Try.prog 97 [.ptr 0 0, .int .i64 most, .fn 93 [.ptr 2 0, .ptr 1 0, .ptr 3 0]] (HR bs p e)
    (fun r H' => r = slN (listM (needR bs) bs p e most).1 ∧ H' = HR bs (listM (needR bs) bs p e most).2.1 (listM (needR bs) bs p e most).2.2) := by
  have hn := numM_most bs p e most hm.1
  refine ASpec.sel (s97 _ _ _ _ _ (ASpec.call (num_spec (H := HR bs p e) (id := 0) (bs := bs) (p := p) (e := e) most hb hp rfl) (Les.refl _) ⟨((numM bs p e most).1, ((numM bs p e most).2.1 : Nat), (numM bs p e most).2.2), rfl, rfl, ?_⟩))
  refine AWP.re (ReSt.tok (H := HR bs (numM bs p e most).2.1 (numM bs p e most).2.2) (k := 7) (q' := .map encN ([], []) []) (sz' := 2) (s2 := [(0, .ptr 0 0), (2, .fn 93 [.ptr 2 0, .ptr 1 0, .ptr 3 0]), (7, .sl 2 (.map encN ([], []) []) (.tok 5)), (8, .int .i64 (numM bs p e most).1)]) rfl (.inl rfl) rfl (.inr rfl) (fun d hd => ?_) rfl) ?_
  · simp only [Ab.get]
    have e : Nat.beq 7 d = false := by
      cases hx : Nat.beq 7 d with
      | false => rfl
      | true => exact absurd (Nat.eq_of_beq_eq_true hx).symm hd
    rw [e]; rfl
  · obtain ⟨k, hk⟩ := Int.eq_ofNat_of_zero_le hn.1
    rw [hk]
    refine loop104 hb k _ _ [] (numM_p hp) (by simp; omega) ?_
    have hL : listR (needR bs) k (numM bs p e most).2.1 (numM bs p e most).2.2 = listM (needR bs) bs p e most := by rw [listM, hk]; rfl
    rw [hL, List.nil_append]
    exact ⟨[0, 1, 2, 3, 4], _, slN (listM (needR bs) bs p e most).1, selHR _, leNone renN, rfl, rfl⟩

theorem rel103 (hb : bs.length ≤ big) (hp : p ≤ bs.length) : ASpec Try.prog 96 [.ptr 1 0, .ptr 4 0] (HR bs p e) (fun r H' => r = .agg (T.encR (relR bs p e).1) ∧ H' = HR bs (relR bs p e).2.1 (relR bs p e).2.2) := by
  have h1 := numM_p (e := e) (most := 1000000000) hp
  refine ASpec.sel (s96 _ _ _ _ (ASpec.call (num_spec (H := HR bs p e ++ [.cells [.int .i64 0, .sl 0 (.raw []) .nil]]) (id := 0) (bs := bs) (p := p) (e := e) 1000000000 hb hp rfl) (Les.refl _) ⟨((numM bs p e 1000000000).1, ((numM bs p e 1000000000).2.1 : Nat), (numM bs p e 1000000000).2.2), rfl, rfl, ?_⟩))
  refine ASpec.call (subHR [.cells [.int .i64 0, .sl 0 (.raw []) .nil], .cells [.int .i64 (numM bs p e 1000000000).1, .sl 0 (.raw []) .nil]] (list104 (e := (numM bs p e 1000000000).2.2) (most := 6) (by omega) hb h1) rfl rfl) (Les.refl _)
    ⟨((listM (needR bs) bs (numM bs p e 1000000000).2.1 (numM bs p e 1000000000).2.2 6).1, ((listM (needR bs) bs (numM bs p e 1000000000).2.1 (numM bs p e 1000000000).2.2 6).2.1 : Nat), (listM (needR bs) bs (numM bs p e 1000000000).2.1 (numM bs p e 1000000000).2.2 6).2.2), rfl, rfl, ?_⟩
  exact ⟨[0, 1, 2, 3, 4], HR bs (relR bs p e).2.1 (relR bs p e).2.2, .agg (T.encR (relR bs p e).1), selHR _, Le.refl _, rfl, rfl⟩

theorem loop102 {Post : AV → List AObj → Prop} (hb : bs.length ≤ big) : ∀ (k p : Nat) (e : Int) (acc : List Rel), p ≤ bs.length → acc.length + k ≤ 100 →
    Post (.sl 2 (.map T.encR (0, []) (acc ++ (listR (relR bs) k p e).1)) (.tok 5)) (HR bs (listR (relR bs) k p e).2.1 (listR (relR bs) k p e).2.2 ++ [.tok]) →
    AWP Try.prog 27 5 c95_3 [(0, .ptr 0 0), (2, .fn 96 [.ptr 1 0, .ptr 4 0]), (7, .sl 2 (.map T.encR (0, []) acc) (.tok 5)), (8, .int .i64 k)] (HR bs p e ++ [.tok]) (q95_2 5 Post) := by
  intro k
  induction k with
  | zero =>
    intro p e acc hp ha h
    refine v95_3 _ _ _ _ _ _ _ (condD (fun hc => by omega) fun _ => ?_)
    simp only [listR, List.append_nil] at h
    exact h
  | succ k ih =>
    intro p e acc hp ha h
    simp only [listR] at h
    refine v95_3 _ _ _ _ _ _ _ (condD (fun _ => ?_) fun hc => by omega)
    refine ASpec.call (err_spec (H := HR bs p e ++ [.tok]) (id := 0) (bs := bs) (p := p) (e := e) rfl) (Les.refl _) ⟨e, rfl, rfl, condE (fun he => ?_) fun he => ?_⟩
    · rw [if_pos he] at h
      refine ASpec.call (subHR [.tok] (rel103 (e := e) hb hp) rfl rfl) (Les.refl _) ⟨((relR bs p e).1, ((relR bs p e).2.1 : Nat), (relR bs p e).2.2), rfl, rfl, needJ (by omega) ?_⟩
      rw [show IntKind.wrap .i64 (((k + 1 : Nat) : Int) - 1) = (k : Int) by rw [wrap64 (by omega) (by omega)]; omega]
      refine AWP.shape [0, 1, 2, 3, 4, 6] [(0, .ptr 0 0), (2, .fn 96 [.ptr 1 0, .ptr 4 0]), (7, .sl 2 (.map T.encR (0, []) (acc ++ [(relR bs p e).1])) (.tok 5)), (8, .int .i64 k)] _ selTokR
        ⟨rfl, Le.refl _, rfl, Le.refl _, rfl, leAppT renR rfl rfl, rfl, Le.refl _, trivial⟩ (ih _ _ _ (relR_p bs p e hp) (by simp; omega) ?_)
      simpa using h
    · rw [if_neg he] at h
      simp only [List.append_nil] at h
      exact h

theorem list102 {most : Int} (hm : 0 ≤ most ∧ most ≤ 100) (hb : bs.length ≤ big) (hp : p ≤ bs.length) : ASpec Try.prog 95 [.ptr 0 0, .int .i64 most, .fn 96 [.ptr 1 0, .ptr 4 0]] (HR bs p e)
    (fun r H' => r = slR (listM (relR bs) bs p e most).1 ∧ H' = HR bs (listM (relR bs) bs p e most).2.1 (listM (relR bs) bs p e most).2.2) := by
  have hn := numM_most bs p e most hm.1
  refine ASpec.sel (s95 _ _ _ _ _ (ASpec.call (num_spec (H := HR bs p e) (id := 0) (bs := bs) (p := p) (e := e) most hb hp rfl) (Les.refl _) ⟨((numM bs p e most).1, ((numM bs p e most).2.1 : Nat), (numM bs p e most).2.2), rfl, rfl, ?_⟩))
  refine AWP.re (ReSt.tok (H := HR bs (numM bs p e most).2.1 (numM bs p e most).2.2) (k := 7) (q' := .map T.encR (0, []) []) (sz' := 2) (s2 := [(0, .ptr 0 0), (2, .fn 96 [.ptr 1 0, .ptr 4 0]), (7, .sl 2 (.map T.encR (0, []) []) (.tok 5)), (8, .int .i64 (numM bs p e most).1)]) rfl (.inl rfl) rfl (.inr rfl) (fun d hd => ?_) rfl) ?_
  · simp only [Ab.get]
    have e : Nat.beq 7 d = false := by
      cases hx : Nat.beq 7 d with
      | false => rfl
      | true => exact absurd (Nat.eq_of_beq_eq_true hx).symm hd
    rw [e]; rfl
  · obtain ⟨k, hk⟩ := Int.eq_ofNat_of_zero_le hn.1
    rw [hk]
    refine loop102 hb k _ _ [] (numM_p hp) (by simp; omega) ?_
    have hL : listR (relR bs) k (numM bs p e most).2.1 (numM bs p e most).2.2 = listM (relR bs) bs p e most := by rw [listM, hk]; rfl
    rw [hL, List.nil_append]
    exact ⟨[0, 1, 2, 3, 4], _, slR (listM (relR bs) bs p e most).1, selHR _, leNone renR, rfl, rfl⟩

end

abbrev zM : AObj := .cells [.str ⟨#[]⟩, .sl 0 (.raw []) .nil]

theorem read_spec (bs : List UInt8) (hb : bs.length ≤ 1000000) (H : List AObj) : ASpec Try.prog 64 [sl1 bs] H (fun r H' => r = .tup [.agg (encM (readM bs).1), .int .i64 (readM bs).2] ∧ H' = H) := by
  have k : ASpec Try.prog 64 [sl1 bs] [] (fun r H' => r = .tup [.agg (encM (readM bs).1), .int .i64 (readM bs).2] ∧ H' = []) := by
    have hb' : bs.length ≤ big := by unfold big; omega
    have none_ : ∀ (c : Int) (H' : List AObj), readM bs = (([], []), c) → ∃ l H2 r2, Sel 0 l H' H2 ∧ Le (.tup [.agg [.str ⟨#[]⟩, .sl 0 (.raw []) .nil], .int .i64 c]) (AV.ren (selR l H'.length) r2) ∧
        r2 = .tup [.agg (encM (readM bs).1), .int .i64 (readM bs).2] ∧ H2 = [] := by
      intro c H' e
      rw [e]
      exact ⟨[], [], .tup [.agg (encM ([], [])), .int .i64 c], Sel.none,
        Le.tup ⟨Le.agg ⟨Le.refl _, Le.sl (s' := Seq.ren _ (.map T.encR (0, []) [])) rfl (.inr ⟨rfl, fun _ h => by cases h⟩) (.inr rfl), trivial⟩, Le.refl _, trivial⟩, rfl, rfl⟩
    refine ASpec.sel (s64 _ _ (condD (fun h => none_ 4 _ ?_) fun h => ?_))
    · rw [readM, if_pos (by omega)]
    have hR : readM bs = endM (maniR bs).1 (closeM (maniR bs).2.2 (bs.length - (maniR bs).2.1)) := by rw [readM, if_neg (by omega)]
    refine ASpec.call (V.open_spec bs hb' [zM]) (Les.refl _) ⟨bs, rfl, rfl, ?_⟩
    have c1 : ASpec Try.prog 89 [.ptr 2 0] [zM, rd bs 0 0, .cells [.ptr 1 0], .cells [.fn 89 [.ptr 2 0]], .cells [.fn 91 [.ptr 2 0]], .cells [.fn 93 [.ptr 3 0, .ptr 2 0, .ptr 4 0]]]
        (fun r H' => r = .str (B (strM bs 0 0 24).1) ∧ H' = [zM, rd bs (strM bs 0 0 24).2.1 (strM bs 0 0 24).2.2, .cells [.ptr 1 0], .cells [.fn 89 [.ptr 2 0]], .cells [.fn 91 [.ptr 2 0]], .cells [.fn 93 [.ptr 3 0, .ptr 2 0, .ptr 4 0]]]) := by
      refine ASpec.subH [1, 2, 3, 4, 5] _ _ (name98 (bs := bs) (p := 0) (e := 0) hb' (by omega)) _ _ (by decide) rfl rfl rfl (fun i hi => ?_) rfl
      match i, hi with
      | 0, _ | 1, _ | 2, _ | 3, _ | 4, _ => rfl
    refine ASpec.call c1 (Les.refl _) ⟨(B (strM bs 0 0 24).1, ((strM bs 0 0 24).2.1 : Nat), (strM bs 0 0 24).2.2), rfl, rfl, ?_⟩
    have hp1 : (strM bs 0 0 24).2.1 ≤ bs.length := strM_p (by omega)
    have c2 : ASpec Try.prog 95 [.ptr 1 0, .int .i64 8, .fn 96 [.ptr 2 0, .ptr 5 0]] [zM, rd bs (strM bs 0 0 24).2.1 (strM bs 0 0 24).2.2, .cells [.ptr 1 0], .cells [.fn 89 [.ptr 2 0]], .cells [.fn 91 [.ptr 2 0]], .cells [.fn 93 [.ptr 3 0, .ptr 2 0, .ptr 4 0]], .cells [.str (B (strM bs 0 0 24).1), .sl 0 (.raw []) .nil]]
        (fun r H' => r = slR (maniR bs).1.2 ∧ H' = [zM, rd bs (maniR bs).2.1 (maniR bs).2.2, .cells [.ptr 1 0], .cells [.fn 89 [.ptr 2 0]], .cells [.fn 91 [.ptr 2 0]], .cells [.fn 93 [.ptr 3 0, .ptr 2 0, .ptr 4 0]], .cells [.str (B (strM bs 0 0 24).1), .sl 0 (.raw []) .nil]]) := by
      refine ASpec.subH [1, 2, 3, 4, 5] _ _ (list102 (bs := bs) (p := (strM bs 0 0 24).2.1) (e := (strM bs 0 0 24).2.2) (most := 8) (by omega) hb' hp1) _ _ (by decide) rfl rfl rfl (fun i hi => ?_) rfl
      match i, hi with
      | 0, _ | 1, _ | 2, _ | 3, _ | 4, _ => rfl
    refine ASpec.call c2 (Les.refl _) ⟨((maniR bs).1.2, ((maniR bs).2.1 : Nat), (maniR bs).2.2), rfl, rfl, ?_⟩
    refine ASpec.call (close_spec (id := 1) (bs := bs) (p := (maniR bs).2.1) (e := (maniR bs).2.2) hb' (maniR_p bs) rfl) (Les.refl _) ⟨_, rfl, rfl, ?_⟩
    generalize hc : closeM (maniR bs).2.2 (bs.length - (maniR bs).2.1) = c at hR
    refine condE (fun h0 => ?_) fun h0 => condNe (fun _ => none_ _ _ (by rw [hR, endM, if_pos h0])) fun h1 => (h0 h1).elim
    refine ASpec.call (maniCheck_spec (maniR bs).1 (maniR_ok bs) _) (Les.refl _) ⟨_, rfl, rfl, condBn (fun hm => none_ _ _ ?_) fun hm => condNe (fun h1 => (h1 h0).elim) fun _ => ?_⟩
    · rw [hR, endM, if_neg (by simpa using h0), if_neg (by rw [hm]; simp)]
    · rw [hR, endM, if_neg (by simpa using h0), if_pos hm]
      exact ⟨[], [], .tup [.agg (encM (maniR bs).1), .int .i64 0], Sel.none, Le.refl _, rfl, rfl⟩
  exact ASpec.pureH H k _ _ rfl rfl

end W
end

section
/- WirePuts: the bytes of any manifest, and the manifest of any bytes, or what is wrong first, are the document's: the law's function returns true. -/

set_option linter.unusedVariables false
set_option linter.unusedSimpArgs false
set_option maxRecDepth 100000
open Go Go.Ab Go.Proofs V S T C
namespace W

/-! ### the document's model -/

def dSpan (l : List UInt8) (e : Int) : Span × List UInt8 × Int :=
  (((dnumM l e 1000000000).1, IntKind.wrap .i64 ((dnumM l e 1000000000).1 + (dnumM (dnumM l e 1000000000).2.1 (dnumM l e 1000000000).2.2 1000000000).1)),
    (dnumM (dnumM l e 1000000000).2.1 (dnumM l e 1000000000).2.2 1000000000).2)

def dF {α : Type} (one : List UInt8 → Int → α × List UInt8 × Int) : Nat → List UInt8 → Int → List α × List UInt8 × Int
  | 0, l, e => ([], l, e)
  | k + 1, l, e => ((one l e).1 :: (dF one k (one l e).2.1 (one l e).2.2).1, (dF one k (one l e).2.1 (one l e).2.2).2)

def dL {α : Type} (one : List UInt8 → Int → α × List UInt8 × Int) (l : List UInt8) (e most : Int) : List α × List UInt8 × Int :=
  dF one (dnumM l e most).1.toNat (dnumM l e most).2.1 (dnumM l e most).2.2

def dNeed (l : List UInt8) (e : Int) : Need × List UInt8 × Int :=
  (((dstrM l e 24).1, (dL dSpan (dstrM l e 24).2.1 (dstrM l e 24).2.2 6).1), (dL dSpan (dstrM l e 24).2.1 (dstrM l e 24).2.2 6).2)
def dRel (l : List UInt8) (e : Int) : Rel × List UInt8 × Int :=
  (((dnumM l e 1000000000).1, (dL dNeed (dnumM l e 1000000000).2.1 (dnumM l e 1000000000).2.2 6).1), (dL dNeed (dnumM l e 1000000000).2.1 (dnumM l e 1000000000).2.2 6).2)
def dMani (l : List UInt8) : Mani × List UInt8 × Int :=
  (((dstrM l 0 24).1, (dL dRel (dstrM l 0 24).2.1 (dstrM l 0 24).2.2 8).1), (dL dRel (dstrM l 0 24).2.1 (dstrM l 0 24).2.2 8).2)
def dRead (l : List UInt8) : Mani × Int := if 8192 < l.length then (([], []), 4) else endM (dMani l).1 (closeM (dMani l).2.2 (dMani l).2.1.length)

/-! ### it is the code's -/

def Alike {α : Type} (bs : List UInt8) (R : α × Nat × Int) (D : α × List UInt8 × Int) : Prop := D.2.1 = bs.drop R.2.1 ∧ D.2.2 = R.2.2 ∧ (R.2.2 = 0 → D.1 = R.1)

/-- behind an error nothing is taken -/
def Sticks {α : Type} (one : List UInt8 → Int → α × List UInt8 × Int) : Prop := ∀ l e, e ≠ 0 → (one l e).2 = (l, e)

theorem dnumM_err {l : List UInt8} {e most : Int} (h : e ≠ 0) : dnumM l e most = (0, l, e) := by simp only [dnumM, if_pos h]
theorem dstrM_err {l : List UInt8} {e most : Int} (h : e ≠ 0) : dstrM l e most = ([], l, e) := by simp only [dstrM, if_pos h]

theorem dF_err {α : Type} {one : List UInt8 → Int → α × List UInt8 × Int} (hs : Sticks one) {e : Int} (h : e ≠ 0) : ∀ (k : Nat) (l : List UInt8), (dF one k l e).2 = (l, e)
  | 0, l => rfl
  | k + 1, l => by
    have := hs l e h
    simp only [dF, this]
    exact dF_err hs h k l

theorem dL_err {α : Type} {one : List UInt8 → Int → α × List UInt8 × Int} (hs : Sticks one) {l : List UInt8} {e most : Int} (h : e ≠ 0) : (dL one l e most).2 = (l, e) := by
  unfold dL
  rw [dnumM_err h]
  exact dF_err hs h _ _

theorem dSpan_sticks : Sticks dSpan := fun l e h => by simp only [dSpan, dnumM_err h]
theorem dNeed_sticks : Sticks dNeed := fun l e h => by simp only [dNeed, dstrM_err h, dL_err dSpan_sticks h]
theorem dRel_sticks : Sticks dRel := fun l e h => by simp only [dRel, dnumM_err h, dL_err dNeed_sticks h]

theorem listR_err {α : Type} {one : Nat → Int → α × Nat × Int} {e : Int} (h : e ≠ 0) (k p : Nat) : listR one k p e = ([], p, e) := by
  cases k with
  | zero => rfl
  | succ k => simp only [listR, if_neg h]

theorem alikeF {α : Type} {bs : List UInt8} {one : Nat → Int → α × Nat × Int} {done : List UInt8 → Int → α × List UInt8 × Int} (h1 : ∀ p e, p ≤ bs.length → Alike bs (one p e) (done (bs.drop p) e)) (hin : Inside bs one) (hs : Sticks done) :
    ∀ (k p : Nat) (e : Int), p ≤ bs.length → Alike bs (listR one k p e) (dF done k (bs.drop p) e)
  | 0, p, e, hp => ⟨rfl, rfl, fun _ => rfl⟩
  | k + 1, p, e, hp => by
    by_cases he : e = 0
    · obtain ⟨a1, a2, a3⟩ := h1 p e hp
      obtain ⟨b1, b2, b3⟩ := alikeF h1 hin hs k (one p e).2.1 (one p e).2.2 (hin p e hp)
      simp only [listR, if_pos he, dF, a1, a2]
      refine ⟨b1, b2, fun h0 => ?_⟩
      have hz : (one p e).2.2 = 0 := by
        by_cases hz : (one p e).2.2 = 0
        · exact hz
        · simp only [listR_err hz] at h0
          exact h0
      show _ :: _ = _ :: _
      rw [a3 hz, b3 h0]
    · rw [listR_err he]
      have := dF_err hs he (k + 1) (bs.drop p)
      exact ⟨by rw [this], by rw [this], fun h => (he h).elim⟩

theorem alikeL {α : Type} {bs : List UInt8} {one : Nat → Int → α × Nat × Int} {done : List UInt8 → Int → α × List UInt8 × Int} (h1 : ∀ p e, p ≤ bs.length → Alike bs (one p e) (done (bs.drop p) e)) (hin : Inside bs one) (hs : Sticks done)
    {p : Nat} {e most : Int} (hp : p ≤ bs.length) : Alike bs (listM one bs p e most) (dL done (bs.drop p) e most) := by
  obtain ⟨hd, hq⟩ := num_doc bs p e most hp
  unfold listM dL
  rw [hd]
  exact alikeF h1 hin hs _ _ _ hq

theorem alikeSpan (bs : List UInt8) (p : Nat) (e : Int) (hp : p ≤ bs.length) : Alike bs (spanR bs p e) (dSpan (bs.drop p) e) := by
  obtain ⟨hd, hq⟩ := num_doc bs p e 1000000000 hp
  obtain ⟨hd2, hq2⟩ := num_doc bs (numM bs p e 1000000000).2.1 (numM bs p e 1000000000).2.2 1000000000 hq
  unfold dSpan spanR Alike
  rw [hd]
  simp only [hd2]
  exact ⟨trivial, trivial, fun _ => trivial⟩

theorem alikeNeed (bs : List UInt8) (p : Nat) (e : Int) (hp : p ≤ bs.length) : Alike bs (needR bs p e) (dNeed (bs.drop p) e) := by
  obtain ⟨hd, hq⟩ := str_doc bs p e 24 hp
  obtain ⟨a1, a2, a3⟩ := alikeL (alikeSpan bs) (spanR_p bs) dSpan_sticks (e := (strM bs p e 24).2.2) (most := 6) hq
  unfold dNeed needR Alike
  rw [hd]
  simp only [a1, a2]
  exact ⟨trivial, trivial, fun h => by rw [a3 h]⟩

theorem alikeRel (bs : List UInt8) (p : Nat) (e : Int) (hp : p ≤ bs.length) : Alike bs (relR bs p e) (dRel (bs.drop p) e) := by
  obtain ⟨hd, hq⟩ := num_doc bs p e 1000000000 hp
  obtain ⟨a1, a2, a3⟩ := alikeL (alikeNeed bs) (needR_p bs) dNeed_sticks (e := (numM bs p e 1000000000).2.2) (most := 6) hq
  unfold dRel relR Alike
  rw [hd]
  simp only [a1, a2]
  exact ⟨trivial, trivial, fun h => by rw [a3 h]⟩

theorem alikeMani (bs : List UInt8) : Alike bs (maniR bs) (dMani bs) := by
  obtain ⟨hd, hq⟩ := str_doc bs 0 0 24 (Nat.zero_le _)
  rw [List.drop_zero] at hd
  obtain ⟨a1, a2, a3⟩ := alikeL (alikeRel bs) (relR_p bs) dRel_sticks (e := (strM bs 0 0 24).2.2) (most := 8) hq
  unfold dMani maniR Alike
  rw [hd]
  simp only [a1, a2]
  exact ⟨trivial, trivial, fun h => by rw [a3 h]⟩

theorem dRead_eq (bs : List UInt8) : dRead bs = readM bs := by
  obtain ⟨a1, a2, a3⟩ := alikeMani bs
  unfold dRead readM
  rw [a1, a2, List.length_drop]
  by_cases h : (maniR bs).2.2 = 0
  · rw [a3 h]
  · have hc : ∀ n, closeM (maniR bs).2.2 n = (maniR bs).2.2 := fun n => by simp only [closeM, if_pos h]
    rw [hc]
    unfold endM
    rw [if_pos h, if_pos h]

/-! ### the document's walk -/

theorem dnumM_len (l : List UInt8) (e most : Int) : (dnumM l e most).2.1.length ≤ l.length := by
  unfold dnumM; split <;> simp
theorem dstrM_len (l : List UInt8) (e most : Int) : (dstrM l e most).2.1.length ≤ l.length := by
  unfold dstrM; repeat' split
  all_goals simp
theorem dnumM_most (l : List UInt8) (e most : Int) (h : 0 ≤ most) : 0 ≤ (dnumM l e most).1 ∧ (dnumM l e most).1 ≤ most := by
  unfold dnumM
  split
  · exact ⟨Int.le_refl _, h⟩
  · exact ⟨(lookM_le _ _).2.1, lookM_most _ _ h⟩
theorem dSpan_len (l : List UInt8) (e : Int) : (dSpan l e).2.1.length ≤ l.length := Nat.le_trans (dnumM_len _ _ _) (dnumM_len _ _ _)
theorem dF_len {α : Type} {one : List UInt8 → Int → α × List UInt8 × Int} (h : ∀ l e, (one l e).2.1.length ≤ l.length) : ∀ (k : Nat) (l : List UInt8) (e : Int), (dF one k l e).2.1.length ≤ l.length
  | 0, l, e => Nat.le_refl _
  | k + 1, l, e => Nat.le_trans (dF_len h k _ _) (h l e)
theorem dL_len {α : Type} {one : List UInt8 → Int → α × List UInt8 × Int} (h : ∀ l e, (one l e).2.1.length ≤ l.length) (l : List UInt8) (e most : Int) : (dL one l e most).2.1.length ≤ l.length :=
  Nat.le_trans (dF_len h _ _ _) (dnumM_len _ _ _)
theorem dNeed_len (l : List UInt8) (e : Int) : (dNeed l e).2.1.length ≤ l.length := Nat.le_trans (dL_len dSpan_len _ _ _) (dstrM_len _ _ _)
theorem dRel_len (l : List UInt8) (e : Int) : (dRel l e).2.1.length ≤ l.length := Nat.le_trans (dL_len dNeed_len _ _ _) (dnumM_len _ _ _)

section
variable {Post : AV → List AObj → Prop}

theorem q9 {acc : List Need} {n i : Int} {nm : List UInt8} (ha : acc.length ≤ 100) {k : Nat} (hk : k ≤ 100) {R : Need × List UInt8 × Int}
    (K : AWP Try.prog 47 1 c112_4 [(0, .ptr 0 0), (3, .sl 2 (.map encN ([], []) (acc ++ [R.1])) (.tok 1)), (4, .int .i64 n), (5, .int .i64 (IntKind.wrap .i64 (i + 1)))] [dr R.2.1 R.2.2, .tok] (q112_2 1 Post)) :
    ∀ (m j : Nat) (l : List UInt8) (e : Int) (sp : List Span), m + j = k → l.length ≤ 10 * big → sp.length + m ≤ 100 → R = ((nm, sp ++ (dF dSpan m l e).1), (dF dSpan m l e).2) →
    AWP Try.prog 47 1 c112_9 [(0, .ptr 0 0), (3, .sl 2 (.map encN ([], []) acc) (.tok 1)), (4, .int .i64 n), (5, .int .i64 i), (6, .ptr 2 0), (7, .int .i64 k), (8, .int .i64 j)]
      [dr l e, .tok, .cells [.str (B nm), .sl 2 (.map encS (0, 0) sp) (.tok 3)], .tok] (q112_7 1 Post) := by
  intro m
  induction m with
  | zero =>
    intro j l e sp hm hl hs hR
    refine v112_9 _ _ _ _ _ _ _ _ _ _ _ (condD (fun hc => by omega) fun _ => needJ (by omega) ?_)
    simp only [dF, List.append_nil] at hR
    subst hR
    refine AWP.shape [0, 4] [(0, .ptr 0 0), (3, .sl 2 (.map encN ([], []) (acc ++ [(nm, sp)])) (.tok 1)), (4, .int .i64 n), (5, .int .i64 (IntKind.wrap .i64 (i + 1)))] [dr l e, .tok] ?_ ⟨rfl, Le.refl _, rfl, ?_, rfl, Le.refl _, rfl, Le.refl _, trivial⟩ K
    · refine ⟨by decide, rfl, by decide, fun i hi => ?_, fun i hi => .inl ?_⟩
      · match i, hi with
        | 0, _ => rfl
      · match i, hi with
        | 0, _ | 1, _ => rfl
    · exact Le.trans (leAppE (x := (nm, sp)) ⟨Le.refl _, Le.sl rfl (.inl rfl) (.inr rfl), trivial⟩) (Le.refl _)
  | succ m ih =>
    intro j l e sp hm hl hs hR
    refine v112_9 _ _ _ _ _ _ _ _ _ _ _ (condD (fun _ => ?_) fun hc => by omega)
    have h1 := dnumM_len l e 1000000000
    refine ASpec.call (dnum_spec (H := [dr l e, .tok, .cells [.str (B nm), .sl 2 (.map encS (0, 0) sp) (.tok 3)], .tok]) (id := 0) (l := l) (e := e) 1000000000 hl rfl) (Les.refl _)
      ⟨((dnumM l e 1000000000).1, B (dnumM l e 1000000000).2.1, (dnumM l e 1000000000).2.2), rfl, rfl, ?_⟩
    refine ASpec.call (dnum_spec (H := [dr (dnumM l e 1000000000).2.1 (dnumM l e 1000000000).2.2, .tok, .cells [.str (B nm), .sl 2 (.map encS (0, 0) sp) (.tok 3)], .tok]) (id := 0) (l := (dnumM l e 1000000000).2.1) (e := (dnumM l e 1000000000).2.2) 1000000000 (by omega) rfl) (Les.refl _)
      ⟨((dnumM (dnumM l e 1000000000).2.1 (dnumM l e 1000000000).2.2 1000000000).1, B (dnumM (dnumM l e 1000000000).2.1 (dnumM l e 1000000000).2.2 1000000000).2.1, (dnumM (dnumM l e 1000000000).2.1 (dnumM l e 1000000000).2.2 1000000000).2.2), rfl, rfl, needJ (by omega) ?_⟩
    refine AWP.re (ReSt.leCell (id := 2) (cs' := [.str (B nm), .sl 2 (.map encS (0, 0) (sp ++ [(dSpan l e).1])) (.tok 4)]) rfl ⟨Le.refl _, leAppE (Les.refl _), trivial⟩) ?_
    rw [succ64 (by omega)]
    refine AWP.shape [0, 1, 2, 4] [(0, .ptr 0 0), (3, .sl 2 (.map encN ([], []) acc) (.tok 1)), (4, .int .i64 n), (5, .int .i64 i), (6, .ptr 2 0), (7, .int .i64 k), (8, .int .i64 (j + 1 : Nat))]
      [dr (dSpan l e).2.1 (dSpan l e).2.2, .tok, .cells [.str (B nm), .sl 2 (.map encS (0, 0) (sp ++ [(dSpan l e).1])) (.tok 3)], .tok] ?_
      ⟨rfl, Le.refl _, rfl, Le.refl _, rfl, Le.refl _, rfl, Le.refl _, rfl, Le.refl _, rfl, Le.refl _, rfl, Le.refl _, trivial⟩ (ih (j + 1) _ _ _ (by omega) (Nat.le_trans (dSpan_len l e) hl) (by simp; omega) ?_)
    · refine ⟨by decide, rfl, by decide, fun i hi => ?_, fun i hi => .inl ?_⟩
      · match i, hi with
        | 0, _ => rfl
      · match i, hi with
        | 0, _ | 1, _ | 2, _ | 3, _ => rfl
    · rw [hR]; simp [dF]

theorem q4 {n : Nat} (hn : n ≤ 50) : ∀ (m i : Nat) (l : List UInt8) (e : Int) (acc : List Need), m + i = n → l.length ≤ 10 * big → acc.length + m ≤ 100 →
    Post (.sl 2 (.map encN ([], []) (acc ++ (dF dNeed m l e).1)) (.tok 1)) [dr (dF dNeed m l e).2.1 (dF dNeed m l e).2.2, .tok] →
    AWP Try.prog 47 1 c112_4 [(0, .ptr 0 0), (3, .sl 2 (.map encN ([], []) acc) (.tok 1)), (4, .int .i64 n), (5, .int .i64 i)] [dr l e, .tok] (q112_2 1 Post) := by
  intro m
  induction m with
  | zero =>
    intro i l e acc hm hl ha h
    refine v112_4 _ _ _ _ _ _ _ (condD (fun hc => by omega) fun _ => ?_)
    simp only [dF, List.append_nil] at h
    exact h
  | succ m ih =>
    intro i l e acc hm hl ha h
    refine v112_4 _ _ _ _ _ _ _ (condD (fun _ => ?_) fun hc => by omega)
    have h1 := dstrM_len l e 24
    have h2 := dnumM_most (dstrM l e 24).2.1 (dstrM l e 24).2.2 6 (by omega)
    have h3 := dnumM_len (dstrM l e 24).2.1 (dstrM l e 24).2.2 6
    refine ASpec.call (dstr_spec (H := [dr l e, .tok]) (id := 0) (l := l) (e := e) 24 hl rfl) (Les.refl _) ⟨(B (dstrM l e 24).1, B (dstrM l e 24).2.1, (dstrM l e 24).2.2), rfl, rfl, ?_⟩
    refine ASpec.call (dnum_spec (H := [dr (dstrM l e 24).2.1 (dstrM l e 24).2.2, .tok, .cells [.str (B (dstrM l e 24).1), .sl 0 (.raw []) .nil]]) (id := 0) (l := (dstrM l e 24).2.1) (e := (dstrM l e 24).2.2) 6 (by omega) rfl) (Les.refl _)
      ⟨((dnumM (dstrM l e 24).2.1 (dstrM l e 24).2.2 6).1, B (dnumM (dstrM l e 24).2.1 (dstrM l e 24).2.2 6).2.1, (dnumM (dstrM l e 24).2.1 (dstrM l e 24).2.2 6).2.2), rfl, rfl, ?_⟩
    refine AWP.re (ReSt.tokCell (id := 2) (j := 1) (q' := .map encS (0, 0) []) (sz' := 2) rfl rfl (.inl rfl) rfl (.inr rfl)) ?_
    obtain ⟨k, hk⟩ := Int.eq_ofNat_of_zero_le h2.1
    rw [hk]
    refine q9 (nm := (dstrM l e 24).1) (by omega) (k := k) (by omega) (R := dNeed l e) ?_ k 0 _ _ [] (by omega) (by omega) (by simp; omega) ?_
    · rw [succ64 (by omega)]
      refine ih (i + 1) _ _ _ (by omega) (Nat.le_trans (dNeed_len l e) hl) (by simp; omega) ?_
      simp only [dF] at h
      simpa using h
    · rw [dNeed, dL, hk]; rfl

theorem dneeds_read {H : List AObj} {id : Nat} {l : List UInt8} {e : Int} (hl : l.length ≤ 10 * big) (h : AtD H id l e) :
    ASpec Try.prog 112 [.ptr id 0] H (fun r H' => r = slN (dL dNeed l e 6).1 ∧ H' = H.set id (dr (dL dNeed l e 6).2.1 (dL dNeed l e 6).2.2)) := by
  have k : ASpec Try.prog 112 [.ptr 0 0] [dr l e] (fun r H' => r = slN (dL dNeed l e 6).1 ∧ H' = [dr (dL dNeed l e 6).2.1 (dL dNeed l e 6).2.2]) := by
    have h2 := dnumM_most l e 6 (by omega)
    have h3 := dnumM_len l e 6
    refine ASpec.sel (s112 _ _ _ (ASpec.call (dnum_spec (H := [dr l e]) (id := 0) (l := l) (e := e) 6 hl rfl) (Les.refl _) ⟨((dnumM l e 6).1, B (dnumM l e 6).2.1, (dnumM l e 6).2.2), rfl, rfl, ?_⟩))
    refine AWP.re (ReSt.tok (H := [dr (dnumM l e 6).2.1 (dnumM l e 6).2.2]) (k := 3) (q' := .map encN ([], []) []) (sz' := 2) (s2 := [(0, .ptr 0 0), (3, .sl 2 (.map encN ([], []) []) (.tok 1)), (4, .int .i64 (dnumM l e 6).1), (5, .int .i64 0)]) rfl (.inl rfl) rfl (.inr rfl) (fun d hd => ?_) rfl) ?_
    · simp only [Ab.get]
      have e : Nat.beq 3 d = false := by
        cases hx : Nat.beq 3 d with
        | false => rfl
        | true => exact absurd (Nat.eq_of_beq_eq_true hx).symm hd
      rw [e]; rfl
    · obtain ⟨k, hk⟩ := Int.eq_ofNat_of_zero_le h2.1
      rw [hk]
      refine q4 (n := k) (by omega) k 0 _ _ [] (by omega) (by omega) (by simp; omega) ?_
      have hL : dF dNeed k (dnumM l e 6).2.1 (dnumM l e 6).2.2 = dL dNeed l e 6 := by rw [dL, hk]; rfl
      rw [hL, List.nil_append]
      refine ⟨[0], [dr (dL dNeed l e 6).2.1 (dL dNeed l e 6).2.2], slN (dL dNeed l e 6).1, ?_, leNone renN, rfl, rfl⟩
      refine ⟨by decide, rfl, Nat.le_refl _, fun i hi => ?_, fun i hi => .inl ?_⟩
      · match i, hi with
        | 0, _ => rfl
      · match i, hi with
        | 0, _ => rfl
  exact ASpec.oneH H id k _ _ _ rfl rfl h rfl

/-- a manifest and an error are told, whatever lies in the heap -/
abbrev PM (v : Mani × Int) : AV → List AObj → Prop := fun r H' => ∃ l H2 r2, Sel 0 l H' H2 ∧ Le r (AV.ren (selR l H'.length) r2) ∧ (r2 = .tup [.agg (encM v.1), .int .i64 v.2] ∧ H2 = [])

theorem pmNil {v : Mani × Int} {c : Int} {H' : List AObj} (h : v = (([], []), c)) : PM v (.tup [.agg [.str ⟨#[]⟩, .sl 0 (.raw []) .nil], .int .i64 c]) H' := by
  subst h
  exact ⟨[], [], .tup [.agg (encM ([], [])), .int .i64 c], Sel.none,
    Le.tup ⟨Le.agg ⟨Le.refl _, Le.sl (s' := Seq.ren _ (.map T.encR (0, []) [])) rfl (.inr ⟨rfl, fun _ h => by cases h⟩) (.inr rfl), trivial⟩, Le.refl _, trivial⟩, rfl, rfl⟩

theorem pmVal {v : Mani × Int} {nm : List UInt8} {rs : List Rel} {tip : Tip} {H' : List AObj} (h : v = ((nm, rs), 0)) : PM v (.tup [.agg [.str (B nm), .sl 2 (.map T.encR (0, []) rs) tip], .int .i64 0]) H' := by
  subst h
  exact ⟨[], [], .tup [.agg (encM (nm, rs)), .int .i64 0], Sel.none, Le.tup ⟨Le.agg ⟨Le.refl _, leNone renR, trivial⟩, Le.refl _, trivial⟩, rfl, rfl⟩

theorem q7 {nm : List UInt8} {n : Nat} (hn : n ≤ 50) {v : Mani × Int} {R : List Rel × List UInt8 × Int} (hR : v = endM (nm, R.1) (closeM R.2.2 R.2.1.length)) (hok : closeM R.2.2 R.2.1.length = 0 → okM (nm, R.1)) :
    ∀ (m i : Nat) (l : List UInt8) (e : Int) (acc : List Rel), m + i = n → l.length ≤ 10 * big → acc.length + m ≤ 100 → R = (acc ++ (dF dRel m l e).1, (dF dRel m l e).2) →
    AWP Try.prog 53 0 c75_7 [(2, .ptr 0 0), (4, .ptr 1 0), (5, .ptr 2 0), (6, .int .i64 n), (7, .int .i64 i)] [zM, dr l e, .cells [.str (B nm), .sl 2 (.map T.encR (0, []) acc) (.tok 3)], .tok] (q75_2 0 (PM v)) := by
  intro m
  induction m with
  | zero =>
    intro i l e acc hm hl ha h
    simp only [dF, List.append_nil] at h
    subst h
    refine v75_7 _ _ _ _ _ _ _ _ (condD (fun hc => by omega) fun _ => ?_)
    refine ASpec.call (dclose_spec (H := [zM, dr l e, .cells [.str (B nm), .sl 2 (.map T.encR (0, []) acc) (.tok 3)], .tok]) (id := 1) (l := l) (e := e) rfl) (Les.refl _) ⟨_, rfl, rfl, ?_⟩
    generalize closeM e l.length = c at hR hok
    refine condE (fun h0 => ?_) fun h0 => condNe (fun _ => pmNil (by rw [hR, endM, if_pos h0])) fun h1 => (h0 h1).elim
    refine ASpec.call (rmaniCheck_spec (nm, acc) (hok h0) _) ⟨Le.agg ⟨Le.refl _, Le.sl rfl (.inl rfl) (.inr rfl), trivial⟩, trivial⟩ ⟨_, rfl, rfl, condBn (fun hm => pmNil ?_) fun hm => condNe (fun h1 => (h1 h0).elim) fun _ => pmVal ?_⟩
    · rw [hR, endM, if_neg (by simpa using h0), if_neg (by rw [hm]; simp)]
    · rw [hR, endM, if_neg (by simpa using h0), if_pos hm]
  | succ m ih =>
    intro i l e acc hm hl ha h
    have h1 := dnumM_len l e 1000000000
    refine v75_7 _ _ _ _ _ _ _ _ (condD (fun _ => ?_) fun hc => by omega)
    refine ASpec.call (dnum_spec (H := [zM, dr l e, .cells [.str (B nm), .sl 2 (.map T.encR (0, []) acc) (.tok 3)], .tok]) (id := 1) (l := l) (e := e) 1000000000 hl rfl) (Les.refl _)
      ⟨((dnumM l e 1000000000).1, B (dnumM l e 1000000000).2.1, (dnumM l e 1000000000).2.2), rfl, rfl, ?_⟩
    refine ASpec.call (dneeds_read (H := [zM, dr (dnumM l e 1000000000).2.1 (dnumM l e 1000000000).2.2, .cells [.str (B nm), .sl 2 (.map T.encR (0, []) acc) (.tok 3)], .tok, .cells [.int .i64 (dnumM l e 1000000000).1, .sl 0 (.raw []) .nil]]) (id := 1) (l := (dnumM l e 1000000000).2.1) (e := (dnumM l e 1000000000).2.2) (by omega) rfl) (Les.refl _)
      ⟨((dRel l e).1.2, B (dRel l e).2.1, (dRel l e).2.2), rfl, rfl, needJ (by omega) ?_⟩
    refine AWP.re (ReSt.leCell (id := 2) (cs' := [.str (B nm), .sl 2 (.map T.encR (0, []) (acc ++ [(dRel l e).1])) (.tok 5)]) rfl ⟨Le.refl _, leAppE (Les.refl _), trivial⟩) ?_
    rw [succ64 (by omega)]
    refine AWP.shape [0, 1, 2, 5] [(2, .ptr 0 0), (4, .ptr 1 0), (5, .ptr 2 0), (6, .int .i64 n), (7, .int .i64 (i + 1 : Nat))]
      [zM, dr (dRel l e).2.1 (dRel l e).2.2, .cells [.str (B nm), .sl 2 (.map T.encR (0, []) (acc ++ [(dRel l e).1])) (.tok 3)], .tok] ?_
      ⟨rfl, Le.refl _, rfl, Le.refl _, rfl, Le.refl _, rfl, Le.refl _, rfl, Le.refl _, trivial⟩ (ih (i + 1) _ _ _ (by omega) (Nat.le_trans (dRel_len l e) hl) (by simp; omega) ?_)
    · refine ⟨by decide, rfl, by decide, fun i hi => by omega, fun i hi => .inl ?_⟩
      match i, hi with
      | 0, _ | 1, _ | 2, _ | 3, _ => rfl
    · rw [h]; simp [dF]

theorem rread_spec (bs : List UInt8) (hb : bs.length ≤ 1000000) (H : List AObj) : ASpec Try.prog 75 [.str (B bs)] H (fun r H' => r = .tup [.agg (encM (readM bs).1), .int .i64 (readM bs).2] ∧ H' = H) := by
  have k : ASpec Try.prog 75 [.str (B bs)] [] (fun r H' => r = .tup [.agg (encM (readM bs).1), .int .i64 (readM bs).2] ∧ H' = []) := by
    have hl : bs.length ≤ 10 * big := by unfold big; omega
    refine ASpec.sel (s75 _ _ ?_)
    rw [B_size]
    refine condD (fun h => pmNil ?_) fun h => ?_
    · rw [readM, if_pos (by omega)]
    have h1 := dstrM_len bs 0 24
    have h2 := dnumM_most (dstrM bs 0 24).2.1 (dstrM bs 0 24).2.2 8 (by omega)
    have h3 := dnumM_len (dstrM bs 0 24).2.1 (dstrM bs 0 24).2.2 8
    refine ASpec.call (dstr_spec (H := [zM, dr bs 0]) (id := 1) (l := bs) (e := 0) 24 hl rfl) (Les.refl _) ⟨(B (dstrM bs 0 24).1, B (dstrM bs 0 24).2.1, (dstrM bs 0 24).2.2), rfl, rfl, ?_⟩
    refine ASpec.call (dnum_spec (H := [zM, dr (dstrM bs 0 24).2.1 (dstrM bs 0 24).2.2, .cells [.str (B (dstrM bs 0 24).1), .sl 0 (.raw []) .nil]]) (id := 1) (l := (dstrM bs 0 24).2.1) (e := (dstrM bs 0 24).2.2) 8 (by omega) rfl) (Les.refl _)
      ⟨((dnumM (dstrM bs 0 24).2.1 (dstrM bs 0 24).2.2 8).1, B (dnumM (dstrM bs 0 24).2.1 (dstrM bs 0 24).2.2 8).2.1, (dnumM (dstrM bs 0 24).2.1 (dstrM bs 0 24).2.2 8).2.2), rfl, rfl, ?_⟩
    refine AWP.re (ReSt.tokCell (id := 2) (j := 1) (q' := .map T.encR (0, []) []) (sz' := 2) rfl rfl (.inl rfl) rfl (.inr rfl)) ?_
    obtain ⟨k, hk⟩ := Int.eq_ofNat_of_zero_le h2.1
    rw [hk]
    obtain ⟨a1, a2, a3⟩ := alikeMani bs
    refine q7 (n := k) (by omega) (R := ((dMani bs).1.2, (dMani bs).2)) ?_ ?_ k 0 _ _ [] (by omega) (by omega) (by simp; omega) ?_
    · rw [← dRead_eq, dRead, if_neg (by omega)]; rfl
    · intro h0
      have he : (maniR bs).2.2 = 0 := by
        by_cases he : (maniR bs).2.2 = 0
        · exact he
        · simp only [a2] at h0
          have hc : ∀ n, closeM (maniR bs).2.2 n = (maniR bs).2.2 := fun n => by simp only [closeM, if_pos he]
          rw [hc] at h0
          exact h0
      have := maniR_ok bs
      rw [← a3 he] at this
      exact this
    · simp only [dMani, dL, hk]; rfl
  exact ASpec.pureH H k _ _ rfl rfl

/-! ### are they alike? -/

theorem cons_dec {α : Type} [DecidableEq α] (x y : α) (a b : List α) : decide (x :: a = y :: b) = (decide (x = y) && decide (a = b)) := by
  rw [Bool.eq_iff_iff]; simp

/-! ### the law -/

end
end W
end

section
/- The index of manifests: what is put first stays. -/

set_option linter.unusedVariables false
set_option linter.unusedSimpArgs false
set_option maxRecDepth 100000
open Go Go.Ab Go.Proofs V S T C
open W (sl1 slS slN slR leNone renN renR readM)
namespace X

abbrev PA (r0 : AV) : AV → List AObj → Prop := fun r H' => ∃ l H2 r2, Sel 0 l H' H2 ∧ Le r (AV.ren (selR l H'.length) r2) ∧ (r2 = r0 ∧ H2 = [])
theorem pa {r r0 : AV} {H' : List AObj} (h : Le r (AV.ren (selR [] H'.length) r0)) : PA r0 r H' := ⟨[], [], r0, Sel.none, h, rfl, rfl⟩
/-! ### copies -/

theorem leS0 {ρ : Nat → Nat} : Le (.sl 0 (.raw []) .nil) (AV.ren ρ (slS [])) := Le.sl (s' := Seq.ren ρ (.map encS (0, 0) [])) rfl (.inr ⟨rfl, fun _ h => by cases h⟩) (.inr rfl)

theorem cloneS_spec (l : List Span) (hl : l.length ≤ lim) (H : List AObj) : ASpec Try.prog 115 [slS l] H (fun r H' => r = slS l ∧ H' = H) := by
  unfold lim at hl
  have k : ASpec Try.prog 115 [slS l] [] (fun r H' => r = slS l ∧ H' = []) := by
    refine ASpec.sel (s115 _ _ fun b hb => condB (fun h => pa ?_) fun h => needJ (fun x => rfl) (needJ (by omega) (pa ?_)))
    · have := hb h
      simp only [Ab.Seq.toList, List.map_eq_nil_iff] at this
      subst this
      exact leS0
    · exact Le.sl (s' := Seq.ren _ (.map encS (0, 0) l)) (by simp [Ab.Seq.toList, Seq.ren, W.renS]) (.inl rfl) (.inr rfl)
  exact ASpec.pureH H k _ _ rfl rfl

theorem cloneR3 {v : Int} {l : List Need} {R : List Need} (hl : okN l) : ∀ (m i : Nat) (acc : List Need), m + i = l.length → acc.length + m ≤ lim → acc ++ l.drop i = R →
    AWP Try.prog 29 0 c76_3 [(2, .ptr 0 0), (3, .ptr 1 0), (10, slN l), (11, .int .i64 l.length), (12, .int .i64 i)]
      [.cells [.int .i64 0, .sl 0 (.raw []) .nil], .cells [.int .i64 v, .sl 2 (.map encN ([], []) acc) (.tok 2)], .tok] (q76_2 0 (PA (.agg (T.encR (v, R))))) := by
  obtain ⟨hl1, hl2⟩ := hl
  unfold lim at hl1
  intro m
  induction m with
  | zero =>
    intro i acc hm ha h
    refine v76_3 _ _ _ _ _ _ _ (condD (fun hc => by omega) fun _ => pa ?_)
    rw [List.drop_eq_nil_of_le (by omega), List.append_nil] at h
    subst h
    exact Le.agg ⟨Le.refl _, leNone renN, trivial⟩
  | succ m ih =>
    intro i acc hm ha h
    unfold lim at ha
    have hx := hl2 _ (memD l ([], []) i (by omega))
    rw [dropD l ([], []) i (by omega)] at h
    refine v76_3 _ _ _ _ _ _ _ (condD (fun hc => needJ ⟨by omega, by omega⟩ ?_) fun hc => by omega)
    rw [Int.toNat_natCast]
    generalize l.getD i ([], []) = x at h hx ⊢
    refine ASpec.call (cloneS_spec x.2 hx.2 _) (Les.refl _) ⟨x.2, rfl, rfl, ⟨rfl, rfl⟩, ⟨rfl, rfl⟩, needJ (by omega) ?_⟩
    refine AWP.re (ReSt.leCell (id := 1) (cs' := [.int .i64 v, .sl 2 (.map encN ([], []) (acc ++ [x])) (.tok 4)]) rfl ⟨Le.refl _, leAppE (Les.refl _), trivial⟩) ?_
    rw [succ64 (by omega)]
    refine AWP.shape [0, 1, 4] [(2, .ptr 0 0), (3, .ptr 1 0), (10, slN l), (11, .int .i64 l.length), (12, .int .i64 (i + 1 : Nat))]
      [.cells [.int .i64 0, .sl 0 (.raw []) .nil], .cells [.int .i64 v, .sl 2 (.map encN ([], []) (acc ++ [x])) (.tok 2)], .tok] ?_
      ⟨rfl, Le.refl _, rfl, Le.refl _, rfl, Le.refl _, rfl, Le.refl _, rfl, Le.refl _, trivial⟩ (ih (i + 1) _ (by omega) (by simp; unfold lim; omega) ?_)
    · refine ⟨by decide, rfl, by decide, fun i hi => by omega, fun i hi => .inl ?_⟩
      match i, hi with
      | 0, _ | 1, _ | 2, _ => rfl
    · rw [← h]; simp

theorem cloneR_spec (x : Rel) (hl : okN x.2) (H : List AObj) : ASpec Try.prog 76 [.agg (T.encR x)] H (fun r H' => r = .agg (T.encR x) ∧ H' = H) := by
  have k : ASpec Try.prog 76 [.agg (T.encR x)] [] (fun r H' => r = .agg (T.encR x) ∧ H' = []) := by
    refine ASpec.sel (s76 _ _ ?_)
    refine AWP.re (ReSt.tokCell (id := 2) (j := 1) (q' := .map encN ([], []) []) (sz' := 2) rfl rfl (.inl rfl) rfl (.inr rfl)) ?_
    refine AWP.shape [1, 2, 3] [(2, .ptr 0 0), (3, .ptr 1 0), (10, slN x.2), (11, .int .i64 x.2.length), (12, .int .i64 (0 : Nat))]
      [.cells [.int .i64 0, .sl 0 (.raw []) .nil], .cells [.int .i64 x.1, .sl 2 (.map encN ([], []) []) (.tok 2)], .tok] ?_
      ⟨rfl, Le.refl _, rfl, Le.refl _, rfl, Le.refl _, rfl, Le.refl _, rfl, Le.refl _, trivial⟩ (cloneR3 hl x.2.length 0 [] (by omega) (by have := hl.1; simp; omega) rfl)
    refine ⟨by decide, rfl, by decide, fun i hi => by omega, fun i hi => .inl ?_⟩
    match i, hi with
    | 0, _ | 1, _ | 2, _ => rfl
  exact ASpec.pureH H k _ _ rfl rfl

theorem cloneM3 {s : List UInt8} {l : List Rel} {R : List Rel} (hl1 : l.length ≤ lim) (hl2 : ∀ r ∈ l, okN r.2) : ∀ (m i : Nat) (acc : List Rel), m + i = l.length → acc.length + m ≤ lim → acc ++ l.drop i = R →
    AWP Try.prog 25 0 c59_3 [(2, .ptr 0 0), (3, .ptr 1 0), (10, slR l), (11, .int .i64 l.length), (12, .int .i64 i)]
      [.cells [.str ⟨#[]⟩, .sl 0 (.raw []) .nil], .cells [.str (B s), .sl 2 (.map T.encR (0, []) acc) (.tok 2)], .tok] (q59_2 0 (PA (.agg (encM (s, R))))) := by
  unfold lim at hl1
  intro m
  induction m with
  | zero =>
    intro i acc hm ha h
    refine v59_3 _ _ _ _ _ _ _ (condD (fun hc => by omega) fun _ => pa ?_)
    rw [List.drop_eq_nil_of_le (by omega), List.append_nil] at h
    subst h
    exact Le.agg ⟨Le.refl _, leNone renR, trivial⟩
  | succ m ih =>
    intro i acc hm ha h
    unfold lim at ha
    have hx := hl2 _ (memD l (0, []) i (by omega))
    rw [dropD l (0, []) i (by omega)] at h
    refine v59_3 _ _ _ _ _ _ _ (condD (fun hc => needJ ⟨by omega, by omega⟩ ?_) fun hc => by omega)
    rw [Int.toNat_natCast]
    generalize l.getD i (0, []) = x at h hx ⊢
    refine ASpec.call (cloneR_spec x hx _) (Les.refl _) ⟨x, rfl, rfl, ⟨rfl, rfl⟩, needJ (by omega) ?_⟩
    refine AWP.re (ReSt.leCell (id := 1) (cs' := [.str (B s), .sl 2 (.map T.encR (0, []) (acc ++ [x])) (.tok 4)]) rfl ⟨Le.refl _, leAppE (Les.refl _), trivial⟩) ?_
    rw [succ64 (by omega)]
    refine AWP.shape [0, 1, 4] [(2, .ptr 0 0), (3, .ptr 1 0), (10, slR l), (11, .int .i64 l.length), (12, .int .i64 (i + 1 : Nat))]
      [.cells [.str ⟨#[]⟩, .sl 0 (.raw []) .nil], .cells [.str (B s), .sl 2 (.map T.encR (0, []) (acc ++ [x])) (.tok 2)], .tok] ?_
      ⟨rfl, Le.refl _, rfl, Le.refl _, rfl, Le.refl _, rfl, Le.refl _, rfl, Le.refl _, trivial⟩ (ih (i + 1) _ (by omega) (by simp; unfold lim; omega) ?_)
    · refine ⟨by decide, rfl, by decide, fun i hi => by omega, fun i hi => .inl ?_⟩
      match i, hi with
      | 0, _ | 1, _ | 2, _ => rfl
    · rw [← h]; simp

theorem cloneM_spec (x : Mani) (hl : okM x) (H : List AObj) : ASpec Try.prog 59 [.agg (encM x)] H (fun r H' => r = .agg (encM x) ∧ H' = H) := by
  have k : ASpec Try.prog 59 [.agg (encM x)] [] (fun r H' => r = .agg (encM x) ∧ H' = []) := by
    refine ASpec.sel (s59 _ _ ?_)
    refine AWP.re (ReSt.tokCell (id := 2) (j := 1) (q' := .map T.encR (0, []) []) (sz' := 2) rfl rfl (.inl rfl) rfl (.inr rfl)) ?_
    refine AWP.shape [1, 2, 3] [(2, .ptr 0 0), (3, .ptr 1 0), (10, slR x.2), (11, .int .i64 x.2.length), (12, .int .i64 (0 : Nat))]
      [.cells [.str ⟨#[]⟩, .sl 0 (.raw []) .nil], .cells [.str (B x.1), .sl 2 (.map T.encR (0, []) []) (.tok 2)], .tok] ?_
      ⟨rfl, Le.refl _, rfl, Le.refl _, rfl, Le.refl _, rfl, Le.refl _, rfl, Le.refl _, trivial⟩ (cloneM3 hl.2.1 hl.2.2 x.2.length 0 [] (by omega) (by have := hl.2.1; simp; omega) rfl)
    refine ⟨by decide, rfl, by decide, fun i hi => by omega, fun i hi => .inl ?_⟩
    match i, hi with
    | 0, _ | 1, _ | 2, _ => rfl
  exact ASpec.pureH H k _ _ rfl rfl

/-! ### the index in its heap -/

theorem EK_ren (ρ : Nat → Nat) : Enc.ren ρ EK = EK := by
  have e1 : (fun a => AV.ren ρ (EK.enc a)) = EK.enc := by funext a; cases a <;> rfl
  have e2 : (fun (a : Known) (K : AV → Prop) => EK.spl a (fun v => K (AV.ren ρ v))) = EK.spl := by funext a K; cases a <;> rfl
  unfold Enc.ren
  cases hE : EK with
  | mk enc spl ok =>
    rw [hE] at e1 e2
    simp only at e1 e2 ⊢
    simp only [e1, e2]

theorem mp_ren (ρ : Nat → Nat) (es : Kn) : AObj.ren ρ (.mp (.typed EK es)) = .mp (.typed EK es) := by
  simp only [AObj.ren, MM.ren, EK_ren]

theorem liftX {f : FuncId} {args args' : List AV} {r0 r' : AV} {es es' : Kn} (H : List AObj) (q p : Nat) (hqp : q ≠ p) (hq : H[q]? = some (.mp (.typed EK es))) (hp : H[p]? = some (.cells [.map q]))
    (k : ASpec Try.prog f args (HX es) (fun r H' => r = r0 ∧ H' = HX es')) (ha : args.map (AV.ren (callR [q, p] H.length)) = args') (hr : AV.ren (callR [q, p] H.length) r0 = r') :
    ASpec Try.prog f args' H (fun r H' => r = r' ∧ H' = H.set q (.mp (.typed EK es'))) := by
  refine ASpec.subH [q, p] H _ k args' r' (by simpa using hqp) rfl ha hr (fun i hi => ?_) ?_
  · match i, hi with
    | 0, _ => show H[q]? = some (AObj.ren _ (.mp (.typed EK es))); rw [mp_ren]; try exact hq
    | 1, _ => exact hp
  · have e : (H.set q (.mp (.typed EK es')))[p]? = some (.cells [.map q]) := by rw [List.getElem?_set_ne hqp]; exact hp
    have h2 : graftH (callR [q, p] H.length) [q, p] H (HX es') = (H.set q (AObj.ren (callR [q, p] H.length) (.mp (.typed EK es')))).set p (AObj.ren (callR [q, p] H.length) (.cells [.map 0])) := by
      simp [graftH, grafted, HX]
    rw [h2, mp_ren]
    exact set_same e

/-- the heap of an index, and a result -/
abbrev PX (es : Kn) (r0 : AV) : AV → List AObj → Prop := fun r H' => ∃ l H2 r2, Sel 2 l H' H2 ∧ Le r (AV.ren (selR l H'.length) r2) ∧ (r2 = r0 ∧ H2 = HX es)
theorem selX (es : Kn) (q : List AObj) : Sel 2 [0, 1] (HX es ++ q) (HX es) := by
  refine ⟨by decide, rfl, by decide, fun i hi => ?_, fun i hi => .inl ?_⟩
  · match i, hi with
    | 0, _ | 1, _ => rfl
  · match i, hi with
    | 0, _ => show some _ = some (AObj.ren _ (.mp (.typed EK es))); rw [mp_ren]
    | 1, _ => rfl
theorem px {es : Kn} {r r0 : AV} (q : List AObj) (h : Le r (AV.ren (selR [0, 1] (HX es ++ q).length) r0)) : PX es r0 r (HX es ++ q) := ⟨_, _, _, selX es q, h, rfl, rfl⟩

theorem new_spec (H : List AObj) : ASpec Try.prog 37 [] H (fun r H' => r = .ptr (H.length + 1) 0 ∧ H' = H ++ [.mp (.typed EK []), .cells [.map H.length]]) := by
  have k : ASpec Try.prog 37 [] [] (fun r H' => r = .ptr 1 0 ∧ H' = HX []) :=
    ASpec.outMap (s37 _ ⟨0, .nil, .typed EK [], rfl, mle_nil, rfl, rfl⟩)
  refine (ASpec.subH [] H (H ++ [.mp (.typed EK []), .cells [.map H.length]]) k [] (.ptr (H.length + 1) 0) (by simp) rfl rfl (by simp [AV.ren, callR]) (fun i hi => by cases hi) ?_)
  simp [graftH, grafted, HX, mp_ren]
  simp [AObj.ren, renL, AV.ren, callR]

def hasI (es : Kn) (k : List UInt8) : Bool := (findM es (B k)).isSome
def getM (es : Kn) (k : List UInt8) : Mani × Bool := match findM es (B k) with
  | some (some m) => (m, true)
  | _ => ((k, []), false)
def readK (k bs : List UInt8) : Known := if (readM bs).2 ≠ 0 ∨ (readM bs).1.1 ≠ k then none else some (readM bs).1
def putI (es : Kn) (k bs : List UInt8) : Int × Kn :=
  if fitM k = false ∨ 8192 < bs.length then (1, es) else if hasI es k = true then (6, es) else (0, setM es (B k) (readK k bs))
def OkX (es : Kn) : Prop := ∀ k m, findM es k = some (some m) → okM m

theorem optI {α : Type} {o : Option α} {A : α → Prop} {Z : Prop} (h1 : ∀ a, o = some a → A a) (h2 : o = none → Z) : optionP o A Z := by
  cases o with
  | none => exact h2 rfl
  | some a => exact h1 a rfl

theorem has0 (es : Kn) (k : List UInt8) : ASpec Try.prog 29 [.ptr 1 0, .str (B k)] (HX es) (fun r H' => r = .bool (hasI es k) ∧ H' = HX es) := by
  refine s29 _ _ _ (optI (fun a h => optI (fun m h2 => ⟨?_, rfl⟩) fun h2 => ⟨?_, rfl⟩) fun h => ⟨?_, rfl⟩) <;> (unfold hasI; rw [h]; rfl)
theorem has_spec (es : Kn) (k : List UInt8) (H : List AObj) (q p : Nat) (hqp : q ≠ p) (hq : H[q]? = some (.mp (.typed EK es))) (hp : H[p]? = some (.cells [.map q])) :
    ASpec Try.prog 29 [.ptr p 0, .str (B k)] H (fun r H' => r = .bool (hasI es k) ∧ H' = H) := by
  have := liftX H q p hqp hq hp (has0 es k) (args' := [.ptr p 0, .str (B k)]) rfl rfl
  rwa [set_same hq] at this

theorem good_spec (m : Mani) (H : List AObj) : ASpec Try.prog 155 [.agg (encM m)] H (fun r H' => r = .bool true ∧ H' = H) :=
  ASpec.pureH H (ASpec.sel (s155 _ _ (pb rfl))) _ _ rfl rfl
theorem bad_spec (H : List AObj) : ASpec Try.prog 156 [.agg []] H (fun r H' => r = .bool false ∧ H' = H) :=
  ASpec.pureH H (ASpec.sel (s156 _ (pb rfl))) _ _ rfl rfl

theorem get0 (es : Kn) (k : List UInt8) (hes : OkX es) : ASpec Try.prog 41 [.ptr 1 0, .str (B k)] (HX es) (fun r H' => r = .tup [.agg (encM (getM es k).1), .bool (getM es k).2] ∧ H' = HX es) := by
  have none : ∀ q : List AObj, getM es k = ((k, []), false) → PX es (.tup [.agg (encM (getM es k).1), .bool (getM es k).2]) (.tup [.agg [.str (B k), .sl 0 (.raw []) .nil], .bool false]) (HX es ++ q) := by
    intro q h
    rw [h]
    exact px q (Le.tup ⟨Le.agg ⟨Le.refl _, Le.sl (s' := Seq.ren _ (.map T.encR (0, []) [])) rfl (.inr ⟨rfl, fun _ h => by cases h⟩) (.inr rfl), trivial⟩, Le.refl _, trivial⟩)
  refine ASpec.sel (s41 _ _ _ (ASpec.call (has_spec es k _ 0 1 (by omega) rfl rfl) (Les.refl _) ⟨_, rfl, rfl, condBn (fun h => ?_) fun h => ?_⟩))
  · refine none [_, _] ?_
    unfold hasI at h
    unfold getM
    cases hf : findM es (B k) with
    | none => rfl
    | some a => rw [hf] at h; cases h
  · refine optI (fun a ha => optI (fun m hm => ?_) fun hm => ?_) fun hn => ?_
    · subst hm
      refine ASpec.call (good_spec m _) (Les.refl _) ⟨(), rfl, rfl, optI (fun a' ha' => optI (fun m' hm' => ?_) fun hm' => ?_) fun hn => ?_⟩
      · rw [ha] at ha'; cases ha'; cases hm'
        refine ASpec.call (cloneM_spec m (hes _ _ ha) _) (Les.refl _) ⟨m, rfl, rfl, ?_⟩
        have e : getM es k = (m, true) := by unfold getM; rw [ha]
        rw [e]
        exact px [_, _, _] (Le.refl _)
      · rw [ha] at ha'; cases ha'; cases hm'
      · rw [ha] at hn; cases hn
    · subst hm
      refine ASpec.call (bad_spec _) (Les.refl _) ⟨(), rfl, rfl, none [_, _] ?_⟩
      unfold getM; rw [ha]
    · unfold hasI at h; rw [hn] at h; cases h
theorem get_spec (es : Kn) (k : List UInt8) (hes : OkX es) (H : List AObj) (q p : Nat) (hqp : q ≠ p) (hq : H[q]? = some (.mp (.typed EK es))) (hp : H[p]? = some (.cells [.map q])) :
    ASpec Try.prog 41 [.ptr p 0, .str (B k)] H (fun r H' => r = .tup [.agg (encM (getM es k).1), .bool (getM es k).2] ∧ H' = H) := by
  have := liftX H q p hqp hq hp (get0 es k hes) (args' := [.ptr p 0, .str (B k)]) (r' := .tup [.agg (encM (getM es k).1), .bool (getM es k).2]) rfl rfl
  rwa [set_same hq] at this

theorem read_found {k bs : List UInt8} {m : Mani} (hb : bs.length ≤ 1000000) (h : readK k bs = some m) (H : List AObj) : ASpec Try.prog 48 [.str (B k), sl1 bs] H (fun r H' => r = .iface 116 (.agg (encM m)) ∧ H' = H) := by
  have hk : ASpec Try.prog 48 [.str (B k), sl1 bs] [] (fun r H' => r = .iface 116 (.agg (encM m)) ∧ H' = []) := by
    unfold readK at h
    split at h
    · cases h
    · rename_i hh
      cases h
      refine ASpec.sel (s48 _ _ _ (ASpec.call (W.read_spec bs hb _) (Les.refl _) ⟨readM bs, rfl, rfl, condNe (fun h => (hh (.inl h)).elim) fun _ => condSn (fun h => (hh (.inr h)).elim) fun _ => pa (Le.refl _)⟩))
  exact ASpec.pureH H hk _ _ rfl rfl
theorem read_broken {k bs : List UInt8} (hb : bs.length ≤ 1000000) (h : readK k bs = none) (H : List AObj) : ASpec Try.prog 48 [.str (B k), sl1 bs] H (fun r H' => r = .iface 126 (.agg []) ∧ H' = H) := by
  have hk : ASpec Try.prog 48 [.str (B k), sl1 bs] [] (fun r H' => r = .iface 126 (.agg []) ∧ H' = []) := by
    unfold readK at h
    split at h
    · rename_i hh
      refine ASpec.sel (s48 _ _ _ (ASpec.call (W.read_spec bs hb _) (Les.refl _) ⟨readM bs, rfl, rfl, condNe (fun h => pa (Le.refl _)) fun h1 => condSn (fun h => pa (Le.refl _)) fun h2 => ?_⟩))
      rcases hh with h | h
      · exact (h h1).elim
      · exact (h h2).elim
    · cases h
  exact ASpec.pureH H hk _ _ rfl rfl

theorem put0 (es : Kn) (k bs : List UInt8) (hk : k.length ≤ lim) : ASpec Try.prog 20 [.ptr 1 0, .str (B k), sl1 bs] (HX es) (fun r H' => r = .int .i64 (putI es k bs).1 ∧ H' = HX (putI es k bs).2) := by
  have same : ∀ e : Int, putI es k bs = (e, es) → (∃ (id : Nat) (m m' : MM), (HX es)[id]? = some (.mp m) ∧ MLe m.toList m'.toList ∧ (AV.int .i64 e = .int .i64 (putI es k bs).1 ∧ (HX es).set id (.mp m') = HX (putI es k bs).2)) := by
    intro e h
    rw [h]
    exact ⟨0, .typed EK es, .typed EK es, rfl, MLe.of_eq rfl, rfl, rfl⟩
  refine ASpec.outMap (s20 _ _ _ _ ?_)
  refine ASpec.call (fit_spec (l := k) (by unfold big; unfold lim at hk; omega) _) (Les.refl _) ⟨_, rfl, rfl, condBn (fun h1 => same 1 ?_) fun h1 => condD (fun h2 => same 1 ?_) fun h2 => ?_⟩
  · rw [putI, if_pos (.inl h1)]
  · rw [putI, if_pos (.inr (by omega))]
  refine ASpec.call (has_spec es k _ 0 1 (by omega) rfl rfl) (Les.refl _) ⟨_, rfl, rfl, condB (fun h3 => same 6 ?_) fun h3 => ?_⟩
  · rw [putI, if_neg (by rw [h1]; simp; omega), if_pos h3]
  have hp : putI es k bs = (0, setM es (B k) (readK k bs)) := by rw [putI, if_neg (by rw [h1]; simp; omega), if_neg (by rw [h3]; simp)]
  rw [hp]
  cases hr : readK k bs with
  | some m =>
    refine ASpec.call (read_found (by omega) hr _) (Les.refl _) (.inl ⟨m, rfl, rfl, ⟨rfl, rfl⟩, ?_⟩)
    exact ⟨0, _, .typed EK (setM es (B k) (some m)), rfl, mle_put rfl, rfl, rfl⟩
  | none =>
    refine ASpec.call (read_broken (by omega) hr _) (Les.refl _) (.inr ⟨(), rfl, rfl, ⟨rfl, rfl⟩, ?_⟩)
    exact ⟨0, _, .typed EK (setM es (B k) none), rfl, mle_put rfl, rfl, rfl⟩
theorem put_spec (es : Kn) (k bs : List UInt8) (hk : k.length ≤ lim) (H : List AObj) (q p : Nat) (hqp : q ≠ p) (hq : H[q]? = some (.mp (.typed EK es))) (hp : H[p]? = some (.cells [.map q])) :
    ASpec Try.prog 20 [.ptr p 0, .str (B k), sl1 bs] H (fun r H' => r = .int .i64 (putI es k bs).1 ∧ H' = H.set q (.mp (.typed EK (putI es k bs).2))) :=
  liftX H q p hqp hq hp (put0 es k bs hk) rfl rfl

/-! ### the plain law -/

theorem okX_nil : OkX [] := fun k m h => by cases h
theorem okX_put {es : Kn} {k bs : List UInt8} (h : OkX es) : OkX (putI es k bs).2 := by
  unfold putI
  split
  · exact h
  · split
    · exact h
    · intro k' m hm
      simp only [findM_set] at hm
      split at hm
      · have hm := Option.some.inj hm
        unfold readK at hm
        split at hm
        · cases hm
        · cases hm
          exact W.readM_ok bs
      · exact h k' m hm

theorem find_none {es : Kn} {k : List UInt8} (h : hasI es k = false) : findM es (B k) = none := by
  unfold hasI at h
  cases hf : findM es (B k) with
  | none => rfl
  | some a => rw [hf] at h; cases h

/-! ### the law -/

noncomputable abbrev slEn (l : List Ent) : AV := .sl 2 (.map encEn ([], []) l) .none

def largeF : List Ent → Bool
  | [] => false
  | x :: r => if 200 < x.1.length ∨ 9000 < x.2.length then true else largeF r
def largeD (l : List Ent) : Bool := if 30 < l.length then true else largeF l

theorem large4 {l : List Ent} {c : Bool} (hl : l.length ≤ 30) : ∀ (m i : Nat), m + i = l.length → largeF (l.drop i) = c →
    AWP Try.prog 29 0 c8_4 [(0, slEn l), (3, .int .i64 i)] [] (q8_2 0 (PB c)) := by
  intro m
  induction m with
  | zero =>
    intro i hm h
    refine v8_4 _ _ _ _ (condD (fun hc => by omega) fun _ => pb ?_)
    rw [List.drop_eq_nil_of_le (by omega)] at h
    exact h
  | succ m ih =>
    intro i hm h
    have hin : (0 : Int) ≤ (i : Int) ∧ (i : Int) < (l.length : Int) := ⟨by omega, by omega⟩
    rw [dropD l ([], []) i (by omega)] at h
    simp only [largeF] at h
    refine v8_4 _ _ _ _ (condD (fun hc => needJ hin ?_) fun hc => by omega)
    rw [Int.toNat_natCast]
    generalize l.getD i ([], []) = x at h ⊢
    rw [B_size]
    refine condD (fun h1 => pb ?_) fun h1 => needJ hin (condD (fun h2 => pb ?_) fun h2 => ?_)
    · rw [if_pos (by omega)] at h; exact h
    · rw [if_pos (by omega)] at h; exact h
    · rw [if_neg (by omega)] at h
      rw [succ64 (by omega)]
      exact ih (i + 1) (by omega) h

theorem largeD_spec (l : List Ent) (H : List AObj) : ASpec Try.prog 8 [slEn l] H (fun r H' => r = .bool (largeD l) ∧ H' = H) := by
  have k : ASpec Try.prog 8 [slEn l] [] (fun r H' => r = .bool (largeD l) ∧ H' = []) := by
    refine ASpec.sel (s8 _ _ (condD (fun h => pb ?_) fun h => large4 (by omega) l.length 0 (by omega) ?_))
    · rw [largeD, if_pos (by omega)]
    · rw [largeD, if_neg (by omega)]; rfl
  exact ASpec.pureH H k _ _ rfl rfl

theorem largeF_ok : ∀ (l : List Ent), largeF l = false → ∀ x ∈ l, x.1.length ≤ 200 ∧ x.2.length ≤ 9000
  | [], _, n, hn => by simp at hn
  | x :: r, h, n, hn => by
    simp only [largeF] at h
    split at h
    · cases h
    · rcases List.mem_cons.1 hn with rfl | hn
      · omega
      · exact largeF_ok r h n hn

theorem largeD_ok {l : List Ent} (h : largeD l = false) : l.length ≤ 30 ∧ ∀ x ∈ l, x.1.length ≤ 200 ∧ x.2.length ≤ 9000 := by
  unfold largeD at h
  split at h
  · cases h
  · exact ⟨by omega, largeF_ok l h⟩

section
variable {l : List Ent}

end
end X
end

section
/- What was put of a manifest is read; what is read is put so. -/

set_option linter.unusedVariables false
set_option linter.unusedSimpArgs false
set_option maxRecDepth 100000
open Go Go.Ab Go.Proofs V S T C
namespace W

/-! ### what was put is read -/

/-! ### what is read is put so -/

/-! ### the law -/

section
variable {Post : AV → List AObj → Prop}

end
end W
end

section
/- The codecs of this seat's plain arguments. -/

open Go Go.Ab Go.Proofs
namespace Go.Ab

noncomputable def cInt : Codec Try.prog 3 Int := Codec.int .i64 Try.underlying3
noncomputable def cStr : Codec Try.prog 9 ByteArray := Codec.str Try.underlying9
noncomputable def cInts : Codec Try.prog 107 (List Int) := Codec.slice (sz := 1) cInt Try.underlying107 (by kernel_rfl) (by omega) (fun _ => rfl)
/-- a byte -/
noncomputable def cByte : Codec Try.prog 5 UInt8 where
  enc b := encB b
  ok _ := True
  dflt := 0
  opens := by
    intro H e w fuel cs x h
    obtain ⟨n, h1, h2⟩ := (Codec.int .u8 Try.underlying5).opens e w fuel cs x h
    have hn : 0 ≤ n ∧ n ≤ 255 := by simpa [Codec.int, Lit.wf, IntKind.min, IntKind.max, IntKind.signed, IntKind.bits] using h1
    refine ⟨UInt8.ofNat n.toNat, trivial, ?_⟩
    rw [← encB_ofNat hn.1 (by omega)]
    exact h2
noncomputable def cBytes : Codec Try.prog 41 (List UInt8) := Codec.slice (sz := 1) cByte Try.underlying41 (by kernel_rfl) (by omega) (fun _ => rfl)

end Go.Ab
end

section
/- The codecs of manifests. -/

open Go Go.Ab Go.Proofs
namespace Go.Ab

noncomputable def cName : Codec Try.prog 9 (List UInt8) := cStr.iso (fun s => s.data.toList) (fun l => [.str ⟨l.toArray⟩]) (fun _ => True) (fun _ => rfl) (fun _ _ => trivial)
noncomputable def cSpan : Codec Try.prog 72 T.Span :=
  (Codec.struct (n := 2) Try.underlying72 (FC.cons (k := 1) (n := 1) cInt rfl (by kernel_rfl) (FC.cons (k := 1) (n := 0) cInt rfl (by kernel_rfl) FC.nil)) (by kernel_rfl)).iso (fun x => (x.1, x.2.1)) T.encS (fun _ => True) (fun _ => rfl) (fun _ _ => trivial)
noncomputable def cSpans : Codec Try.prog 66 (List T.Span) := Codec.slice (sz := 2) cSpan Try.underlying66 (by kernel_rfl) (by omega) (fun _ => rfl)
noncomputable def cNeed : Codec Try.prog 68 T.Need :=
  (Codec.struct (n := 2) Try.underlying68 (FC.cons (k := 1) (n := 1) cName rfl (by kernel_rfl) (FC.cons (k := 1) (n := 0) cSpans rfl (by kernel_rfl) FC.nil)) (by kernel_rfl)).iso (fun x => (x.1, x.2.1)) T.encN (fun _ => True) (fun _ => rfl) (fun _ _ => trivial)
noncomputable def cNeeds : Codec Try.prog 23 (List T.Need) := Codec.slice (sz := 2) cNeed Try.underlying23 (by kernel_rfl) (by omega) (fun _ => rfl)
end Go.Ab
end

section
/- The codecs of lists of entries and of manifests. -/

open Go Go.Ab Go.Proofs
namespace Go.Ab
noncomputable def cEnt : Codec Try.prog 43 T.Ent :=
  (Codec.struct (n := 2) Try.underlying43 (FC.cons (k := 1) (n := 1) cName rfl (by kernel_rfl) (FC.cons (k := 1) (n := 0) cBytes rfl (by kernel_rfl) FC.nil)) (by kernel_rfl)).iso (fun x => (x.1, x.2.1)) T.encEn (fun _ => True) (fun _ => rfl) (fun _ _ => trivial)
noncomputable def cEnts : Codec Try.prog 22 (List T.Ent) := Codec.slice (sz := 2) cEnt Try.underlying22 (by kernel_rfl) (by omega) (fun _ => rfl)
end Go.Ab
end

section
/- The codec of what is asked of want. -/

open Go Go.Ab Go.Proofs
namespace Go.Ab
noncomputable def cNmL : Codec Try.prog 9 (List UInt8) := cStr.iso (fun s => s.data.toList) T.encL (fun _ => True) (fun _ => rfl) (fun _ _ => trivial)
noncomputable def cNmsL : Codec Try.prog 33 (List (List UInt8)) := (Codec.slice (sz := 1) cNmL Try.underlying33 (by kernel_rfl) (by omega) (fun _ => rfl))
noncomputable def cLsE : Codec Try.prog 33 (List (List UInt8)) := cNmsL.iso (fun x => x) T.encLs (fun _ => True) (fun _ => rfl) (fun _ _ => trivial)
noncomputable def cLists : Codec Try.prog 47 (List (List (List UInt8))) := Codec.slice (sz := 1) cLsE Try.underlying47 (by kernel_rfl) (by omega) (fun _ => rfl)
noncomputable def cBool : Codec Try.prog 4 Bool := Codec.bool Try.underlying4
noncomputable def cAsk : Codec Try.prog 49 T.Ask :=
  (Codec.struct (n := 3) Try.underlying49 (FC.cons (k := 1) (n := 2) cName rfl (by kernel_rfl) (FC.cons (k := 1) (n := 1) cBool rfl (by kernel_rfl) (FC.cons (k := 1) (n := 0) cLists rfl (by kernel_rfl) FC.nil))) (by kernel_rfl)).iso (fun x => (x.1, x.2.1, x.2.2.1)) T.encA (fun _ => True) (fun _ => rfl) (fun _ _ => trivial)
end Go.Ab
end

section
/- What is asked of the program alone, once for all statements. -/

namespace Go.Proofs.Facts
open Go Go.Proofs
theorem andT {a b : Bool} (h : a = true) (k : b = true) : (a && b) = true := by rw [h, k]; rfl
theorem laid : laidOutB Try.prog = true := by kernel_rfl
theorem mapsRowed : Go.mapsRowed Try.prog = true := by kernel_rfl
theorem stops : (Try.prog.stops == []) = true := by kernel_rfl
theorem stopKnobs : (Try.prog.stopKnobs == []) = true := by kernel_rfl
theorem heard : Try.prog.stopsHeard = true := by kernel_rfl
theorem may : Try.prog.mayEnter = true := by kernel_rfl
theorem lifted : (false == Try.prog.liftsFinal) = true := by kernel_rfl
theorem plain : (true == Try.prog.plainKeys) = true := by kernel_rfl
theorem made : (Try.prog.make == some .cut) = true := by kernel_rfl
theorem own : ownKnob Try.prog.godebug = none := by kernel_rfl
end Go.Proofs.Facts
end
