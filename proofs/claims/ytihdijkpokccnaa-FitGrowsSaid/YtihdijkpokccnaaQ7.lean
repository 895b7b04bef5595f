/- Q7: several of this proof's own texts, one behind the other: what each proves stands at its head. -/
import Derived.Test.YtihdijkpokccnaaQ5
import Derived.Test.YtihdijkpokccnaaQ6
import Derived.Test.YtihdijkpokccnaaA4
import Derived.Test.YtihdijkpokccnaaA3
import Derived.Test.YtihdijkpokccnaaProg
import Derived.Test.YtihdijkpokccnaaChecked
import Derived.KernelRfl
import Derived.JoinedOf
section
/- Picks: what the program's and the document's functions compute. -/

set_option linter.unusedVariables false
set_option linter.unusedSimpArgs false
set_option maxRecDepth 100000
open Go Go.Ab Go.Proofs V S T C
open E (PA pa)
open Pc (slK slKLe renPk placeM getM dropM UpK lessN)
namespace Dk
abbrev Nm := List UInt8
theorem condNn {a b : List UInt8} {A C : Prop} (h1 : a ≠ b → A) (h2 : a = b → C) : condP (!(B a).toList == (B b).toList) A C := condSn h1 h2
theorem getD_mem {α : Type} {l : List α} {d : α} {i : Nat} (h : i < l.length) : l.getD i d ∈ l := by
  rw [List.getD_eq_getElem?_getD, List.getElem?_eq_getElem h]; exact List.getElem_mem h
/-! ### Drop -/
/-! ### Put -/
theorem dropM_len (l : List Pk) (s : List UInt8) : (dropM l s).length ≤ l.length := List.length_filter_le _ _
/-! ### are picks alike? -/
/-! ### Large -/
def largeF : List Pk → Bool
  | [] => false
  | p :: r => if 200 < p.1.length then true else largeF r
def largeK (s : List Pk) : Bool := if 60 < s.length then true else largeF s
theorem largeF_ok : ∀ {s : List Pk}, largeF s = false → ∀ p ∈ s, p.1.length ≤ 200
  | [], _, p, hp => by simp at hp
  | x :: r, h, p, hp => by
    simp only [largeF] at h
    split at h
    · cases h
    · rcases List.mem_cons.1 hp with rfl | hp
      · omega
      · exact largeF_ok h p hp
theorem largeK_ok {s : List Pk} (h : largeK s = false) : s.length ≤ 60 ∧ ∀ p ∈ s, p.1.length ≤ 200 := by
  unfold largeK at h
  split at h
  · cases h
  · exact ⟨by omega, largeF_ok h⟩
theorem large4 {s : List Pk} {c : Bool} (hl : s.length ≤ 60) : ∀ (m i : Nat), m + i = s.length → largeF (s.drop i) = c →
    AWP Try.prog 20 0 c30_4 [(0, slK s), (3, .int .i64 i)] [] (q30_2 0 (PA (.bool c))) := by
  intro m
  induction m with
  | zero =>
    intro i hm h
    refine v30_4 _ _ _ _ (condD (fun hc => by omega) fun _ => ?_)
    rw [List.drop_eq_nil_of_le (by omega)] at h
    subst h
    exact pa (Le.refl _)
  | succ m ih =>
    intro i hm h
    rw [dropD s noPk i (by omega)] at h
    simp only [largeF] at h
    refine v30_4 _ _ _ _ (condD (fun hc => needJ ⟨by omega, by omega⟩ ?_) fun hc => by omega)
    rw [Int.toNat_natCast, succ64 (by omega)]
    generalize s.getD i noPk = p at h ⊢
    rw [B_size]
    refine condD (fun h1 => ?_) fun h1 => ?_
    · rw [if_pos (by omega)] at h; subst h; exact pa (Le.refl _)
    · rw [if_neg (by omega)] at h; exact ih (i + 1) (by omega) h
theorem large_spec (s : List Pk) (H : List AObj) : ASpec Try.prog 30 [slK s] H (fun r H' => r = .bool (largeK s) ∧ H' = H) := by
  have k : ASpec Try.prog 30 [slK s] [] (fun r H' => r = .bool (largeK s) ∧ H' = []) := by
    refine ASpec.sel (s30 _ _ (condD (fun h => ?_) fun h => ?_))
    · rw [largeK, if_pos (by omega)]; exact pa (Le.refl _)
    · refine large4 (by omega) s.length 0 (by omega) ?_
      rw [largeK, if_neg (by omega)]; rfl
  exact ASpec.pureH H k _ _ rfl rfl

/-! ### Check -/
noncomputable def fitP (p : Pk) : Bool := fitM p.1 && decide (0 ≤ p.2 ∧ p.2 < 1000000000)
noncomputable def chkF : Option Nm → List Pk → Bool
  | _, [] => true
  | o, p :: r => if fitP p = false then false else match o with
    | none => chkF (some p.1) r
    | some q => if (Op.bytesLess p.1 q || p.1 == q) = true then false else chkF (some p.1) r
def prevN (s : List Pk) : Nat → Option Nm
  | 0 => none
  | i + 1 => some (s.getD i noPk).1
theorem fitP_spec (p : Pk) (hp : p.1.length ≤ 100000) (H : List AObj) : ASpec Try.prog 126 [.agg (encPk p)] H (fun r H' => r = .bool (fitP p) ∧ H' = H) := by
  have k : ASpec Try.prog 126 [.agg (encPk p)] [] (fun r H' => r = .bool (fitP p) ∧ H' = []) := by
    refine ASpec.sel (s126 _ _ (ASpec.call (fit_spec (l := p.1) (by unfold big; omega) _) (Les.refl _) ⟨_, rfl, rfl, ?_⟩))
    unfold fitP
    refine condB (fun h => condD (fun h2 => pa ?_) fun h2 => pa ?_) fun h => pa ?_
    · rw [h, Bool.true_and]
      have : decide (p.2 < 1000000000) = decide (0 ≤ p.2 ∧ p.2 < 1000000000) := by rw [decide_eq_decide]; omega
      rw [this]; exact Le.refl _
    · rw [decide_eq_false (p := 0 ≤ p.2 ∧ p.2 < 1000000000) (by omega), Bool.and_false]; exact Le.refl _
    · rw [h, Bool.false_and]; exact Le.refl _
  exact ASpec.pureH H k _ _ rfl rfl
theorem prev_some {s : List Pk} {i : Nat} (h : 0 < i) : prevN s i = some (s.getD (i - 1) noPk).1 := by
  cases i with
  | zero => omega
  | succ i => rfl
section
variable {s : List Pk} (hl : s.length ≤ 100000) (hn : ∀ p ∈ s, p.1.length ≤ 1000)
include hl hn
theorem chk2 {c : Bool} : ∀ (m i : Nat), m + i = s.length → chkF (prevN s i) (s.drop i) = c →
    AWP Try.prog 31 0 c100_2 [(0, slK s), (5, slK s), (6, .int .i64 s.length), (7, .int .i64 i)] [] (q100_2 0 (PA (.bool c))) := by
  intro m
  induction m with
  | zero =>
    intro i hm h
    refine v100_2 _ _ _ _ _ _ (condD (fun hc => by omega) fun _ => ?_)
    rw [List.drop_eq_nil_of_le (by omega)] at h
    have h' : true = c := by rw [← h]; cases prevN s i <;> rfl
    subst h'
    exact pa (Le.refl _)
  | succ m ih =>
    intro i hm h
    have hp := hn _ (getD_mem (d := noPk) (show i < s.length by omega))
    have hnx := ih (i + 1) (by omega)
    rw [dropD s noPk i (by omega)] at h
    have e1 : prevN s (i + 1) = some (s.getD i noPk).1 := rfl
    rw [e1] at hnx
    refine v100_2 _ _ _ _ _ _ (condD (fun hc => needJ ⟨by omega, by omega⟩ ?_) fun hc => by omega)
    rw [Int.toNat_natCast, succ64 (by omega)]
    generalize s.getD i noPk = p at h hp hnx ⊢
    refine ASpec.call (fitP_spec p (by omega) _) (Les.refl _) ⟨_, rfl, rfl, condBn (fun h1 => ?_) fun h1 => ?_⟩
    · have : c = false := by rw [← h]; simp only [chkF, h1, if_true]
      subst this
      exact pa (Le.refl _)
    have fin : ∀ o : AObj, chkF (some p.1) (s.drop (i + 1)) = c → AWP Try.prog 31 0 c100_2 [(0, slK s), (5, slK s), (6, .int .i64 s.length), (7, .int .i64 ((i + 1 : Nat) : Int))] [o] (q100_2 0 (PA (.bool c))) := fun o hc =>
      AWP.shape [] [(0, slK s), (5, slK s), (6, .int .i64 s.length), (7, .int .i64 (i + 1 : Nat))] [] Sel.none ⟨rfl, slKLe _ _, rfl, slKLe _ _, rfl, Le.refl _, rfl, Le.refl _, trivial⟩ (hnx hc)
    refine condD (fun h2 => needJ ⟨?_, ?_⟩ ?_) fun h2 => fin _ ?_
    · rw [wrap64 (by omega) (by omega)]; omega
    · rw [wrap64 (by omega) (by omega)]; omega
    · rw [wrap64 (by omega) (by omega), show ((i : Int) - 1).toNat = i - 1 by omega, B_toList, B_toList]
      rw [prev_some (by omega)] at h
      simp only [chkF, h1, Bool.true_eq_false, if_false] at h
      refine condB (fun h3 => ?_) fun h3 => fin _ ?_
      · rw [if_pos h3] at h; subst h; exact pa (Le.refl _)
      · rw [if_neg (by rw [h3]; simp)] at h; exact h
    · have : i = 0 := by omega
      subst this
      simp only [prevN, chkF, h1, Bool.true_eq_false, if_false] at h
      exact h
theorem chk_spec (H : List AObj) : ASpec Try.prog 100 [slK s] H (fun r H' => r = .bool (chkF none s) ∧ H' = H) := by
  have k : ASpec Try.prog 100 [slK s] [] (fun r H' => r = .bool (chkF none s) ∧ H' = []) := ASpec.sel (s100 _ _ (chk2 hl hn s.length 0 (by omega) rfl))
  exact ASpec.pureH H k _ _ rfl rfl
end
theorem chk_rises : ∀ {s : List Pk} {q : Nm}, chkF (some q) s = true → (∀ y ∈ s, lessN q y.1) ∧ UpK s
  | [], q, _ => ⟨by simp, List.Pairwise.nil⟩
  | p :: r, q, h => by
    simp only [chkF] at h
    split at h
    · cases h
    · split at h
      · cases h
      · rename_i hb
        have hb : (Op.bytesLess p.1 q || p.1 == q) = false := by simpa using hb
        rw [Bool.or_eq_false_iff] at hb
        have hlt : lessN q p.1 := Dp.less_tri hb.1 (by simpa using hb.2)
        obtain ⟨h1, h2⟩ := chk_rises h
        refine ⟨fun y hy => ?_, List.pairwise_cons.2 ⟨h1, h2⟩⟩
        rcases List.mem_cons.1 hy with rfl | hy
        · exact hlt
        · exact Dp.less_trans hlt (h1 y hy)
theorem chk_up {s : List Pk} (h : chkF none s = true) : UpK s := by
  cases s with
  | nil => exact List.Pairwise.nil
  | cons p r =>
    simp only [chkF] at h
    split at h
    · cases h
    · obtain ⟨h1, h2⟩ := chk_rises h
      exact List.pairwise_cons.2 ⟨h1, h2⟩

/-! ### Same -/
/-! ### Get -/
theorem back2v {s : List Pk} {x : List UInt8} {lo hi : Int} {n : Nat} {Post : AV → List AObj → Prop}
    (h : AWP Try.prog 28 n In.c72_2 [(0, slK s), (1, .str ⟨x.toArray⟩), (5, .int .i64 lo), (6, .int .i64 hi)] [] (In.q72_1 n Post)) :
    AWPS Try.prog 28 n (codeFst (codeSnd In.c72)) (.seq .skip In.c72_2) [(0, slK s), (1, .str ⟨x.toArray⟩), (5, .int .i64 lo), (6, .int .i64 hi)] [] (In.q72_0 n Post) :=
  AWPS.of In.g72 (awp_sound In.g72 n _ _ _ _ (kc (by kernel_rfl) h))
theorem place2v {s : List Pk} {x : List UInt8} (hl : s.length ≤ 100000000) : ∀ (m lo hi : Nat), hi - lo ≤ m → lo ≤ hi → hi ≤ s.length →
    AWP Try.prog 28 0 In.c72_2 [(0, slK s), (1, .str (B x)), (5, .int .i64 lo), (6, .int .i64 hi)] [] (In.q72_1 0 (fun r H' => r = .int .i64 (Pc.bsF (Pc.lessAt s x) m lo hi) ∧ H' = [])) := by
  intro m
  induction m with
  | zero =>
    intro lo hi hm h1 h2
    exact In.v72_2v s x lo hi 0 _ (condE (fun _ => ⟨rfl, rfl⟩) fun h => absurd (by omega) h)
  | succ m ih =>
    intro lo hi hm h1 h2
    refine In.v72_2v s x lo hi 0 _ (condE (fun he => ⟨by rw [Pc.bsF, if_pos (by omega)], rfl⟩) fun hne => needJ (by decide) ?_)
    rw [Pc.half64 (by omega), Int.toNat_natCast]
    refine needJ ⟨by omega, by omega⟩ ?_
    rw [B_toList, B_toList]
    have hlt : lo ≠ hi := by omega
    refine condB (fun hc => back2v ?_) fun hc => back2v ?_
    · rw [Pc.bsF, if_neg hlt, if_pos (show Pc.lessAt s x ((lo + hi) / 2) = true from hc), show IntKind.wrap .i64 ((((lo + hi) / 2 : Nat) : Int) + 1) = (((lo + hi) / 2 + 1 : Nat) : Int) by rw [wrap64 (by omega) (by omega)]; omega]
      exact ih _ _ (by omega) (by omega) h2
    · rw [Pc.bsF, if_neg hlt, if_neg (by rw [show Pc.lessAt s x ((lo + hi) / 2) = false from hc]; simp)]
      exact ih _ _ (by omega) (by omega) (by omega)
theorem placev_spec (s : List Pk) (x : List UInt8) (hl : s.length ≤ 100000000) (H : List AObj) : ASpec Try.prog 72 [slK s, .str (B x)] H (fun r H' => r = .int .i64 (placeM s x) ∧ H' = H) :=
  ASpec.pureH H (In.s72v s x _ (place2v hl s.length 0 s.length (by omega) (by omega) (Nat.le_refl _))) _ _ rfl rfl
def getP (s : List Pk) (x : Nm) : Int × Bool := if placeM s x < s.length ∧ (s.getD (placeM s x) noPk).1 = x then ((s.getD (placeM s x) noPk).2, true) else (0, false)
theorem get_one {s : List Pk} (hu : UpK s) (x : Nm) : getP s x = getM s x := by
  obtain ⟨A, B', hp, hA, hB, hs⟩ := Pc.split3 hu x
  have hAne : ∀ y ∈ A, y.1 ≠ x := fun y hy => Pc.ltn_ne (hA y hy)
  have hBne : ∀ y ∈ B', y.1 ≠ x := fun y hy e => Pc.ltn_ne (hB y hy) e.symm
  rcases hs with rfl | ⟨v, rfl⟩
  · rw [Pc.getM_ne _ hAne]
    have e0 : getM B' x = (0, false) := by
      have := Pc.getM_ne (A := B') (x := x) [] hBne
      rw [List.append_nil] at this
      rw [this]; rfl
    rw [e0, getP, if_neg]
    rintro ⟨h1, h2⟩
    rw [hp] at h1 h2
    have : (A ++ B').getD A.length noPk ∈ B' := by
      rw [List.getD_eq_getElem?_getD, List.getElem?_append_right (Nat.le_refl _), Nat.sub_self]
      cases B' with
      | nil => simp at h1
      | cons b r => simp
    exact hBne _ this h2
  · rw [Pc.getM_ne _ hAne]
    have e0 : getM ((x, v) :: B') x = (v, true) := by simp [getM]
    have e1 : (A ++ (x, v) :: B').getD A.length noPk = (x, v) := by
      rw [List.getD_eq_getElem?_getD, List.getElem?_append_right (Nat.le_refl _), Nat.sub_self]; rfl
    rw [e0, getP, hp, e1, if_pos ⟨by simp, rfl⟩]
end Dk
end

section
/- Picks: what is got, and dropped by the document. -/

set_option linter.unusedVariables false
set_option linter.unusedSimpArgs false
set_option maxRecDepth 100000
open Go Go.Ab Go.Proofs V S T C
open E (PA pa)
open Pc (slK slKLe renPk placeM getM dropM UpK lessN)
namespace Pc
theorem bsF_le (p : Nat → Bool) : ∀ (f lo hi : Nat), lo ≤ hi → lo ≤ bsF p f lo hi ∧ bsF p f lo hi ≤ hi
  | 0, lo, hi, h => ⟨Nat.le_refl _, h⟩
  | f + 1, lo, hi, h => by
    simp only [bsF]
    split
    · exact ⟨Nat.le_refl _, h⟩
    · split
      · have := bsF_le p f ((lo + hi) / 2 + 1) hi (by omega); omega
      · have := bsF_le p f lo ((lo + hi) / 2) (by omega); omega
theorem placeM_le (s : List Pk) (x : List UInt8) : placeM s x ≤ s.length := (bsF_le _ _ _ _ (Nat.zero_le _)).2
end Pc
namespace Dk
theorem rdrop3 {l : List Pk} {s : List UInt8} (hl : l.length ≤ 100000) {R : List Pk} : ∀ (m i : Nat) (o : List Pk), m + i = l.length → o.length ≤ i → o ++ dropM (l.drop i) s = R →
    AWP Try.prog 28 0 c34_3 [(0, slK l), (1, .str (B s)), (5, .sl 2 (.map encPk noPk o) (.tok 0)), (6, .int .i64 i)] [.tok] (q34_2 0 (PA (slK R))) := by
  intro m
  induction m with
  | zero =>
    intro i o hm ho h
    refine v34_3 _ _ _ _ _ _ (condD (fun hc => by omega) fun _ => pa ?_)
    rw [List.drop_eq_nil_of_le (by omega)] at h
    simp only [dropM, List.filter_nil, List.append_nil] at h
    subst h
    exact slKLe _ _
  | succ m ih =>
    intro i o hm ho h
    rw [dropD l noPk i (by omega)] at h
    refine v34_3 _ _ _ _ _ _ (condD (fun hc => needJ ⟨by omega, by omega⟩ ?_) fun hc => by omega)
    rw [Int.toNat_natCast, succ64 (by omega)]
    generalize l.getD i noPk = y at h ⊢
    refine condNn (fun h1 => needJ ⟨by omega, by omega⟩ (needJ (by omega) ?_)) fun h1 => ?_
    · have hd : dropM (y :: l.drop (i + 1)) s = y :: dropM (l.drop (i + 1)) s := by
        unfold dropM; rw [List.filter_cons, if_pos (by simpa using h1)]
      rw [hd] at h
      refine AWP.shape [1] [(0, slK l), (1, .str (B s)), (5, .sl 2 (.map encPk noPk (o ++ [y])) (.tok 0)), (6, .int .i64 (i + 1 : Nat))] [.tok] (Sel.mk0 (by decide) ⟨rfl, trivial⟩)
        ⟨rfl, slKLe _ _, rfl, Le.refl _, rfl, leAppE (Les.refl _), rfl, Le.refl _, trivial⟩ (ih (i + 1) (o ++ [y]) (by omega) (by simp; omega) (by rw [← h]; simp))
    · have hd : dropM (y :: l.drop (i + 1)) s = dropM (l.drop (i + 1)) s := by
        unfold dropM; rw [List.filter_cons, if_neg (by simp [h1])]
      rw [hd] at h
      exact ih (i + 1) o (by omega) (by omega) h

theorem rdrop_spec (l : List Pk) (s : List UInt8) (hl : l.length ≤ 100000) (H : List AObj) : ASpec Try.prog 34 [slK l, .str (B s)] H (fun r H' => r = slK (dropM l s) ∧ H' = H) := by
  have k : ASpec Try.prog 34 [slK l, .str (B s)] [] (fun r H' => r = slK (dropM l s) ∧ H' = []) := by
    refine ASpec.sel (s34 _ _ _ ?_)
    refine AWP.re (ReSt.tok (k := 5) (q' := .map encPk noPk []) (sz' := 2) (s2 := [(0, slK l), (1, .str (B s)), (5, .sl 2 (.map encPk noPk []) (.tok 0)), (6, .int .i64 (0 : Nat))]) rfl (.inl rfl) rfl (.inr rfl) (fun d hd => ?_) rfl) ?_
    · simp only [Ab.get]
      have e : Nat.beq 5 d = false := by
        cases hx : Nat.beq 5 d with
        | false => rfl
        | true => exact absurd (Nat.eq_of_beq_eq_true hx).symm hd
      rw [e]; rfl
    · exact rdrop3 hl l.length 0 [] (by omega) (by simp) (by simp)
  exact ASpec.pureH H k _ _ rfl rfl

theorem get_spec (s : List Pk) (x : Nm) (hl : s.length ≤ 100000) (H : List AObj) : ASpec Try.prog 53 [slK s, .str (B x)] H (fun r H' => r = .tup [.int .i64 (getP s x).1, .bool (getP s x).2] ∧ H' = H) := by
  have k : ASpec Try.prog 53 [slK s, .str (B x)] [] (fun r H' => r = .tup [.int .i64 (getP s x).1, .bool (getP s x).2] ∧ H' = []) := by
    have hle := Pc.placeM_le s x
    refine ASpec.sel (s53 _ _ _ (ASpec.call (placev_spec s x (by omega) _) (Les.refl _) ⟨_, rfl, rfl, condE (fun h => pa ?_) fun h => needJ ⟨by omega, by omega⟩ ?_⟩))
    · rw [getP, if_neg (by omega)]; exact Le.refl _
    rw [Int.toNat_natCast]
    refine condSn (fun h1 => pa ?_) fun h1 => needJ ⟨by omega, by omega⟩ (pa ?_)
    · rw [getP, if_neg (fun hh => h1 hh.2)]; exact Le.refl _
    · rw [getP, if_pos ⟨by omega, h1⟩]; exact Le.refl _
  exact ASpec.pureH H k _ _ rfl rfl

end Dk
end

section
/- Sets of places as spans: plain laws. -/

set_option linter.unusedVariables false
set_option linter.unusedSimpArgs false
open Go Go.Ab Go.Proofs V S T C
namespace Sp

def inS (s : Span) (p : Int) : Bool := decide (s.1 ≤ p ∧ p < s.2)
def hasS (l : List Span) (p : Int) : Bool := l.any (fun s => inS s p)

theorem hasS_cons (x : Span) (l : List Span) (p : Int) : hasS (x :: l) p = (inS x p || hasS l p) := rfl
theorem inS_iff {s : Span} {p : Int} : inS s p = true ↔ s.1 ≤ p ∧ p < s.2 := by simp [inS]
theorem inS_false {s : Span} {p : Int} : inS s p = false ↔ ¬ (s.1 ≤ p ∧ p < s.2) := by simp [inS]

theorem chkS_cons {e : Int} {x : Span} {r : List Span} (h : chkS e (x :: r) = true) : e < x.1 ∧ x.1 < x.2 ∧ x.2 ≤ 1000000000 ∧ chkS x.2 r = true := by
  simp only [chkS] at h
  split at h
  · cases h
  · exact ⟨by omega, by omega, by omega, h⟩
theorem chkS_low : ∀ {e : Int} {l : List Span} {p : Int}, chkS e l = true → p ≤ e → hasS l p = false
  | _, [], _, _, _ => rfl
  | e, x :: r, p, h, hp => by
    obtain ⟨h1, h2, h3, h4⟩ := chkS_cons h
    rw [hasS_cons, chkS_low h4 (by omega), inS_false.2 (by omega)]; rfl
/-- sets that have the same places are one -/
theorem ext : ∀ {a b : List Span} {e e' : Int}, chkS e a = true → chkS e' b = true → (∀ p, hasS a p = hasS b p) → a = b
  | [], [], _, _, _, _, _ => rfl
  | [], y :: t, _, _, _, hb, h => by
    obtain ⟨h1, h2, h3, h4⟩ := chkS_cons hb
    have := h y.1
    rw [hasS_cons, inS_iff.2 (by omega)] at this
    cases this
  | x :: r, [], _, _, ha, _, h => by
    obtain ⟨h1, h2, h3, h4⟩ := chkS_cons ha
    have := h x.1
    rw [hasS_cons, inS_iff.2 (by omega)] at this
    cases this
  | x :: r, y :: t, e, e', ha, hb, h => by
    obtain ⟨a1, a2, a3, a4⟩ := chkS_cons ha
    obtain ⟨b1, b2, b3, b4⟩ := chkS_cons hb
    have key : ∀ p, p ≤ x.2 → p ≤ y.2 → inS x p = inS y p := by
      intro p h1 h2
      have := h p
      rw [hasS_cons, hasS_cons, chkS_low a4 h1, chkS_low b4 h2, Bool.or_false, Bool.or_false] at this
      exact this
    have f1 : x.1 = y.1 := by
      by_cases h1 : x.1 < y.1
      · have := key x.1 (by omega) (by omega)
        rw [inS_iff.2 (by omega), eq_comm, inS_iff] at this; omega
      · by_cases h2 : y.1 < x.1
        · have := key y.1 (by omega) (by omega)
          rw [eq_comm, inS_iff.2 (by omega), eq_comm, inS_iff] at this; omega
        · omega
    have f2 : x.2 = y.2 := by
      by_cases h1 : x.2 < y.2
      · have := key x.2 (by omega) (by omega)
        rw [eq_comm, inS_iff.2 (by omega), eq_comm, inS_iff] at this; omega
      · by_cases h2 : y.2 < x.2
        · have := key y.2 (by omega) (by omega)
          rw [inS_iff.2 (by omega), eq_comm, inS_iff] at this; omega
        · omega
    have hxy : x = y := Prod.ext f1 f2
    subst hxy
    rw [ext a4 b4 (fun p => ?_)]
    by_cases hp : p ≤ x.2
    · rw [chkS_low a4 hp, chkS_low b4 hp]
    · have := h p
      rw [hasS_cons, hasS_cons, inS_false.2 (by omega), Bool.false_or, Bool.false_or] at this
      exact this

/-! ### one more span behind -/

/-- the last span's end; 'e' of none -/
def lastS (e : Int) : List Span → Int
  | [] => e
  | x :: r => lastS x.2 r
/-! ### where a set changes -/

/-- how many spans end at a place, or ahead of it -/
def aftS (p : Int) : List Span → Nat
  | [] => 0
  | x :: r => if x.2 ≤ p then aftS p r + 1 else 0
theorem aftS_le (p : Int) : ∀ l : List Span, aftS p l ≤ l.length
  | [] => Nat.le_refl _
  | x :: r => by
    simp only [aftS]
    split
    · have := aftS_le p r; simp; omega
    · simp
theorem aftS_lt (p : Int) : ∀ (l : List Span) (i : Nat), i < aftS p l → (l.getD i (0, 0)).2 ≤ p
  | [], i, h => by simp [aftS] at h
  | x :: r, i, h => by
    simp only [aftS] at h
    split at h
    · rename_i hx
      match i, h with
      | 0, _ => exact hx
      | i + 1, h => exact aftS_lt p r i (by omega)
    · omega
theorem chkS_rise : ∀ {l : List Span} {e : Int}, chkS e l = true → ∀ i, i < l.length → e < (l.getD i (0, 0)).1 ∧ (l.getD i (0, 0)).1 < (l.getD i (0, 0)).2 ∧ (l.getD i (0, 0)).2 ≤ 1000000000 ∧ ∀ j, j < i → (l.getD j (0, 0)).2 < (l.getD i (0, 0)).1
  | [], e, _, i, hi => by simp at hi
  | x :: r, e, h, i, hi => by
    obtain ⟨a1, a2, a3, a4⟩ := chkS_cons h
    match i, hi with
    | 0, _ => exact ⟨a1, a2, a3, fun j hj => by omega⟩
    | i + 1, hi =>
      obtain ⟨b1, b2, b3, b4⟩ := chkS_rise a4 i (by simpa using hi)
      simp only [List.getD_cons_succ]
      refine ⟨by omega, b2, b3, fun j hj => ?_⟩
      match j, hj with
      | 0, _ => exact b1
      | j + 1, hj => exact b4 j (by omega)
theorem aftS_at (p : Int) : ∀ (l : List Span), aftS p l < l.length → p < (l.getD (aftS p l) (0, 0)).2
  | [], h => by simp at h
  | x :: r, h => by
    simp only [aftS] at h ⊢
    split
    · rename_i hx
      rw [if_pos hx] at h
      exact aftS_at p r (by simpa using h)
    · rename_i hx
      simp only [List.getD_cons_zero]; omega
theorem aftS_ge {l : List Span} {e p : Int} (hs : chkS e l = true) {i : Nat} (h : aftS p l ≤ i) (hi : i < l.length) : p < (l.getD i (0, 0)).2 := by
  have h0 := aftS_at p l (by omega)
  rcases Nat.eq_or_lt_of_le h with e1 | e1
  · rw [← e1]; exact h0
  · obtain ⟨_, h2, _, h4⟩ := chkS_rise hs i hi
    have := h4 _ e1
    omega

theorem hasS_aft : ∀ {l : List Span} {e : Int} {p : Int}, chkS e l = true → (hasS l p = true ↔ aftS p l < l.length ∧ (l.getD (aftS p l) (0, 0)).1 ≤ p)
  | [], e, p, _ => by simp [hasS]
  | x :: r, e, p, h => by
    obtain ⟨a1, a2, a3, a4⟩ := chkS_cons h
    rw [hasS_cons, Bool.or_eq_true]
    by_cases hx : x.2 ≤ p
    · have e1 : aftS p (x :: r) = aftS p r + 1 := by simp only [aftS, if_pos hx]
      rw [e1, hasS_aft a4, inS_iff]
      simp only [List.length_cons, List.getD_cons_succ, Nat.add_lt_add_iff_right]
      constructor
      · rintro (h | h)
        · omega
        · exact h
      · exact .inr
    · have e1 : aftS p (x :: r) = 0 := by simp only [aftS, if_neg hx]
      rw [e1, inS_iff]
      simp only [List.length_cons, List.getD_cons_zero]
      constructor
      · rintro (h | h)
        · exact ⟨by omega, h.1⟩
        · by_cases h1 : x.1 ≤ p
          · exact ⟨by omega, h1⟩
          · rw [chkS_low a4 (by omega)] at h; cases h
      · rintro ⟨_, h1⟩; exact .inl ⟨h1, by omega⟩

/-! ### the set of what a function keeps -/

end Sp
end

section
/- Sets of places: what the code and the document's code compute. -/

set_option linter.unusedVariables false
set_option linter.unusedSimpArgs false
set_option maxRecDepth 100000
open Go Go.Ab Go.Proofs V S T C
open W (sl1 slS slN slR leNone renS)
open Sp
namespace Sg

abbrev PA (r0 : AV) : AV → List AObj → Prop := fun r H' => ∃ l H2 r2, Sel 0 l H' H2 ∧ Le r (AV.ren (selR l H'.length) r2) ∧ (r2 = r0 ∧ H2 = [])
theorem pa {r r0 : AV} {H' : List AObj} (h : Le r (AV.ren (selR [] H'.length) r0)) : PA r0 r H' := ⟨[], [], r0, Sel.none, h, rfl, rfl⟩
abbrev ok (l : List Span) : Prop := chkS (-1) l = true

theorem chkS_len : ∀ {l : List Span} {e : Int}, chkS e l = true → (l.length : Int) ≤ lastS e l - e
  | [], e, _ => by simp [lastS]
  | x :: r, e, h => by
    obtain ⟨h1, h2, h3, h4⟩ := chkS_cons h
    have := chkS_len h4
    simp only [lastS, List.length_cons]; omega
theorem lastS_top : ∀ {l : List Span} {e : Int}, chkS e l = true → e ≤ 1000000000 → lastS e l ≤ 1000000000
  | [], e, _, h => h
  | x :: r, e, h, _ => by
    obtain ⟨h1, h2, h3, h4⟩ := chkS_cons h
    simp only [lastS]
    exact lastS_top h4 h3
theorem ok_len {l : List Span} (h : ok l) : l.length ≤ 1000000001 := by
  have h1 := chkS_len h
  have h2 := lastS_top h (by omega)
  omega

theorem suc64 {i : Nat} (h : i ≤ 100000000000) : IntKind.wrap .i64 ((i : Int) + 1) = ((i + 1 : Nat) : Int) := by rw [wrap64 (by omega) (by omega)]; simp
theorem mid64 {i j : Nat} (h : i + j ≤ 100000000000) : IntKind.wrap .i64 (Int.fdiv (IntKind.wrap .u64 (IntKind.wrap .i64 ((i : Int) + j))) 2) = (((i + j) / 2 : Nat) : Int) := by
  rw [wrap64 (x := (i : Int) + j) (by omega) (by omega)]
  have e : IntKind.wrap .u64 ((i : Int) + j) = ((i + j : Nat) : Int) := by
    simp only [IntKind.wrap, IntKind.bits, IntKind.signed]
    have e : (2 : Int) ^ 64 = 18446744073709551616 := by decide
    simp only [e, Bool.false_and]
    rw [if_neg (by simp)]
    omega
  rw [e, show Int.fdiv ((i + j : Nat) : Int) 2 = (((i + j) / 2 : Nat) : Int) by rw [Int.fdiv_eq_ediv_of_nonneg _ (by omega)]; omega]
  rw [wrap64 (by omega) (by omega)]

/-! ### where a place stands -/

theorem aftf_spec (x : Span) (p : Int) (H : List AObj) : ASpec Try.prog 138 [.agg (encS x), .int .i64 p] H (fun r H' => r = .int .i64 (if x.2 ≤ p then -1 else 1) ∧ H' = H) := by
  have k : ASpec Try.prog 138 [.agg (encS x), .int .i64 p] [] (fun r H' => r = .int .i64 (if x.2 ≤ p then -1 else 1) ∧ H' = []) :=
    ASpec.sel (s138 _ _ _ (condD (fun h => pa (by rw [if_pos h]; exact Le.refl _)) fun h => pa (by rw [if_neg h]; exact Le.refl _)))
  exact ASpec.pureH H k _ _ rfl rfl

theorem bsf3 {l : List Span} {p : Int} (hs : ok l) : ∀ (m i j : Nat), j - i ≤ m → i ≤ aftS p l → aftS p l ≤ j → j ≤ l.length →
    AWP Try.prog 49 0 c137_3 [(0, slS l), (1, .int .i64 p), (2, .fn 138 []), (8, .int .i64 l.length), (9, .int .i64 i), (10, .int .i64 j)] []
      (q137_2 0 (PA (.tup [.int .i64 (aftS p l : Nat), .bool false]))) := by
  have hl := ok_len hs
  have done : ∀ i : Nat, i = aftS p l → condP (decide ((i : Int) < (l.length : Int))) (needP (0 ≤ (i : Int) ∧ (i : Int) < (l.length : Int)) (ASpec Try.prog 138 [.agg (encS (l.getD (i : Int).toNat (0, 0))), .int .i64 p] []
      (fun r H' => ∃ x : Int, r = .int .i64 x ∧ H' = [] ∧ PA (.tup [.int .i64 (aftS p l : Nat), .bool false]) (.tup [.int .i64 i, .bool (x == 0)]) [])))
      (PA (.tup [.int .i64 (aftS p l : Nat), .bool false]) (.tup [.int .i64 i, .bool false]) []) := by
    rintro i rfl
    refine condD (fun h => needJ ⟨by omega, h⟩ ?_) fun h => pa (Le.refl _)
    refine ASpec.call (aftf_spec _ p _) (Les.refl _) ⟨_, rfl, rfl, pa ?_⟩
    have e : ((if (l.getD ((aftS p l : Nat) : Int).toNat (0, 0)).2 ≤ p then (-1 : Int) else 1) == 0) = false := by split <;> rfl
    rw [e]; exact Le.refl _
  intro m
  induction m with
  | zero =>
    intro i j h1 h2 h3 h4
    exact v137_3 _ _ _ _ _ _ _ (condD (fun hc => by omega) fun _ => done i (by omega))
  | succ m ih =>
    intro i j h1 h2 h3 h4
    refine v137_3 _ _ _ _ _ _ _ (condD (fun hc => needJ (by omega) ?_) fun _ => done i (by omega))
    rw [mid64 (by omega)]
    have hm1 : i ≤ (i + j) / 2 := by omega
    have hm2 : (i + j) / 2 < j := by omega
    refine needJ ⟨by omega, by omega⟩ ?_
    generalize (i + j) / 2 = h at hm1 hm2 ⊢
    rw [Int.toNat_natCast]
    refine ASpec.call (aftf_spec _ p _) (Les.refl _) ⟨_, rfl, rfl, ?_⟩
    by_cases hc : (l.getD h (0, 0)).2 ≤ p
    · rw [if_pos hc]
      refine condD (fun _ => ?_) fun hc => by omega
      rw [suc64 (by omega)]
      refine ih (h + 1) j (by omega) ?_ h3 h4
      rcases Nat.lt_or_ge h (aftS p l) with hk | hk
      · omega
      · have := aftS_ge hs hk (by omega); omega
    · rw [if_neg hc]
      refine condD (fun hc => by omega) fun _ => ?_
      refine ih i h (by omega) h2 ?_ (by omega)
      rcases Nat.lt_or_ge h (aftS p l) with hk | hk
      · exact (hc (aftS_lt p l h hk)).elim
      · exact hk

theorem after_spec (l : List Span) (p : Int) (hs : ok l) (H : List AObj) : ASpec Try.prog 136 [slS l, .int .i64 p] H (fun r H' => r = .int .i64 (aftS p l : Nat) ∧ H' = H) := by
  have k : ASpec Try.prog 136 [slS l, .int .i64 p] [] (fun r H' => r = .int .i64 (aftS p l : Nat) ∧ H' = []) := by
    have k2 : ASpec Try.prog 137 [slS l, .int .i64 p, .fn 138 []] [] (fun r H' => r = .tup [.int .i64 (aftS p l : Nat), .bool false] ∧ H' = []) :=
      ASpec.sel (s137 _ _ _ (bsf3 hs l.length 0 l.length (by omega) (by omega) (aftS_le p l) (by omega)))
    exact s136 _ _ _ (ASpec.call k2 (Les.refl _) ⟨(((aftS p l : Nat) : Int), false), rfl, rfl, rfl, rfl⟩)
  exact ASpec.pureH H k _ _ rfl rfl

theorem has_spec (l : List Span) (p : Int) (hs : ok l) (H : List AObj) : ASpec Try.prog 127 [slS l, .int .i64 p] H (fun r H' => r = .bool (hasS l p) ∧ H' = H) := by
  have k : ASpec Try.prog 127 [slS l, .int .i64 p] [] (fun r H' => r = .bool (hasS l p) ∧ H' = []) := by
    have e := hasS_aft (p := p) hs
    refine s127 _ _ _ (ASpec.call (after_spec l p hs _) (Les.refl _) ⟨_, rfl, rfl, condD (fun h => needJ ⟨by omega, h⟩ ⟨?_, rfl⟩) fun h => ⟨?_, rfl⟩⟩)
    · rw [Int.toNat_natCast]
      congr 1
      rw [Bool.eq_iff_iff, e, decide_eq_true_iff]
      exact ⟨fun h2 => ⟨by omega, h2⟩, fun h2 => h2.2⟩
    · congr 1
      symm
      cases hx : hasS l p with
      | false => rfl
      | true => have := (e.1 hx).1; omega
  exact ASpec.pureH H k _ _ rfl rfl

/-! ### one more span -/

/-! ### what two sets both have -/

open Classical in
section
variable {a b : List Span} (ha : ok a) (hb : ok b)
include ha hb

end

/-! ### within -/

end Sg
end

section
/- The index of manifests: what is put first stays. -/

set_option linter.unusedVariables false
set_option linter.unusedSimpArgs false
set_option maxRecDepth 100000
open Go Go.Ab Go.Proofs V S T C
open W (sl1 slS slN slR leNone renN renR readM)
namespace X

abbrev PA (r0 : AV) : AV → List AObj → Prop := fun r H' => ∃ l H2 r2, Sel 0 l H' H2 ∧ Le r (AV.ren (selR l H'.length) r2) ∧ (r2 = r0 ∧ H2 = [])
theorem pa {r r0 : AV} {H' : List AObj} (h : Le r (AV.ren (selR [] H'.length) r0)) : PA r0 r H' := ⟨[], [], r0, Sel.none, h, rfl, rfl⟩
/-! ### copies -/

theorem leS0 {ρ : Nat → Nat} : Le (.sl 0 (.raw []) .nil) (AV.ren ρ (slS [])) := Le.sl (s' := Seq.ren ρ (.map encS (0, 0) [])) rfl (.inr ⟨rfl, fun _ h => by cases h⟩) (.inr rfl)

theorem cloneS_spec (l : List Span) (hl : l.length ≤ lim) (H : List AObj) : ASpec Try.prog 115 [slS l] H (fun r H' => r = slS l ∧ H' = H) := by
  unfold lim at hl
  have k : ASpec Try.prog 115 [slS l] [] (fun r H' => r = slS l ∧ H' = []) := by
    refine ASpec.sel (s115 _ _ fun b hb => condB (fun h => pa ?_) fun h => needJ (fun x => rfl) (needJ (by omega) (pa ?_)))
    · have := hb h
      simp only [Ab.Seq.toList, List.map_eq_nil_iff] at this
      subst this
      exact leS0
    · exact Le.sl (s' := Seq.ren _ (.map encS (0, 0) l)) (by simp [Ab.Seq.toList, Seq.ren, W.renS]) (.inl rfl) (.inr rfl)
  exact ASpec.pureH H k _ _ rfl rfl

theorem cloneR3 {v : Int} {l : List Need} {R : List Need} (hl : okN l) : ∀ (m i : Nat) (acc : List Need), m + i = l.length → acc.length + m ≤ lim → acc ++ l.drop i = R →
    AWP Try.prog 29 0 c76_3 [(2, .ptr 0 0), (3, .ptr 1 0), (10, slN l), (11, .int .i64 l.length), (12, .int .i64 i)]
      [.cells [.int .i64 0, .sl 0 (.raw []) .nil], .cells [.int .i64 v, .sl 2 (.map encN ([], []) acc) (.tok 2)], .tok] (q76_2 0 (PA (.agg (T.encR (v, R))))) := by
  obtain ⟨hl1, hl2⟩ := hl
  unfold lim at hl1
  intro m
  induction m with
  | zero =>
    intro i acc hm ha h
    refine v76_3 _ _ _ _ _ _ _ (condD (fun hc => by omega) fun _ => pa ?_)
    rw [List.drop_eq_nil_of_le (by omega), List.append_nil] at h
    subst h
    exact Le.agg ⟨Le.refl _, leNone renN, trivial⟩
  | succ m ih =>
    intro i acc hm ha h
    unfold lim at ha
    have hx := hl2 _ (memD l ([], []) i (by omega))
    rw [dropD l ([], []) i (by omega)] at h
    refine v76_3 _ _ _ _ _ _ _ (condD (fun hc => needJ ⟨by omega, by omega⟩ ?_) fun hc => by omega)
    rw [Int.toNat_natCast]
    generalize l.getD i ([], []) = x at h hx ⊢
    refine ASpec.call (cloneS_spec x.2 hx.2 _) (Les.refl _) ⟨x.2, rfl, rfl, ⟨rfl, rfl⟩, ⟨rfl, rfl⟩, needJ (by omega) ?_⟩
    refine AWP.re (ReSt.leCell (id := 1) (cs' := [.int .i64 v, .sl 2 (.map encN ([], []) (acc ++ [x])) (.tok 4)]) rfl ⟨Le.refl _, leAppE (Les.refl _), trivial⟩) ?_
    rw [succ64 (by omega)]
    refine AWP.shape [0, 1, 4] [(2, .ptr 0 0), (3, .ptr 1 0), (10, slN l), (11, .int .i64 l.length), (12, .int .i64 (i + 1 : Nat))]
      [.cells [.int .i64 0, .sl 0 (.raw []) .nil], .cells [.int .i64 v, .sl 2 (.map encN ([], []) (acc ++ [x])) (.tok 2)], .tok] ?_
      ⟨rfl, Le.refl _, rfl, Le.refl _, rfl, Le.refl _, rfl, Le.refl _, rfl, Le.refl _, trivial⟩ (ih (i + 1) _ (by omega) (by simp; unfold lim; omega) ?_)
    · refine ⟨by decide, rfl, by decide, fun i hi => by omega, fun i hi => .inl ?_⟩
      match i, hi with
      | 0, _ | 1, _ | 2, _ => rfl
    · rw [← h]; simp

theorem cloneR_spec (x : Rel) (hl : okN x.2) (H : List AObj) : ASpec Try.prog 76 [.agg (T.encR x)] H (fun r H' => r = .agg (T.encR x) ∧ H' = H) := by
  have k : ASpec Try.prog 76 [.agg (T.encR x)] [] (fun r H' => r = .agg (T.encR x) ∧ H' = []) := by
    refine ASpec.sel (s76 _ _ ?_)
    refine AWP.re (ReSt.tokCell (id := 2) (j := 1) (q' := .map encN ([], []) []) (sz' := 2) rfl rfl (.inl rfl) rfl (.inr rfl)) ?_
    refine AWP.shape [1, 2, 3] [(2, .ptr 0 0), (3, .ptr 1 0), (10, slN x.2), (11, .int .i64 x.2.length), (12, .int .i64 (0 : Nat))]
      [.cells [.int .i64 0, .sl 0 (.raw []) .nil], .cells [.int .i64 x.1, .sl 2 (.map encN ([], []) []) (.tok 2)], .tok] ?_
      ⟨rfl, Le.refl _, rfl, Le.refl _, rfl, Le.refl _, rfl, Le.refl _, rfl, Le.refl _, trivial⟩ (cloneR3 hl x.2.length 0 [] (by omega) (by have := hl.1; simp; omega) rfl)
    refine ⟨by decide, rfl, by decide, fun i hi => by omega, fun i hi => .inl ?_⟩
    match i, hi with
    | 0, _ | 1, _ | 2, _ => rfl
  exact ASpec.pureH H k _ _ rfl rfl

theorem cloneM3 {s : List UInt8} {l : List Rel} {R : List Rel} (hl1 : l.length ≤ lim) (hl2 : ∀ r ∈ l, okN r.2) : ∀ (m i : Nat) (acc : List Rel), m + i = l.length → acc.length + m ≤ lim → acc ++ l.drop i = R →
    AWP Try.prog 25 0 c59_3 [(2, .ptr 0 0), (3, .ptr 1 0), (10, slR l), (11, .int .i64 l.length), (12, .int .i64 i)]
      [.cells [.str ⟨#[]⟩, .sl 0 (.raw []) .nil], .cells [.str (B s), .sl 2 (.map T.encR (0, []) acc) (.tok 2)], .tok] (q59_2 0 (PA (.agg (encM (s, R))))) := by
  unfold lim at hl1
  intro m
  induction m with
  | zero =>
    intro i acc hm ha h
    refine v59_3 _ _ _ _ _ _ _ (condD (fun hc => by omega) fun _ => pa ?_)
    rw [List.drop_eq_nil_of_le (by omega), List.append_nil] at h
    subst h
    exact Le.agg ⟨Le.refl _, leNone renR, trivial⟩
  | succ m ih =>
    intro i acc hm ha h
    unfold lim at ha
    have hx := hl2 _ (memD l (0, []) i (by omega))
    rw [dropD l (0, []) i (by omega)] at h
    refine v59_3 _ _ _ _ _ _ _ (condD (fun hc => needJ ⟨by omega, by omega⟩ ?_) fun hc => by omega)
    rw [Int.toNat_natCast]
    generalize l.getD i (0, []) = x at h hx ⊢
    refine ASpec.call (cloneR_spec x hx _) (Les.refl _) ⟨x, rfl, rfl, ⟨rfl, rfl⟩, needJ (by omega) ?_⟩
    refine AWP.re (ReSt.leCell (id := 1) (cs' := [.str (B s), .sl 2 (.map T.encR (0, []) (acc ++ [x])) (.tok 4)]) rfl ⟨Le.refl _, leAppE (Les.refl _), trivial⟩) ?_
    rw [succ64 (by omega)]
    refine AWP.shape [0, 1, 4] [(2, .ptr 0 0), (3, .ptr 1 0), (10, slR l), (11, .int .i64 l.length), (12, .int .i64 (i + 1 : Nat))]
      [.cells [.str ⟨#[]⟩, .sl 0 (.raw []) .nil], .cells [.str (B s), .sl 2 (.map T.encR (0, []) (acc ++ [x])) (.tok 2)], .tok] ?_
      ⟨rfl, Le.refl _, rfl, Le.refl _, rfl, Le.refl _, rfl, Le.refl _, rfl, Le.refl _, trivial⟩ (ih (i + 1) _ (by omega) (by simp; unfold lim; omega) ?_)
    · refine ⟨by decide, rfl, by decide, fun i hi => by omega, fun i hi => .inl ?_⟩
      match i, hi with
      | 0, _ | 1, _ | 2, _ => rfl
    · rw [← h]; simp

theorem cloneM_spec (x : Mani) (hl : okM x) (H : List AObj) : ASpec Try.prog 59 [.agg (encM x)] H (fun r H' => r = .agg (encM x) ∧ H' = H) := by
  have k : ASpec Try.prog 59 [.agg (encM x)] [] (fun r H' => r = .agg (encM x) ∧ H' = []) := by
    refine ASpec.sel (s59 _ _ ?_)
    refine AWP.re (ReSt.tokCell (id := 2) (j := 1) (q' := .map T.encR (0, []) []) (sz' := 2) rfl rfl (.inl rfl) rfl (.inr rfl)) ?_
    refine AWP.shape [1, 2, 3] [(2, .ptr 0 0), (3, .ptr 1 0), (10, slR x.2), (11, .int .i64 x.2.length), (12, .int .i64 (0 : Nat))]
      [.cells [.str ⟨#[]⟩, .sl 0 (.raw []) .nil], .cells [.str (B x.1), .sl 2 (.map T.encR (0, []) []) (.tok 2)], .tok] ?_
      ⟨rfl, Le.refl _, rfl, Le.refl _, rfl, Le.refl _, rfl, Le.refl _, rfl, Le.refl _, trivial⟩ (cloneM3 hl.2.1 hl.2.2 x.2.length 0 [] (by omega) (by have := hl.2.1; simp; omega) rfl)
    refine ⟨by decide, rfl, by decide, fun i hi => by omega, fun i hi => .inl ?_⟩
    match i, hi with
    | 0, _ | 1, _ | 2, _ => rfl
  exact ASpec.pureH H k _ _ rfl rfl

/-! ### the index in its heap -/

theorem EK_ren (ρ : Nat → Nat) : Enc.ren ρ EK = EK := by
  have e1 : (fun a => AV.ren ρ (EK.enc a)) = EK.enc := by funext a; cases a <;> rfl
  have e2 : (fun (a : Known) (K : AV → Prop) => EK.spl a (fun v => K (AV.ren ρ v))) = EK.spl := by funext a K; cases a <;> rfl
  unfold Enc.ren
  cases hE : EK with
  | mk enc spl ok =>
    rw [hE] at e1 e2
    simp only at e1 e2 ⊢
    simp only [e1, e2]

theorem mp_ren (ρ : Nat → Nat) (es : Kn) : AObj.ren ρ (.mp (.typed EK es)) = .mp (.typed EK es) := by
  simp only [AObj.ren, MM.ren, EK_ren]

theorem liftX {f : FuncId} {args args' : List AV} {r0 r' : AV} {es es' : Kn} (H : List AObj) (q p : Nat) (hqp : q ≠ p) (hq : H[q]? = some (.mp (.typed EK es))) (hp : H[p]? = some (.cells [.map q]))
    (k : ASpec Try.prog f args (HX es) (fun r H' => r = r0 ∧ H' = HX es')) (ha : args.map (AV.ren (callR [q, p] H.length)) = args') (hr : AV.ren (callR [q, p] H.length) r0 = r') :
    ASpec Try.prog f args' H (fun r H' => r = r' ∧ H' = H.set q (.mp (.typed EK es'))) := by
  refine ASpec.subH [q, p] H _ k args' r' (by simpa using hqp) rfl ha hr (fun i hi => ?_) ?_
  · match i, hi with
    | 0, _ => show H[q]? = some (AObj.ren _ (.mp (.typed EK es))); rw [mp_ren]; try exact hq
    | 1, _ => exact hp
  · have e : (H.set q (.mp (.typed EK es')))[p]? = some (.cells [.map q]) := by rw [List.getElem?_set_ne hqp]; exact hp
    have h2 : graftH (callR [q, p] H.length) [q, p] H (HX es') = (H.set q (AObj.ren (callR [q, p] H.length) (.mp (.typed EK es')))).set p (AObj.ren (callR [q, p] H.length) (.cells [.map 0])) := by
      simp [graftH, grafted, HX]
    rw [h2, mp_ren]
    exact set_same e

/-- the heap of an index, and a result -/
abbrev PX (es : Kn) (r0 : AV) : AV → List AObj → Prop := fun r H' => ∃ l H2 r2, Sel 2 l H' H2 ∧ Le r (AV.ren (selR l H'.length) r2) ∧ (r2 = r0 ∧ H2 = HX es)
theorem selX (es : Kn) (q : List AObj) : Sel 2 [0, 1] (HX es ++ q) (HX es) := by
  refine ⟨by decide, rfl, by decide, fun i hi => ?_, fun i hi => .inl ?_⟩
  · match i, hi with
    | 0, _ | 1, _ => rfl
  · match i, hi with
    | 0, _ => show some _ = some (AObj.ren _ (.mp (.typed EK es))); rw [mp_ren]
    | 1, _ => rfl
theorem px {es : Kn} {r r0 : AV} (q : List AObj) (h : Le r (AV.ren (selR [0, 1] (HX es ++ q).length) r0)) : PX es r0 r (HX es ++ q) := ⟨_, _, _, selX es q, h, rfl, rfl⟩

theorem new_spec (H : List AObj) : ASpec Try.prog 37 [] H (fun r H' => r = .ptr (H.length + 1) 0 ∧ H' = H ++ [.mp (.typed EK []), .cells [.map H.length]]) := by
  have k : ASpec Try.prog 37 [] [] (fun r H' => r = .ptr 1 0 ∧ H' = HX []) :=
    ASpec.outMap (s37 _ ⟨0, .nil, .typed EK [], rfl, mle_nil, rfl, rfl⟩)
  refine (ASpec.subH [] H (H ++ [.mp (.typed EK []), .cells [.map H.length]]) k [] (.ptr (H.length + 1) 0) (by simp) rfl rfl (by simp [AV.ren, callR]) (fun i hi => by cases hi) ?_)
  simp [graftH, grafted, HX, mp_ren]
  simp [AObj.ren, renL, AV.ren, callR]

def hasI (es : Kn) (k : List UInt8) : Bool := (findM es (B k)).isSome
def getM (es : Kn) (k : List UInt8) : Mani × Bool := match findM es (B k) with
  | some (some m) => (m, true)
  | _ => ((k, []), false)
def readK (k bs : List UInt8) : Known := if (readM bs).2 ≠ 0 ∨ (readM bs).1.1 ≠ k then none else some (readM bs).1
def putI (es : Kn) (k bs : List UInt8) : Int × Kn :=
  if fitM k = false ∨ 8192 < bs.length then (1, es) else if hasI es k = true then (6, es) else (0, setM es (B k) (readK k bs))
def OkX (es : Kn) : Prop := ∀ k m, findM es k = some (some m) → okM m

theorem optI {α : Type} {o : Option α} {A : α → Prop} {Z : Prop} (h1 : ∀ a, o = some a → A a) (h2 : o = none → Z) : optionP o A Z := by
  cases o with
  | none => exact h2 rfl
  | some a => exact h1 a rfl

theorem has0 (es : Kn) (k : List UInt8) : ASpec Try.prog 29 [.ptr 1 0, .str (B k)] (HX es) (fun r H' => r = .bool (hasI es k) ∧ H' = HX es) := by
  refine s29 _ _ _ (optI (fun a h => optI (fun m h2 => ⟨?_, rfl⟩) fun h2 => ⟨?_, rfl⟩) fun h => ⟨?_, rfl⟩) <;> (unfold hasI; rw [h]; rfl)
theorem has_spec (es : Kn) (k : List UInt8) (H : List AObj) (q p : Nat) (hqp : q ≠ p) (hq : H[q]? = some (.mp (.typed EK es))) (hp : H[p]? = some (.cells [.map q])) :
    ASpec Try.prog 29 [.ptr p 0, .str (B k)] H (fun r H' => r = .bool (hasI es k) ∧ H' = H) := by
  have := liftX H q p hqp hq hp (has0 es k) (args' := [.ptr p 0, .str (B k)]) rfl rfl
  rwa [set_same hq] at this

theorem good_spec (m : Mani) (H : List AObj) : ASpec Try.prog 155 [.agg (encM m)] H (fun r H' => r = .bool true ∧ H' = H) :=
  ASpec.pureH H (ASpec.sel (s155 _ _ (pb rfl))) _ _ rfl rfl
theorem bad_spec (H : List AObj) : ASpec Try.prog 156 [.agg []] H (fun r H' => r = .bool false ∧ H' = H) :=
  ASpec.pureH H (ASpec.sel (s156 _ (pb rfl))) _ _ rfl rfl

theorem get0 (es : Kn) (k : List UInt8) (hes : OkX es) : ASpec Try.prog 41 [.ptr 1 0, .str (B k)] (HX es) (fun r H' => r = .tup [.agg (encM (getM es k).1), .bool (getM es k).2] ∧ H' = HX es) := by
  have none : ∀ q : List AObj, getM es k = ((k, []), false) → PX es (.tup [.agg (encM (getM es k).1), .bool (getM es k).2]) (.tup [.agg [.str (B k), .sl 0 (.raw []) .nil], .bool false]) (HX es ++ q) := by
    intro q h
    rw [h]
    exact px q (Le.tup ⟨Le.agg ⟨Le.refl _, Le.sl (s' := Seq.ren _ (.map T.encR (0, []) [])) rfl (.inr ⟨rfl, fun _ h => by cases h⟩) (.inr rfl), trivial⟩, Le.refl _, trivial⟩)
  refine ASpec.sel (s41 _ _ _ (ASpec.call (has_spec es k _ 0 1 (by omega) rfl rfl) (Les.refl _) ⟨_, rfl, rfl, condBn (fun h => ?_) fun h => ?_⟩))
  · refine none [_, _] ?_
    unfold hasI at h
    unfold getM
    cases hf : findM es (B k) with
    | none => rfl
    | some a => rw [hf] at h; cases h
  · refine optI (fun a ha => optI (fun m hm => ?_) fun hm => ?_) fun hn => ?_
    · subst hm
      refine ASpec.call (good_spec m _) (Les.refl _) ⟨(), rfl, rfl, optI (fun a' ha' => optI (fun m' hm' => ?_) fun hm' => ?_) fun hn => ?_⟩
      · rw [ha] at ha'; cases ha'; cases hm'
        refine ASpec.call (cloneM_spec m (hes _ _ ha) _) (Les.refl _) ⟨m, rfl, rfl, ?_⟩
        have e : getM es k = (m, true) := by unfold getM; rw [ha]
        rw [e]
        exact px [_, _, _] (Le.refl _)
      · rw [ha] at ha'; cases ha'; cases hm'
      · rw [ha] at hn; cases hn
    · subst hm
      refine ASpec.call (bad_spec _) (Les.refl _) ⟨(), rfl, rfl, none [_, _] ?_⟩
      unfold getM; rw [ha]
    · unfold hasI at h; rw [hn] at h; cases h
theorem get_spec (es : Kn) (k : List UInt8) (hes : OkX es) (H : List AObj) (q p : Nat) (hqp : q ≠ p) (hq : H[q]? = some (.mp (.typed EK es))) (hp : H[p]? = some (.cells [.map q])) :
    ASpec Try.prog 41 [.ptr p 0, .str (B k)] H (fun r H' => r = .tup [.agg (encM (getM es k).1), .bool (getM es k).2] ∧ H' = H) := by
  have := liftX H q p hqp hq hp (get0 es k hes) (args' := [.ptr p 0, .str (B k)]) (r' := .tup [.agg (encM (getM es k).1), .bool (getM es k).2]) rfl rfl
  rwa [set_same hq] at this

theorem read_found {k bs : List UInt8} {m : Mani} (hb : bs.length ≤ 1000000) (h : readK k bs = some m) (H : List AObj) : ASpec Try.prog 48 [.str (B k), sl1 bs] H (fun r H' => r = .iface 116 (.agg (encM m)) ∧ H' = H) := by
  have hk : ASpec Try.prog 48 [.str (B k), sl1 bs] [] (fun r H' => r = .iface 116 (.agg (encM m)) ∧ H' = []) := by
    unfold readK at h
    split at h
    · cases h
    · rename_i hh
      cases h
      refine ASpec.sel (s48 _ _ _ (ASpec.call (W.read_spec bs hb _) (Les.refl _) ⟨readM bs, rfl, rfl, condNe (fun h => (hh (.inl h)).elim) fun _ => condSn (fun h => (hh (.inr h)).elim) fun _ => pa (Le.refl _)⟩))
  exact ASpec.pureH H hk _ _ rfl rfl
theorem read_broken {k bs : List UInt8} (hb : bs.length ≤ 1000000) (h : readK k bs = none) (H : List AObj) : ASpec Try.prog 48 [.str (B k), sl1 bs] H (fun r H' => r = .iface 126 (.agg []) ∧ H' = H) := by
  have hk : ASpec Try.prog 48 [.str (B k), sl1 bs] [] (fun r H' => r = .iface 126 (.agg []) ∧ H' = []) := by
    unfold readK at h
    split at h
    · rename_i hh
      refine ASpec.sel (s48 _ _ _ (ASpec.call (W.read_spec bs hb _) (Les.refl _) ⟨readM bs, rfl, rfl, condNe (fun h => pa (Le.refl _)) fun h1 => condSn (fun h => pa (Le.refl _)) fun h2 => ?_⟩))
      rcases hh with h | h
      · exact (h h1).elim
      · exact (h h2).elim
    · cases h
  exact ASpec.pureH H hk _ _ rfl rfl

theorem put0 (es : Kn) (k bs : List UInt8) (hk : k.length ≤ lim) : ASpec Try.prog 20 [.ptr 1 0, .str (B k), sl1 bs] (HX es) (fun r H' => r = .int .i64 (putI es k bs).1 ∧ H' = HX (putI es k bs).2) := by
  have same : ∀ e : Int, putI es k bs = (e, es) → (∃ (id : Nat) (m m' : MM), (HX es)[id]? = some (.mp m) ∧ MLe m.toList m'.toList ∧ (AV.int .i64 e = .int .i64 (putI es k bs).1 ∧ (HX es).set id (.mp m') = HX (putI es k bs).2)) := by
    intro e h
    rw [h]
    exact ⟨0, .typed EK es, .typed EK es, rfl, MLe.of_eq rfl, rfl, rfl⟩
  refine ASpec.outMap (s20 _ _ _ _ ?_)
  refine ASpec.call (fit_spec (l := k) (by unfold big; unfold lim at hk; omega) _) (Les.refl _) ⟨_, rfl, rfl, condBn (fun h1 => same 1 ?_) fun h1 => condD (fun h2 => same 1 ?_) fun h2 => ?_⟩
  · rw [putI, if_pos (.inl h1)]
  · rw [putI, if_pos (.inr (by omega))]
  refine ASpec.call (has_spec es k _ 0 1 (by omega) rfl rfl) (Les.refl _) ⟨_, rfl, rfl, condB (fun h3 => same 6 ?_) fun h3 => ?_⟩
  · rw [putI, if_neg (by rw [h1]; simp; omega), if_pos h3]
  have hp : putI es k bs = (0, setM es (B k) (readK k bs)) := by rw [putI, if_neg (by rw [h1]; simp; omega), if_neg (by rw [h3]; simp)]
  rw [hp]
  cases hr : readK k bs with
  | some m =>
    refine ASpec.call (read_found (by omega) hr _) (Les.refl _) (.inl ⟨m, rfl, rfl, ⟨rfl, rfl⟩, ?_⟩)
    exact ⟨0, _, .typed EK (setM es (B k) (some m)), rfl, mle_put rfl, rfl, rfl⟩
  | none =>
    refine ASpec.call (read_broken (by omega) hr _) (Les.refl _) (.inr ⟨(), rfl, rfl, ⟨rfl, rfl⟩, ?_⟩)
    exact ⟨0, _, .typed EK (setM es (B k) none), rfl, mle_put rfl, rfl, rfl⟩
theorem put_spec (es : Kn) (k bs : List UInt8) (hk : k.length ≤ lim) (H : List AObj) (q p : Nat) (hqp : q ≠ p) (hq : H[q]? = some (.mp (.typed EK es))) (hp : H[p]? = some (.cells [.map q])) :
    ASpec Try.prog 20 [.ptr p 0, .str (B k), sl1 bs] H (fun r H' => r = .int .i64 (putI es k bs).1 ∧ H' = H.set q (.mp (.typed EK (putI es k bs).2))) :=
  liftX H q p hqp hq hp (put0 es k bs hk) rfl rfl

/-! ### the plain law -/

theorem okX_nil : OkX [] := fun k m h => by cases h
theorem okX_put {es : Kn} {k bs : List UInt8} (h : OkX es) : OkX (putI es k bs).2 := by
  unfold putI
  split
  · exact h
  · split
    · exact h
    · intro k' m hm
      simp only [findM_set] at hm
      split at hm
      · have hm := Option.some.inj hm
        unfold readK at hm
        split at hm
        · cases hm
        · cases hm
          exact W.readM_ok bs
      · exact h k' m hm

theorem find_none {es : Kn} {k : List UInt8} (h : hasI es k = false) : findM es (B k) = none := by
  unfold hasI at h
  cases hf : findM es (B k) with
  | none => rfl
  | some a => rw [hf] at h; cases h

/-! ### the law -/

noncomputable abbrev slEn (l : List Ent) : AV := .sl 2 (.map encEn ([], []) l) .none

def largeF : List Ent → Bool
  | [] => false
  | x :: r => if 200 < x.1.length ∨ 9000 < x.2.length then true else largeF r
def largeD (l : List Ent) : Bool := if 30 < l.length then true else largeF l

theorem large4 {l : List Ent} {c : Bool} (hl : l.length ≤ 30) : ∀ (m i : Nat), m + i = l.length → largeF (l.drop i) = c →
    AWP Try.prog 29 0 c8_4 [(0, slEn l), (3, .int .i64 i)] [] (q8_2 0 (PB c)) := by
  intro m
  induction m with
  | zero =>
    intro i hm h
    refine v8_4 _ _ _ _ (condD (fun hc => by omega) fun _ => pb ?_)
    rw [List.drop_eq_nil_of_le (by omega)] at h
    exact h
  | succ m ih =>
    intro i hm h
    have hin : (0 : Int) ≤ (i : Int) ∧ (i : Int) < (l.length : Int) := ⟨by omega, by omega⟩
    rw [dropD l ([], []) i (by omega)] at h
    simp only [largeF] at h
    refine v8_4 _ _ _ _ (condD (fun hc => needJ hin ?_) fun hc => by omega)
    rw [Int.toNat_natCast]
    generalize l.getD i ([], []) = x at h ⊢
    rw [B_size]
    refine condD (fun h1 => pb ?_) fun h1 => needJ hin (condD (fun h2 => pb ?_) fun h2 => ?_)
    · rw [if_pos (by omega)] at h; exact h
    · rw [if_pos (by omega)] at h; exact h
    · rw [if_neg (by omega)] at h
      rw [succ64 (by omega)]
      exact ih (i + 1) (by omega) h

theorem largeD_spec (l : List Ent) (H : List AObj) : ASpec Try.prog 8 [slEn l] H (fun r H' => r = .bool (largeD l) ∧ H' = H) := by
  have k : ASpec Try.prog 8 [slEn l] [] (fun r H' => r = .bool (largeD l) ∧ H' = []) := by
    refine ASpec.sel (s8 _ _ (condD (fun h => pb ?_) fun h => large4 (by omega) l.length 0 (by omega) ?_))
    · rw [largeD, if_pos (by omega)]
    · rw [largeD, if_neg (by omega)]; rfl
  exact ASpec.pureH H k _ _ rfl rfl

theorem largeF_ok : ∀ (l : List Ent), largeF l = false → ∀ x ∈ l, x.1.length ≤ 200 ∧ x.2.length ≤ 9000
  | [], _, n, hn => by simp at hn
  | x :: r, h, n, hn => by
    simp only [largeF] at h
    split at h
    · cases h
    · rcases List.mem_cons.1 hn with rfl | hn
      · omega
      · exact largeF_ok r h n hn

theorem largeD_ok {l : List Ent} (h : largeD l = false) : l.length ≤ 30 ∧ ∀ x ∈ l, x.1.length ≤ 200 ∧ x.2.length ≤ 9000 := by
  unfold largeD at h
  split at h
  · cases h
  · exact ⟨by omega, largeF_ok l h⟩

section
variable {l : List Ent}

end
end X
end

section
/- What was put of a manifest is read; what is read is put so. -/

set_option linter.unusedVariables false
set_option linter.unusedSimpArgs false
set_option maxRecDepth 100000
open Go Go.Ab Go.Proofs V S T C
namespace W

/-! ### what was put is read -/

/-! ### what is read is put so -/

/-! ### the law -/

section
variable {Post : AV → List AObj → Prop}

end
end W
end

section
/- The codecs of this seat's plain arguments. -/

open Go Go.Ab Go.Proofs
namespace Go.Ab

noncomputable def cInt : Codec Try.prog 3 Int := Codec.int .i64 Try.underlying3
noncomputable def cStr : Codec Try.prog 9 ByteArray := Codec.str Try.underlying9
noncomputable def cInts : Codec Try.prog 107 (List Int) := Codec.slice (sz := 1) cInt Try.underlying107 (by kernel_rfl) (by omega) (fun _ => rfl)
/-- a byte -/
noncomputable def cByte : Codec Try.prog 5 UInt8 where
  enc b := encB b
  ok _ := True
  dflt := 0
  opens := by
    intro H e w fuel cs x h
    obtain ⟨n, h1, h2⟩ := (Codec.int .u8 Try.underlying5).opens e w fuel cs x h
    have hn : 0 ≤ n ∧ n ≤ 255 := by simpa [Codec.int, Lit.wf, IntKind.min, IntKind.max, IntKind.signed, IntKind.bits] using h1
    refine ⟨UInt8.ofNat n.toNat, trivial, ?_⟩
    rw [← encB_ofNat hn.1 (by omega)]
    exact h2
noncomputable def cBytes : Codec Try.prog 41 (List UInt8) := Codec.slice (sz := 1) cByte Try.underlying41 (by kernel_rfl) (by omega) (fun _ => rfl)

end Go.Ab
end

section
/- The codecs of manifests. -/

open Go Go.Ab Go.Proofs
namespace Go.Ab

noncomputable def cName : Codec Try.prog 9 (List UInt8) := cStr.iso (fun s => s.data.toList) (fun l => [.str ⟨l.toArray⟩]) (fun _ => True) (fun _ => rfl) (fun _ _ => trivial)
noncomputable def cSpan : Codec Try.prog 72 T.Span :=
  (Codec.struct (n := 2) Try.underlying72 (FC.cons (k := 1) (n := 1) cInt rfl (by kernel_rfl) (FC.cons (k := 1) (n := 0) cInt rfl (by kernel_rfl) FC.nil)) (by kernel_rfl)).iso (fun x => (x.1, x.2.1)) T.encS (fun _ => True) (fun _ => rfl) (fun _ _ => trivial)
noncomputable def cSpans : Codec Try.prog 66 (List T.Span) := Codec.slice (sz := 2) cSpan Try.underlying66 (by kernel_rfl) (by omega) (fun _ => rfl)
noncomputable def cNeed : Codec Try.prog 68 T.Need :=
  (Codec.struct (n := 2) Try.underlying68 (FC.cons (k := 1) (n := 1) cName rfl (by kernel_rfl) (FC.cons (k := 1) (n := 0) cSpans rfl (by kernel_rfl) FC.nil)) (by kernel_rfl)).iso (fun x => (x.1, x.2.1)) T.encN (fun _ => True) (fun _ => rfl) (fun _ _ => trivial)
noncomputable def cNeeds : Codec Try.prog 23 (List T.Need) := Codec.slice (sz := 2) cNeed Try.underlying23 (by kernel_rfl) (by omega) (fun _ => rfl)
end Go.Ab
end

section
/- The codecs of lists of entries and of manifests. -/

open Go Go.Ab Go.Proofs
namespace Go.Ab
noncomputable def cEnt : Codec Try.prog 43 T.Ent :=
  (Codec.struct (n := 2) Try.underlying43 (FC.cons (k := 1) (n := 1) cName rfl (by kernel_rfl) (FC.cons (k := 1) (n := 0) cBytes rfl (by kernel_rfl) FC.nil)) (by kernel_rfl)).iso (fun x => (x.1, x.2.1)) T.encEn (fun _ => True) (fun _ => rfl) (fun _ _ => trivial)
noncomputable def cEnts : Codec Try.prog 22 (List T.Ent) := Codec.slice (sz := 2) cEnt Try.underlying22 (by kernel_rfl) (by omega) (fun _ => rfl)
end Go.Ab
end

section
/- The codecs of picks and choices. -/

open Go Go.Ab Go.Proofs
namespace Go.Ab
noncomputable def cPk : Codec Try.prog 63 T.Pk :=
  (Codec.struct (n := 2) Try.underlying63 (FC.cons (k := 1) (n := 1) cName rfl (by kernel_rfl) (FC.cons (k := 1) (n := 0) cInt rfl (by kernel_rfl) FC.nil)) (by kernel_rfl)).iso (fun x => (x.1, x.2.1)) T.encPk (fun _ => True) (fun _ => rfl) (fun _ _ => trivial)
noncomputable def cPks : Codec Try.prog 56 (List T.Pk) := Codec.slice (sz := 2) cPk Try.underlying56 (by kernel_rfl) (by omega) (fun _ => rfl)
noncomputable def cCh : Codec Try.prog 58 T.Ch :=
  (Codec.struct (n := 2) Try.underlying58 (FC.cons (k := 1) (n := 1) cNeeds rfl (by kernel_rfl) (FC.cons (k := 1) (n := 0) cPks rfl (by kernel_rfl) FC.nil)) (by kernel_rfl)).iso (fun x => (x.1, x.2.1)) T.encCh (fun _ => True) (fun _ => rfl) (fun _ _ => trivial)
end Go.Ab
end

section
/- What is asked of the program alone, once for all statements. -/

namespace Go.Proofs.Facts
open Go Go.Proofs
theorem andT {a b : Bool} (h : a = true) (k : b = true) : (a && b) = true := by rw [h, k]; rfl
theorem laid : laidOutB Try.prog = true := by kernel_rfl
theorem mapsRowed : Go.mapsRowed Try.prog = true := by kernel_rfl
theorem stops : (Try.prog.stops == []) = true := by kernel_rfl
theorem stopKnobs : (Try.prog.stopKnobs == []) = true := by kernel_rfl
theorem heard : Try.prog.stopsHeard = true := by kernel_rfl
theorem may : Try.prog.mayEnter = true := by kernel_rfl
theorem lifted : (false == Try.prog.liftsFinal) = true := by kernel_rfl
theorem plain : (true == Try.prog.plainKeys) = true := by kernel_rfl
theorem made : (Try.prog.make == some .cut) = true := by kernel_rfl
theorem own : ownKnob Try.prog.godebug = none := by kernel_rfl
end Go.Proofs.Facts
end
