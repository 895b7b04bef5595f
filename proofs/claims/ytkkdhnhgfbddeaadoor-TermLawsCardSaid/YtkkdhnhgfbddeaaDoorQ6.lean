/- Q6: several of this proof's own texts, one behind the other: what each proves stands at its head. -/
import Derived.Test.YtkkdhnhgfbddeaaDoorQ5
import Derived.Test.YtkkdhnhgfbddeaaDoorProg
import Derived.KernelRfl
import Derived.Test.YtkkdhnhgfbddeaaDoorA4
import Derived.Sort.Walk0
import Derived.Lib.Bytealg
import Derived.Test.YtkkdhnhgfbddeaaDoorA3
import Derived.Lib.Split
import Derived.Lib.Join
section
/- What one of two sets has, and what a set has not: the walk over two sets. -/

set_option linter.unusedVariables false
set_option linter.unusedSimpArgs false
set_option maxRecDepth 100000
open Go Go.Ab Go.Proofs V S T C
open W (slS leNone cons_dec renS)
open Sp
namespace Tp
open Sg (ok ok_len meetS meet_spec meet_ok meet_has has_spec next_spec add_nil add_mem arS freezeS leS0 pa PA condQ)
open Tq (s108u s108o v108_3nu v108_3mu v108_3no v108_3mo v108_8n v108_8s c108_3 c108_8 q108_2 q108_0 s109 s111 s52 s56)
abbrev kF (f : Bool → Bool → Bool) (a b : List Span) (p : Int) : Bool := f (hasS a p) (hasS b p)
theorem k_next {f : Bool → Bool → Bool} {a b : List Span} (ha : ok a) (hb : ok b) {p : Int} (hp : p < 1000000000) {to : Int} (ht : to = if nextS b p < nextS a p then nextS b p else nextS a p) :
    p < to ∧ to ≤ 1000000000 ∧ ∀ q, p ≤ q → q < to → kF f a b q = kF f a b p := by
  have h1 := nextS_gt ha hp
  have h2 := nextS_gt hb hp
  refine ⟨by rw [ht]; split <;> omega, by rw [ht]; split <;> omega, fun q hq1 hq2 => ?_⟩
  have hqa : q < nextS a p := by rw [ht] at hq2; split at hq2 <;> omega
  have hqb : q < nextS b p := by rw [ht] at hq2; split at hq2 <;> omega
  simp only [kF]
  rw [nextS_same ha hq1 hqa, nextS_same hb hq1 hqb]
theorem k_ex {f : Bool → Bool → Bool} {a b : List Span} (ha : ok a) (hb : ok b) : ∀ (m : Nat) (p : Int) (o : List Span), (1000000000 - p).toNat ≤ m → 0 ≤ p → p ≤ 1000000000 → Kept (kF f a b) p o → ∃ o', Kept (kF f a b) 1000000000 o'
  | 0, p, o, hm, h0, h1, hk => by
    have : p = 1000000000 := by omega
    subst this; exact ⟨o, hk⟩
  | m + 1, p, o, hm, h0, h1, hk => by
    by_cases hp : p < 1000000000
    · obtain ⟨n1, n2, n3⟩ := k_next (f := f) ha hb hp rfl
      by_cases hf : kF f a b p = true
      · exact k_ex ha hb m _ _ (by omega) (by omega) n2 (kept_put hk h0 n1 n2 (fun q hq1 hq2 => by rw [n3 q hq1 hq2]; exact hf))
      · exact k_ex ha hb m _ _ (by omega) (by omega) n2 (kept_skip hk (by omega) (fun q hq1 hq2 => by rw [n3 q hq1 hq2]; simpa using hf))
    · have : p = 1000000000 := by omega
      subst this; exact ⟨o, hk⟩
open Classical in
noncomputable def keptS (f : Bool → Bool → Bool) (a b : List Span) : List Span := if h : ∃ o, Kept (kF f a b) 1000000000 o then choose h else []
theorem kept_eq {f : Bool → Bool → Bool} {a b o : List Span} (h : Kept (kF f a b) 1000000000 o) : keptS f a b = o := by
  have hex : ∃ o, Kept (kF f a b) 1000000000 o := ⟨o, h⟩
  rw [keptS, dif_pos hex]
  exact kept_one (Classical.choose_spec hex) h
theorem kept_kept {f : Bool → Bool → Bool} {a b : List Span} (ha : ok a) (hb : ok b) : Kept (kF f a b) 1000000000 (keptS f a b) := by
  obtain ⟨o, h⟩ := k_ex (f := f) ha hb 1000000000 0 [] (by omega) (by omega) (by omega) (kept_nil _)
  rw [kept_eq h]; exact h
theorem kept_ok {f : Bool → Bool → Bool} {a b : List Span} (ha : ok a) (hb : ok b) : ok (keptS f a b) := (kept_kept ha hb).1
abbrev orB (x y : Bool) : Bool := x || y
abbrev noB (x _ : Bool) : Bool := !x
noncomputable abbrev unionS (a b : List Span) : List Span := keptS orB a b
noncomputable abbrev notS (a : List Span) : List Span := keptS noB a []
theorem or_spec (x y : Bool) (H : List AObj) : ASpec Tryd.prog 111 [.bool x, .bool y] H (fun r H' => r = .bool (orB x y) ∧ H' = H) :=
  ASpec.pureH (r0 := .bool (x || y)) H (s111 x y _ (condB (fun h => by rw [h]; exact ⟨rfl, rfl⟩) fun h => by rw [h]; exact ⟨rfl, rfl⟩)) _ _ rfl rfl
theorem no_spec (x y : Bool) (H : List AObj) : ASpec Tryd.prog 109 [.bool x, .bool y] H (fun r H' => r = .bool (noB x y) ∧ H' = H) :=
  ASpec.pureH (r0 := .bool (!x)) H (s109 x y _ ⟨rfl, rfl⟩) _ _ rfl rfl

section
variable {a b : List Span} (ha : ok a) (hb : ok b)
include ha hb
theorem kept3mU : ∀ (m : Nat) (p : Int) (o : List Span), (1000000000 - p).toNat ≤ m → 0 ≤ p → p ≤ 1000000000 → Kept (kF orB a b) p o →
    AWP Tryd.prog 34 0 c108_3 [(0, slS a), (1, slS b), (2, .fn 111 []), (7, .msl 2 0 0 o.length), (8, .int .i64 p)] [arS o] (q108_2 0 (PA (slS (keptS orB a b)))) := by
  have done : ∀ (p : Int) (o : List Span), ¬ p < 1000000000 → p ≤ 1000000000 → Kept (kF orB a b) p o → AWP Tryd.prog 34 0 c108_8 [(7, .msl 2 0 0 o.length)] [arS o] (q108_0 0 (PA (slS (keptS orB a b)))) := by
    intro p o h1 h2 hk
    have : p = 1000000000 := by omega
    subst this
    refine AWP.re (freezeS (by omega)) (AWP.shape [] [(7, slS o)] [] Sel.none ⟨rfl, Le.refl _, trivial⟩ (v108_8s _ _ _ (pa ?_)))
    rw [kept_eq hk]; exact Le.refl _
  intro m
  induction m with
  | zero =>
    intro p o hm h0 h1 hk
    exact v108_3mu _ _ _ _ _ _ _ (condD (fun h => by omega) fun h => done p o h h1 hk)
  | succ m ih =>
    intro p o hm h0 h1 hk
    have hol := ok_len hk.1
    refine v108_3mu _ _ _ _ _ _ _ (condD (fun hp => ?_) fun h => done p o h h1 hk)
    obtain ⟨n1, n2, n3⟩ := k_next (f := orB) ha hb hp rfl
    refine ASpec.call (next_spec a p ha _) (Les.refl _) ⟨_, rfl, rfl, ?_⟩
    refine ASpec.call (next_spec b p hb _) (Les.refl _) ⟨_, rfl, rfl, ?_⟩
    refine ASpec.call (has_spec a p ha _) (Les.refl _) ⟨_, rfl, rfl, ?_⟩
    refine ASpec.call (has_spec b p hb _) (Les.refl _) ⟨_, rfl, rfl, ?_⟩
    refine ASpec.call (or_spec _ _ _) (Les.refl _) ⟨_, rfl, rfl, ?_⟩
    generalize (if nextS b p < nextS a p then nextS b p else nextS a p) = to at n1 n2 n3 ⊢
    refine condB (fun hf => ?_) fun hf => ?_
    · have hk' := kept_put hk h0 n1 n2 (fun q hq1 hq2 => by rw [n3 q hq1 hq2]; exact hf)
      have nxt := ih to (addS o (p, to)) (by omega) (by omega) n2 hk'
      refine (add_mem o (p, to) (by omega)).mono fun r H' hh => .inr ?_
      rcases hh with ⟨e1, e2, e3⟩ | ⟨e1, e2⟩
      · subst e1 e2
        refine .inl ⟨addS o (p, to), by rw [e3], rfl, ?_⟩
        rw [e3] at nxt; exact nxt
      · subst e1 e2
        refine .inr ⟨addS o (p, to), rfl, rfl, ?_⟩
        exact AWP.shape [1] [(0, slS a), (1, slS b), (2, .fn 111 []), (7, .msl 2 0 0 (addS o (p, to)).length), (8, .int .i64 to)] [arS (addS o (p, to))] (Sel.one 1 rfl rfl)
          ⟨rfl, Le.refl _, rfl, Le.refl _, rfl, Le.refl _, rfl, Le.refl _, rfl, Le.refl _, trivial⟩ nxt
    · exact ih to o (by omega) (by omega) n2 (kept_skip hk (by omega) (fun q hq1 hq2 => by rw [n3 q hq1 hq2]; exact hf))

theorem kept3nU : ∀ (m : Nat) (p : Int), (1000000000 - p).toNat ≤ m → 0 ≤ p → p ≤ 1000000000 → Kept (kF orB a b) p [] →
    AWP Tryd.prog 34 0 c108_3 [(0, slS a), (1, slS b), (2, .fn 111 []), (7, .sl 0 (.raw []) .nil), (8, .int .i64 p)] [] (q108_2 0 (PA (slS (keptS orB a b)))) := by
  have done : ∀ (p : Int), ¬ p < 1000000000 → p ≤ 1000000000 → Kept (kF orB a b) p [] → AWP Tryd.prog 34 0 c108_8 [(7, .sl 0 (.raw []) .nil)] [] (q108_0 0 (PA (slS (keptS orB a b)))) := by
    intro p h1 h2 hk
    have : p = 1000000000 := by omega
    subst this
    refine v108_8n _ _ (pa ?_)
    rw [kept_eq hk]; exact leS0
  intro m
  induction m with
  | zero =>
    intro p hm h0 h1 hk
    exact v108_3nu _ _ _ _ _ (condD (fun h => by omega) fun h => done p h h1 hk)
  | succ m ih =>
    intro p hm h0 h1 hk
    refine v108_3nu _ _ _ _ _ (condD (fun hp => ?_) fun h => done p h h1 hk)
    obtain ⟨n1, n2, n3⟩ := k_next (f := orB) ha hb hp rfl
    refine ASpec.call (next_spec a p ha _) (Les.refl _) ⟨_, rfl, rfl, ?_⟩
    refine ASpec.call (next_spec b p hb _) (Les.refl _) ⟨_, rfl, rfl, ?_⟩
    refine ASpec.call (has_spec a p ha _) (Les.refl _) ⟨_, rfl, rfl, ?_⟩
    refine ASpec.call (has_spec b p hb _) (Les.refl _) ⟨_, rfl, rfl, ?_⟩
    refine ASpec.call (or_spec _ _ _) (Les.refl _) ⟨_, rfl, rfl, ?_⟩
    generalize (if nextS b p < nextS a p then nextS b p else nextS a p) = to at n1 n2 n3 ⊢
    refine condB (fun hf => ?_) fun hf => ?_
    · have hk' := kept_put hk h0 n1 n2 (fun q hq1 hq2 => by rw [n3 q hq1 hq2]; exact hf)
      have nxt := kept3mU ha hb m to (addS [] (p, to)) (by omega) (by omega) n2 hk'
      exact ASpec.call (add_nil (p, to) []) (Les.refl _) (.inl ⟨(p, to), rfl, rfl, nxt⟩)
    · exact ih to (by omega) (by omega) n2 (kept_skip hk (by omega) (fun q hq1 hq2 => by rw [n3 q hq1 hq2]; exact hf))

theorem kept3mN : ∀ (m : Nat) (p : Int) (o : List Span), (1000000000 - p).toNat ≤ m → 0 ≤ p → p ≤ 1000000000 → Kept (kF noB a b) p o →
    AWP Tryd.prog 34 0 c108_3 [(0, slS a), (1, slS b), (2, .fn 109 []), (7, .msl 2 0 0 o.length), (8, .int .i64 p)] [arS o] (q108_2 0 (PA (slS (keptS noB a b)))) := by
  have done : ∀ (p : Int) (o : List Span), ¬ p < 1000000000 → p ≤ 1000000000 → Kept (kF noB a b) p o → AWP Tryd.prog 34 0 c108_8 [(7, .msl 2 0 0 o.length)] [arS o] (q108_0 0 (PA (slS (keptS noB a b)))) := by
    intro p o h1 h2 hk
    have : p = 1000000000 := by omega
    subst this
    refine AWP.re (freezeS (by omega)) (AWP.shape [] [(7, slS o)] [] Sel.none ⟨rfl, Le.refl _, trivial⟩ (v108_8s _ _ _ (pa ?_)))
    rw [kept_eq hk]; exact Le.refl _
  intro m
  induction m with
  | zero =>
    intro p o hm h0 h1 hk
    exact v108_3mo _ _ _ _ _ _ _ (condD (fun h => by omega) fun h => done p o h h1 hk)
  | succ m ih =>
    intro p o hm h0 h1 hk
    have hol := ok_len hk.1
    refine v108_3mo _ _ _ _ _ _ _ (condD (fun hp => ?_) fun h => done p o h h1 hk)
    obtain ⟨n1, n2, n3⟩ := k_next (f := noB) ha hb hp rfl
    refine ASpec.call (next_spec a p ha _) (Les.refl _) ⟨_, rfl, rfl, ?_⟩
    refine ASpec.call (next_spec b p hb _) (Les.refl _) ⟨_, rfl, rfl, ?_⟩
    refine ASpec.call (has_spec a p ha _) (Les.refl _) ⟨_, rfl, rfl, ?_⟩
    refine ASpec.call (has_spec b p hb _) (Les.refl _) ⟨_, rfl, rfl, ?_⟩
    refine ASpec.call (no_spec _ _ _) (Les.refl _) ⟨_, rfl, rfl, ?_⟩
    generalize (if nextS b p < nextS a p then nextS b p else nextS a p) = to at n1 n2 n3 ⊢
    refine condB (fun hf => ?_) fun hf => ?_
    · have hk' := kept_put hk h0 n1 n2 (fun q hq1 hq2 => by rw [n3 q hq1 hq2]; exact hf)
      have nxt := ih to (addS o (p, to)) (by omega) (by omega) n2 hk'
      refine (add_mem o (p, to) (by omega)).mono fun r H' hh => .inr ?_
      rcases hh with ⟨e1, e2, e3⟩ | ⟨e1, e2⟩
      · subst e1 e2
        refine .inl ⟨addS o (p, to), by rw [e3], rfl, ?_⟩
        rw [e3] at nxt; exact nxt
      · subst e1 e2
        refine .inr ⟨addS o (p, to), rfl, rfl, ?_⟩
        exact AWP.shape [1] [(0, slS a), (1, slS b), (2, .fn 109 []), (7, .msl 2 0 0 (addS o (p, to)).length), (8, .int .i64 to)] [arS (addS o (p, to))] (Sel.one 1 rfl rfl)
          ⟨rfl, Le.refl _, rfl, Le.refl _, rfl, Le.refl _, rfl, Le.refl _, rfl, Le.refl _, trivial⟩ nxt
    · exact ih to o (by omega) (by omega) n2 (kept_skip hk (by omega) (fun q hq1 hq2 => by rw [n3 q hq1 hq2]; exact hf))

theorem kept3nN : ∀ (m : Nat) (p : Int), (1000000000 - p).toNat ≤ m → 0 ≤ p → p ≤ 1000000000 → Kept (kF noB a b) p [] →
    AWP Tryd.prog 34 0 c108_3 [(0, slS a), (1, slS b), (2, .fn 109 []), (7, .sl 0 (.raw []) .nil), (8, .int .i64 p)] [] (q108_2 0 (PA (slS (keptS noB a b)))) := by
  have done : ∀ (p : Int), ¬ p < 1000000000 → p ≤ 1000000000 → Kept (kF noB a b) p [] → AWP Tryd.prog 34 0 c108_8 [(7, .sl 0 (.raw []) .nil)] [] (q108_0 0 (PA (slS (keptS noB a b)))) := by
    intro p h1 h2 hk
    have : p = 1000000000 := by omega
    subst this
    refine v108_8n _ _ (pa ?_)
    rw [kept_eq hk]; exact leS0
  intro m
  induction m with
  | zero =>
    intro p hm h0 h1 hk
    exact v108_3no _ _ _ _ _ (condD (fun h => by omega) fun h => done p h h1 hk)
  | succ m ih =>
    intro p hm h0 h1 hk
    refine v108_3no _ _ _ _ _ (condD (fun hp => ?_) fun h => done p h h1 hk)
    obtain ⟨n1, n2, n3⟩ := k_next (f := noB) ha hb hp rfl
    refine ASpec.call (next_spec a p ha _) (Les.refl _) ⟨_, rfl, rfl, ?_⟩
    refine ASpec.call (next_spec b p hb _) (Les.refl _) ⟨_, rfl, rfl, ?_⟩
    refine ASpec.call (has_spec a p ha _) (Les.refl _) ⟨_, rfl, rfl, ?_⟩
    refine ASpec.call (has_spec b p hb _) (Les.refl _) ⟨_, rfl, rfl, ?_⟩
    refine ASpec.call (no_spec _ _ _) (Les.refl _) ⟨_, rfl, rfl, ?_⟩
    generalize (if nextS b p < nextS a p then nextS b p else nextS a p) = to at n1 n2 n3 ⊢
    refine condB (fun hf => ?_) fun hf => ?_
    · have hk' := kept_put hk h0 n1 n2 (fun q hq1 hq2 => by rw [n3 q hq1 hq2]; exact hf)
      have nxt := kept3mN ha hb m to (addS [] (p, to)) (by omega) (by omega) n2 hk'
      exact ASpec.call (add_nil (p, to) []) (Les.refl _) (.inl ⟨(p, to), rfl, rfl, nxt⟩)
    · exact ih to (by omega) (by omega) n2 (kept_skip hk (by omega) (fun q hq1 hq2 => by rw [n3 q hq1 hq2]; exact hf))

theorem union_spec (H : List AObj) : ASpec Tryd.prog 56 [slS a, slS b] H (fun r H' => r = slS (unionS a b) ∧ H' = H) := by
  have k : ASpec Tryd.prog 56 [slS a, slS b] [] (fun r H' => r = slS (unionS a b) ∧ H' = []) := by
    have k2 : ASpec Tryd.prog 108 [slS a, slS b, .fn 111 []] [] (fun r H' => r = slS (unionS a b) ∧ H' = []) :=
      ASpec.sel (s108u _ _ _ (kept3nU ha hb 1000000000 0 (by omega) (by omega) (by omega) (kept_nil _)))
    exact s56 _ _ _ (ASpec.call k2 (Les.refl _) ⟨_, rfl, rfl, rfl, rfl⟩)
  exact ASpec.pureH H k _ _ rfl rfl
end
theorem okNil : ok [] := rfl
theorem leNilS : Le (.sl 0 (.raw []) .nil) (slS []) := Le.sl rfl (.inr ⟨rfl, fun _ h => by cases h⟩) (.inr rfl)
theorem not_spec {a : List Span} (ha : ok a) (H : List AObj) : ASpec Tryd.prog 52 [slS a] H (fun r H' => r = slS (notS a) ∧ H' = H) := by
  have k : ASpec Tryd.prog 52 [slS a] [] (fun r H' => r = slS (notS a) ∧ H' = []) := by
    have k2 : ASpec Tryd.prog 108 [slS a, slS [], .fn 109 []] [] (fun r H' => r = slS (notS a) ∧ H' = []) :=
      ASpec.sel (s108o _ _ _ (kept3nN ha okNil 1000000000 0 (by omega) (by omega) (by omega) (kept_nil _)))
    exact s52 _ _ (ASpec.call k2 ⟨Le.refl _, leNilS, Le.refl _, trivial⟩ ⟨_, rfl, rfl, rfl, rfl⟩)
  exact ASpec.pureH H k _ _ rfl rfl
theorem has_out {a : List Span} (ha : ok a) {p : Int} (h : ¬ (0 ≤ p ∧ p < 1000000000)) : hasS a p = false := by
  by_cases h0 : p ≤ -1
  · exact chkS_low ha h0
  · exact chkS_top ha (by omega)
theorem union_has {a b : List Span} (ha : ok a) (hb : ok b) (p : Int) : hasS (unionS a b) p = (hasS a p || hasS b p) := by
  rw [(kept_kept ha hb).2.2]
  by_cases hp : 0 ≤ p ∧ p < 1000000000
  · rw [decide_eq_true hp]; rfl
  · rw [decide_eq_false hp, Bool.false_and, has_out ha hp, has_out hb hp]; rfl
theorem not_has {a : List Span} (ha : ok a) (p : Int) : hasS (notS a) p = (decide (0 ≤ p ∧ p < 1000000000) && !hasS a p) := by
  rw [(kept_kept ha okNil).2.2]
end Tp
end

section
/- Terms: Not, Join, Meet, Full, Same, by the program and by the document. -/

set_option linter.unusedVariables false
set_option linter.unusedSimpArgs false
set_option linter.unusedSectionVars false
set_option maxRecDepth 100000
open Go Go.Ab Go.Proofs V S T C
open W (slS leNone cons_dec renS)
open Sp
namespace Tp
open Sg (ok ok_len meetS meet_spec meet_ok meet_has has_spec leS0 pa PA subS subS_iff suc64)
open Tm (okT agT meetT emptyT withinT nameEq chkT)
open Tq

noncomputable def notT (t : Term) : Term := (t.1, notS t.2.1, !t.2.2)
noncomputable def joinT (a b : Term) : Term := if a.1 = b.1 then (a.1, unionS a.2.1 b.2.1, a.2.2 || b.2.2) else noT
def fullB (t : Term) : Bool := t.2.2 && decide (t.2.1 = [(0, 1000000000)])
theorem ok_not {t : Term} (h : okT t) : okT (notT t) := kept_ok h okNil
theorem ok_join {a b : Term} (ha : okT a) (hb : okT b) : okT (joinT a b) := by
  unfold joinT
  split
  · exact kept_ok ha hb
  · exact Tm.ok_noT

/-! ### how many -/
def countS : List Span → Int
  | [] => 0
  | x :: r => (x.2 - x.1) + countS r
theorem count_pos : ∀ (l : List Span), (∀ s ∈ l, s.1 ≤ s.2) → 0 ≤ countS l
  | [], _ => by simp [countS]
  | x :: r, h => by
    have h1 := h x (by simp)
    have h2 := count_pos r fun s hs => h s (by simp [hs])
    simp only [countS]; omega
theorem count_le : ∀ {l : List Span} {e : Int}, chkS e l = true → e ≤ 1000000000 → countS l ≤ 1000000000 - e ∧ (l ≠ [] → countS l ≤ 1000000000 - e - 1)
  | [], e, _, he => ⟨by simp [countS]; omega, fun h => (h rfl).elim⟩
  | x :: r, e, h, he => by
    obtain ⟨h1, h2, h3, h4⟩ := chkS_cons h
    have := (count_le h4 h3).1
    simp only [countS]
    exact ⟨by omega, fun _ => by omega⟩
theorem count_full {l : List Span} (h : ok l) : (countS l == 1000000000) = decide (l = [(0, 1000000000)]) := by
  rw [Bool.eq_iff_iff, beq_iff_eq, decide_eq_true_eq]
  constructor
  · intro hc
    cases l with
    | nil => simp [countS] at hc
    | cons x r =>
      obtain ⟨h1, h2, h3, h4⟩ := chkS_cons h
      have h5 := count_le h4 h3
      simp only [countS] at hc
      have hr : r = [] := by
        by_cases hr : r = []
        · exact hr
        · have := h5.2 hr; omega
      subst hr
      simp only [countS] at hc
      obtain ⟨a, b⟩ := x
      simp only at h1 h2 h3 hc
      rw [show a = 0 by omega, show b = 1000000000 by omega]
  · rintro rfl; rfl
theorem count3 {l : List Span} (h : ok l) : ∀ (m i : Nat) (c : Int), m + i = l.length → 0 ≤ c → c + countS (l.drop i) = countS l →
    AWP Tryd.prog 21 0 c55_3 [(3, .int .i64 c), (6, slS l), (7, .int .i64 l.length), (8, .int .i64 i)] [] (q55_2 0 (PA (.int .i64 (countS l)))) := by
  have hL := ok_len h
  have hT := (count_le h (by omega)).1
  intro m
  induction m with
  | zero =>
    intro i c hm h0 hc
    refine v55_3 _ _ _ _ _ _ (condD (fun hc => by omega) fun _ => pa ?_)
    rw [List.drop_eq_nil_of_le (by omega)] at hc
    simp only [countS] at hc
    rw [show c = countS l by omega]; exact Le.refl _
  | succ m ih =>
    intro i c hm h0 hc
    refine v55_3 _ _ _ _ _ _ (condD (fun _ => needJ ⟨by omega, by omega⟩ ?_) fun hc => by omega)
    obtain ⟨r1, r2, r3, _⟩ := chkS_rise h i (by omega)
    rw [dropD l (0, 0) i (by omega)] at hc
    rw [Int.toNat_natCast, suc64 (by omega)]
    generalize l.getD i (0, 0) = x at hc r1 r2 r3 ⊢
    simp only [countS] at hc
    have hp : 0 ≤ countS (l.drop (i + 1)) := count_pos _ fun s hs => by
      obtain ⟨j, hj, e⟩ := List.getElem_of_mem (List.mem_of_mem_drop hs)
      have := (chkS_rise h j hj).2.1
      rw [List.getD_eq_getElem?_getD, List.getElem?_eq_getElem hj, Option.getD_some, e] at this
      omega
    have e : IntKind.wrap .i64 (c + IntKind.wrap .i64 (x.2 - x.1)) = c + (x.2 - x.1) := by
      rw [wrap64 (x := x.2 - x.1) (by omega) (by omega), wrap64 (by omega) (by omega)]
    rw [e]
    exact AWP.shape [] [(3, .int .i64 (c + (x.2 - x.1))), (6, slS l), (7, .int .i64 l.length), (8, .int .i64 (i + 1 : Nat))] [] Sel.none ⟨rfl, Le.refl _, rfl, leNone renS, rfl, Le.refl _, rfl, Le.refl _, trivial⟩ (ih (i + 1) _ (by omega) (by omega) (by omega))
theorem count_spec {l : List Span} (h : ok l) (H : List AObj) : ASpec Tryd.prog 55 [slS l] H (fun r H' => r = .int .i64 (countS l) ∧ H' = H) := by
  have k : ASpec Tryd.prog 55 [slS l] [] (fun r H' => r = .int .i64 (countS l) ∧ H' = []) :=
    ASpec.sel (s55 _ _ (count3 h l.length 0 0 (by omega) (by omega) (by simp)))
  exact ASpec.pureH H k _ _ rfl rfl

/-! ### alike -/
theorem eqS4 {a b : List Span} {c : Bool} (hl : a.length ≤ 2000000000) (he : a.length = b.length) : ∀ (m i : Nat), m + i = a.length → decide (a.drop i = b.drop i) = c →
    AWP Tryd.prog 26 0 c112_4 [(0, slS a), (1, slS b), (12, .int .i64 a.length), (13, .int .i64 i)] [] (q112_2 0 (PA (.bool c))) := by
  intro m
  induction m with
  | zero =>
    intro i hm h
    refine v112_4 _ _ _ _ _ _ (condD (fun hc => by omega) fun _ => pa ?_)
    rw [List.drop_eq_nil_of_le (by omega), List.drop_eq_nil_of_le (by omega)] at h
    rw [← h]; simp; exact Le.refl _
  | succ m ih =>
    intro i hm h
    rw [dropD a (0, 0) i (by omega), dropD b (0, 0) i (by omega), cons_dec] at h
    refine v112_4 _ _ _ _ _ _ (condD (fun hc => needJ ⟨by omega, by omega⟩ (needJ ⟨by omega, by omega⟩ ?_)) fun hc => by omega)
    rw [Int.toNat_natCast]
    generalize a.getD i (0, 0) = x at h ⊢
    generalize b.getD i (0, 0) = y at h ⊢
    have e : (x.1 == y.1 && (x.2 == y.2 && true)) = decide (x = y) := by
      obtain ⟨x1, x2⟩ := x
      obtain ⟨y1, y2⟩ := y
      rw [Bool.eq_iff_iff]; simp
    rw [e]
    refine condBn (fun h1 => pa ?_) fun h1 => ?_
    · rw [h1, Bool.false_and] at h; rw [← h]; exact Le.refl _
    · rw [h1, Bool.true_and] at h
      rw [suc64 (by omega)]
      exact ih (i + 1) (by omega) h
theorem eqS_spec (a b : List Span) (hl : a.length ≤ 2000000000) (H : List AObj) : ASpec Tryd.prog 112 [slS a, slS b] H (fun r H' => r = .bool (decide (a = b)) ∧ H' = H) := by
  have k : ASpec Tryd.prog 112 [slS a, slS b] [] (fun r H' => r = .bool (decide (a = b)) ∧ H' = []) := by
    refine ASpec.sel (s112 _ _ _ (condNe (fun h => pa ?_) fun h => eqS4 hl (by omega) a.length 0 (by omega) rfl))
    rw [decide_eq_false (by rintro rfl; exact h rfl)]; exact Le.refl _
  exact ASpec.pureH H k _ _ rfl rfl
theorem sameS_spec (a b : List Span) (hl : a.length ≤ 2000000000) (H : List AObj) : ASpec Tryd.prog 57 [slS a, slS b] H (fun r H' => r = .bool (decide (a = b)) ∧ H' = H) := by
  have k : ASpec Tryd.prog 57 [slS a, slS b] [] (fun r H' => r = .bool (decide (a = b)) ∧ H' = []) :=
    s57 _ _ _ (ASpec.call (eqS_spec a b hl _) (Les.refl _) ⟨_, rfl, rfl, rfl, rfl⟩)
  exact ASpec.pureH H k _ _ rfl rfl
theorem sameT_spec (a b : Term) (ha : a.2.1.length ≤ 2000000000) (H : List AObj) : ASpec Tryd.prog 16 [agT a, agT b] H (fun r H' => r = .bool (decide (a = b)) ∧ H' = H) := by
  have k : ASpec Tryd.prog 16 [agT a, agT b] [] (fun r H' => r = .bool (decide (a = b)) ∧ H' = []) := by
    refine ASpec.sel (s16 _ _ _ (condB (fun h => Sg.condQ (fun h1 => ?_) fun h1 => pa ?_) fun h => pa ?_))
    · rw [nameEq] at h
      refine ASpec.call (sameS_spec _ _ ha _) (Les.refl _) ⟨_, rfl, rfl, pa ?_⟩
      have e : decide (a.2.1 = b.2.1) = decide (a = b) := by
        obtain ⟨a1, a2, a3⟩ := a
        obtain ⟨b1, b2, b3⟩ := b
        have h := of_decide_eq_true h
        simp only at h h1 ⊢
        subst h h1
        rw [decide_eq_decide]; simp
      rw [e]; exact Le.refl _
    · rw [decide_eq_false (by rintro rfl; exact h1 rfl)]; exact Le.refl _
    · rw [nameEq] at h
      rw [decide_eq_false (by rintro rfl; exact (of_decide_eq_false h) rfl)]; exact Le.refl _
  exact ASpec.pureH H k _ _ rfl rfl

/-! ### what terms come to, the program's -/
theorem notT_spec {a : Term} (ha : okT a) (H : List AObj) : ASpec Tryd.prog 11 [agT a] H (fun r H' => r = agT (notT a) ∧ H' = H) := by
  have k : ASpec Tryd.prog 11 [agT a] [] (fun r H' => r = agT (notT a) ∧ H' = []) := by
    refine ASpec.sel (s11 _ _ (ASpec.call (not_spec ha _) (Les.refl _) ⟨_, rfl, rfl, ?_⟩))
    repeat refine ⟨⟨rfl, rfl⟩, ?_⟩
    exact pa (Le.refl _)
  exact ASpec.pureH H k _ _ rfl rfl
theorem bothM_spec (a b : Term) (c : Bool) (ha : okT a) (hb : okT b) (H : List AObj) :
    ASpec Tryd.prog 53 [agT a, agT b, .fn (54 : FuncId) [], .bool c] H (fun r H' => r = agT (if a.1 = b.1 then (a.1, meetS a.2.1 b.2.1, c) else noT) ∧ H' = H) := by
  have k : ASpec Tryd.prog 53 [agT a, agT b, .fn (54 : FuncId) [], .bool c] [] (fun r H' => r = agT (if a.1 = b.1 then (a.1, meetS a.2.1 b.2.1, c) else noT) ∧ H' = []) := by
    refine ASpec.sel (s53m _ _ _ _ (condBn (fun h => ?_) fun h => ?_))
    · rw [nameEq] at h
      rw [if_neg (of_decide_eq_false h)]
      exact pa (Le.agg ⟨Le.refl _, leS0, Le.refl _, trivial⟩)
    · rw [nameEq] at h
      rw [if_pos (of_decide_eq_true h)]
      refine ASpec.call (meet_spec ha hb _) (Les.refl _) ⟨_, rfl, rfl, ?_⟩
      repeat refine ⟨⟨rfl, rfl⟩, ?_⟩
      exact pa (Le.refl _)
  exact ASpec.pureH H k _ _ rfl rfl
theorem bothJ_spec (a b : Term) (c : Bool) (ha : okT a) (hb : okT b) (H : List AObj) :
    ASpec Tryd.prog 53 [agT a, agT b, .fn (56 : FuncId) [], .bool c] H (fun r H' => r = agT (if a.1 = b.1 then (a.1, unionS a.2.1 b.2.1, c) else noT) ∧ H' = H) := by
  have k : ASpec Tryd.prog 53 [agT a, agT b, .fn (56 : FuncId) [], .bool c] [] (fun r H' => r = agT (if a.1 = b.1 then (a.1, unionS a.2.1 b.2.1, c) else noT) ∧ H' = []) := by
    refine ASpec.sel (s53j _ _ _ _ (condBn (fun h => ?_) fun h => ?_))
    · rw [nameEq] at h
      rw [if_neg (of_decide_eq_false h)]
      exact pa (Le.agg ⟨Le.refl _, leS0, Le.refl _, trivial⟩)
    · rw [nameEq] at h
      rw [if_pos (of_decide_eq_true h)]
      refine ASpec.call (union_spec ha hb _) (Les.refl _) ⟨_, rfl, rfl, ?_⟩
      repeat refine ⟨⟨rfl, rfl⟩, ?_⟩
      exact pa (Le.refl _)
  exact ASpec.pureH H k _ _ rfl rfl
theorem meetT_spec (a b : Term) (ha : okT a) (hb : okT b) (H : List AObj) : ASpec Tryd.prog 13 [agT a, agT b] H (fun r H' => r = agT (meetT a b) ∧ H' = H) := by
  have k : ASpec Tryd.prog 13 [agT a, agT b] [] (fun r H' => r = agT (meetT a b) ∧ H' = []) := by
    refine ASpec.sel (s13 _ _ _ (condB (fun h => ?_) fun h => ?_))
    · refine ASpec.call (bothM_spec a b b.2.2 ha hb _) (Les.refl _) ⟨_, rfl, rfl, pa ?_⟩
      rw [meetT, h, Bool.true_and]; exact Le.refl _
    · refine ASpec.call (bothM_spec a b false ha hb _) (Les.refl _) ⟨_, rfl, rfl, pa ?_⟩
      rw [meetT, h, Bool.false_and]; exact Le.refl _
  exact ASpec.pureH H k _ _ rfl rfl
theorem joinT_spec (a b : Term) (ha : okT a) (hb : okT b) (H : List AObj) : ASpec Tryd.prog 15 [agT a, agT b] H (fun r H' => r = agT (joinT a b) ∧ H' = H) := by
  have k : ASpec Tryd.prog 15 [agT a, agT b] [] (fun r H' => r = agT (joinT a b) ∧ H' = []) := by
    refine ASpec.sel (s15 _ _ _ (condB (fun h => ?_) fun h => ?_))
    · refine ASpec.call (bothJ_spec a b true ha hb _) (Les.refl _) ⟨_, rfl, rfl, pa ?_⟩
      rw [joinT, h, Bool.true_or]; exact Le.refl _
    · refine ASpec.call (bothJ_spec a b b.2.2 ha hb _) (Les.refl _) ⟨_, rfl, rfl, pa ?_⟩
      rw [joinT, h, Bool.false_or]; exact Le.refl _
  exact ASpec.pureH H k _ _ rfl rfl
theorem fullT_spec {a : Term} (ha : okT a) (H : List AObj) : ASpec Tryd.prog 14 [agT a] H (fun r H' => r = .bool (fullB a) ∧ H' = H) := by
  have k : ASpec Tryd.prog 14 [agT a] [] (fun r H' => r = .bool (fullB a) ∧ H' = []) := by
    refine ASpec.sel (s14 _ _ (condB (fun h => ?_) fun h => pa ?_))
    · refine ASpec.call (count_spec ha _) (Les.refl _) ⟨_, rfl, rfl, pa ?_⟩
      rw [fullB, h, Bool.true_and, count_full ha]; exact Le.refl _
    · rw [fullB, h, Bool.false_and]; exact Le.refl _
  exact ASpec.pureH H k _ _ rfl rfl

/-! ### the document's -/
end Tp
end

section
/- Steps of a proof as cells. -/

open Go Go.Ab Go.Proofs
namespace T
/-- kind, name, version, the other name, two numbers -/
abbrev St := Int × List UInt8 × Int × List UInt8 × Int × Int
end T
end

section
/- A trail as an object; what is done to it. -/

open Go Go.Ab Go.Proofs V
namespace T
end T
end

section
/- Picks as cells. -/

open Go Go.Ab Go.Proofs
namespace T
/-- a name and a version -/
abbrev Pk := List UInt8 × Int
end T
end

section
/- Answers as cells. -/

open Go Go.Ab Go.Proofs
namespace T
end T
end

section
/- Printed: what the code of functions 40, 41, 42, 43, 44, 45, 87, 85, 88, 89, 134, 38, 39, 6, 82, 83, 46 asks for, by the framework's own reading of it; each line is checked against the code. -/

set_option linter.unusedVariables false
set_option maxRecDepth 100000
set_option maxHeartbeats 4000000
open Go Go.Ab Go.Proofs
namespace An
noncomputable section

end
end An
end

section
/- Printed: what the code of functions 129, 128, 76, 126 asks for, by the framework's own reading of it; each line is checked against the code. -/

set_option linter.unusedVariables false
set_option maxRecDepth 100000
set_option maxHeartbeats 4000000
open Go Go.Ab Go.Proofs
namespace In
noncomputable section

end
end In
end

section
/- Printed: what the code of functions 126, 129, 76 asks for, by the framework's own reading of it; each line is checked against the code. -/

set_option linter.unusedVariables false
set_option maxRecDepth 100000
set_option maxHeartbeats 4000000
open Go Go.Ab Go.Proofs
namespace Inn
noncomputable section

end
end Inn
end

section
/- Printed: what the code of functions 30, 130, 79, 31, 82, 124, 127, 148, 125, 75, 37, 85 asks for, by the framework's own reading of it; each line is checked against the code. -/

set_option linter.unusedVariables false
set_option maxRecDepth 100000
set_option maxHeartbeats 4000000
open Go Go.Ab Go.Proofs
namespace Dk
noncomputable section

end
end Dk
end

section
/- Events as cells. -/

open Go Go.Ab Go.Proofs
namespace T
/-- kind, needs, ticks, ticket, body -/
abbrev Ev := Int × List Need × Int × Int × List UInt8
end T
end

section
/- Printed: what the code of functions 57, 112 asks for, by the framework's own reading of it; each line is checked against the code. -/

set_option linter.unusedVariables false
set_option maxRecDepth 100000
set_option maxHeartbeats 4000000
open Go Go.Ab Go.Proofs
namespace E
noncomputable section

end
end E
end

section
/- Printed: what the code of functions  asks for, by the framework's own reading of it; each line is checked against the code. -/

set_option linter.unusedVariables false
set_option maxRecDepth 100000
set_option maxHeartbeats 4000000
open Go Go.Ab Go.Proofs
namespace EB
noncomputable section

end
end EB
end

section
/- Events: which may be, and which are alike. -/

set_option linter.unusedVariables false
set_option linter.unusedSimpArgs false
set_option maxRecDepth 100000
open Go Go.Ab Go.Proofs V S T C
open W (slS cons_dec)
namespace E

/-! ### alike -/

/-! ### which may be -/

/-- of a kind, the needs' number, the ticks, the ticket, the body's length -/
def evP (k : Int) (A : Nat) (t n : Int) (B : Nat) : Prop := (0 ≤ t ∧ t ≤ 1099511627776) ∧ (k ≠ 1 → A = 0 ∧ t = 0) ∧ ((k = 3 ∨ k = 4) → 1 ≤ n ∧ n ≤ 1099511627776 ∧ B ≤ 9000 ∧ (k = 3 ∨ B = 0)) ∧ (¬ (k = 3 ∨ k = 4) → n = 0 ∧ B = 0 ∧ (k = 1 ∨ k = 2))
instance (k : Int) (A : Nat) (t n : Int) (B : Nat) : Decidable (evP k A t n B) := by unfold evP; infer_instance
section
variable {e : Ev}
end

/-! ### are they large? -/

/-! ### the example -/

end E
end

section
/- What was put of a manifest is read; what is read is put so. -/

set_option linter.unusedVariables false
set_option linter.unusedSimpArgs false
set_option maxRecDepth 100000
open Go Go.Ab Go.Proofs V S T C
namespace W

/-! ### what was put is read -/

/-! ### what is read is put so -/

/-! ### the law -/

section
variable {Post : AV → List AObj → Prop}

end
end W
end

section
/- Events out of bytes: what the code reads. -/

set_option linter.unusedVariables false
set_option linter.unusedSimpArgs false
set_option maxRecDepth 100000
open Go Go.Ab Go.Proofs V S T C
open W (slS cons_dec leNone renS)
namespace E

/-! ### the model -/

/-! ### needs -/

section
variable {bs : List UInt8} {p : Nat} {e : Int} {Post : AV → List AObj → Prop}

/-! ### one event -/

end
end E
end

section
/- Events as bytes and back: plain laws. -/

set_option linter.unusedVariables false
set_option linter.unusedSimpArgs false
set_option maxRecDepth 100000
open Go Go.Ab Go.Proofs V S T C
open W (text)
namespace E

end E
end

section
/- Events out of bytes: the document's reader. -/

set_option linter.unusedVariables false
set_option linter.unusedSimpArgs false
set_option maxRecDepth 100000
open Go Go.Ab Go.Proofs V S T C
open W (slS leNone)
namespace E

/-! ### the document's model -/

/-! ### the walk -/

section
variable {Post : AV → List AObj → Prop}

end
end E
end

section
/- EventBytes: the bytes of any events, and the events of any bytes, or what is wrong first, are the document's: the law's function returns true. -/

set_option linter.unusedVariables false
set_option linter.unusedSimpArgs false
set_option maxRecDepth 100000
open Go Go.Ab Go.Proofs V S T C
open W (slS text cons_dec leNone)
namespace E

section
variable {Post : AV → List AObj → Prop}

/-! ### what is put -/

/-! ### what is read -/

end
end E
end

section
/- The library of earlier texts: events and manifests out of bytes. -/
end

section
/- A pick put among picks: what the library's Insert computes. -/

set_option linter.unusedVariables false
set_option linter.unusedSimpArgs false
set_option maxRecDepth 100000
open Go Go.Ab Go.Proofs V S T C
open In
namespace Pc

section
variable {s : List Pk} {p : Pk} {i : Nat} (hi : i ≤ s.length) (hl : s.length ≤ 1000000)
include hi hl

end

end Pc
end

section
/- Where a pick stands, or would stand: what the code computes. -/

set_option linter.unusedVariables false
set_option linter.unusedSimpArgs false
set_option maxRecDepth 100000
open Go Go.Ab Go.Proofs V S T C
open In
open Go.Proofs
namespace Pc

end Pc
end

section
/- pick.Put: what the code computes, of some picks. -/

set_option linter.unusedVariables false
set_option linter.unusedSimpArgs false
set_option maxRecDepth 100000
open Go Go.Ab Go.Proofs V S T C
open In
namespace Pc

end Pc
end

section
/- pick.Put: what the code computes, of any picks. -/

set_option linter.unusedVariables false
set_option linter.unusedSimpArgs false
set_option maxRecDepth 100000
open Go Go.Ab Go.Proofs V S T C
namespace Pc

end Pc
end

section
/- The order of names, and looking for one by halves: plain laws. -/

set_option linter.unusedVariables false
set_option linter.unusedSimpArgs false
open Go Go.Ab Go.Proofs V S T C
namespace Dp

/-! ### entries that may be -/

end Dp
end

section
/- Picks that rise: the place of a name, what is put, got, dropped: plain laws. -/

set_option linter.unusedVariables false
set_option linter.unusedSimpArgs false
open Go Go.Ab Go.Proofs V S T C
namespace Pc
end Pc
end

section
/- Picks: what the program's and the document's functions compute. -/

set_option linter.unusedVariables false
set_option linter.unusedSimpArgs false
set_option maxRecDepth 100000
open Go Go.Ab Go.Proofs V S T C
namespace Dk
abbrev Nm := List UInt8
/-! ### Drop -/
/-! ### Put -/
/-! ### are picks alike? -/
/-! ### Large -/
/-! ### Check -/
noncomputable def fitP (p : Pk) : Bool := fitM p.1 && decide (0 ≤ p.2 ∧ p.2 < 1000000000)
noncomputable def chkF : Option Nm → List Pk → Bool
  | _, [] => true
  | o, p :: r => if fitP p = false then false else match o with
    | none => chkF (some p.1) r
    | some q => if (Op.bytesLess p.1 q || p.1 == q) = true then false else chkF (some p.1) r
section
variable {s : List Pk} (hl : s.length ≤ 100000) (hn : ∀ p ∈ s, p.1.length ≤ 10 * big)
include hl hn
end
section
variable {s : List Pk} (hl : s.length ≤ 100000)
include hl
end
/-! ### Same -/
/-! ### Get -/
end Dk
end

section
/- Picks: one is taken out, by the program. -/

set_option linter.unusedVariables false
set_option linter.unusedSimpArgs false
set_option maxRecDepth 100000
open Go Go.Ab Go.Proofs V S T C
namespace Dk
/-! ### where -/
/-! ### what stays -/
end Dk
end

section
/- Printed: what the code of functions 156, 155, 146, 121 asks for, by the framework's own reading of it; each line is checked against the code. -/

set_option linter.unusedVariables false
set_option maxRecDepth 100000
set_option maxHeartbeats 4000000
open Go Go.Ab Go.Proofs
namespace D
noncomputable section

noncomputable def retL : List (Nat × Ret) := [
  (146, ⟨(Int × Int × Int) × Bool, fun _ _ x => .tup [.agg [.int .i64 x.1.1, .int .i64 x.1.2.1, .int .i64 x.1.2.2], .bool x.2], fun _ H _ => H⟩),
  (121, ⟨ByteArray, fun _ _ x => .str x, fun _ H _ => H⟩),
  (156, ⟨Unit, fun _ _ x => .agg [.int .i64 1000000, .int .i64 1000, .int .i64 1], fun _ H _ => H⟩),
  (155, ⟨Bool, fun _ _ x => .bool x, fun _ H _ => H⟩),
  (9070, ⟨Int × Bool, fun _ _ x => .tup [.int .i64 x.1, .bool x.2], fun _ H _ => H⟩),
  (9053, ⟨Int × Bool, fun _ _ x => .tup [.int .i64 x.1, .bool x.2], fun _ H _ => H⟩),
  (86, ⟨ByteArray, fun _ _ x => .str x, fun _ H _ => H⟩)]
noncomputable def rets : FuncId → List Ret := lookupR retL

-- 156
noncomputable def l156 : Nat → List Nat
  | _ => []
noncomputable def u156 : Nat → Bool
  | _ => false
noncomputable def m156 : Nat → Bool
  | _ => false
noncomputable def g156 : Cfg := { N := 2, live := l156, cut := u156, mu := m156, ret := rets }
theorem s156 : ∀ (Post : AV → List AObj → Prop),
  Post (AV.agg [AV.int IntKind.i64 (1000000 : Int), AV.int IntKind.i64 (1000 : Int), AV.int IntKind.i64 (1 : Int)])
      [AObj.cells [AV.int IntKind.i64 (1000000 : Int), AV.int IntKind.i64 (1000 : Int), AV.int IntKind.i64 (1 : Int)]] →
    ASpec Tryd.prog 156 [] [] Post := fun Post h => Go.Ab.ASpec.of_vc g156 Go.Proofs.Tryd.func156 (by kernel_rfl) (by kernel_rfl) (by kernel_rfl) (Go.Ab.kc (by kernel_rfl) h)

-- 155
noncomputable def l155 : Nat → List Nat
  | _ => []
noncomputable def u155 : Nat → Bool
  | _ => false
noncomputable def m155 : Nat → Bool
  | _ => false
noncomputable def g155 : Cfg := { N := 9, live := l155, cut := u155, mu := m155, ret := rets }
theorem s155 : ∀ (p : Int) (Post : AV → List AObj → Prop),
  condP (decide (p ≥ (0 : Int))) (Post (AV.bool (decide (p < (1000000000 : Int)))) []) (Post (AV.bool false) []) → ASpec Tryd.prog 155 [AV.int IntKind.i64 p] [] Post := fun p Post h => Go.Ab.ASpec.of_vc g155 Go.Proofs.Tryd.func155 (by kernel_rfl) (by kernel_rfl) (by kernel_rfl) (Go.Ab.kc (by kernel_rfl) h)

-- 146
noncomputable def l146 : Nat → List Nat
  | 5 => [0, 2, 4, 12, 13]
  | _ => []
noncomputable def u146 : Nat → Bool
  | _ => false
noncomputable def m146 : Nat → Bool
  | _ => false
noncomputable def g146 : Cfg := { N := 25, live := l146, cut := u146, mu := m146, ret := rets }
noncomputable def c146 : Go.Code := Go.Ab.bodyOf Go.Proofs.Tryd.f146
noncomputable def q146_0 : Nat → (AV → List AObj → Prop) → AQ := fun (n : Nat) (Post : AV → List AObj → Prop) => endQ Tryd.prog (resultsOf Tryd.f146) Post
noncomputable def q146_1 : Nat → (AV → List AObj → Prop) → AQ := fun (n : Nat) (Post : AV → List AObj → Prop) => seqQ (fun (s' : Slots) (H' : List AObj) => awp Tryd.prog g146 n (codeSnd (codeSnd (codeSnd (codeSnd c146)))) s' H' (q146_0 n Post)) (q146_0 n Post)
noncomputable def q146_2 : Nat → (AV → List AObj → Prop) → AQ := fun (n : Nat) (Post : AV → List AObj → Prop) => blockQ 0 (q146_1 n Post)
noncomputable def c146_5 : Go.Code := codeFst (codeSnd (codeFst (codeSnd (codeSnd (codeSnd c146)))))
theorem s146 : ∀ (p : Int) (Post : AV → List AObj → Prop),
  (ASpec Tryd.prog 155 [AV.int IntKind.i64 p]
      [AObj.cells [AV.int IntKind.i64 (0 : Int), AV.int IntKind.i64 (0 : Int), AV.int IntKind.i64 (0 : Int)],
        AObj.cells [AV.int IntKind.i64 (0 : Int), AV.int IntKind.i64 (0 : Int), AV.int IntKind.i64 (0 : Int)]]
      fun (r : AV) (H' : List AObj) =>
      ∃ (x : Bool),
        r = AV.bool x ∧
         H' =
         [AObj.cells [AV.int IntKind.i64 (0 : Int), AV.int IntKind.i64 (0 : Int), AV.int IntKind.i64 (0 : Int)],
         AObj.cells [AV.int IntKind.i64 (0 : Int), AV.int IntKind.i64 (0 : Int), AV.int IntKind.i64 (0 : Int)]] ∧
         condP (!x)
         (Post (AV.tup [AV.agg [AV.int IntKind.i64 (0 : Int), AV.int IntKind.i64 (0 : Int), AV.int IntKind.i64 (0 : Int)], AV.bool false])
         [AObj.cells [AV.int IntKind.i64 (0 : Int), AV.int IntKind.i64 (0 : Int), AV.int IntKind.i64 (0 : Int)],
         AObj.cells [AV.int IntKind.i64 (0 : Int), AV.int IntKind.i64 (0 : Int), AV.int IntKind.i64 (0 : Int)]])
         (ASpec Tryd.prog 156 []
         [AObj.cells [AV.int IntKind.i64 (0 : Int), AV.int IntKind.i64 (0 : Int), AV.int IntKind.i64 (0 : Int)],
         AObj.cells [AV.int IntKind.i64 (0 : Int), AV.int IntKind.i64 (0 : Int), AV.int IntKind.i64 (0 : Int)]]
         fun (r : AV) (H' : List AObj) =>
         ∃ (x : Unit),
         r = AV.agg [AV.int IntKind.i64 (1000000 : Int), AV.int IntKind.i64 (1000 : Int), AV.int IntKind.i64 (1 : Int)] ∧
         H' =
         [AObj.cells [AV.int IntKind.i64 (0 : Int), AV.int IntKind.i64 (0 : Int), AV.int IntKind.i64 (0 : Int)],
         AObj.cells [AV.int IntKind.i64 (0 : Int), AV.int IntKind.i64 (0 : Int), AV.int IntKind.i64 (0 : Int)]] ∧
         AWP Tryd.prog 25 0 c146_5
         [(0, AV.int IntKind.i64 p), (2, AV.ptr 0 0), (4, AV.ptr 1 0),
         (12, AV.agg [AV.int IntKind.i64 (1000000 : Int), AV.int IntKind.i64 (1000 : Int), AV.int IntKind.i64 (1 : Int)]), (13, AV.int IntKind.i64 (0 : Int))]
         [AObj.cells [AV.int IntKind.i64 (0 : Int), AV.int IntKind.i64 (0 : Int), AV.int IntKind.i64 (0 : Int)],
         AObj.cells [AV.int IntKind.i64 (0 : Int), AV.int IntKind.i64 (0 : Int), AV.int IntKind.i64 (0 : Int)]]
         (q146_2 0 Post))) →
    ASpec Tryd.prog 146 [AV.int IntKind.i64 p] [] Post := fun p Post h => Go.Ab.ASpec.of_vc g146 Go.Proofs.Tryd.func146 (by kernel_rfl) (by kernel_rfl) (by kernel_rfl) (Go.Ab.kc (by kernel_rfl) h)
theorem v146_5a : ∀ (p x y z : Int) (n : Nat) (Post : AV → List AObj → Prop),
  needP ((0 : Int) ≤ (0 : Int) ∧ (0 : Int) < (3 : Int))
      (needP ((1000000 : Int) ≠ (0 : Int))
        (needP ((1000 : Int) ≠ (0 : Int))
         (needP ((0 : Int) ≤ (0 : Int) ∧ (0 : Int) < (3 : Int))
         (AWP Tryd.prog 25 n c146_5
         [(0, AV.int IntKind.i64 p), (2, AV.ptr 0 0), (4, AV.ptr 1 0),
         (12, AV.agg [AV.int IntKind.i64 (1000000 : Int), AV.int IntKind.i64 (1000 : Int), AV.int IntKind.i64 (1 : Int)]), (13, AV.int IntKind.i64 (1 : Int))]
         [AObj.cells [AV.int IntKind.i64 (0 : Int), AV.int IntKind.i64 (0 : Int), AV.int IntKind.i64 (0 : Int)],
         AObj.cells [AV.int IntKind.i64 (Int.tmod (IntKind.wrap IntKind.i64 (Int.tdiv p (1000000 : Int))) (1000 : Int)), AV.int IntKind.i64 y, AV.int IntKind.i64 z]]
         (q146_2 n Post))))) →
    AWP Tryd.prog 25 n c146_5
      [(0, AV.int IntKind.i64 p), (2, AV.ptr 0 0), (4, AV.ptr 1 0),
        (12, AV.agg [AV.int IntKind.i64 (1000000 : Int), AV.int IntKind.i64 (1000 : Int), AV.int IntKind.i64 (1 : Int)]), (13, AV.int IntKind.i64 (0 : Int))]
      [AObj.cells [AV.int IntKind.i64 (0 : Int), AV.int IntKind.i64 (0 : Int), AV.int IntKind.i64 (0 : Int)], AObj.cells [AV.int IntKind.i64 x, AV.int IntKind.i64 y, AV.int IntKind.i64 z]]
      (q146_2 n Post) := fun p x y z n Post h => Go.Ab.AWP.loop' g146 (Cfg.live g146) c146_5 (by kernel_rfl) (by kernel_rfl) (Go.Ab.kc (by kernel_rfl) h)
theorem v146_5b : ∀ (p x y z : Int) (n : Nat) (Post : AV → List AObj → Prop),
  needP ((0 : Int) ≤ (1 : Int) ∧ (1 : Int) < (3 : Int))
      (needP ((1000 : Int) ≠ (0 : Int))
        (needP ((1000 : Int) ≠ (0 : Int))
         (needP ((0 : Int) ≤ (1 : Int) ∧ (1 : Int) < (3 : Int))
         (AWP Tryd.prog 25 n c146_5
         [(0, AV.int IntKind.i64 p), (2, AV.ptr 0 0), (4, AV.ptr 1 0),
         (12, AV.agg [AV.int IntKind.i64 (1000000 : Int), AV.int IntKind.i64 (1000 : Int), AV.int IntKind.i64 (1 : Int)]), (13, AV.int IntKind.i64 (2 : Int))]
         [AObj.cells [AV.int IntKind.i64 (0 : Int), AV.int IntKind.i64 (0 : Int), AV.int IntKind.i64 (0 : Int)],
         AObj.cells [AV.int IntKind.i64 x, AV.int IntKind.i64 (Int.tmod (IntKind.wrap IntKind.i64 (Int.tdiv p (1000 : Int))) (1000 : Int)), AV.int IntKind.i64 z]]
         (q146_2 n Post))))) →
    AWP Tryd.prog 25 n c146_5
      [(0, AV.int IntKind.i64 p), (2, AV.ptr 0 0), (4, AV.ptr 1 0),
        (12, AV.agg [AV.int IntKind.i64 (1000000 : Int), AV.int IntKind.i64 (1000 : Int), AV.int IntKind.i64 (1 : Int)]), (13, AV.int IntKind.i64 (1 : Int))]
      [AObj.cells [AV.int IntKind.i64 (0 : Int), AV.int IntKind.i64 (0 : Int), AV.int IntKind.i64 (0 : Int)], AObj.cells [AV.int IntKind.i64 x, AV.int IntKind.i64 y, AV.int IntKind.i64 z]]
      (q146_2 n Post) := fun p x y z n Post h => Go.Ab.AWP.loop' g146 (Cfg.live g146) c146_5 (by kernel_rfl) (by kernel_rfl) (Go.Ab.kc (by kernel_rfl) h)
theorem v146_5c : ∀ (p x y z : Int) (n : Nat) (Post : AV → List AObj → Prop),
  needP ((0 : Int) ≤ (2 : Int) ∧ (2 : Int) < (3 : Int))
      (needP ((1 : Int) ≠ (0 : Int))
        (needP ((1000 : Int) ≠ (0 : Int))
         (needP ((0 : Int) ≤ (2 : Int) ∧ (2 : Int) < (3 : Int))
         (AWP Tryd.prog 25 n c146_5
         [(0, AV.int IntKind.i64 p), (2, AV.ptr 0 0), (4, AV.ptr 1 0),
         (12, AV.agg [AV.int IntKind.i64 (1000000 : Int), AV.int IntKind.i64 (1000 : Int), AV.int IntKind.i64 (1 : Int)]), (13, AV.int IntKind.i64 (3 : Int))]
         [AObj.cells [AV.int IntKind.i64 (0 : Int), AV.int IntKind.i64 (0 : Int), AV.int IntKind.i64 (0 : Int)],
         AObj.cells [AV.int IntKind.i64 x, AV.int IntKind.i64 y, AV.int IntKind.i64 (Int.tmod (IntKind.wrap IntKind.i64 (Int.tdiv p (1 : Int))) (1000 : Int))]]
         (q146_2 n Post))))) →
    AWP Tryd.prog 25 n c146_5
      [(0, AV.int IntKind.i64 p), (2, AV.ptr 0 0), (4, AV.ptr 1 0),
        (12, AV.agg [AV.int IntKind.i64 (1000000 : Int), AV.int IntKind.i64 (1000 : Int), AV.int IntKind.i64 (1 : Int)]), (13, AV.int IntKind.i64 (2 : Int))]
      [AObj.cells [AV.int IntKind.i64 (0 : Int), AV.int IntKind.i64 (0 : Int), AV.int IntKind.i64 (0 : Int)], AObj.cells [AV.int IntKind.i64 x, AV.int IntKind.i64 y, AV.int IntKind.i64 z]]
      (q146_2 n Post) := fun p x y z n Post h => Go.Ab.AWP.loop' g146 (Cfg.live g146) c146_5 (by kernel_rfl) (by kernel_rfl) (Go.Ab.kc (by kernel_rfl) h)
theorem v146_5d : ∀ (p x y z : Int) (n : Nat) (Post : AV → List AObj → Prop),
  Post (AV.tup [AV.agg [AV.int IntKind.i64 x, AV.int IntKind.i64 y, AV.int IntKind.i64 z], AV.bool true])
      [AObj.cells [AV.int IntKind.i64 x, AV.int IntKind.i64 y, AV.int IntKind.i64 z], AObj.cells [AV.int IntKind.i64 x, AV.int IntKind.i64 y, AV.int IntKind.i64 z]] →
    AWP Tryd.prog 25 n c146_5
      [(0, AV.int IntKind.i64 p), (2, AV.ptr 0 0), (4, AV.ptr 1 0),
        (12, AV.agg [AV.int IntKind.i64 (1000000 : Int), AV.int IntKind.i64 (1000 : Int), AV.int IntKind.i64 (1 : Int)]), (13, AV.int IntKind.i64 (3 : Int))]
      [AObj.cells [AV.int IntKind.i64 (0 : Int), AV.int IntKind.i64 (0 : Int), AV.int IntKind.i64 (0 : Int)], AObj.cells [AV.int IntKind.i64 x, AV.int IntKind.i64 y, AV.int IntKind.i64 z]]
      (q146_2 n Post) := fun p x y z n Post h => Go.Ab.AWP.loop' g146 (Cfg.live g146) c146_5 (by kernel_rfl) (by kernel_rfl) (Go.Ab.kc (by kernel_rfl) h)

-- 121
noncomputable def l121 : Nat → List Nat
  | _ => []
noncomputable def u121 : Nat → Bool
  | _ => false
noncomputable def m121 : Nat → Bool
  | _ => false
noncomputable def g121 : Cfg := { N := 25, live := l121, cut := u121, mu := m121, ret := rets }
theorem s121 : ∀ (p : Int) (Post : AV → List AObj → Prop),
  (ASpec Tryd.prog 146 [AV.int IntKind.i64 p] [] fun (r : AV) (H' : List AObj) =>
      ∃ (x : (Int × Int × Int) × Bool),
        r =
         AV.tup
         [AV.agg [AV.int IntKind.i64 (Prod.fst (Prod.fst x)), AV.int IntKind.i64 (Prod.fst (Prod.snd (Prod.fst x))), AV.int IntKind.i64 (Prod.snd (Prod.snd (Prod.fst x)))],
         AV.bool (Prod.snd x)] ∧
         H' = [] ∧
         condP (!Prod.snd x)
         (Post (AV.str { data := #[] })
         [AObj.cells [AV.int IntKind.i64 (Prod.fst (Prod.fst x)), AV.int IntKind.i64 (Prod.fst (Prod.snd (Prod.fst x))), AV.int IntKind.i64 (Prod.snd (Prod.snd (Prod.fst x)))]])
         (needP ((0 : Int) ≤ (0 : Int) ∧ (0 : Int) < (3 : Int))
         (needP ((0 : Int) ≤ (1 : Int) ∧ (1 : Int) < (3 : Int))
         (needP ((0 : Int) ≤ (2 : Int) ∧ (2 : Int) < (3 : Int))
         (ASpec Tryd.prog 86 [AV.int IntKind.i64 (Prod.fst (Prod.fst x))]
         [AObj.cells [AV.int IntKind.i64 (Prod.fst (Prod.fst x)), AV.int IntKind.i64 (Prod.fst (Prod.snd (Prod.fst x))), AV.int IntKind.i64 (Prod.snd (Prod.snd (Prod.fst x)))]]
         fun (r : AV) (H' : List AObj) =>
         ∃ (x_1 : ByteArray),
         r = AV.str x_1 ∧
         H' = [AObj.cells [AV.int IntKind.i64 (Prod.fst (Prod.fst x)), AV.int IntKind.i64 (Prod.fst (Prod.snd (Prod.fst x))), AV.int IntKind.i64 (Prod.snd (Prod.snd (Prod.fst x)))]] ∧
         (AV.int IntKind.i64 (Prod.snd (Prod.snd (Prod.fst x))) = AV.int IntKind.i64 (Prod.snd (Prod.snd (Prod.fst x))) ∧
         [AObj.cells
         [AV.int IntKind.i64 (Prod.fst (Prod.fst x)), AV.int IntKind.i64 (Prod.fst (Prod.snd (Prod.fst x))), AV.int IntKind.i64 (Prod.snd (Prod.snd (Prod.fst x)))]] =
         [AObj.cells
         [AV.int IntKind.i64 (Prod.fst (Prod.fst x)), AV.int IntKind.i64 (Prod.fst (Prod.snd (Prod.fst x))), AV.int IntKind.i64 (Prod.snd (Prod.snd (Prod.fst x)))]]) ∧
         (AV.int IntKind.i64 (Prod.fst (Prod.snd (Prod.fst x))) = AV.int IntKind.i64 (Prod.fst (Prod.snd (Prod.fst x))) ∧
         [AObj.cells
         [AV.int IntKind.i64 (Prod.fst (Prod.fst x)), AV.int IntKind.i64 (Prod.fst (Prod.snd (Prod.fst x))), AV.int IntKind.i64 (Prod.snd (Prod.snd (Prod.fst x)))]] =
         [AObj.cells
         [AV.int IntKind.i64 (Prod.fst (Prod.fst x)), AV.int IntKind.i64 (Prod.fst (Prod.snd (Prod.fst x))), AV.int IntKind.i64 (Prod.snd (Prod.snd (Prod.fst x)))]]) ∧
         needP ((↑(ByteArray.size x_1 + 1) : Int) ≤ (9223372036854775807 : Int))
         (ASpec Tryd.prog 86 [AV.int IntKind.i64 (Prod.fst (Prod.snd (Prod.fst x)))]
         [AObj.cells
         [AV.int IntKind.i64 (Prod.fst (Prod.fst x)), AV.int IntKind.i64 (Prod.fst (Prod.snd (Prod.fst x))), AV.int IntKind.i64 (Prod.snd (Prod.snd (Prod.fst x)))]]
         fun (r : AV) (H' : List AObj) =>
         ∃ (x_2 : ByteArray),
         r = AV.str x_2 ∧
         H' =
         [AObj.cells
         [AV.int IntKind.i64 (Prod.fst (Prod.fst x)), AV.int IntKind.i64 (Prod.fst (Prod.snd (Prod.fst x))),
         AV.int IntKind.i64 (Prod.snd (Prod.snd (Prod.fst x)))]] ∧
         (AV.int IntKind.i64 (Prod.snd (Prod.snd (Prod.fst x))) = AV.int IntKind.i64 (Prod.snd (Prod.snd (Prod.fst x))) ∧
         [AObj.cells
         [AV.int IntKind.i64 (Prod.fst (Prod.fst x)), AV.int IntKind.i64 (Prod.fst (Prod.snd (Prod.fst x))),
         AV.int IntKind.i64 (Prod.snd (Prod.snd (Prod.fst x)))]] =
         [AObj.cells
         [AV.int IntKind.i64 (Prod.fst (Prod.fst x)), AV.int IntKind.i64 (Prod.fst (Prod.snd (Prod.fst x))),
         AV.int IntKind.i64 (Prod.snd (Prod.snd (Prod.fst x)))]]) ∧
         needP ((↑(ByteArray.size (x_1 ++ { data := #[(46 : UInt8)] }) + ByteArray.size x_2) : Int) ≤ (9223372036854775807 : Int))
         (needP ((↑(ByteArray.size (x_1 ++ { data := #[(46 : UInt8)] } ++ x_2) + 1) : Int) ≤ (9223372036854775807 : Int))
         (ASpec Tryd.prog 86 [AV.int IntKind.i64 (Prod.snd (Prod.snd (Prod.fst x)))]
         [AObj.cells
         [AV.int IntKind.i64 (Prod.fst (Prod.fst x)), AV.int IntKind.i64 (Prod.fst (Prod.snd (Prod.fst x))),
         AV.int IntKind.i64 (Prod.snd (Prod.snd (Prod.fst x)))]]
         fun (r : AV) (H' : List AObj) =>
         ∃ (x_3 : ByteArray),
         r = AV.str x_3 ∧
         H' =
         [AObj.cells
         [AV.int IntKind.i64 (Prod.fst (Prod.fst x)), AV.int IntKind.i64 (Prod.fst (Prod.snd (Prod.fst x))),
         AV.int IntKind.i64 (Prod.snd (Prod.snd (Prod.fst x)))]] ∧
         needP
         ((↑(ByteArray.size (x_1 ++ { data := #[(46 : UInt8)] } ++ x_2 ++ { data := #[(46 : UInt8)] }) + ByteArray.size x_3) : Int) ≤
         (9223372036854775807 : Int))
         (Post (AV.str (x_1 ++ { data := #[(46 : UInt8)] } ++ x_2 ++ { data := #[(46 : UInt8)] } ++ x_3))
         [AObj.cells
         [AV.int IntKind.i64 (Prod.fst (Prod.fst x)), AV.int IntKind.i64 (Prod.fst (Prod.snd (Prod.fst x))),
         AV.int IntKind.i64 (Prod.snd (Prod.snd (Prod.fst x)))]]))))))))) →
    ASpec Tryd.prog 121 [AV.int IntKind.i64 p] [] Post := fun p Post h => Go.Ab.ASpec.of_vc g121 Go.Proofs.Tryd.func121 (by kernel_rfl) (by kernel_rfl) (by kernel_rfl) (Go.Ab.kc (by kernel_rfl) h)

end
end D
end

section
/- The plain law of versions and their texts. -/

set_option linter.unusedVariables false
set_option linter.unusedSimpArgs false
namespace Ve

/-- a part's digits -/
def dg (n : Nat) : List UInt8 :=
  if n < 10 then [UInt8.ofNat (48 + n)] else if n < 100 then [UInt8.ofNat (48 + n / 10), UInt8.ofNat (48 + n % 10)] else [UInt8.ofNat (48 + n / 100), UInt8.ofNat (48 + n / 10 % 10), UInt8.ofNat (48 + n % 10)]

def text3 (a b c : Nat) : List UInt8 := dg a ++ 46 :: (dg b ++ 46 :: dg c)
def textM (p : Int) : List UInt8 := if 0 ≤ p ∧ p < 1000000000 then text3 (p / 1000000).toNat (p / 1000 % 1000).toNat (p % 1000).toNat else []

theorem dg_len (n : Nat) : 1 ≤ (dg n).length ∧ (dg n).length ≤ 3 := by
  unfold dg; split
  · simp
  · split <;> simp

theorem text3_len (a b c : Nat) : 5 ≤ (text3 a b c).length ∧ (text3 a b c).length ≤ 11 := by
  have h1 := dg_len a
  have h2 := dg_len b
  have h3 := dg_len c
  simp only [text3, List.length_append, List.length_cons]; omega

end Ve
end

section
/- Bytes and runes: plain facts. -/

set_option linter.unusedVariables false
set_option linter.unusedSimpArgs false
set_option maxRecDepth 100000
open Go Go.Ab
namespace D

abbrev B (l : List UInt8) : ByteArray := ⟨l.toArray⟩

theorem B_size (l : List UInt8) : (B l).size = l.length := by simp [ByteArray.size]
theorem B_append (a b : List UInt8) : B a ++ B b = B (a ++ b) := by
  apply ByteArray.ext
  simp
/-! ### the rune at a place -/

end D
end

section
/- Printed: what the code of functions 131, 80, 132, 81, 84, 78, 92, 106, 97, 102 asks for, by the framework's own reading of it; each line is checked against the code. -/

set_option linter.unusedVariables false
set_option maxRecDepth 100000
set_option maxHeartbeats 4000000
open Go Go.Ab Go.Proofs
namespace Pf
noncomputable section

end
end Pf
end

section
/- Steps of a proof: which may be. -/

set_option linter.unusedVariables false
set_option linter.unusedSimpArgs false
set_option maxRecDepth 100000
open Go Go.Ab Go.Proofs V S T C
namespace Pr

instance decSt : DecidableEq St := fun a b => instDecidableEqProd a b
/-- may a step be, of a number? -/
def mayM (x : St) (i : Int) : Bool := fitM x.2.1 &&
  (if x.1 = 1 ∨ x.1 = 2 then decide (x.2.2.2.1 = [] ∧ x.2.2.1 = 0 ∧ x.2.2.2.2.1 = 0 ∧ x.2.2.2.2.2 = 0)
   else if x.1 = 3 then fitM x.2.2.2.1 && decide (0 ≤ x.2.2.1 ∧ x.2.2.1 < 1000000000 ∧ x.2.2.2.2.1 = 0 ∧ x.2.2.2.2.2 = 0)
   else if x.1 = 4 then decide (x.2.2.2.1 = [] ∧ x.2.2.1 = 0 ∧ 0 ≤ x.2.2.2.2.1 ∧ x.2.2.2.2.1 < i ∧ 0 ≤ x.2.2.2.2.2 ∧ x.2.2.2.2.2 < i) else false)

/-- may each step be, of its number? -/
def chkF (i : Nat) : List St → Bool
  | [] => true
  | x :: r => mayM x i && chkF (i + 1) r
/-! ### how much is looked at -/

end Pr
end

section
/- PickPuts: what was put is there, what was dropped is not: plain laws. -/

set_option linter.unusedVariables false
set_option linter.unusedSimpArgs false
open Go Go.Ab Go.Proofs V S T C
namespace Dk
end Dk
end

section
/- What was put together is taken apart: plain laws of texts of picks. -/

set_option linter.unusedVariables false
set_option linter.unusedSimpArgs false
open Go Go.Lib
namespace Dk
abbrev sepP : List UInt8 := [44, 32]
theorem join_cons (p q : List UInt8) (r : List (List UInt8)) : Lib.join (p :: q :: r) sepP = p ++ 44 :: 32 :: Lib.join (q :: r) sepP := by
  simp [Lib.join, List.intercalate, List.intersperse]
end Dk
end

section
/- The codecs of this seat's plain arguments. -/

open Go Go.Ab Go.Proofs
namespace Go.Ab

noncomputable def cInt : Codec Tryd.prog 3 Int := Codec.int .i64 Tryd.underlying3
noncomputable def cStr : Codec Tryd.prog 9 ByteArray := Codec.str Tryd.underlying9
end Go.Ab
end

section
/- The codecs of manifests. -/

open Go Go.Ab Go.Proofs
namespace Go.Ab

noncomputable def cName : Codec Tryd.prog 9 (List UInt8) := cStr.iso (fun s => s.data.toList) (fun l => [.str ⟨l.toArray⟩]) (fun _ => True) (fun _ => rfl) (fun _ _ => trivial)
end Go.Ab
end
