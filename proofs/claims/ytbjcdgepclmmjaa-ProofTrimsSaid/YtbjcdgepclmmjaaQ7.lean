/- Q7: several of this proof's own texts, one behind the other: what each proves stands at its head. -/
import Derived.Shelf.SortM.Plain
import Derived.Shelf.SortM.SortNone
import Derived.Ground.SlgmProg
import Derived.Test.YtbjcdgepclmmjaaProg
import Derived.Test.YtbjcdgepclmmjaaA4
import Derived.Test.YtbjcdgepclmmjaaQ5
import Derived.Test.YtbjcdgepclmmjaaA3
import Derived.Shelf.Lays
import Derived.Shelf.Small.Strs
import Derived.Test.YtbjcdgepclmmjaaQ6
section
/- The library's sort of strings and of ints at this program's numbers: laid by the kit's own tool. -/

namespace Go.Proofs
open Go.Shelf
def Try.mSort_ren : Go.Shelf.Ren := ⟨fun | 6 => 229 | 8 => 302 | 9 => 310 | 19 => 350 | 20 => 351 | 21 => 353 | 22 => 354 | 23 => 355 | 24 => 356 | 25 => 357 | 26 => 358 | 27 => 359 | 28 => 360 | 29 => 361 | 36 => 386 | 31 => 381 | 32 => 382 | 37 => 387 | 38 => 388 | 39 => 389 | 41 => 397 | n => n, fun | 27 => 98 | 29 => 9 | 3 => 3 | 32 => 364 | 26 => 98 | 0 => 0 | 44 => 396 | 46 => 398 | 4 => 4 | 36 => 389 | 35 => 388 | 41 => 131 | 5 => 5 | 9 => 9 | 53 => 416 | 57 => 420 | 63 => 428 | 64 => 253 | n => n, fun | n => n⟩
theorem Try.mSort : Go.Proofs.SlLaysM.n6 Try.prog Try.mSort_ren := {
  mixed := by kernel_rfl
  f6 := ⟨Try.f229.name, by decide, Try.func229.trans (congrArg some (by kernel_rfl))⟩
  f8 := Try.func302.trans (congrArg some (by kernel_rfl))
  f9 := ⟨Try.f310.name, by decide, Try.func310.trans (congrArg some (by kernel_rfl))⟩
  f19 := Try.func350.trans (congrArg some (by kernel_rfl))
  f20 := Try.func351.trans (congrArg some (by kernel_rfl))
  f21 := ⟨Try.f353.name, by decide, Try.func353.trans (congrArg some (by kernel_rfl))⟩
  f22 := ⟨Try.f354.name, by decide, Try.func354.trans (congrArg some (by kernel_rfl))⟩
  f23 := ⟨Try.f355.name, by decide, Try.func355.trans (congrArg some (by kernel_rfl))⟩
  f24 := ⟨Try.f356.name, by decide, Try.func356.trans (congrArg some (by kernel_rfl))⟩
  f25 := ⟨Try.f357.name, by decide, Try.func357.trans (congrArg some (by kernel_rfl))⟩
  f26 := ⟨Try.f358.name, by decide, Try.func358.trans (congrArg some (by kernel_rfl))⟩
  f27 := ⟨Try.f359.name, by decide, Try.func359.trans (congrArg some (by kernel_rfl))⟩
  f28 := ⟨Try.f360.name, by decide, Try.func360.trans (congrArg some (by kernel_rfl))⟩
  f29 := ⟨Try.f361.name, by decide, Try.func361.trans (congrArg some (by kernel_rfl))⟩
  f31 := Try.func381.trans (congrArg some (by kernel_rfl))
  f32 := Try.func382.trans (congrArg some (by kernel_rfl))
  f36 := ⟨Try.f386.name, by decide, Try.func386.trans (congrArg some (by kernel_rfl))⟩
  f37 := ⟨Try.f387.name, by decide, Try.func387.trans (congrArg some (by kernel_rfl))⟩
  f38 := ⟨Try.f388.name, by decide, Try.func388.trans (congrArg some (by kernel_rfl))⟩
  f39 := ⟨Try.f389.name, by decide, Try.func389.trans (congrArg some (by kernel_rfl))⟩
  f41 := ⟨Try.f397.name, by decide, Try.func397.trans (congrArg some (by kernel_rfl))⟩
  t0 := Try.underlying0
  a0 := Try.isAgg0
  z0 := Try.sizeOf0
  v0 := Try.zeroValue0
  t3 := Try.underlying3
  a3 := Try.isAgg3
  z3 := Try.sizeOf3
  v3 := Try.zeroValue3
  t4 := Try.underlying4
  a4 := Try.isAgg4
  z4 := Try.sizeOf4
  v4 := Try.zeroValue4
  t5 := Try.underlying5
  a5 := Try.isAgg5
  z5 := Try.sizeOf5
  v5 := Try.zeroValue5
  t9 := Try.underlying9
  a9 := Try.isAgg9
  z9 := Try.sizeOf9
  v9 := Try.zeroValue9
  t26 := Try.underlying98
  a26 := Try.isAgg98
  z26 := Try.sizeOf98
  v26 := Try.zeroValue98
  t27 := Try.underlying98
  a27 := Try.isAgg98
  z27 := Try.sizeOf98
  v27 := Try.zeroValue98
  t29 := Try.underlying9
  a29 := Try.isAgg9
  z29 := Try.sizeOf9
  v29 := Try.zeroValue9
  t32 := Try.underlying364
  a32 := Try.isAgg364
  z32 := Try.sizeOf364
  v32 := Try.zeroValue364
  t35 := Try.underlying388
  a35 := Try.isAgg388
  z35 := Try.sizeOf388
  v35 := Try.zeroValue388
  t36 := Try.underlying389
  a36 := Try.isAgg389
  z36 := Try.sizeOf389
  v36 := Try.zeroValue389
  t41 := Try.underlying131
  a41 := Try.isAgg131
  z41 := Try.sizeOf131
  v41 := Try.zeroValue131
  t44 := Try.underlying396
  a44 := Try.isAgg396
  z44 := Try.sizeOf396
  v44 := Try.zeroValue396
  t46 := Try.underlying398
  a46 := Try.isAgg398
  z46 := Try.sizeOf398
  v46 := Try.zeroValue398
  t53 := Try.underlying416
  a53 := Try.isAgg416
  z53 := Try.sizeOf416
  v53 := Try.zeroValue416
  t57 := Try.underlying420
  a57 := Try.isAgg420
  z57 := Try.sizeOf420
  v57 := Try.zeroValue420
  t63 := Try.underlying428
  a63 := Try.isAgg428
  z63 := Try.sizeOf428
  v63 := Try.zeroValue428
  t64 := Try.underlying253
  a64 := Try.isAgg253
  z64 := Try.sizeOf253
  v64 := Try.zeroValue253 }
end Go.Proofs
end

section
/- The library's sort of names and of ints, as specifications. -/

set_option linter.unusedVariables false
set_option linter.unusedSimpArgs false
open Go Go.Ab Go.Proofs Go.Sort T
namespace So

def sortL (l : List (List UInt8)) : List (List UInt8) := l.mergeSort fun x y => decide (x ≤ y)
theorem sort_spec {H : List AObj} {id : Nat} {q : Seq} {l : List (List UInt8)} (hid : H[id]? = some (.arr 1 q)) (hq : q.toList = l.map encL) (hl : l.length < 4611686018427387904) :
    ASpec Try.prog 229 [.msl 1 id 0 l.length] H (fun r H' => r = .tup [] ∧ H' = H.set id (.arr 1 (.map encL [] (sortL l)))) := by
  refine ASpec.sorts (enc := encStr) (e1 := fun x => .str ⟨x.toArray⟩) (srt := sortL) (fun _ => rfl) (fun M w loc x v => ?_) (fun l => by simp [sortL]) (fun blk off cap ss w h1 h2 h3 => ?_) hid hq hl
  · constructor
    · intro h; cases h; rfl
    · rintro rfl; exact .str _
  · exact AnyM.slices_Sort_string Try.mSort blk off cap ss w h1 h2 h3

/-- of nothing: nothing -/
theorem sort_nil {H : List AObj} {z : Nat} {tip : Tip} : ASpec Try.prog 229 [.sl z (.raw []) tip] H (fun r H' => r = .tup [] ∧ H' = H) := by
  refine ASpec.of_calls fun M loc w vs ht hv => ?_
  obtain ⟨hs, hv⟩ := hv
  have hv0 := hv 0 (by simp)
  simp only [List.getElem_cons_zero] at hv0
  have hvs : vs = #[vs[0]'(by simp at hs; omega)] := by
    apply Array.ext
    · simpa using hs
    · intro i h1 h2
      have : i = 0 := by simp at h2; omega
      subst this; rfl
  generalize vs[0]'(by simp at hs; omega) = v0 at hv0 hvs
  subst hvs
  have key : ∀ p cap, Calls Try.prog 229 #[.slice p 0 cap] w fun e w' => ∃ v, e = .returned v ∧ VRel M w' loc (.tup []) v ∧ Grown w w' := fun p cap =>
    (AnyM.slices_Sort_string_none Try.mSort p cap w).mono fun e w' ⟨h1, h2⟩ => by
      subst h2
      exact ⟨_, h1, .tup _ _ rfl (fun i h => by simp at h), ⟨Nat.le_refl _, fun _ _ => rfl, rfl, rfl, rfl⟩⟩
  cases hv0 with
  | slnil => exact key none 0
  | slz => exact key _ 0
  | sl _ _ _ b o cap => exact key _ _

end So
end

section
/- Names that are sorted and lie once each: the two ways to come by them are one. -/

set_option linter.unusedVariables false
set_option linter.unusedSimpArgs false
open Go Go.Ab Go.Proofs
namespace Pl
open Dp (less_iff less_tri)
abbrev Nm := List UInt8

/-- a name to names that rise, once -/
def addM (x : Nm) : List Nm → List Nm
  | [] => [x]
  | y :: r => if (Op.bytesLess x y || x == y) = true then (if x = y then x :: r else x :: y :: r) else y :: addM x r

/-- what follows x, each once -/
def compT (x : Nm) : List Nm → List Nm
  | [] => []
  | y :: r => if y = x then compT y r else y :: compT y r
def compM : List Nm → List Nm
  | [] => []
  | x :: r => x :: compT x r

abbrev Up (l : List Nm) : Prop := l.Pairwise fun a b => a < b

theorem tri (a b : Nm) : a < b ∨ a = b ∨ b < a := by
  by_cases h : a = b
  · exact .inr (.inl h)
  · cases hx : Op.bytesLess a b with
    | true => exact .inl (less_iff.1 hx)
    | false => exact .inr (.inr (less_iff.1 (less_tri hx h)))
theorem ltT {a b c : Nm} (h : a < b) (k : b < c) : a < c := List.lt_trans h k
theorem ltI {a : Nm} (h : a < a) : False := List.lt_irrefl a h

theorem up_one : ∀ {a b : List Nm}, Up a → Up b → (∀ x, x ∈ a ↔ x ∈ b) → a = b
  | [], [], _, _, _ => rfl
  | [], y :: b, _, _, h => by have := (h y).2 (by simp); simp at this
  | x :: a, [], _, _, h => by have := (h x).1 (by simp); simp at this
  | x :: a, y :: b, ha, hb, h => by
    have ha' := List.pairwise_cons.1 ha
    have hb' := List.pairwise_cons.1 hb
    have e : x = y := by
      rcases List.mem_cons.1 ((h x).1 (by simp)) with e | m
      · exact e
      · rcases List.mem_cons.1 ((h y).2 (by simp)) with e | m2
        · exact e.symm
        · exact (ltI (ltT (hb'.1 x m) (ha'.1 y m2))).elim
    subst e
    rw [up_one ha'.2 hb'.2]
    intro z
    constructor
    · intro hz
      rcases List.mem_cons.1 ((h z).1 (by simp [hz])) with e | m
      · subst e; exact (ltI (ha'.1 z hz)).elim
      · exact m
    · intro hz
      rcases List.mem_cons.1 ((h z).2 (by simp [hz])) with e | m
      · subst e; exact (ltI (hb'.1 z hz)).elim
      · exact m

theorem addM_mem {x y : Nm} : ∀ {o : List Nm}, y ∈ addM x o ↔ y = x ∨ y ∈ o
  | [] => by simp [addM]
  | z :: r => by
    simp only [addM]
    split
    · split
      · rename_i e; subst e; simp
      · simp
    · have := addM_mem (x := x) (y := y) (o := r)
      simp only [List.mem_cons, this]
      constructor
      · rintro (h | h | h) <;> simp [h]
      · rintro (h | h | h) <;> simp [h]

theorem addM_up {x : Nm} : ∀ {o : List Nm}, Up o → Up (addM x o)
  | [], _ => by simp [addM, Up]
  | z :: r, h => by
    have h' := List.pairwise_cons.1 h
    simp only [addM]
    split
    · rename_i hb
      split
      · rename_i e; subst e; exact h
      · rename_i hne
        have hl : x < z := by
          rw [Bool.or_eq_true] at hb
          rcases hb with hb | hb
          · exact less_iff.1 hb
          · exact (hne (beq_iff_eq.1 hb)).elim
        refine List.pairwise_cons.2 ⟨fun y hy => ?_, h⟩
        rcases List.mem_cons.1 hy with e | m
        · subst e; exact hl
        · exact ltT hl (h'.1 y m)
    · rename_i hb
      rw [Bool.or_eq_true, not_or] at hb
      have hl : z < x := by
        rcases tri x z with h1 | h1 | h1
        · exact (hb.1 (less_iff.2 h1)).elim
        · exact (hb.2 (beq_iff_eq.2 h1)).elim
        · exact h1
      refine List.pairwise_cons.2 ⟨fun y hy => ?_, addM_up h'.2⟩
      rcases addM_mem.1 hy with e | m
      · subst e; exact hl
      · exact h'.1 y m

def addAll (l : List Nm) (o : List Nm) : List Nm := l.foldl (fun o x => addM x o) o
theorem addAll_up : ∀ (l : List Nm) {o : List Nm}, Up o → Up (addAll l o)
  | [], _, h => h
  | x :: l, _, h => addAll_up l (addM_up h)
theorem addAll_mem : ∀ (l : List Nm) {o : List Nm} {y : Nm}, y ∈ addAll l o ↔ y ∈ l ∨ y ∈ o
  | [], o, y => by simp [addAll]
  | x :: l, o, y => by
    show y ∈ addAll l (addM x o) ↔ _
    rw [addAll_mem l, addM_mem, List.mem_cons]
    constructor
    · rintro (h | h | h) <;> simp [h]
    · rintro ((h | h) | h) <;> simp [h]
theorem addAll_len : ∀ (l : List Nm) {o : List Nm}, (addAll l o).length ≤ l.length + o.length
  | [], o => by simp [addAll]
  | x :: l, o => by
    have h1 := addAll_len l (o := addM x o)
    have h2 : ∀ o : List Nm, (addM x o).length ≤ o.length + 1 := by
      intro o
      induction o with
      | nil => simp [addM]
      | cons y r ih => simp only [addM]; split <;> (try split) <;> simp <;> omega
    have h3 := h2 o
    show (addAll l (addM x o)).length ≤ _
    simp only [List.length_cons]; omega

theorem compT_mem : ∀ {l : List Nm} {x y : Nm}, y ∈ x :: compT x l ↔ y ∈ x :: l
  | [], x, y => by simp [compT]
  | z :: r, x, y => by
    simp only [compT]
    split
    · rename_i e; subst e
      rw [compT_mem]; simp
    · have := compT_mem (l := r) (x := z) (y := y)
      rw [List.mem_cons, this]; simp

theorem compT_up : ∀ {l : List Nm} {x : Nm}, (x :: l).Pairwise (fun a b => a ≤ b) → Up (x :: compT x l)
  | [], x, _ => by simp [compT, Up]
  | z :: r, x, h => by
    have h' := List.pairwise_cons.1 h
    simp only [compT]
    split
    · rename_i e; subst e; exact compT_up h'.2
    · rename_i hne
      have k := compT_up h'.2
      have k' := List.pairwise_cons.1 k
      have hxz : x < z := by
        rcases tri x z with h1 | h1 | h1
        · exact h1
        · exact (hne h1.symm).elim
        · exact ((h'.1 z (by simp)) h1).elim
      refine List.pairwise_cons.2 ⟨fun y hy => ?_, k⟩
      rcases List.mem_cons.1 hy with e | m
      · subst e; exact hxz
      · exact ltT hxz (k'.1 y m)

theorem sort_up (l : List Nm) : (So.sortL l).Pairwise fun a b => a ≤ b := by
  have h := List.pairwise_mergeSort (le := fun x y : Nm => decide (x ≤ y)) (fun a b c h1 h2 => ?_) (fun a b => ?_) l
  · exact h.imp (fun h => of_decide_eq_true h)
  · simp only [decide_eq_true_eq] at *
    intro h3
    rcases tri b c with h4 | h4 | h4
    · exact h1 (ltT h4 h3)
    · subst h4; exact h1 h3
    · exact h2 h4
  · simp only [Bool.or_eq_true, decide_eq_true_eq]
    rcases tri a b with h | h | h
    · exact .inl (fun k => ltI (ltT h k))
    · subst h; exact .inl (fun k => ltI k)
    · exact .inr (fun k => ltI (ltT h k))

theorem sort_mem (l : List Nm) (x : Nm) : x ∈ So.sortL l ↔ x ∈ l := by simp [So.sortL]
theorem sort_len (l : List Nm) : (So.sortL l).length = l.length := by simp [So.sortL]

theorem comp_sort (l : List Nm) : compM (So.sortL l) = addAll l [] := by
  have h2 : Up (addAll l []) := addAll_up l (by simp [Up])
  have hu := sort_up l
  have hm := sort_mem l
  generalize So.sortL l = s at hu hm
  cases s with
  | nil =>
    refine up_one (by simp [compM, Up]) h2 fun x => ?_
    rw [addAll_mem, ← hm]; simp [compM]
  | cons x r =>
    refine up_one (compT_up hu) h2 fun y => ?_
    show y ∈ x :: compT x r ↔ _
    rw [compT_mem, addAll_mem, ← hm]; simp
end Pl
end

section
/- strings.Compare, by the library's contract at this program (the laying was written by the kit's lay-plain tool). -/

set_option linter.unusedVariables false
set_option linter.unusedSimpArgs false
namespace Go.Proofs
open Go.Shelf
end Go.Proofs
open Go Go.Ab Go.Proofs V S T C
namespace Dp
end Dp
end

section
/- Depots: what the code and the document's code compute. -/

set_option linter.unusedVariables false
set_option linter.unusedSimpArgs false
set_option maxRecDepth 100000
open Go Go.Ab Go.Proofs V S T C
open W (sl1 slS slN slR putMan cons_dec)
namespace Dp

noncomputable abbrev slL (l : List (List UInt8)) : AV := .sl 1 (.map encL [] l) .none
/-! ### large -/

/-! ### which may be -/

/-! ### looking for a name -/

/-! ### bodies and manifests -/

/-! ### the document's -/

/-! ### the examples -/

/-! ### the law -/

end Dp
end

section
/- Names of a proof's leaves, and what the document's trim leaves: what the code computes. -/

set_option linter.unusedVariables false
set_option linter.unusedSimpArgs false
set_option maxRecDepth 100000
open Go Go.Ab Go.Proofs V S T C
open E (PA pa)
open Pr (slP slLe renSt)
open Dp (slL)
open Pl (s230n s230m v230_4 v230_9 v230_14 c230_4 c230_9 c230_14 q230_2 q230_5 q230_7 s129 v129_4 c129_4 q129_2 s128 v128_3 c128_3 q128_2 s127 v127_3n v127_3m v127_8n v127_8m v127_9n v127_9m c127_3 c127_8 c127_9 q127_0 q127_2 s227 v227_4 c227_4 q227_2 s124)
namespace Pl

theorem renLL (ρ : Nat → Nat) (x : Nm) : renL ρ (encL x) = encL x := rfl
theorem slLL {ρ : Nat → Nat} (l : List Nm) (tip : Tip) : Le (.sl 1 (.map encL [] l) tip) (AV.ren ρ (slL l)) := Le.sl (s' := Seq.ren _ (.map encL [] l)) (by simp [Ab.Seq.toList, Seq.ren, renLL]) (.inl rfl) (.inr rfl)
theorem nilLL {ρ : Nat → Nat} : Le (.sl 0 (.raw []) .nil) (AV.ren ρ (slL [])) := Le.sl (s' := Seq.ren ρ (.map encL [] [])) rfl (.inr ⟨rfl, fun _ h => by cases h⟩) (.inr rfl)
noncomputable abbrev arL (l : List Nm) : AObj := .arr 1 (.map encL [] l)

/-! ### Compact -/

abbrev PC (R : List Nm) : AV → List AObj → Prop := fun r H' => r = .msl 1 0 0 R.length ∧ ∃ q : Seq, H' = [.arr 1 q] ∧ R.map encL = q.toList.take R.length

theorem comp14 {o R : List Nm} {k : Nat} (hk : k < o.length) (hl : o.length ≤ 1000000) (hR : R = o.take k) : AWP Try.prog 61 1 c230_14 [(0, .msl 1 0 0 o.length), (3, .int .i64 k)] [arL o] (q230_5 1 (PC R)) := by
  subst hR
  refine v230_14 _ _ _ _ (needJ ⟨by omega, by omega⟩ (condD (fun _ => needJ (by rw [Int.toNat_natCast]; omega) (needJ ?_ ?_)) fun h => by omega))
  · rw [Int.toNat_natCast]
    refine ⟨by omega, ?_⟩
    show (0 : Int) + k ≤ ((copied (Seq.map encL [] o) (0 + k) _).len : Nat)
    rw [Seq.len_eq]
    simp [copied, Seq.toList]; omega
  · rw [Int.toNat_natCast, Nat.zero_add]
    have e : (o.take k).length = k := by simp; omega
    refine ⟨by rw [e], _, rfl, ?_⟩
    rw [e]
    simp only [copied, Seq.toList]
    rw [List.take_append_of_le_length (by simp; omega), List.take_take, Nat.min_self, List.map_take]

theorem comp9 {R : List Nm} {j n : Nat} : ∀ (m p k : Nat) (o : List Nm), m + p = n → 1 ≤ p → j + n = o.length → o.length ≤ 1000000 → 1 ≤ n → k + 1 ≤ j + p → R = o.take k ++ compT (o.getD (j + p - 1) []) (o.drop (j + p)) →
    AWP Try.prog 61 1 c230_9 [(0, .msl 1 0 0 o.length), (3, .int .i64 k), (4, .msl 1 0 j n), (5, .int .i64 p)] [arL o] (q230_7 1 (PC R)) := by
  intro m
  induction m with
  | zero =>
    intro p k o hm h1 hjn hl hn hk hR
    refine v230_9 _ _ _ _ _ _ _ (condD (fun h => by omega) fun _ => ?_)
    rw [List.drop_eq_nil_of_le (by omega)] at hR
    simp only [compT, List.append_nil] at hR
    exact comp14 (by omega) hl hR
  | succ m ih =>
    intro p k o hm h1 hjn hl hn hk hR
    refine v230_9 _ _ _ _ _ _ _ (condD (fun _ => needJ ⟨by omega, by omega⟩ (needJ (by rw [Int.toNat_natCast]; omega) ?_)) fun h => by omega)
    rw [show IntKind.wrap .i64 ((p : Int) - 1) = ((p - 1 : Nat) : Int) by rw [wrap64 (by omega) (by omega)]; omega, Int.toNat_natCast, Int.toNat_natCast]
    refine needJ ⟨by omega, by omega⟩ (needJ (by omega) ?_)
    rw [show j + (p - 1) = j + p - 1 by omega]
    rw [dropD o [] (j + p) (by omega)] at hR
    simp only [compT] at hR
    rw [show IntKind.wrap .i64 ((p : Int) + 1) = ((p + 1 : Nat) : Int) from succ64 (by omega)]
    refine condSn (fun hne => needJ ⟨by omega, by omega⟩ (needJ (by omega) (needJ ⟨by omega, by omega⟩ (needJ (by rw [Int.toNat_natCast]; omega) ?_)))) fun he => ?_
    · rw [if_neg hne] at hR
      rw [Int.toNat_natCast, Nat.zero_add, show IntKind.wrap .i64 ((k : Int) + 1) = ((k + 1 : Nat) : Int) from succ64 (by omega)]
      generalize hv : o.getD (j + p) [] = v at hR hne ⊢
      refine AWP.re (ReSt.arr (id := 0) (q := _) (q' := .map encL [] (o.set k v)) rfl (by simp only [Seq.toList, List.map_set]; rfl)) ?_
      have el : (o.set k v).length = o.length := List.length_set
      have := ih (p + 1) (k + 1) (o.set k v) (by omega) (by omega) (by rw [el]; exact hjn) (by rw [el]; exact hl) hn (by omega) (by
        rw [hR]
        have e1 : (o.set k v).take (k + 1) = o.take k ++ [v] := by
          rw [List.take_add_one, List.take_set_of_le (Nat.le_refl _)]
          congr 1
          rw [List.getElem?_set_self (by omega)]; rfl
        have e2 : (o.set k v).getD (j + (p + 1) - 1) [] = v := by
          rw [show j + (p + 1) - 1 = j + p by omega, List.getD_eq_getElem?_getD, List.getElem?_set]
          split
          · omega
          · rw [← List.getD_eq_getElem?_getD, hv]
        have e3 : (o.set k v).drop (j + (p + 1)) = o.drop (j + p + 1) := by
          rw [List.drop_set_of_lt (by omega)]; rfl
        rw [e1, e2, e3, List.append_assoc]; rfl)
      rw [el] at this; exact this
    · rw [if_pos he] at hR
      exact ih (p + 1) k o (by omega) (by omega) hjn hl hn (by omega) (by
        rw [show j + (p + 1) - 1 = j + p by omega, show j + (p + 1) = j + p + 1 by omega]; exact hR)

theorem comp4 {R o : List Nm} (hl : o.length ≤ 1000000) : ∀ (m k : Nat), m + k = o.length → 1 ≤ k → R = o.take k ++ compT (o.getD (k - 1) []) (o.drop k) →
    AWP Try.prog 61 1 c230_4 [(0, .msl 1 0 0 o.length), (3, .int .i64 k)] [arL o] (q230_2 1 (PC R)) := by
  intro m
  induction m with
  | zero =>
    intro k hm h1 hR
    refine v230_4 _ _ _ _ (condD (fun h => by omega) fun _ => ?_)
    rw [List.drop_eq_nil_of_le (by omega), List.take_of_length_le (by omega)] at hR
    simp only [compT, List.append_nil] at hR
    subst hR
    exact ⟨rfl, _, rfl, by simp only [Seq.toList]; rw [List.take_of_length_le (by simp)]⟩
  | succ m ih =>
    intro k hm h1 hR
    refine v230_4 _ _ _ _ (condD (fun _ => needJ ⟨by omega, by omega⟩ (needJ (by rw [Int.toNat_natCast]; omega) ?_)) fun h => by omega)
    rw [show IntKind.wrap .i64 ((k : Int) - 1) = ((k - 1 : Nat) : Int) by rw [wrap64 (by omega) (by omega)]; omega, Int.toNat_natCast, Int.toNat_natCast, Nat.zero_add, Nat.zero_add]
    refine needJ ⟨by omega, by omega⟩ (needJ (by omega) ?_)
    rw [dropD o [] k (by omega)] at hR
    simp only [compT] at hR
    refine condS (fun he => needJ ⟨by omega, by omega⟩ (condD (fun _ => ?_) fun h => by omega)) fun hne => ?_
    · rw [if_pos he] at hR
      refine comp9 (j := k) (n := o.length - k) (o.length - k - 1) 1 k o (by omega) (Nat.le_refl _) (by omega) hl (by omega) (Nat.le_refl _) ?_
      rw [Nat.add_sub_cancel]; exact hR
    · rw [if_neg hne] at hR
      rw [succ64 (by omega)]
      refine ih (k + 1) (by omega) (by omega) ?_
      rw [hR, Nat.add_sub_cancel, List.take_add_one, List.append_assoc]
      congr 1
      rw [List.getElem?_eq_getElem (by omega), List.getD_eq_getElem?_getD, List.getElem?_eq_getElem (by omega)]
      rfl

theorem comp_spec (o : List Nm) (hl : o.length ≤ 1000000) : ASpec Try.prog 230 [.msl 1 0 0 o.length] [arL o] (fun r H' => r = .msl 1 0 0 (compM o).length ∧ H' = [arL (compM o)]) := by
  have k : ASpec Try.prog 230 [.msl 1 0 0 o.length] [arL o] (PC (compM o)) := by
    refine s230m _ _ (condD (fun h => ?_) fun h => ?_)
    · have e : compM o = o := by
        match o, h with
        | [], _ => rfl
        | [x], _ => rfl
        | x :: y :: r, h => simp at h; omega
      rw [e]
      exact ⟨rfl, _, rfl, by simp only [Seq.toList]; rw [List.take_of_length_le (by simp)]⟩
    · refine comp4 hl (o.length - 1) 1 (by omega) (Nat.le_refl _) ?_
      match o, h with
      | [], h => simp at h
      | x :: r, _ => rfl
  refine ASpec.arrPre (k.mono fun r H' hh => ?_)
  obtain ⟨hr, q, hq, he⟩ := hh
  subst hq
  exact ⟨0, 1, (compM o).length, q, .map encL [] (compM o), rfl, he, hr, rfl⟩
theorem comp_nil : ASpec Try.prog 230 [.sl 0 (.raw []) .nil] [] (fun r H' => r = .sl 0 (.raw []) .nil ∧ H' = []) := s230n _ ⟨rfl, rfl⟩

/-! ### Add -/

theorem add4 {o : List Nm} {x : Nm} (hl : o.length ≤ 1000000) {R : List Nm} : ∀ (m i : Nat) (r : List Nm) (b : Bool), m + i = o.length → r.length ≤ i + b.toNat → R = r ++ (if b = true then o.drop i else addM x (o.drop i)) →
    AWP Try.prog 48 0 c129_4 [(0, slL o), (1, .str (B x)), (5, .sl 1 (.map encL [] r) (.tok 0)), (6, .bool b), (7, .int .i64 i)] [.tok] (q129_2 0 (PA (slL R))) := by
  intro m
  induction m with
  | zero =>
    intro i r b hm hr hR
    have hb1 : b.toNat ≤ 1 := by cases b <;> decide
    refine v129_4 _ _ _ _ _ _ _ (condD (fun h => by omega) fun _ => condBn (fun hb => needJ (by omega) ?_) fun hb => ?_)
    · rw [if_neg (by rw [hb]; simp), List.drop_eq_nil_of_le (by omega)] at hR
      simp only [addM] at hR
      subst hR
      exact pa (Le.trans (leAppE (Les.refl _)) (slLL _ _))
    · rw [if_pos hb, List.drop_eq_nil_of_le (by omega), List.append_nil] at hR
      subst hR
      exact pa (slLL _ _)
  | succ m ih =>
    intro i r b hm hr hR
    have hb1 : b.toNat ≤ 1 := by cases b <;> decide
    rw [dropD o [] i (by omega)] at hR
    have nxt1 : ∀ (y : Nm) (b : Bool), r.length ≤ i + b.toNat → R = (r ++ [y]) ++ (if b = true then o.drop (i + 1) else addM x (o.drop (i + 1))) →
        AWP Try.prog 48 0 c129_4 [(0, slL o), (1, .str (B x)), (5, .sl 1 (.app (.map encL [] r) (.raw [[.str (B y)]])) (.tok 1)), (6, .bool b), (7, .int .i64 (IntKind.wrap .i64 ((i : Int) + 1)))] [.gone, .tok] (q129_2 0 (PA (slL R))) := by
      intro y b hr h
      rw [succ64 (by omega)]
      exact AWP.shape [1] [(0, slL o), (1, .str (B x)), (5, .sl 1 (.map encL [] (r ++ [y])) (.tok 0)), (6, .bool b), (7, .int .i64 (i + 1 : Nat))] [.tok] (Sel.mk0 (by decide) ⟨rfl, trivial⟩)
        ⟨rfl, slLL _ _, rfl, Le.refl _, rfl, leAppE (Les.refl _), rfl, Le.refl _, rfl, Le.refl _, trivial⟩ (ih (i + 1) (r ++ [y]) b (by omega) (by simp; omega) h)
    refine v129_4 _ _ _ _ _ _ _ (condD (fun _ => ?_) fun h => by omega)
    rw [Int.toNat_natCast]
    generalize o.getD i [] = y at hR ⊢
    refine condBn (fun hb => needJ ⟨by omega, by omega⟩ ?_) fun hb => needJ ⟨by omega, by omega⟩ (needJ (by omega) (nxt1 y b hr (by rw [hR, if_pos hb, if_pos hb]; simp)))
    rw [if_neg (by rw [hb]; simp)] at hR
    simp only [addM] at hR
    rw [B_toList, B_toList]
    refine condB (fun hc => needJ (by omega) (needJ ⟨by omega, by omega⟩ ?_)) fun hc => needJ ⟨by omega, by omega⟩ (needJ (by omega) (nxt1 y b hr (by rw [hR, if_neg (by rw [hc]; simp), if_neg (by rw [hb]; simp)]; simp)))
    rw [if_pos hc] at hR
    have ce : ∀ {A C : Prop}, (x = y → A) → (x ≠ y → C) → condP (x == y) A C := fun {A C} h1 h2 => condB (fun h => h1 (beq_iff_eq.1 h)) fun h => h2 (beq_eq_false_iff_ne.1 h)
    refine ce (fun he => ?_) fun hne => needJ ⟨by omega, by omega⟩ (needJ (by omega) ?_)
    · rw [if_pos he] at hR
      exact nxt1 x true (by rw [hb] at hr; simp at hr ⊢; omega) (by rw [hR, if_pos rfl]; simp)
    · rw [if_neg hne] at hR
      rw [succ64 (by omega)]
      have := ih (i + 1) ((r ++ [x]) ++ [y]) true (by omega) (by rw [hb] at hr; simp at hr ⊢; omega) (by rw [hR, if_pos rfl]; simp)
      refine AWP.shape [2] [(0, slL o), (1, .str (B x)), (5, .sl 1 (.map encL [] ((r ++ [x]) ++ [y])) (.tok 0)), (6, .bool true), (7, .int .i64 (i + 1 : Nat))] [.tok] (Sel.mk0 (by decide) ⟨rfl, trivial⟩)
        ⟨rfl, slLL _ _, rfl, Le.refl _, rfl, ?_, rfl, Le.refl _, rfl, Le.refl _, trivial⟩ this
      exact Le.sl (s' := Seq.ren _ (.map encL [] ((r ++ [x]) ++ [y]))) (by simp [Ab.Seq.toList, Seq.ren, renLL]; exact ⟨rfl, rfl⟩) (.inl rfl) (.inl rfl)

theorem add_spec (o : List Nm) (x : Nm) (hl : o.length ≤ 1000000) (H : List AObj) : ASpec Try.prog 129 [slL o, .str (B x)] H (fun r H' => r = slL (addM x o) ∧ H' = H) := by
  have k : ASpec Try.prog 129 [slL o, .str (B x)] [] (fun r H' => r = slL (addM x o) ∧ H' = []) := by
    refine ASpec.sel (s129 _ _ _ ?_)
    refine AWP.re (ReSt.tok (k := 5) (q' := .map encL [] []) (sz' := 1) (s2 := [(0, slL o), (1, .str (B x)), (5, .sl 1 (.map encL [] []) (.tok 0)), (6, .bool false), (7, .int .i64 (0 : Nat))]) rfl (.inl rfl) rfl (.inr rfl) (fun d hd => ?_) rfl) ?_
    · simp only [Ab.get]
      have e : Nat.beq 5 d = false := by
        cases hx : Nat.beq 5 d with
        | false => rfl
        | true => exact absurd (Nat.eq_of_beq_eq_true hx).symm hd
      rw [e]; rfl
    · exact add4 hl o.length 0 [] false (by omega) (by simp) rfl
  exact ASpec.pureH H k _ _ rfl rfl
/-! ### Leaves -/

/-- the names that a proof reads of, as they come -/
def lvF : List St → List Nm
  | [] => []
  | x :: r => if x.1 = 2 ∨ x.1 = 3 then x.2.1 :: lvF r else lvF r
def leavesM (l : List St) : List Nm := addAll (lvF l) []
theorem lvF_len : ∀ l, (lvF l).length ≤ l.length
  | [] => Nat.le_refl _
  | x :: r => by
    have := lvF_len r
    simp only [lvF]; split <;> simp <;> omega
theorem leavesM_len (l : List St) : (leavesM l).length ≤ l.length := by
  have h1 := addAll_len (lvF l) (o := [])
  have h2 := lvF_len l
  unfold leavesM; simp at h1; omega

theorem rleaves3 {l : List St} (hl : l.length ≤ 500000) {R : List Nm} : ∀ (m i : Nat) (o : List Nm), m + i = l.length → o.length ≤ i → addAll (lvF (l.drop i)) o = R →
    AWP Try.prog 33 0 c128_3 [(0, slP l), (3, slL o), (4, .int .i64 i)] [] (q128_2 0 (PA (slL R))) := by
  intro m
  induction m with
  | zero =>
    intro i o hm ho hR
    rw [List.drop_eq_nil_of_le (by omega)] at hR
    subst hR
    exact v128_3 _ _ _ _ _ (condD (fun h => by omega) fun _ => pa (slLL _ _))
  | succ m ih =>
    intro i o hm ho hR
    rw [dropD l noSt i (by omega)] at hR
    simp only [lvF] at hR
    refine v128_3 _ _ _ _ _ (condD (fun _ => needJ ⟨by omega, by omega⟩ ?_) fun h => by omega)
    rw [Int.toNat_natCast, succ64 (by omega)]
    generalize l.getD i noSt = x at hR ⊢
    have put : x.1 = 2 ∨ x.1 = 3 → ASpec Try.prog 129 [slL o, .str (B x.2.1)] [] (fun r H' => ∃ y : List Nm, r = slL y ∧ H' = [] ∧ AWP Try.prog 33 0 c128_3 [(0, slP l), (3, slL y), (4, .int .i64 (i + 1 : Nat))] [] (q128_2 0 (PA (slL R)))) := by
      intro hk
      rw [if_pos hk] at hR
      refine (add_spec o x.2.1 (by omega) []).mono fun r H' hh => ⟨addM x.2.1 o, hh.1, hh.2, ?_⟩
      have h2 := addAll_len [x.2.1] (o := o)
      exact ih (i + 1) _ (by omega) (by simp [addAll] at h2; omega) hR
    have skip : ¬ (x.1 = 2 ∨ x.1 = 3) → AWP Try.prog 33 0 c128_3 [(0, slP l), (3, slL o), (4, .int .i64 (i + 1 : Nat))] [] (q128_2 0 (PA (slL R))) := by
      intro hk
      rw [if_neg hk] at hR
      exact ih (i + 1) o (by omega) (by omega) hR
    exact condE (fun k2 => needJ ⟨by omega, by omega⟩ (put (.inl k2))) fun k2 => needJ ⟨by omega, by omega⟩ (condE (fun k3 => needJ ⟨by omega, by omega⟩ (put (.inr k3))) fun k3 => skip (fun h => h.elim k2 k3))

theorem rleaves_spec (l : List St) (hl : l.length ≤ 500000) (H : List AObj) : ASpec Try.prog 128 [slP l] H (fun r H' => r = slL (leavesM l) ∧ H' = H) := by
  have k : ASpec Try.prog 128 [slP l] [] (fun r H' => r = slL (leavesM l) ∧ H' = []) := by
    refine ASpec.sel (s128 _ _ ?_)
    exact AWP.shape [] [(0, slP l), (3, slL []), (4, .int .i64 (0 : Nat))] [] Sel.none ⟨rfl, slLe _ _, rfl, nilLL, rfl, Le.refl _, trivial⟩ (rleaves3 hl l.length 0 [] (by omega) (by simp) rfl)
  exact ASpec.pureH H k _ _ rfl rfl

abbrev PLv (R : List Nm) : AV → List AObj → Prop := fun r H' => (r = .sl 0 (.raw []) .nil ∧ H' = [] ∧ R = []) ∨ (r = .msl 1 0 0 R.length ∧ H' = [arL R])

theorem leaves8 {n : Nat} {o R : List Nm} (ho : o.length ≤ 1000000) (hR : compM (So.sortL o) = R) : AWP Try.prog 30 n c127_8 [(3, .msl 1 0 0 o.length)] [arL o] (q127_0 n (PLv R)) := by
  refine v127_8m _ _ _ ((So.sort_spec (l := o) (id := 0) rfl rfl (by omega)).mono fun r H' hh => .inr ⟨So.sortL o, hh.1, hh.2, ?_⟩)
  have el := sort_len o
  have key := v127_9m (So.sortL o) n (PLv R)
  rw [el] at key
  refine key ?_
  have := comp_spec (So.sortL o) (by omega)
  rw [el] at this
  refine this.mono fun r H' hh => .inr ⟨compM (So.sortL o), hh.1, hh.2, .inr ?_⟩
  rw [hR]; exact ⟨rfl, rfl⟩

theorem leaves8n {n : Nat} : AWP Try.prog 30 n c127_8 [(3, .sl 0 (.raw []) .nil)] [] (q127_0 n (PLv [])) := by
  refine v127_8n _ _ (So.sort_nil.mono fun r H' hh => .inl ⟨(), hh.1, hh.2, ?_⟩)
  exact v127_9n _ _ (comp_nil.mono fun r H' hh => .inl ⟨(), hh.1, hh.2, .inl ⟨rfl, rfl, rfl⟩⟩)

section
variable {l : List St} (hl : l.length ≤ 500000)
include hl

theorem leaves3m {R : List Nm} : ∀ (m i : Nat) (o : List Nm), m + i = l.length → o.length ≤ i → compM (So.sortL (o ++ lvF (l.drop i))) = R →
    AWP Try.prog 30 0 c127_3 [(3, .msl 1 0 0 o.length), (6, slP l), (7, .int .i64 l.length), (8, .int .i64 i)] [arL o] (q127_2 0 (PLv R)) := by
  intro m
  induction m with
  | zero =>
    intro i o hm ho hR
    rw [List.drop_eq_nil_of_le (by omega)] at hR
    simp only [lvF, List.append_nil] at hR
    exact v127_3m _ _ _ _ _ _ (condD (fun h => by omega) fun _ => leaves8 (by omega) hR)
  | succ m ih =>
    intro i o hm ho hR
    rw [dropD l noSt i (by omega)] at hR
    simp only [lvF] at hR
    refine v127_3m _ _ _ _ _ _ (condD (fun _ => needJ ⟨by omega, by omega⟩ ?_) fun h => by omega)
    rw [Int.toNat_natCast, succ64 (by omega)]
    generalize l.getD i noSt = x at hR ⊢
    have put : x.1 = 2 ∨ x.1 = 3 → AWP Try.prog 30 0 c127_3 [(3, .msl 1 2 0 (o.length + 1)), (6, slP l), (7, .int .i64 l.length), (8, .int .i64 (i + 1 : Nat))]
        [.gone, .cells (encSt x), .arr 1 (.app (.map encL [] o) (.raw [[.str (B x.2.1)]]))] (q127_2 0 (PLv R)) := by
      intro hk
      rw [if_pos hk] at hR
      have := ih (i + 1) (o ++ [x.2.1]) (by omega) (by simp; omega) (by rw [List.append_assoc]; exact hR)
      refine AWP.re (ReSt.arr (id := 2) (q := _) (q' := .map encL [] (o ++ [x.2.1])) rfl (by simp [Seq.toList]; rfl)) ?_
      rw [show (o ++ [x.2.1]).length = o.length + 1 by simp] at this
      exact AWP.shape [2] [(3, .msl 1 0 0 (o.length + 1)), (6, slP l), (7, .int .i64 l.length), (8, .int .i64 (i + 1 : Nat))] [arL (o ++ [x.2.1])] (Sel.mk0 (by decide) ⟨rfl, trivial⟩)
        ⟨rfl, Le.refl _, rfl, slLe _ _, rfl, Le.refl _, rfl, Le.refl _, trivial⟩ this
    have skip : ¬ (x.1 = 2 ∨ x.1 = 3) → AWP Try.prog 30 0 c127_3 [(3, .msl 1 0 0 o.length), (6, slP l), (7, .int .i64 l.length), (8, .int .i64 (i + 1 : Nat))] [arL o, .cells (encSt x)] (q127_2 0 (PLv R)) := by
      intro hk
      rw [if_neg hk] at hR
      exact AWP.shape [0] [(3, .msl 1 0 0 o.length), (6, slP l), (7, .int .i64 l.length), (8, .int .i64 (i + 1 : Nat))] [arL o] (Sel.mk0 (by decide) ⟨rfl, trivial⟩)
        ⟨rfl, Le.refl _, rfl, slLe _ _, rfl, Le.refl _, rfl, Le.refl _, trivial⟩ (ih (i + 1) o (by omega) (by omega) hR)
    exact condE (fun k2 => needJ ⟨rfl, by omega⟩ (put (.inl k2))) fun k2 => condE (fun k3 => needJ ⟨rfl, by omega⟩ (put (.inr k3))) fun k3 => skip (fun h => h.elim k2 k3)

theorem leaves3n {R : List Nm} : ∀ (m i : Nat), m + i = l.length → compM (So.sortL (lvF (l.drop i))) = R →
    AWP Try.prog 30 0 c127_3 [(3, .sl 0 (.raw []) .nil), (6, slP l), (7, .int .i64 l.length), (8, .int .i64 i)] [] (q127_2 0 (PLv R)) := by
  intro m
  induction m with
  | zero =>
    intro i hm hR
    rw [List.drop_eq_nil_of_le (by omega)] at hR
    have : R = [] := by rw [← hR]; simp [lvF, So.sortL, compM]
    subst this
    exact v127_3n _ _ _ _ _ (condD (fun h => by omega) fun _ => leaves8n)
  | succ m ih =>
    intro i hm hR
    rw [dropD l noSt i (by omega)] at hR
    simp only [lvF] at hR
    refine v127_3n _ _ _ _ _ (condD (fun _ => needJ ⟨by omega, by omega⟩ ?_) fun h => by omega)
    rw [Int.toNat_natCast, succ64 (by omega)]
    generalize l.getD i noSt = x at hR ⊢
    have put : x.1 = 2 ∨ x.1 = 3 → AWP Try.prog 30 0 c127_3 [(3, .msl 1 1 0 1), (6, slP l), (7, .int .i64 l.length), (8, .int .i64 (i + 1 : Nat))]
        [.cells (encSt x), .arr 1 (.raw [[.str (B x.2.1)]])] (q127_2 0 (PLv R)) := by
      intro hk
      rw [if_pos hk] at hR
      have := leaves3m hl m (i + 1) [x.2.1] (by omega) (by simp) hR
      refine AWP.re (ReSt.arr (id := 1) (q := _) (q' := .map encL [] [x.2.1]) rfl rfl) ?_
      exact AWP.shape [1] [(3, .msl 1 0 0 1), (6, slP l), (7, .int .i64 l.length), (8, .int .i64 (i + 1 : Nat))] [arL [x.2.1]] (Sel.mk0 (by decide) ⟨rfl, trivial⟩)
        ⟨rfl, Le.refl _, rfl, slLe _ _, rfl, Le.refl _, rfl, Le.refl _, trivial⟩ this
    have skip : ¬ (x.1 = 2 ∨ x.1 = 3) → AWP Try.prog 30 0 c127_3 [(3, .sl 0 (.raw []) .nil), (6, slP l), (7, .int .i64 l.length), (8, .int .i64 (i + 1 : Nat))] [.cells (encSt x)] (q127_2 0 (PLv R)) := by
      intro hk
      rw [if_neg hk] at hR
      exact AWP.shape [] [(3, .sl 0 (.raw []) .nil), (6, slP l), (7, .int .i64 l.length), (8, .int .i64 (i + 1 : Nat))] [] (Sel.mk0 (by decide) trivial)
        ⟨rfl, Le.refl _, rfl, slLe _ _, rfl, Le.refl _, rfl, Le.refl _, trivial⟩ (ih (i + 1) (by omega) hR)
    exact condE (fun k2 => needJ (by omega) (needJ (by omega) (put (.inl k2)))) fun k2 => condE (fun k3 => needJ (by omega) (needJ (by omega) (put (.inr k3)))) fun k3 => skip (fun h => h.elim k2 k3)
end

theorem leaves_spec (l : List St) (hl : l.length ≤ 500000) (H : List AObj) : ASpec Try.prog 127 [slP l] H (fun r H' => r = slL (leavesM l) ∧ H' = H) := by
  have k : ASpec Try.prog 127 [slP l] [] (PLv (leavesM l)) := by
    refine s127 _ _ ?_
    exact leaves3n hl l.length 0 (by omega) (by rw [List.drop_zero, comp_sort]; rfl)
  have k2 : ASpec Try.prog 127 [slP l] [] (fun r H' => r = slL (leavesM l) ∧ H' = []) := by
    refine ASpec.sel (ASpec.reEnd (k.mono fun r H' hh => ?_))
    rcases hh with ⟨e1, e2, e3⟩ | ⟨e1, e2⟩
    · subst e1 e2
      rw [e3]
      exact ⟨_, _, ReSt.refl _ _, pa nilLL⟩
    · subst e1 e2
      exact ⟨_, _, ReSt.freeze1 (q' := .map encL [] (leavesM l)) rfl (Nat.zero_le _) (by simp [Seq.toList]) (by simp only [Seq.toList]; rw [List.take_of_length_le (by simp)]), pa (slLL _ _)⟩
  exact ASpec.pureH H k2 _ _ rfl rfl

/-! ### Same -/

theorem eqS4 {a b : List St} {c : Bool} (hl : a.length ≤ 2000000) (he : a.length = b.length) : ∀ (m i : Nat), m + i = a.length → decide (a.drop i = b.drop i) = c →
    AWP Try.prog 26 0 c227_4 [(0, slP a), (1, slP b), (12, .int .i64 a.length), (13, .int .i64 i)] [] (q227_2 0 (PB c)) := by
  intro m
  induction m with
  | zero =>
    intro i hm h
    refine v227_4 _ _ _ _ _ _ (condD (fun hc => by omega) fun _ => pb ?_)
    rw [List.drop_eq_nil_of_le (by omega), List.drop_eq_nil_of_le (by omega)] at h
    rw [← h]; simp
  | succ m ih =>
    intro i hm h
    rw [dropD a noSt i (by omega), dropD b noSt i (by omega), W.cons_dec] at h
    refine v227_4 _ _ _ _ _ _ (condD (fun hc => needJ ⟨by omega, by omega⟩ (needJ ⟨by omega, by omega⟩ ?_)) fun hc => by omega)
    rw [Int.toNat_natCast]
    generalize a.getD i noSt = x at h ⊢
    generalize b.getD i noSt = y at h ⊢
    rw [B_beq, B_beq]
    have e : (x.1 == y.1 && (x.2.1 == y.2.1 && (x.2.2.1 == y.2.2.1 && (x.2.2.2.1 == y.2.2.2.1 && (x.2.2.2.2.1 == y.2.2.2.2.1 && (x.2.2.2.2.2 == y.2.2.2.2.2 && true)))))) = decide (x = y) := by
      rw [Bool.eq_iff_iff]
      simp only [Bool.and_eq_true, beq_iff_eq, decide_eq_true_eq, Prod.ext_iff, and_true]
    refine condBn (fun h1 => pb ?_) fun h1 => ?_
    · have h2 : decide (x = y) = false := by rw [← e]; simpa using h1
      rw [h2] at h; exact h
    · have h2 : decide (x = y) = true := by rw [← e]; simpa using h1
      rw [h2, Bool.true_and] at h
      rw [succ64 (by omega)]
      exact ih (i + 1) (by omega) h

theorem eqS_spec (a b : List St) (hl : a.length ≤ 2000000) (H : List AObj) : ASpec Try.prog 227 [slP a, slP b] H (fun r H' => r = .bool (decide (a = b)) ∧ H' = H) := by
  have k : ASpec Try.prog 227 [slP a, slP b] [] (fun r H' => r = .bool (decide (a = b)) ∧ H' = []) := by
    refine ASpec.sel (s227 _ _ _ (condNe (fun h => pb ?_) fun h => eqS4 hl (by omega) a.length 0 (by omega) (by simp)))
    rw [eq_comm, decide_eq_false_iff_not]
    intro e; subst e; exact h rfl
  exact ASpec.pureH H k _ _ rfl rfl
theorem same_spec (a b : List St) (hl : a.length ≤ 2000000) (H : List AObj) : ASpec Try.prog 124 [slP a, slP b] H (fun r H' => r = .bool (decide (a = b)) ∧ H' = H) :=
  ASpec.pureH H (ASpec.sel (s124 _ _ _ (ASpec.call (eqS_spec a b hl _) (Les.refl _) ⟨_, rfl, rfl, pb rfl⟩))) _ _ rfl rfl
end Pl
end

section
/- ProofTells: the document's trim is the program's, and the law: it returns true. -/

set_option linter.unusedVariables false
set_option linter.unusedSimpArgs false
set_option maxRecDepth 100000
open Go Go.Ab Go.Proofs V S T C
open E (PA pa)
open Pr (slP slLe renSt markS markF usedM reSt trF trimM okJ okJ_of markS_len markF_len usedM_len encBo_set checkM checkM_may largeM large_spec largeM_ok okS check_spec trim_spec awake_spec)
namespace Pl

/-! ### the document's -/

/-! ### they are one -/

theorem markS_at (x : St) (u : List Bool) (k : Nat) (h : k ≠ x.2.2.2.2.1.toNat) (h2 : k ≠ x.2.2.2.2.2.toNat) : (markS x u).getD k false = u.getD k false := by
  simp only [markS, List.getD_eq_getElem?_getD]
  rw [List.getElem?_set_ne (fun e => h2 e.symm), List.getElem?_set_ne (fun e => h e.symm)]
theorem setT (u : List Bool) (k j : Nat) (h : u.getD k false = true) : (u.set j true).getD k false = true := by
  have hk : k < u.length := by
    by_cases hk : k < u.length
    · exact hk
    · rw [List.getD_eq_getElem?_getD, List.getElem?_eq_none (by omega)] at h; simp at h
  rw [List.getD_eq_getElem?_getD, List.getElem?_set]
  split
  · split <;> simp <;> omega
  · rw [← List.getD_eq_getElem?_getD]; exact h
theorem setT2 (u : List Bool) (k : Nat) (h : k < u.length) : (u.set k true).getD k false = true := by
  rw [List.getD_eq_getElem?_getD, List.getElem?_set_self h]; rfl
theorem markS_mono {x : St} {u : List Bool} {k : Nat} (h : u.getD k false = true) : (markS x u).getD k false = true := setT _ _ _ (setT _ _ _ h)

theorem markF_mono (l : List St) : ∀ (i : Nat) (u : List Bool) (k : Nat), u.getD k false = true → (markF l i u).getD k false = true
  | 0, u, k, h => h
  | i + 1, u, k, h => by
    simp only [markF]
    refine markF_mono l i _ k ?_
    split
    · exact markS_mono h
    · exact h

theorem markF_far {l : List St} (hj : okJ l) : ∀ (i : Nat) (u : List Bool) (k : Nat), i ≤ l.length → i ≤ k + 1 → (markF l i u).getD k false = u.getD k false
  | 0, u, k, _, _ => rfl
  | i + 1, u, k, hi, hk => by
    simp only [markF]
    rw [markF_far hj i _ k (by omega) (by omega)]
    split
    · rename_i h
      obtain ⟨j1, j2, j3, j4⟩ := hj i (by omega) h.2
      exact markS_at _ _ _ (by omega) (by omega)
    · rfl

theorem markF_closed {l : List St} (hj : okJ l) : ∀ (i : Nat) (u : List Bool), i ≤ l.length → u.length = l.length → ∀ j, j < i → (markF l i u).getD j false = true → (l.getD j noSt).1 = 4 →
    (markF l i u).getD (l.getD j noSt).2.2.2.2.1.toNat false = true ∧ (markF l i u).getD (l.getD j noSt).2.2.2.2.2.toNat false = true
  | 0, _, _, _, j, h, _, _ => absurd h (Nat.not_lt_zero _)
  | i + 1, u, hi, hu, j, h, hm, k4 => by
    simp only [markF] at hm ⊢
    have hul : (if u.getD i false = true ∧ (l.getD i noSt).1 = 4 then markS (l.getD i noSt) u else u).length = l.length := by split <;> simp [markS_len, hu]
    by_cases e : j < i
    · exact markF_closed hj i _ (by omega) hul j e hm k4
    · have : j = i := by omega
      subst this
      obtain ⟨j1, j2, j3, j4⟩ := hj j (by omega) k4
      rw [markF_far hj j _ j (by omega) (by omega)] at hm
      have hmu : u.getD j false = true := by
        split at hm
        · rw [markS_at _ _ _ (by omega) (by omega)] at hm; exact hm
        · exact hm
      rw [if_pos ⟨hmu, k4⟩]
      refine ⟨markF_mono _ _ _ _ ?_, markF_mono _ _ _ _ ?_⟩
      · exact setT _ _ _ (setT2 _ _ (by omega))
      · exact setT2 _ _ (by rw [List.length_set]; omega)

theorem used_closed {l : List St} (hj : okJ l) {i : Nat} (hi : i < l.length) (h : (usedM l).getD i false = true) (k4 : (l.getD i noSt).1 = 4) :
    (usedM l).getD (l.getD i noSt).2.2.2.2.1.toNat false = true ∧ (usedM l).getD (l.getD i noSt).2.2.2.2.2.toNat false = true :=
  markF_closed hj l.length _ (Nat.le_refl _) (by simp) i hi h k4

theorem trF_len (u : List Bool) : ∀ (l : List St) (i : Nat) (t : List Int) (out : List St), (trF u i l t out).length ≤ l.length + out.length
  | [], i, t, out => by simp [trF]
  | x :: r, i, t, out => by
    simp only [trF]
    split
    · have := trF_len u r (i + 1) (t.set i out.length) (out ++ [reSt x t]); simp at this ⊢; omega
    · have := trF_len u r (i + 1) t out; simp at this ⊢; omega
theorem trimM_len (l : List St) : (trimM l).length ≤ l.length := by have := trF_len (usedM l) l 0 (List.replicate l.length 0) []; simpa [trimM] using this

/-! ### the law -/

end Pl
end

section
/- What is left of a proof that is trimmed, is trimmed: the plain law. -/

set_option linter.unusedVariables false
set_option linter.unusedSimpArgs false
open Go Go.Ab Go.Proofs V S T C
open Pr (markS markF usedM reSt trF trimM okJ okJ_of markS_len markF_len usedM_len checkM checkM_may chkF chkF_at mayM)
namespace Pl

def usN (u : List Bool) (n : Nat) : List Nat := (List.range n).filter fun i => u.getD i false
def cnt (u : List Bool) (i : Nat) : Nat := (usN u i).length
def reC (u : List Bool) (x : St) : St := if x.1 = 4 then (x.1, x.2.1, x.2.2.1, x.2.2.2.1, (cnt u x.2.2.2.2.1.toNat : Int), (cnt u x.2.2.2.2.2.toNat : Int)) else x

theorem usN_succ (u : List Bool) (n : Nat) : usN u (n + 1) = usN u n ++ (if u.getD n false = true then [n] else []) := by
  unfold usN
  rw [List.range_succ, List.filter_append]
  congr 1
  by_cases h : u.getD n false = true
  · rw [if_pos h]; simp only [List.filter_cons, h, if_true, List.filter_nil]
  · rw [if_neg h]; simp only [List.filter_cons, h]; rfl
theorem usN_get {u : List Bool} {i : Nat} : ∀ {n : Nat}, i < n → u.getD i false = true → (usN u n)[cnt u i]? = some i
  | 0, h, _ => absurd h (Nat.not_lt_zero _)
  | n + 1, h, hu => by
    rw [usN_succ]
    by_cases e : i = n
    · subst e
      rw [if_pos hu]
      unfold cnt
      simp
    · have := usN_get (n := n) (by omega) hu
      have hl : cnt u i < (usN u n).length := (List.getElem?_eq_some_iff.1 this).1
      rw [List.getElem?_append_left hl]; exact this
theorem usN_inv {u : List Bool} {k : Nat} : ∀ {n : Nat}, k < (usN u n).length → ∃ i, i < n ∧ u.getD i false = true ∧ cnt u i = k
  | 0, h => by simp [usN] at h
  | n + 1, h => by
    rw [usN_succ, List.length_append] at h
    by_cases hk : k < (usN u n).length
    · obtain ⟨i, h1, h2, h3⟩ := usN_inv (n := n) hk
      exact ⟨i, by omega, h2, h3⟩
    · by_cases hu : u.getD n false = true
      · rw [if_pos hu] at h
        simp at h
        exact ⟨n, by omega, hu, by unfold cnt; omega⟩
      · rw [if_neg hu] at h
        simp at h; omega
theorem cnt_lt {u : List Bool} {i j : Nat} (h : i < j) (hu : u.getD i false = true) : cnt u i < cnt u j :=
  (List.getElem?_eq_some_iff.1 (usN_get h hu)).1

/-- what is left, told by numbers -/
theorem trF_map {l : List St} (hj : okJ l) {u : List Bool} (hc : ∀ i, i < l.length → u.getD i false = true → (l.getD i noSt).1 = 4 → u.getD (l.getD i noSt).2.2.2.2.1.toNat false = true ∧ u.getD (l.getD i noSt).2.2.2.2.2.toNat false = true) :
    ∀ (m i : Nat) (t : List Int) (out : List St), m + i = l.length → t.length = l.length → out = (usN u i).map (fun k => reC u (l.getD k noSt)) → (∀ k, k < i → u.getD k false = true → t.getD k 0 = cnt u k) →
      trF u i (l.drop i) t out = (usN u l.length).map fun k => reC u (l.getD k noSt) := by
  intro m
  induction m with
  | zero =>
    intro i t out hm ht ho _
    rw [List.drop_eq_nil_of_le (by omega)]
    have : i = l.length := by omega
    subst this
    exact ho
  | succ m ih =>
    intro i t out hm ht ho hk
    rw [dropD l noSt i (by omega)]
    simp only [trF]
    by_cases hb : u.getD i false = true
    · rw [if_pos hb]
      refine ih (i + 1) _ _ (by omega) (by simp [ht]) ?_ ?_
      · rw [usN_succ, if_pos hb, List.map_append, ho]
        congr 1
        show [_] = [_]
        congr 1
        show reSt (l.getD i noSt) t = reC u (l.getD i noSt)
        unfold reSt reC
        by_cases k4 : (l.getD i noSt).1 = 4
        · obtain ⟨j1, j2, j3, j4⟩ := hj i (by omega) k4
          obtain ⟨u1, u2⟩ := hc i (by omega) hb k4
          rw [if_pos k4, if_pos k4, hk _ (by omega) u1, hk _ (by omega) u2]
        · rw [if_neg k4, if_neg k4]
      · intro k hki hu
        have hol : out.length = cnt u i := by rw [ho, List.length_map]; rfl
        rw [List.getD_eq_getElem?_getD, List.getElem?_set]
        by_cases e : i = k
        · subst e
          rw [if_pos rfl, if_pos (by omega), hol]; rfl
        · rw [if_neg e, ← List.getD_eq_getElem?_getD]
          exact hk k (by omega) hu
    · rw [if_neg hb]
      refine ih (i + 1) _ _ (by omega) ht ?_ ?_
      · rw [usN_succ, if_neg hb, List.append_nil]; exact ho
      · intro k hki hu
        by_cases e : k = i
        · subst e; exact (hb hu).elim
        · exact hk k (by omega) hu

theorem trim_map {l : List St} (hc : checkM l = true) : trimM l = (usN (usedM l) l.length).map fun k => reC (usedM l) (l.getD k noSt) :=
  trF_map (okJ_of hc) (fun i hi h k4 => used_closed (okJ_of hc) hi h k4) l.length 0 _ [] (by omega) (by simp) (by simp [usN]) (fun k hk => absurd hk (Nat.not_lt_zero _))

theorem trim_at {l : List St} (hc : checkM l = true) {i : Nat} (hi : i < l.length) (hu : (usedM l).getD i false = true) : (trimM l).getD (cnt (usedM l) i) noSt = reC (usedM l) (l.getD i noSt) := by
  rw [trim_map hc, List.getD_eq_getElem?_getD, List.getElem?_map, usN_get hi hu]
  rfl
theorem trim_len {l : List St} (hc : checkM l = true) : (trimM l).length = cnt (usedM l) l.length := by
  rw [trim_map hc, List.length_map]; rfl
theorem trim_inv {l : List St} (hc : checkM l = true) {k : Nat} (hk : k < (trimM l).length) : ∃ i, i < l.length ∧ (usedM l).getD i false = true ∧ cnt (usedM l) i = k := by
  rw [trim_len hc] at hk
  exact usN_inv hk

theorem used_last {l : List St} (hl : 1 ≤ l.length) : (usedM l).getD (l.length - 1) false = true :=
  markF_mono l _ _ _ (setT2 _ _ (by simp; omega))

theorem chkF_of : ∀ (l : List St) (k : Nat), (∀ i, i < l.length → mayM (l.getD i noSt) ((k + i : Nat) : Int) = true) → chkF k l = true
  | [], _, _ => rfl
  | x :: r, k, h => by
    simp only [chkF, Bool.and_eq_true]
    refine ⟨by have := h 0 (by simp); simpa using this, chkF_of r (k + 1) fun i hi => ?_⟩
    have := h (i + 1) (by simp; omega)
    rw [show k + (i + 1) = k + 1 + i by omega] at this
    exact this

theorem reC_kind (u : List Bool) (x : St) : (reC u x).1 = x.1 ∧ (reC u x).2.1 = x.2.1 ∧ (reC u x).2.2.1 = x.2.2.1 ∧ (reC u x).2.2.2.1 = x.2.2.2.1 := by
  unfold reC; split <;> exact ⟨rfl, rfl, rfl, rfl⟩

theorem may_reC {u : List Bool} {x : St} {i : Nat} (h : mayM x (i : Int) = true) (hu : u.getD i false = true) (hc : x.1 = 4 → u.getD x.2.2.2.2.1.toNat false = true ∧ u.getD x.2.2.2.2.2.toNat false = true) : mayM (reC u x) (cnt u i : Int) = true := by
  by_cases k4 : x.1 = 4
  · obtain ⟨u1, u2⟩ := hc k4
    obtain ⟨k, n, v, to, a, b⟩ := x
    simp only at k4
    subst k4
    simp only [mayM, Bool.and_eq_true] at h
    obtain ⟨h1, h2⟩ := h
    rw [if_neg (by decide), if_neg (by decide), if_pos trivial] at h2
    obtain ⟨e1, e2, a1, a2, b1, b2⟩ := of_decide_eq_true h2
    have e : reC u (4, n, v, to, a, b) = (4, n, v, to, (cnt u a.toNat : Int), (cnt u b.toNat : Int)) := rfl
    rw [e]
    simp only [mayM, Bool.and_eq_true]
    refine ⟨h1, ?_⟩
    rw [if_neg (by decide), if_neg (by decide), if_pos trivial]
    refine decide_eq_true ⟨e1, e2, by simp, ?_, by simp, ?_⟩
    · have := cnt_lt (j := i) (show a.toNat < i by omega) u1
      omega
    · have := cnt_lt (j := i) (show b.toNat < i by omega) u2
      omega
  · have e : reC u x = x := by unfold reC; rw [if_neg k4]
    rw [e]
    unfold mayM at h ⊢
    simp only [if_neg k4] at h ⊢
    exact h

theorem trim_check {l : List St} (hc : checkM l = true) : checkM (trimM l) = true := by
  obtain ⟨h1, h2, _⟩ := checkM_may hc
  have hn := trimM_len l
  have hu := used_last h1
  have hlt := cnt_lt (u := usedM l) (show l.length - 1 < l.length by omega) hu
  unfold checkM
  rw [Bool.and_eq_true]
  refine ⟨decide_eq_true ⟨by rw [trim_len hc]; omega, by omega⟩, chkF_of _ _ fun k hk => ?_⟩
  obtain ⟨i, i1, i2, i3⟩ := trim_inv hc hk
  subst i3
  rw [trim_at hc i1 i2, Nat.zero_add]
  refine may_reC ?_ i2 fun k4 => used_closed (okJ_of hc) i1 i2 k4
  unfold checkM at hc
  rw [Bool.and_eq_true] at hc
  have := chkF_at l 0 hc.2 i i1
  rw [Nat.zero_add] at this; exact this

theorem markF_why {l : List St} : ∀ (i : Nat) (u : List Bool) (k : Nat), (markF l i u).getD k false = true → u.getD k false = true ∨
    ∃ j, j < i ∧ (markF l i u).getD j false = true ∧ (l.getD j noSt).1 = 4 ∧ ((l.getD j noSt).2.2.2.2.1.toNat = k ∨ (l.getD j noSt).2.2.2.2.2.toNat = k)
  | 0, u, k, h => .inl h
  | i + 1, u, k, h => by
    simp only [markF] at h ⊢
    rcases markF_why i _ k h with h1 | ⟨j, h1, h2, h3, h4⟩
    · split at h1
      · rename_i hb
        by_cases e : (l.getD i noSt).2.2.2.2.1.toNat = k ∨ (l.getD i noSt).2.2.2.2.2.toNat = k
        · refine .inr ⟨i, by omega, ?_, hb.2, e⟩
          rw [if_pos hb]
          exact markF_mono _ _ _ _ (markS_mono hb.1)
        · rw [markS_at _ _ _ (fun q => e (.inl q.symm)) (fun q => e (.inr q.symm))] at h1
          exact .inl h1
      · exact .inl h1
    · exact .inr ⟨j, by omega, h2, h3, h4⟩

theorem used_why {l : List St} (hj : okJ l) {k : Nat} (hk : k < l.length) (h : (usedM l).getD k false = true) : k = l.length - 1 ∨
    ∃ j, k < j ∧ j < l.length ∧ (usedM l).getD j false = true ∧ (l.getD j noSt).1 = 4 ∧ ((l.getD j noSt).2.2.2.2.1.toNat = k ∨ (l.getD j noSt).2.2.2.2.2.toNat = k) := by
  rcases markF_why _ _ k h with h1 | ⟨j, h1, h2, h3, h4⟩
  · left
    rw [List.getD_eq_getElem?_getD, List.getElem?_set] at h1
    split at h1
    · rename_i e; exact e.symm
    · rw [List.getElem?_replicate] at h1
      split at h1 <;> simp at h1
  · right
    obtain ⟨j1, j2, j3, j4⟩ := hj j h1 h3
    exact ⟨j, by omega, h1, h2, h3, h4⟩

theorem trim_all {l : List St} (hc : checkM l = true) : ∀ (m i : Nat), m + i = l.length → i < l.length → (usedM l).getD i false = true → (usedM (trimM l)).getD (cnt (usedM l) i) false = true := by
  obtain ⟨h1, h2, _⟩ := checkM_may hc
  have ht := trim_check hc
  obtain ⟨t1, _, _⟩ := checkM_may ht
  intro m
  induction m using Nat.strongRecOn with
  | ind m ih =>
    intro i hm hi hu
    rcases used_why (okJ_of hc) hi hu with e | ⟨j, j1, j2, j3, j4, j5⟩
    · have hs : cnt (usedM l) l.length = cnt (usedM l) i + 1 := by
        have := usN_succ (usedM l) i
        rw [if_pos hu] at this
        rw [show l.length = i + 1 by omega]
        unfold cnt; rw [this]; simp
      have := used_last t1
      rw [trim_len hc, hs] at this
      simpa using this
    · have hk := ih (l.length - j) (by omega) j (by omega) j2 j3
      have hlt : cnt (usedM l) j < (trimM l).length := by rw [trim_len hc]; exact cnt_lt j2 j3
      have hcl := used_closed (okJ_of ht) hlt hk
      rw [trim_at hc j2 j3] at hcl
      have hcl := hcl (by rw [(reC_kind _ _).1]; exact j4)
      unfold reC at hcl
      rw [if_pos j4] at hcl
      simp only [Int.toNat_natCast] at hcl
      rcases j5 with e | e
      · rw [← e]; exact hcl.1
      · rw [← e]; exact hcl.2

theorem usN_all {u : List Bool} : ∀ {n : Nat}, (∀ k, k < n → u.getD k false = true) → usN u n = List.range n
  | 0, _ => rfl
  | n + 1, h => by
    rw [usN_succ, usN_all (fun k hk => h k (by omega)), if_pos (h n (by omega)), List.range_succ]

theorem trim_trim {l : List St} (hc : checkM l = true) : trimM (trimM l) = trimM l := by
  have ht := trim_check hc
  have hall : ∀ k, k < (trimM l).length → (usedM (trimM l)).getD k false = true := by
    intro k hk
    obtain ⟨i, i1, i2, i3⟩ := trim_inv hc hk
    subst i3
    exact trim_all hc (l.length - i) i (by omega) i1 i2
  have hcnt : ∀ k, k ≤ (trimM l).length → cnt (usedM (trimM l)) k = k := by
    intro k hk
    unfold cnt
    rw [usN_all (fun j hj => hall j (by omega))]; simp
  rw [trim_map ht, usN_all hall]
  refine List.ext_getElem (by simp) fun k h1 h2 => ?_
  rw [List.getElem_map, List.getElem_range]
  have e : (trimM l).getD k noSt = (trimM l)[k] := by rw [List.getD_eq_getElem?_getD, List.getElem?_eq_getElem h2]; rfl
  rw [e]
  unfold reC
  split
  · rename_i k4
    obtain ⟨j1, j2, j3, j4⟩ := okJ_of ht k h2 (by rw [e]; exact k4)
    rw [e] at j1 j2 j3 j4
    rw [hcnt _ (by omega), hcnt _ (by omega), Int.toNat_of_nonneg j1, Int.toNat_of_nonneg j3]
  · rfl

theorem trim_last {l : List St} (hc : checkM l = true) : (trimM l).getD ((trimM l).length - 1) noSt = reC (usedM l) (l.getD (l.length - 1) noSt) := by
  obtain ⟨h1, h2, _⟩ := checkM_may hc
  have hu := used_last h1
  have hs : cnt (usedM l) l.length = cnt (usedM l) (l.length - 1) + 1 := by
    have := usN_succ (usedM l) (l.length - 1)
    rw [if_pos hu, show l.length - 1 + 1 = l.length by omega] at this
    unfold cnt; rw [this]; simp
  rw [trim_len hc, hs, Nat.add_sub_cancel]
  exact trim_at hc (by omega) hu

theorem St_getD_mem {α : Type} {l : List α} {d : α} {i : Nat} (h : i < l.length) : l.getD i d ∈ l := by
  rw [List.getD_eq_getElem?_getD, List.getElem?_eq_getElem h]; exact List.getElem_mem h

theorem lvF_mem {x : Nm} : ∀ {l : List St}, x ∈ lvF l ↔ ∃ s ∈ l, (s.1 = 2 ∨ s.1 = 3) ∧ s.2.1 = x
  | [] => by simp [lvF]
  | s :: r => by
    simp only [lvF]
    have ih := lvF_mem (x := x) (l := r)
    split
    · rename_i h
      rw [List.mem_cons, ih]
      constructor
      · rintro (e | ⟨q, q1, q2⟩)
        · exact ⟨s, by simp, h, e.symm⟩
        · exact ⟨q, by simp [q1], q2⟩
      · rintro ⟨q, q1, q2, q3⟩
        rcases List.mem_cons.1 q1 with rfl | q1
        · exact .inl q3.symm
        · exact .inr ⟨q, q1, q2, q3⟩
    · rename_i h
      rw [ih]
      constructor
      · rintro ⟨q, q1, q2⟩; exact ⟨q, by simp [q1], q2⟩
      · rintro ⟨q, q1, q2, q3⟩
        rcases List.mem_cons.1 q1 with rfl | q1
        · exact (h q2).elim
        · exact ⟨q, q1, q2, q3⟩

theorem trim_leaves {l : List St} (hc : checkM l = true) {x : Nm} (h : x ∈ leavesM (trimM l)) : x ∈ leavesM l := by
  unfold leavesM at h ⊢
  rw [addAll_mem] at h ⊢
  refine .inl ?_
  rcases h with h | h
  · rw [lvF_mem] at h ⊢
    obtain ⟨s, s1, s2, s3⟩ := h
    rw [trim_map hc, List.mem_map] at s1
    obtain ⟨i, i1, rfl⟩ := s1
    have hi : i < l.length := by
      unfold usN at i1
      rw [List.mem_filter, List.mem_range] at i1
      exact i1.1
    obtain ⟨e1, e2, _⟩ := reC_kind (usedM l) (l.getD i noSt)
    refine ⟨l.getD i noSt, St_getD_mem hi, by rw [← e1]; exact s2, by rw [← e2]; exact s3⟩
  · simp at h

theorem addM_same {x : Nm} {o : List Nm} (hu : Up o) (hx : x ∈ o) : addM x o = o := by
  refine up_one (addM_up hu) hu fun y => ?_
  rw [addM_mem]
  constructor
  · rintro (rfl | h)
    · exact hx
    · exact h
  · exact .inr
theorem leaves_up (l : List St) : Up (leavesM l) := addAll_up _ (by simp [Up])
end Pl
end

section
/- ProofTrims: the law returns true, of any steps. -/

set_option linter.unusedVariables false
set_option linter.unusedSimpArgs false
set_option maxRecDepth 100000
open Go Go.Ab Go.Proofs V S T C
open E (PA pa)
open Pr (slP slLe renSt checkM checkM_may largeM large_spec largeM_ok okS check_spec trim_spec awake_spec usedM trimM)
open Dp (slL)
open Pl (s16 v16_9 v16_13 c16_9 c16_13 q16_0 q16_2)
namespace Pl

theorem trims13 {l : List St} (hc : checkM l = true) (hs : l.length ≤ 1048576) : AWP Try.prog 97 0 c16_13 [(0, slP l), (3, slP (trimM l))] [] (q16_0 0 (PB true)) := by
  have ht := trim_check hc
  obtain ⟨t1, t2, _⟩ := checkM_may ht
  obtain ⟨l1, _, _⟩ := checkM_may hc
  have e1 : (IntKind.wrap .i64 ((((trimM l).length : Nat) : Int) - 1)) = (((trimM l).length - 1 : Nat) : Int) := by rw [wrap64 (by omega) (by omega)]; omega
  have e2 : (IntKind.wrap .i64 (((l.length : Nat) : Int) - 1)) = ((l.length - 1 : Nat) : Int) := by rw [wrap64 (by omega) (by omega)]; omega
  have hlast := trim_last hc
  refine v16_13 _ _ _ _ ?_
  rw [e1, e2]
  refine needJ ⟨by omega, by omega⟩ (needJ ⟨by omega, by omega⟩ ?_)
  rw [Int.toNat_natCast, Int.toNat_natCast]
  obtain ⟨k1, k2, k3, k4⟩ := reC_kind (usedM l) (l.getD (l.length - 1) noSt)
  rw [← hlast] at k1 k2 k3 k4
  generalize (trimM l).getD ((trimM l).length - 1) noSt = a at k1 k2 k3 k4 ⊢
  generalize l.getD (l.length - 1) noSt = b at k1 k2 k3 k4 ⊢
  repeat refine ⟨⟨rfl, rfl⟩, ?_⟩
  refine condE (fun _ => condS (fun _ => condE (fun _ => condS (fun _ => ?_) fun h => (h k4).elim) fun h => (h k3).elim) fun h => (h k2).elim) fun h => (h k1).elim
  exact ASpec.call (awake_spec _) (Les.refl _) ⟨(), rfl, rfl, pb rfl⟩

theorem trims9 {l : List St} (hc : checkM l = true) (hs : l.length ≤ 500000) : ∀ (m i : Nat), m + i = (leavesM (trimM l)).length →
    AWP Try.prog 97 0 c16_9 [(0, slP l), (3, slP (trimM l)), (4, slL (leavesM l)), (5, slL (leavesM (trimM l))), (6, .int .i64 i)] [] (q16_2 0 (PB true)) := by
  have h1 := leavesM_len l
  have h2 := leavesM_len (trimM l)
  have h3 := trimM_len l
  intro m
  induction m with
  | zero =>
    intro i hm
    exact v16_9 _ _ _ _ _ _ _ (condD (fun h => by omega) fun _ => trims13 hc (by omega))
  | succ m ih =>
    intro i hm
    refine v16_9 _ _ _ _ _ _ _ (condD (fun _ => needJ ⟨by omega, by omega⟩ ?_) fun h => by omega)
    rw [Int.toNat_natCast, succ64 (by omega)]
    have hmem : (leavesM (trimM l)).getD i [] ∈ leavesM (trimM l) := St_getD_mem (by omega)
    have hin := trim_leaves hc hmem
    refine ASpec.call (add_spec (leavesM l) _ (by omega) _) (Les.refl _) ⟨addM ((leavesM (trimM l)).getD i []) (leavesM l), rfl, rfl, ?_⟩
    rw [addM_same (leaves_up l) hin]
    exact condNe (fun h => (h rfl).elim) fun _ => ih (i + 1) (by omega)

theorem proofTrims_spec (l : List St) (H : List AObj) : ASpec Try.prog 16 [slP l] H (fun r H' => r = .bool true ∧ H' = H) := by
  have k : ASpec Try.prog 16 [slP l] [] (PB true) := by
    have aw : ∀ (H' : List AObj), ASpec Try.prog 19 [] H' (fun r H'' => r = .bool true ∧ H'' = H') := awake_spec
    refine s16 _ _ (ASpec.call (large_spec l _) (Les.refl _) ⟨_, rfl, rfl, condB (fun _ => ASpec.call (aw _) (Les.refl _) ⟨(), rfl, rfl, pb rfl⟩) fun ha => ?_⟩)
    obtain ⟨hb, hal, hak⟩ := largeM_ok ha
    have hml : l.length ≤ maxLen := by unfold maxLen; omega
    refine ASpec.call (check_spec l hml hak _) (Les.refl _) ⟨_, rfl, rfl, condBn (fun _ => ASpec.call (aw _) (Les.refl _) ⟨(), rfl, rfl, pb rfl⟩) fun hc => ?_⟩
    have hsm : l.length ≤ 1048576 := (checkM_may hc).2.1
    have hs : l.length ≤ 500000 := by omega
    have ht := trim_check hc
    have htl := trimM_len l
    have htk : ∀ x ∈ trimM l, okS x := by
      intro x hx
      rw [trim_map hc, List.mem_map] at hx
      obtain ⟨i, i1, rfl⟩ := hx
      have hi : i < l.length := by
        unfold usN at i1
        rw [List.mem_filter, List.mem_range] at i1
        exact i1.1
      obtain ⟨e1, e2, e3, e4⟩ := reC_kind (usedM l) (l.getD i noSt)
      have := hak _ (St_getD_mem (d := noSt) hi)
      unfold okS at this ⊢
      rw [e2, e4]; exact this
    refine ASpec.call (trim_spec l hc _) (Les.refl _) ⟨trimM l, rfl, rfl, ?_⟩
    refine ASpec.call (check_spec (trimM l) (by omega) htk _) (Les.refl _) ⟨_, rfl, rfl, condBn (fun h => by rw [ht] at h; cases h) fun _ => ?_⟩
    refine ASpec.call (trim_spec (trimM l) ht _) (Les.refl _) ⟨_, rfl, rfl, ?_⟩
    rw [trim_trim hc]
    refine ASpec.call (same_spec (trimM l) (trimM l) (by omega) _) (Les.refl _) ⟨_, rfl, rfl, condBn (fun h => by simp at h) fun _ => condD (fun h => by omega) fun _ => ?_⟩
    refine ASpec.call (leaves_spec l hs _) (Les.refl _) ⟨_, rfl, rfl, ASpec.call (leaves_spec (trimM l) (by omega) _) (Les.refl _) ⟨_, rfl, rfl, ?_⟩⟩
    exact trims9 hc hs (leavesM (trimM l)).length 0 (by omega)
  exact ASpec.pureH (r0 := .bool true) H (ASpec.sel k) _ _ rfl rfl
end Pl
end
