/- Q8: several of this proof's own texts, one behind the other: what each proves stands at its head. -/
import Derived.Shelf.SortM.Plain
import Derived.Shelf.SortM.SortNone
import Derived.Ground.SlgmProg
import Derived.Test.YtihdijkpokccnaaProg
import Derived.Test.YtihdijkpokccnaaA4
import Derived.Test.YtihdijkpokccnaaQ5
import Derived.Test.YtihdijkpokccnaaA3
import Derived.Test.YtihdijkpokccnaaQ6
import Derived.Shelf.Lays
import Derived.Shelf.Small.Strs
section
/- The library's sort of strings and of ints at this program's numbers: laid by the kit's own tool. -/

namespace Go.Proofs
open Go.Shelf
def Try.mSort_ren : Go.Shelf.Ren := ⟨fun | 6 => 43 | 8 => 61 | 9 => 60 | 19 => 86 | 20 => 87 | 21 => 77 | 22 => 78 | 23 => 79 | 24 => 80 | 25 => 81 | 26 => 82 | 27 => 83 | 28 => 84 | 29 => 85 | 36 => 116 | 31 => 117 | 32 => 118 | 37 => 119 | 38 => 120 | 39 => 121 | 41 => 134 | n => n, fun | 27 => 33 | 29 => 9 | 3 => 3 | 32 => 120 | 26 => 33 | 0 => 0 | 44 => 146 | 46 => 148 | 4 => 4 | 36 => 139 | 35 => 138 | 41 => 101 | 5 => 5 | 9 => 9 | 53 => 172 | 57 => 176 | 63 => 190 | 64 => 133 | n => n, fun | n => n⟩
theorem Try.mSort : Go.Proofs.SlLaysM.n6 Try.prog Try.mSort_ren := {
  mixed := by kernel_rfl
  f6 := ⟨Try.f43.name, by decide, Try.func43.trans (congrArg some (by kernel_rfl))⟩
  f8 := Try.func61.trans (congrArg some (by kernel_rfl))
  f9 := ⟨Try.f60.name, by decide, Try.func60.trans (congrArg some (by kernel_rfl))⟩
  f19 := Try.func86.trans (congrArg some (by kernel_rfl))
  f20 := Try.func87.trans (congrArg some (by kernel_rfl))
  f21 := ⟨Try.f77.name, by decide, Try.func77.trans (congrArg some (by kernel_rfl))⟩
  f22 := ⟨Try.f78.name, by decide, Try.func78.trans (congrArg some (by kernel_rfl))⟩
  f23 := ⟨Try.f79.name, by decide, Try.func79.trans (congrArg some (by kernel_rfl))⟩
  f24 := ⟨Try.f80.name, by decide, Try.func80.trans (congrArg some (by kernel_rfl))⟩
  f25 := ⟨Try.f81.name, by decide, Try.func81.trans (congrArg some (by kernel_rfl))⟩
  f26 := ⟨Try.f82.name, by decide, Try.func82.trans (congrArg some (by kernel_rfl))⟩
  f27 := ⟨Try.f83.name, by decide, Try.func83.trans (congrArg some (by kernel_rfl))⟩
  f28 := ⟨Try.f84.name, by decide, Try.func84.trans (congrArg some (by kernel_rfl))⟩
  f29 := ⟨Try.f85.name, by decide, Try.func85.trans (congrArg some (by kernel_rfl))⟩
  f31 := Try.func117.trans (congrArg some (by kernel_rfl))
  f32 := Try.func118.trans (congrArg some (by kernel_rfl))
  f36 := ⟨Try.f116.name, by decide, Try.func116.trans (congrArg some (by kernel_rfl))⟩
  f37 := ⟨Try.f119.name, by decide, Try.func119.trans (congrArg some (by kernel_rfl))⟩
  f38 := ⟨Try.f120.name, by decide, Try.func120.trans (congrArg some (by kernel_rfl))⟩
  f39 := ⟨Try.f121.name, by decide, Try.func121.trans (congrArg some (by kernel_rfl))⟩
  f41 := ⟨Try.f134.name, by decide, Try.func134.trans (congrArg some (by kernel_rfl))⟩
  t0 := Try.underlying0
  a0 := Try.isAgg0
  z0 := Try.sizeOf0
  v0 := Try.zeroValue0
  t3 := Try.underlying3
  a3 := Try.isAgg3
  z3 := Try.sizeOf3
  v3 := Try.zeroValue3
  t4 := Try.underlying4
  a4 := Try.isAgg4
  z4 := Try.sizeOf4
  v4 := Try.zeroValue4
  t5 := Try.underlying5
  a5 := Try.isAgg5
  z5 := Try.sizeOf5
  v5 := Try.zeroValue5
  t9 := Try.underlying9
  a9 := Try.isAgg9
  z9 := Try.sizeOf9
  v9 := Try.zeroValue9
  t26 := Try.underlying33
  a26 := Try.isAgg33
  z26 := Try.sizeOf33
  v26 := Try.zeroValue33
  t27 := Try.underlying33
  a27 := Try.isAgg33
  z27 := Try.sizeOf33
  v27 := Try.zeroValue33
  t29 := Try.underlying9
  a29 := Try.isAgg9
  z29 := Try.sizeOf9
  v29 := Try.zeroValue9
  t32 := Try.underlying120
  a32 := Try.isAgg120
  z32 := Try.sizeOf120
  v32 := Try.zeroValue120
  t35 := Try.underlying138
  a35 := Try.isAgg138
  z35 := Try.sizeOf138
  v35 := Try.zeroValue138
  t36 := Try.underlying139
  a36 := Try.isAgg139
  z36 := Try.sizeOf139
  v36 := Try.zeroValue139
  t41 := Try.underlying101
  a41 := Try.isAgg101
  z41 := Try.sizeOf101
  v41 := Try.zeroValue101
  t44 := Try.underlying146
  a44 := Try.isAgg146
  z44 := Try.sizeOf146
  v44 := Try.zeroValue146
  t46 := Try.underlying148
  a46 := Try.isAgg148
  z46 := Try.sizeOf148
  v46 := Try.zeroValue148
  t53 := Try.underlying172
  a53 := Try.isAgg172
  z53 := Try.sizeOf172
  v53 := Try.zeroValue172
  t57 := Try.underlying176
  a57 := Try.isAgg176
  z57 := Try.sizeOf176
  v57 := Try.zeroValue176
  t63 := Try.underlying190
  a63 := Try.isAgg190
  z63 := Try.sizeOf190
  v63 := Try.zeroValue190
  t64 := Try.underlying133
  a64 := Try.isAgg133
  z64 := Try.sizeOf133
  v64 := Try.zeroValue133 }

end Go.Proofs
end

section
/- The library's sort of names and of ints, as specifications. -/

set_option linter.unusedVariables false
set_option linter.unusedSimpArgs false
open Go Go.Ab Go.Proofs Go.Sort T
namespace So

def sortL (l : List (List UInt8)) : List (List UInt8) := l.mergeSort fun x y => decide (x ≤ y)
theorem sort_spec {H : List AObj} {id : Nat} {q : Seq} {l : List (List UInt8)} (hid : H[id]? = some (.arr 1 q)) (hq : q.toList = l.map encL) (hl : l.length < 4611686018427387904) :
    ASpec Try.prog 43 [.msl 1 id 0 l.length] H (fun r H' => r = .tup [] ∧ H' = H.set id (.arr 1 (.map encL [] (sortL l)))) := by
  refine ASpec.sorts (enc := encStr) (e1 := fun x => .str ⟨x.toArray⟩) (srt := sortL) (fun _ => rfl) (fun M w loc x v => ?_) (fun l => by simp [sortL]) (fun blk off cap ss w h1 h2 h3 => ?_) hid hq hl
  · constructor
    · intro h; cases h; rfl
    · rintro rfl; exact .str _
  · exact AnyM.slices_Sort_string Try.mSort blk off cap ss w h1 h2 h3

/-- of nothing: nothing -/
theorem sort_nil {H : List AObj} {z : Nat} {tip : Tip} : ASpec Try.prog 43 [.sl z (.raw []) tip] H (fun r H' => r = .tup [] ∧ H' = H) := by
  refine ASpec.of_calls fun M loc w vs ht hv => ?_
  obtain ⟨hs, hv⟩ := hv
  have hv0 := hv 0 (by simp)
  simp only [List.getElem_cons_zero] at hv0
  have hvs : vs = #[vs[0]'(by simp at hs; omega)] := by
    apply Array.ext
    · simpa using hs
    · intro i h1 h2
      have : i = 0 := by simp at h2; omega
      subst this; rfl
  generalize vs[0]'(by simp at hs; omega) = v0 at hv0 hvs
  subst hvs
  have key : ∀ p cap, Calls Try.prog 43 #[.slice p 0 cap] w fun e w' => ∃ v, e = .returned v ∧ VRel M w' loc (.tup []) v ∧ Grown w w' := fun p cap =>
    (AnyM.slices_Sort_string_none Try.mSort p cap w).mono fun e w' ⟨h1, h2⟩ => by
      subst h2
      exact ⟨_, h1, .tup _ _ rfl (fun i h => by simp at h), ⟨Nat.le_refl _, fun _ _ => rfl, rfl, rfl, rfl⟩⟩
  cases hv0 with
  | slnil => exact key none 0
  | slz => exact key _ 0
  | sl _ _ _ b o cap => exact key _ _

end So
end

section
/- Names that are sorted and lie once each: the two ways to come by them are one. -/

set_option linter.unusedVariables false
set_option linter.unusedSimpArgs false
open Go Go.Ab Go.Proofs
namespace Pl
open Dp (less_iff less_trans less_tri)
abbrev Nm := List UInt8

/-- a name to names that rise, once -/
def addM (x : Nm) : List Nm → List Nm
  | [] => [x]
  | y :: r => if (Op.bytesLess x y || x == y) = true then (if x = y then x :: r else x :: y :: r) else y :: addM x r

abbrev Up (l : List Nm) : Prop := l.Pairwise fun a b => a < b

theorem tri (a b : Nm) : a < b ∨ a = b ∨ b < a := by
  by_cases h : a = b
  · exact .inr (.inl h)
  · cases hx : Op.bytesLess a b with
    | true => exact .inl (less_iff.1 hx)
    | false => exact .inr (.inr (less_iff.1 (less_tri hx h)))
theorem ltT {a b c : Nm} (h : a < b) (k : b < c) : a < c := List.lt_trans h k
theorem ltI {a : Nm} (h : a < a) : False := List.lt_irrefl a h

theorem up_one : ∀ {a b : List Nm}, Up a → Up b → (∀ x, x ∈ a ↔ x ∈ b) → a = b
  | [], [], _, _, _ => rfl
  | [], y :: b, _, _, h => by have := (h y).2 (by simp); simp at this
  | x :: a, [], _, _, h => by have := (h x).1 (by simp); simp at this
  | x :: a, y :: b, ha, hb, h => by
    have ha' := List.pairwise_cons.1 ha
    have hb' := List.pairwise_cons.1 hb
    have e : x = y := by
      rcases List.mem_cons.1 ((h x).1 (by simp)) with e | m
      · exact e
      · rcases List.mem_cons.1 ((h y).2 (by simp)) with e | m2
        · exact e.symm
        · exact (ltI (ltT (hb'.1 x m) (ha'.1 y m2))).elim
    subst e
    rw [up_one ha'.2 hb'.2]
    intro z
    constructor
    · intro hz
      rcases List.mem_cons.1 ((h z).1 (by simp [hz])) with e | m
      · subst e; exact (ltI (ha'.1 z hz)).elim
      · exact m
    · intro hz
      rcases List.mem_cons.1 ((h z).2 (by simp [hz])) with e | m
      · subst e; exact (ltI (hb'.1 z hz)).elim
      · exact m

theorem addM_mem {x y : Nm} : ∀ {o : List Nm}, y ∈ addM x o ↔ y = x ∨ y ∈ o
  | [] => by simp [addM]
  | z :: r => by
    simp only [addM]
    split
    · split
      · rename_i e; subst e; simp
      · simp
    · have := addM_mem (x := x) (y := y) (o := r)
      simp only [List.mem_cons, this]
      constructor
      · rintro (h | h | h) <;> simp [h]
      · rintro (h | h | h) <;> simp [h]

theorem addM_up {x : Nm} : ∀ {o : List Nm}, Up o → Up (addM x o)
  | [], _ => by simp [addM, Up]
  | z :: r, h => by
    have h' := List.pairwise_cons.1 h
    simp only [addM]
    split
    · rename_i hb
      split
      · rename_i e; subst e; exact h
      · rename_i hne
        have hl : x < z := by
          rw [Bool.or_eq_true] at hb
          rcases hb with hb | hb
          · exact less_iff.1 hb
          · exact (hne (beq_iff_eq.1 hb)).elim
        refine List.pairwise_cons.2 ⟨fun y hy => ?_, h⟩
        rcases List.mem_cons.1 hy with e | m
        · subst e; exact hl
        · exact ltT hl (h'.1 y m)
    · rename_i hb
      rw [Bool.or_eq_true, not_or] at hb
      have hl : z < x := by
        rcases tri x z with h1 | h1 | h1
        · exact (hb.1 (less_iff.2 h1)).elim
        · exact (hb.2 (beq_iff_eq.2 h1)).elim
        · exact h1
      refine List.pairwise_cons.2 ⟨fun y hy => ?_, addM_up h'.2⟩
      rcases addM_mem.1 hy with e | m
      · subst e; exact hl
      · exact h'.1 y m

def addAll (l : List Nm) (o : List Nm) : List Nm := l.foldl (fun o x => addM x o) o
theorem addAll_up : ∀ (l : List Nm) {o : List Nm}, Up o → Up (addAll l o)
  | [], _, h => h
  | x :: l, _, h => addAll_up l (addM_up h)
theorem addAll_mem : ∀ (l : List Nm) {o : List Nm} {y : Nm}, y ∈ addAll l o ↔ y ∈ l ∨ y ∈ o
  | [], o, y => by simp [addAll]
  | x :: l, o, y => by
    show y ∈ addAll l (addM x o) ↔ _
    rw [addAll_mem l, addM_mem, List.mem_cons]
    constructor
    · rintro (h | h | h) <;> simp [h]
    · rintro ((h | h) | h) <;> simp [h]
theorem addAll_len : ∀ (l : List Nm) {o : List Nm}, (addAll l o).length ≤ l.length + o.length
  | [], o => by simp [addAll]
  | x :: l, o => by
    have h1 := addAll_len l (o := addM x o)
    have h2 : ∀ o : List Nm, (addM x o).length ≤ o.length + 1 := by
      intro o
      induction o with
      | nil => simp [addM]
      | cons y r ih => simp only [addM]; split <;> (try split) <;> simp <;> omega
    have h3 := h2 o
    show (addAll l (addM x o)).length ≤ _
    simp only [List.length_cons]; omega

theorem sort_up (l : List Nm) : (So.sortL l).Pairwise fun a b => a ≤ b := by
  have h := List.pairwise_mergeSort (le := fun x y : Nm => decide (x ≤ y)) (fun a b c h1 h2 => ?_) (fun a b => ?_) l
  · exact h.imp (fun h => of_decide_eq_true h)
  · simp only [decide_eq_true_eq] at *
    intro h3
    rcases tri b c with h4 | h4 | h4
    · exact h1 (ltT h4 h3)
    · subst h4; exact h1 h3
    · exact h2 h4
  · simp only [Bool.or_eq_true, decide_eq_true_eq]
    rcases tri a b with h | h | h
    · exact .inl (fun k => ltI (ltT h k))
    · subst h; exact .inl (fun k => ltI k)
    · exact .inr (fun k => ltI (ltT h k))

theorem sort_mem (l : List Nm) (x : Nm) : x ∈ So.sortL l ↔ x ∈ l := by simp [So.sortL]
theorem sort_len (l : List Nm) : (So.sortL l).length = l.length := by simp [So.sortL]

end Pl
end

section
/- What may be needed: two ways to come by the names are one. Plain laws. -/

set_option linter.unusedVariables false
set_option linter.unusedSimpArgs false
open Go Go.Ab Go.Proofs
namespace Rc
open Pl (Up up_one tri ltT ltI sort_up sort_mem sort_len addM addM_mem addM_up addAll addAll_up addAll_mem)
open So (sortL)
abbrev Nm := List UInt8

theorem sort_strict {a : List Nm} (hn : a.Nodup) : Up (sortL a) := by
  have h1 := sort_up a
  have h2 : (sortL a).Nodup := (List.mergeSort_perm _ _).nodup_iff.2 hn
  refine (List.Pairwise.and h1 h2).imp fun {a b} hab => ?_
  rcases tri a b with ht | ht | ht
  · exact ht
  · exact (hab.2 ht).elim
  · exact (hab.1 ht).elim
theorem up_nd {a : List Nm} (h : Up a) : a.Nodup := h.imp fun {a b} hab e => by subst e; exact ltI hab
theorem sort_one {a b : List Nm} (hn : a.Nodup) (hu : Up b) (h : ∀ x, x ∈ a ↔ x ∈ b) : sortL a = b :=
  up_one (sort_strict hn) hu fun x => by rw [sort_mem]; exact h x

/-! ### each once -/
def noteM (s : Nm) (o : List Nm) : List Nm := if s ∈ o then o else o ++ [s]
def dedupF : List Nm → List Nm → List Nm
  | [], o => o
  | s :: r, o => dedupF r (noteM s o)
theorem note_mem {s x : Nm} {o : List Nm} : x ∈ noteM s o ↔ x = s ∨ x ∈ o := by
  unfold noteM
  split
  · rename_i h
    constructor
    · exact fun hx => .inr hx
    · rintro (rfl | hx)
      · exact h
      · exact hx
  · simp [or_comm]
theorem note_nd {s : Nm} {o : List Nm} (h : o.Nodup) : (noteM s o).Nodup := by
  unfold noteM
  split
  · exact h
  · rename_i hs
    rw [List.nodup_append]
    refine ⟨h, by simp, fun a ha b hb => ?_⟩
    simp at hb; subst hb
    rintro rfl
    exact hs ha
theorem note_len {s : Nm} {o : List Nm} : (noteM s o).length ≤ o.length + 1 := by
  unfold noteM; split <;> simp
theorem dedup_mem : ∀ {l o : List Nm} {x : Nm}, x ∈ dedupF l o ↔ x ∈ l ∨ x ∈ o
  | [], o, x => by simp [dedupF]
  | s :: r, o, x => by
    simp only [dedupF]
    rw [dedup_mem, note_mem, List.mem_cons]
    constructor
    · rintro (h | h | h) <;> simp [h]
    · rintro ((h | h) | h) <;> simp [h]
theorem dedup_nd : ∀ {l o : List Nm}, o.Nodup → (dedupF l o).Nodup
  | [], _, h => h
  | s :: r, o, h => by
    simp only [dedupF]
    exact dedup_nd (note_nd h)
theorem dedup_len : ∀ {l o : List Nm}, (dedupF l o).length ≤ l.length + o.length
  | [], o => by simp [dedupF]
  | s :: r, o => by
    have h1 := dedup_len (l := r) (o := noteM s o)
    have h2 := note_len (s := s) (o := o)
    simp only [dedupF, List.length_cons]; omega

/-- the names that a manifest's releases need -/
def allN (m : T.Mani) : List Nm := m.2.flatMap fun r => r.2.map (·.1)
def mnM (m : T.Mani) : List Nm := addAll (allN m) []
theorem names_one (m : T.Mani) : sortL (dedupF (allN m) []) = mnM m :=
  sort_one (dedup_nd List.nodup_nil) (addAll_up _ List.Pairwise.nil) fun x => by rw [dedup_mem, mnM, addAll_mem]

/-! ### lists within lists -/
theorem sub_len : ∀ {a b : List Nm}, a.Nodup → (∀ x ∈ a, x ∈ b) → a.length ≤ b.length
  | [], b, _, _ => Nat.zero_le _
  | x :: r, b, hn, h => by
    have hn' := List.nodup_cons.1 hn
    have hx := h x (by simp)
    have h1 := sub_len (a := r) (b := b.erase x) hn'.2 fun y hy => (List.mem_erase_of_ne (fun e => by subst e; exact hn'.1 hy)).2 (h y (by simp [hy]))
    have h2 := List.length_erase_of_mem hx
    have h3 := List.length_pos_of_mem hx
    simp only [List.length_cons]; omega
theorem sub_eq {a b : List Nm} (hn : a.Nodup) (h : ∀ x ∈ a, x ∈ b) (hl : b.length ≤ a.length) : ∀ y ∈ b, y ∈ a := by
  intro y hy
  refine Classical.byContradiction fun hya => ?_
  have := sub_len (a := y :: a) (b := b) (List.nodup_cons.2 ⟨hya, hn⟩) fun x hx => by
    rcases List.mem_cons.1 hx with rfl | hx
    · exact hy
    · exact h x hx
  simp at this; omega

/-! ### what may be needed -/
section
variable (g : Nm → List Nm)
inductive RS (root : List Nm) : Nm → Prop
  | base {x : Nm} : x ∈ root → RS root x
  | step {x y : Nm} : RS root x → y ∈ g x → RS root y
theorem rs_least {root : List Nm} {o : List Nm} (h1 : ∀ x ∈ root, x ∈ o) (h2 : ∀ x ∈ o, ∀ y ∈ g x, y ∈ o) {x : Nm} (h : RS g root x) : x ∈ o := by
  induction h with
  | base h => exact h1 _ h
  | step _ hy ih => exact h2 _ ih _ hy
theorem rs_bound {root U : List Nm} (h1 : ∀ x ∈ root, x ∈ U) (h2 : ∀ x, ∀ y ∈ g x, y ∈ U) {x : Nm} (h : RS g root x) : x ∈ U := by
  cases h with
  | base h => exact h1 _ h
  | step _ hy => exact h2 _ _ hy

/-- the document's way: again and again, until nothing comes -/
def roundF : List Nm → List Nm → List Nm
  | [], o => o
  | x :: l, o => roundF l (addAll (g x) o)
def refN : Nat → List Nm → List Nm
  | 0, o => o
  | f + 1, o => if (roundF g o o).length = o.length then roundF g o o else refN f (roundF g o o)
theorem round_mem : ∀ {l o : List Nm} {y : Nm}, y ∈ roundF g l o ↔ y ∈ o ∨ ∃ x ∈ l, y ∈ g x
  | [], o, y => by simp [roundF]
  | x :: l, o, y => by
    simp only [roundF]
    rw [round_mem, addAll_mem]
    constructor
    · rintro ((h | h) | ⟨z, hz, h⟩)
      · exact .inr ⟨x, by simp, h⟩
      · exact .inl h
      · exact .inr ⟨z, by simp [hz], h⟩
    · rintro (h | ⟨z, hz, h⟩)
      · exact .inl (.inr h)
      · rcases List.mem_cons.1 hz with rfl | hz
        · exact .inl (.inl h)
        · exact .inr ⟨z, hz, h⟩
theorem round_up : ∀ {l o : List Nm}, Up o → Up (roundF g l o)
  | [], _, h => h
  | x :: l, o, h => by
    simp only [roundF]
    exact round_up (addAll_up _ h)
variable {root U : List Nm} (hU1 : ∀ x ∈ root, x ∈ U) (hU2 : ∀ x, ∀ y ∈ g x, y ∈ U)
include hU1 hU2
theorem rs_len {o : List Nm} (hn : o.Nodup) (h : ∀ x ∈ o, RS g root x) : o.length ≤ U.length :=
  sub_len hn fun x hx => rs_bound g hU1 hU2 (h x hx)
theorem ref_spec : ∀ (f : Nat) (o : List Nm), Up o → (∀ x ∈ o, RS g root x) → (∀ x ∈ root, x ∈ o) → U.length < o.length + f →
    Up (refN g f o) ∧ ∀ x, x ∈ refN g f o ↔ RS g root x
  | 0, o, hu, ho, hr, hf => by
    have := rs_len g hU1 hU2 (up_nd hu) ho
    omega
  | f + 1, o, hu, ho, hr, hf => by
    have hu' : Up (roundF g o o) := round_up g hu
    have ho' : ∀ x ∈ roundF g o o, RS g root x := fun x hx => by
      rcases (round_mem g).1 hx with hx | ⟨z, hz, hx⟩
      · exact ho x hx
      · exact .step (ho z hz) hx
    have hs : ∀ x ∈ o, x ∈ roundF g o o := fun x hx => (round_mem g).2 (.inl hx)
    have hl := sub_len (up_nd hu) hs
    simp only [refN]
    split
    · rename_i e
      have hb := sub_eq (up_nd hu) hs (by omega)
      refine ⟨hu', fun x => ⟨ho' x, fun h => rs_least g (fun x hx => hs x (hr x hx)) (fun x hx y hy => (round_mem g).2 (.inr ⟨x, hb x hx, hy⟩)) h⟩⟩
    · exact ref_spec f _ hu' ho' (fun x hx => hs x (hr x hx)) (by omega)

end

/-- the program's way: what is still to be looked at -/
def notesF : List Nm → List Nm → List Nm → List Nm × List Nm
  | [], t, o => (t, o)
  | s :: r, t, o => if s ∈ o then notesF r t o else notesF r (t ++ [s]) (o ++ [s])
def codeN (g : Nm → List Nm) : Nat → List Nm → List Nm → List Nm
  | 0, _, o => o
  | _ + 1, [], o => o
  | f + 1, x :: t, o => codeN g f (notesF (g x) t o).1 (notesF (g x) t o).2

theorem notes_spec : ∀ (l t o : List Nm), ∃ d : List Nm, notesF l t o = (t ++ d, o ++ d) ∧ (o.Nodup → (o ++ d).Nodup) ∧ ∀ y, y ∈ o ++ d ↔ y ∈ o ∨ y ∈ l
  | [], t, o => ⟨[], by simp [notesF], by simp, by simp⟩
  | s :: r, t, o => by
    by_cases h : s ∈ o
    · obtain ⟨d, h1, h2, h3⟩ := notes_spec r t o
      refine ⟨d, by simp only [notesF, if_pos h]; exact h1, h2, fun y => ?_⟩
      rw [h3, List.mem_cons]
      constructor
      · rintro (hy | hy) <;> simp [hy]
      · rintro (hy | rfl | hy)
        · exact .inl hy
        · exact .inl h
        · exact .inr hy
    · obtain ⟨d, h1, h2, h3⟩ := notes_spec r (t ++ [s]) (o ++ [s])
      refine ⟨s :: d, by simp only [notesF, if_neg h]; rw [h1]; simp, fun hn => ?_, fun y => ?_⟩
      · have : (o ++ [s]).Nodup := by
          rw [List.nodup_append]
          refine ⟨hn, by simp, fun a ha b hb => ?_⟩
          simp at hb; subst hb
          rintro rfl
          exact h ha
        have := h2 this
        simpa using this
      · have := h3 y
        simp only [List.append_assoc, List.singleton_append] at this
        rw [this]
        simp only [List.mem_append, List.mem_cons, List.not_mem_nil, or_false]
        constructor
        · rintro ((h | h) | h) <;> simp [h]
        · rintro (h | h | h) <;> simp [h]

section
variable (g : Nm → List Nm) {root U : List Nm} (hU1 : ∀ x ∈ root, x ∈ U) (hU2 : ∀ x, ∀ y ∈ g x, y ∈ U)
include hU1 hU2
theorem code_spec : ∀ (f : Nat) (t o : List Nm), o.Nodup → (∀ x ∈ o, RS g root x) → (∀ x ∈ root, x ∈ o) → (∀ x ∈ t, x ∈ o) → (∀ x ∈ o, x ∈ t ∨ ∀ y ∈ g x, y ∈ o) → 2 * U.length + t.length < f + 2 * o.length →
    (codeN g f t o).Nodup ∧ ∀ x, x ∈ codeN g f t o ↔ RS g root x
  | 0, t, o, hn, ho, hr, ht, hc, hf => by
    have := rs_len g hU1 hU2 hn ho
    omega
  | f + 1, [], o, hn, ho, hr, ht, hc, hf => by
    refine ⟨hn, fun x => ⟨ho x, fun h => rs_least g hr (fun x hx y hy => ?_) h⟩⟩
    rcases hc x hx with h | h
    · cases h
    · exact h y hy
  | f + 1, x :: t, o, hn, ho, hr, ht, hc, hf => by
    obtain ⟨d, h1, h2, h3⟩ := notes_spec (g x) t o
    simp only [codeN]
    rw [h1]
    have ho' : ∀ z ∈ o ++ d, RS g root z := fun z hz => by
      rcases (h3 z).1 hz with hz | hz
      · exact ho z hz
      · exact .step (ho x (ht x (by simp))) hz
    have hl := rs_len g hU1 hU2 (h2 hn) ho'
    refine code_spec f (t ++ d) (o ++ d) (h2 hn) ho' (fun z hz => by simp [hr z hz]) (fun z hz => ?_) (fun z hz => ?_) ?_
    · rcases List.mem_append.1 hz with hz | hz
      · simp [ht z (by simp [hz])]
      · simp [hz]
    · rcases List.mem_append.1 hz with hz | hz
      · rcases hc z hz with hz2 | hz2
        · rcases List.mem_cons.1 hz2 with rfl | hz2
          · exact .inr fun y hy => (h3 y).2 (.inr hy)
          · exact .inl (by simp [hz2])
        · exact .inr fun y hy => by simp [hz2 y hy]
      · exact .inl (by simp [hz])
    · simp only [List.length_append, List.length_cons] at hf hl ⊢; omega

/-- both ways are one -/
theorem reach_one {f1 f2 : Nat} (h1 : U.length < f1) (h2 : 2 * U.length < f2) :
    sortL (codeN g f2 (notesF root [] []).1 (notesF root [] []).2) = refN g f1 (addAll root []) := by
  obtain ⟨d, e1, e2, e3⟩ := notes_spec root [] []
  simp only [List.nil_append, List.not_mem_nil, false_or] at e1 e2 e3
  rw [e1]
  have hd : ∀ x ∈ d, RS g root x := fun x hx => .base ((e3 x).1 hx)
  have hl := rs_len g hU1 hU2 (e2 List.nodup_nil) hd
  have hc := code_spec g hU1 hU2 f2 d d (e2 List.nodup_nil) hd (fun x hx => (e3 x).2 hx) (fun x hx => hx) (fun x hx => .inl hx) (by omega)
  have hu : Up (addAll root []) := addAll_up _ List.Pairwise.nil
  have hm : ∀ x, x ∈ addAll root [] ↔ x ∈ root := fun x => by rw [addAll_mem]; simp
  have hr := ref_spec g hU1 hU2 f1 (addAll root []) hu (fun x hx => .base ((hm x).1 hx)) (fun x hx => (hm x).2 hx) (by omega)
  exact sort_one hc.1 hr.1 fun x => by rw [hc.2, hr.2]
end
end Rc
end

section
/- Names that a manifest's releases need, by the program (mani.Names): sorted, each once. -/

set_option linter.unusedVariables false
set_option linter.unusedSimpArgs false
set_option maxRecDepth 100000
open Go Go.Ab Go.Proofs V S T C
namespace Rc
open Pl (Up)
open W (sl1 slS slN slR)
open So (sortL sort_spec sort_nil)
noncomputable abbrev slL (l : List Nm) : AV := .sl 1 (.map encL [] l) .none
noncomputable abbrev arL (o : List Nm) : AObj := .arr 1 (.map encL [] o)
noncomputable abbrev seenO (o : List Nm) : AObj := .mp (.typed EB (seenM o))
theorem B_inj {a b : Nm} : (⟨a.toArray⟩ : ByteArray) = ⟨b.toArray⟩ ↔ a = b := by
  constructor
  · intro h
    have := congrArg (fun x : ByteArray => x.data.toList) h
    simpa using this
  · rintro rfl; rfl
theorem find_seen (x : Nm) : ∀ o : List Nm, findM (seenM o) ⟨x.toArray⟩ = if x ∈ o then some true else none
  | [] => rfl
  | y :: r => by
    show (if _ then _ else _) = _
    by_cases h : y = x
    · subst h; simp
    · have h3 : ¬ x = y := fun e => h e.symm
      have h2 : ¬ ((⟨x.toArray⟩ : ByteArray) = ⟨y.toArray⟩) := fun e => h3 (B_inj.1 e)
      have ih := find_seen x r
      unfold seenM at ih
      dsimp only
      rw [if_neg h2, ih]
      simp [h3]
theorem set_seen (x : Nm) : ∀ o : List Nm, x ∉ o → setM (seenM o) ⟨x.toArray⟩ true = seenM (o ++ [x])
  | [], _ => rfl
  | y :: r, h => by
    have h2 : ¬ ((⟨x.toArray⟩ : ByteArray) = ⟨y.toArray⟩) := fun e => h (by simp [B_inj.1 e])
    have ih := set_seen x r (fun hx => h (by simp [hx]))
    show (if _ then _ else _) = _
    unfold seenM at ih ⊢
    dsimp only
    rw [if_neg h2, ih]
    rfl
theorem put_seen {x : Nm} {o : List Nm} (h : x ∉ o) : MLe (MM.put (.typed EB (seenM o)) ⟨x.toArray⟩ (.bool true)).toList (MM.typed EB (seenM (o ++ [x]))).toList := by
  rw [← set_seen x o h]
  exact mle_put rfl
def nsF (l : List Need) (o : List Nm) : List Nm := dedupF (l.map (·.1)) o
def rsF : List Rel → List Nm → List Nm
  | [], o => o
  | r :: l, o => rsF l (nsF r.2 o)
theorem nsF_cons (n : Need) (l : List Need) (o : List Nm) : nsF (n :: l) o = nsF l (noteM n.1 o) := rfl
theorem dedup_app : ∀ (a b o : List Nm), dedupF (a ++ b) o = dedupF b (dedupF a o)
  | [], _, _ => rfl
  | x :: a, b, o => by simp only [List.cons_append, dedupF]; exact dedup_app a b _
theorem rsF_eq : ∀ (l : List Rel) (o : List Nm), rsF l o = dedupF (l.flatMap fun r => r.2.map (·.1)) o
  | [], _ => rfl
  | r :: l, o => by
    simp only [rsF, List.flatMap_cons]
    rw [dedup_app, rsF_eq l]; rfl

/-- at the end: names in a row of their own, or none -/
abbrev PN (R : List Nm) : AV → List AObj → Prop := fun r H' => (R = [] ∧ r = .sl 0 (.raw []) .nil ∧ ∃ m, H' = [m]) ∨ (∃ m, r = .msl 1 1 0 R.length ∧ H' = [m, arL (sortL R)])

def rowV (o : List Nm) : AV := match o with
  | [] => .sl 0 (.raw []) .nil
  | x :: r => .msl 1 1 0 (x :: r).length
noncomputable def rowH (o : List Nm) : List AObj := match o with
  | [] => [seenO []]
  | x :: r => [seenO (x :: r), arL (x :: r)]
theorem selN {n : Nat} {l : List Nat} {H H2 : List AObj} (h1 : l.Nodup) (h0 : n ≤ l.length) (h2 : ∀ i, i < n → l[i]? = some i) (h3 : SelL H (selR l H.length) l H2) : Sel n l H H2 := by
  obtain ⟨a, b⟩ := SelL.at h3
  exact ⟨h1, a, h0, h2, fun i hi => .inl (b _ i hi)⟩

theorem slotsR {ρ : Nat → Nat} : ∀ {s s2 : Slots}, s = s2.map (fun p => (p.1, AV.ren ρ p.2)) → Slots2 (fun a b => Le a (AV.ren ρ b)) s s2
  | _, [], h => by subst h; trivial
  | _, p :: r, h => by subst h; exact ⟨rfl, Le.refl _, slotsR rfl⟩
theorem app_rowV {o : List Nm} {s : Nm} (h : o ≠ []) : rowV (o ++ [s]) = .msl 1 1 0 (o.length + 1) := by
  cases o with
  | nil => exact (h rfl).elim
  | cons x r => simp [rowV]
theorem app_rowH {o : List Nm} {s : Nm} (h : o ≠ []) : rowH (o ++ [s]) = [seenO (o ++ [s]), arL (o ++ [s])] := by
  cases o with
  | nil => exact (h rfl).elim
  | cons x r => simp [rowH]

section
variable {rs : List Rel} {nn i0 : Int} {Post : AV → List AObj → Prop}
theorem nm7 {ns : List Need} {o' : List Nm} (hl : ns.length ≤ lim) : ∀ (m i : Nat) (o : List Nm), m + i = ns.length → o.length + m ≤ 1000000000000 → nsF (ns.drop i) o = o' →
    AWP Try.prog 42 0 c42_4 [(3, .map 0), (4, rowV o'), (11, slR rs), (12, .int .i64 nn), (13, .int .i64 (IntKind.i64.wrap (i0 + 1)))] (rowH o') (q42_2 0 Post) →
    AWP Try.prog 42 0 c42_7 [(3, .map 0), (4, rowV o), (11, slR rs), (12, .int .i64 nn), (13, .int .i64 i0), (18, slN ns), (19, .int .i64 ns.length), (20, .int .i64 i)] (rowH o) (q42_6 0 Post) := by
  unfold lim at hl
  intro m
  induction m with
  | zero =>
    intro i o hm ho h k
    rw [List.drop_eq_nil_of_le (by omega)] at h
    have h : o = o' := h
    subst h
    cases o with
    | nil => exact v42_7n _ _ _ _ _ _ _ _ _ (condD (fun hc => by omega) fun _ => k)
    | cons x r => exact v42_7m _ _ _ _ _ _ _ _ _ _ (condD (fun hc => by omega) fun _ => k)
  | succ m ih =>
    intro i o hm ho h k
    rw [dropD ns ([], []) i (by omega), nsF_cons] at h
    cases o with
    | nil =>
      refine v42_7n _ _ _ _ _ _ _ _ _ (condD (fun hc => needJ ⟨by omega, by omega⟩ ?_) fun hc => by omega)
      rw [Int.toNat_natCast, succ64 (by omega)]
      generalize ns.getD i ([], []) = y at h ⊢
      have key := ih (i + 1) [y.1] (by omega) (by simp; omega) h k
      rw [show findM (seenM []) (⟨y.1.toArray⟩ : ByteArray) = none from rfl]
      refine needJ (by omega) (needJ (by omega) ?_)
      refine AWP.re (ReSt.map (id := 0) rfl (put_seen (x := y.1) (o := []) (by simp))) ?_
      refine AWP.re (ReSt.arr (id := 2) (q' := .map encL [] [y.1]) rfl rfl) ?_
      exact AWP.shape [0, 2] _ [seenO [y.1], arL [y.1]] (selN (by decide) (by decide) (fun i h => by omega) ⟨rfl, rfl, trivial⟩) (by exact slotsR rfl) key
    | cons x r =>
      refine v42_7m _ _ _ _ _ _ _ _ _ _ (condD (fun hc => needJ ⟨by omega, by omega⟩ ?_) fun hc => by omega)
      rw [Int.toNat_natCast, succ64 (by omega)]
      generalize ns.getD i ([], []) = y at h ⊢
      have hne : (x :: r) ≠ [] := by simp
      generalize he : x :: r = o at *
      rw [find_seen]
      by_cases hs : y.1 ∈ o
      · rw [if_pos hs]
        have key := ih (i + 1) o (by omega) (by omega) (by rw [← h, noteM, if_pos hs]) k
        subst he
        exact AWP.shape [0, 1] _ [seenO (x :: r), arL (x :: r)] (selN (by decide) (by decide) (fun i h => by omega) ⟨rfl, rfl, trivial⟩) (by exact slotsR rfl) key
      · rw [if_neg hs]
        have key := ih (i + 1) (o ++ [y.1]) (by omega) (by simp; omega) (by rw [← h, noteM, if_neg hs]) k
        rw [app_rowV hne, app_rowH hne] at key
        refine needJ ⟨rfl, by omega⟩ ?_
        refine AWP.re (ReSt.map (id := 0) rfl (put_seen hs)) ?_
        refine AWP.re (ReSt.arr (id := 3) (q' := .map encL [] (o ++ [y.1])) rfl (by simp [Ab.Seq.toList]; rfl)) ?_
        exact AWP.shape [0, 3] _ [seenO (o ++ [y.1]), arL (o ++ [y.1])] (selN (by decide) (by decide) (fun i h => by omega) ⟨rfl, rfl, trivial⟩) (by exact slotsR rfl) key
theorem nm4 (hl : rs.length ≤ lim) (hr : ∀ r ∈ rs, r.2.length ≤ lim) {R : List Nm} (hp : ∀ r H', PN R r H' → Post r H') : ∀ (m i : Nat) (o : List Nm), m + i = rs.length → o.length + m * 1000000 ≤ 1000000000000 → rsF (rs.drop i) o = R →
    AWP Try.prog 42 0 c42_4 [(3, .map 0), (4, rowV o), (11, slR rs), (12, .int .i64 rs.length), (13, .int .i64 i)] (rowH o) (q42_2 0 Post) := by
  unfold lim at hl hr
  intro m
  induction m with
  | zero =>
    intro i o hm ho h
    rw [List.drop_eq_nil_of_le (by omega)] at h
    have h : o = R := h
    subst h
    cases o with
    | nil => exact v42_4n _ _ _ _ _ _ (condD (fun hc => by omega) fun _ => So.sort_nil.mono fun r H' hh => .inl ⟨(), hh.1, hh.2, hp _ _ (.inl ⟨rfl, rfl, _, rfl⟩)⟩)
    | cons x r =>
      refine v42_4m _ _ _ _ _ _ _ (condD (fun hc => by omega) fun _ => (So.sort_spec (l := x :: r) (id := 1) rfl rfl (by omega)).mono fun _ H' hh => .inr ⟨sortL (x :: r), hh.1, hh.2, hp _ _ (.inr ⟨_, rfl, rfl⟩)⟩)
  | succ m ih =>
    intro i o hm ho h
    have hx := hr _ (memD rs (0, []) i (by omega))
    rw [dropD rs (0, []) i (by omega)] at h
    have kk : AWP Try.prog 42 0 c42_7 [(3, .map 0), (4, rowV o), (11, slR rs), (12, .int .i64 rs.length), (13, .int .i64 i), (18, slN (rs.getD i (0, [])).2), (19, .int .i64 (rs.getD i (0, [])).2.length), (20, .int .i64 (0 : Nat))] (rowH o) (q42_6 0 Post) := by
      generalize rs.getD i (0, []) = y at h hx ⊢
      refine nm7 (o' := nsF y.2 o) hx y.2.length 0 o (by omega) (by omega) (by simp) ?_
      rw [succ64 (by omega)]
      refine ih (i + 1) (nsF y.2 o) (by omega) ?_ h
      have := dedup_len (l := y.2.map (·.1)) (o := o)
      rw [List.length_map] at this
      unfold nsF
      rw [Nat.succ_mul] at ho
      omega
    cases o with
    | nil =>
      refine v42_4n _ _ _ _ _ _ (condD (fun hc => needJ ⟨by omega, by omega⟩ ?_) fun hc => by omega)
      rw [Int.toNat_natCast]
      exact AWP.shape [0] _ [seenO []] (selN (by decide) (by decide) (fun i h => by omega) ⟨rfl, trivial⟩) (by exact slotsR rfl) kk
    | cons x r =>
      refine v42_4m _ _ _ _ _ _ _ (condD (fun hc => needJ ⟨by omega, by omega⟩ ?_) fun hc => by omega)
      rw [Int.toNat_natCast]
      exact AWP.shape [0, 1] _ [seenO (x :: r), arL (x :: r)] (selN (by decide) (by decide) (fun i h => by omega) ⟨rfl, rfl, trivial⟩) (by exact slotsR rfl) kk
end

theorem slLle (ρ : Nat → Nat) (l : List Nm) (t : Tip) : Le (.sl 1 (.map encL [] l) t) (AV.ren ρ (slL l)) := Le.sl (s' := Seq.ren ρ (.map encL [] l)) (by simp [Ab.Seq.toList, Seq.ren]; exact fun a _ => rfl) (.inl rfl) (.inr rfl)
theorem nilLle (ρ : Nat → Nat) : Le (.sl 0 (.raw []) .nil) (AV.ren ρ (slL [])) := Le.sl (s' := Seq.ren ρ (.map encL [] [])) rfl (.inr ⟨rfl, fun _ h => by cases h⟩) (.inr rfl)
theorem names_spec (m : Mani) (hl : m.2.length ≤ lim) (hr : ∀ r ∈ m.2, r.2.length ≤ lim) (H : List AObj) : ASpec Try.prog 42 [.agg (encM m)] H (fun r H' => r = slL (mnM m) ∧ H' = H) := by
  have e : sortL (rsF m.2 []) = mnM m := by rw [rsF_eq]; exact names_one m
  have k : ASpec Try.prog 42 [.agg (encM m)] [] (PN (rsF m.2 [])) := by
    refine s42 m _ ?_
    refine AWP.re (ReSt.map (id := 1) (m' := .typed EB []) rfl mle_nil) ?_
    refine AWP.shape [1] _ [seenO []] (selN (by decide) (by decide) (fun i h => by omega) ⟨rfl, trivial⟩) (by exact slotsR rfl) (nm4 hl hr (fun _ _ h => h) m.2.length 0 [] (by omega) (by unfold lim at hl; simp; omega) (by simp))
  rw [← e]
  have k2 : ASpec Try.prog 42 [.agg (encM m)] [] (fun r H' => r = slL (sortL (rsF m.2 [])) ∧ H' = []) := by
   refine ASpec.sel (ASpec.reEnd (k.mono fun r H' hh => ?_))
   rcases hh with ⟨e1, e2, mm, e3⟩ | ⟨mm, e1, e2⟩
   · rw [e1]
     subst e2 e3
     exact ⟨_, _, ReSt.refl _ _, [], [], slL [], Sel.none, nilLle _, by simp [sortL], rfl⟩
   · subst e1 e2
     rw [show (rsF m.2 []).length = (sortL (rsF m.2 [])).length from (Pl.sort_len _).symm]
     exact ⟨_, _, ReSt.freeze1 (id := 1) (q' := .map encL [] (sortL (rsF m.2 []))) rfl (Nat.zero_le _) (by simp [Seq.toList]) (by simp only [Seq.toList]; rw [List.take_of_length_le (by simp)]), [], [], slL (sortL (rsF m.2 [])), Sel.none, slLle _ _ _, rfl, rfl⟩
  exact ASpec.pureH H k2 _ _ rfl rfl
end Rc
end

section
/- The names that may be needed, by the program (reach.Names): a row of its own, sorted. -/

set_option linter.unusedVariables false
set_option linter.unusedSimpArgs false
set_option linter.unusedSectionVars false
set_option maxRecDepth 100000
open Go Go.Ab Go.Proofs V S T C
namespace Rc
open Pl (Up)
open W (sl1 slS slN slR)
open So (sortL)
open X (hasI getM OkX mp_ren)
noncomputable abbrev NILV : AV := .sl 0 (.raw []) .nil
noncomputable abbrev tkC (t : List Nm) (k : Nat) : AObj := .cells [.sl 1 (.map encL [] t) (.tok k)]
noncomputable abbrev xM (es : Kn) : AObj := .mp (.typed EK es)

/-! ### the closure -/
theorem noteIn {x : Nm} {t o : List Nm} (h : x ∈ o) : ASpec Try.prog 40 [.str (B x), .ptr 1 0, .ptr 2 0, .ptr 3 0] [seenO o, .cells [.map 0], tkC t 4, .cells [.msl 1 5 0 o.length], .tok, arL o]
    (fun r H' => r = .tup [] ∧ H' = [seenO o, .cells [.map 0], tkC t 4, .cells [.msl 1 5 0 o.length], .tok, arL o]) := by
  refine s40b _ _ _ _ _ ?_
  rw [find_seen, if_pos h]
  exact ⟨rfl, rfl⟩
theorem noteOut {x : Nm} {t o : List Nm} (h : x ∉ o) (ht : t.length ≤ 1000000000000) (ho : o.length ≤ 1000000000000) :
    ASpec Try.prog 40 [.str (B x), .ptr 1 0, .ptr 2 0, .ptr 3 0] [seenO o, .cells [.map 0], tkC t 4, .cells [.msl 1 5 0 o.length], .tok, arL o]
    (fun r H' => r = .tup [] ∧ H' = [seenO (o ++ [x]), .cells [.map 0], tkC (t ++ [x]) 6, .cells [.msl 1 7 0 (o ++ [x]).length], .gone, .gone, .tok, arL (o ++ [x])]) := by
  refine ASpec.reEnd (s40b _ _ _ _ _ ?_)
  rw [find_seen, if_neg h]
  refine needJ (by omega) ⟨⟨rfl, rfl⟩, needJ ⟨rfl, by omega⟩ ?_⟩
  refine ⟨_, _, ReSt.trans (ReSt.map (id := 0) rfl (put_seen h)) (ReSt.trans (ReSt.arr (id := 7) (q' := .map encL [] (o ++ [x])) rfl (by simp [Ab.Seq.toList]; rfl)) (ReSt.leCell (id := 2) (cs' := [.sl 1 (.map encL [] (t ++ [x])) (.tok 6)]) rfl ⟨leAppE (Les.refl _), trivial⟩)), rfl, ?_⟩
  rw [List.length_append]
  rfl
theorem noteFst {x : Nm} : ASpec Try.prog 40 [.str (B x), .ptr 1 0, .ptr 2 0, .ptr 3 0] [seenO [], .cells [.map 0], tkC [] 4, .cells [NILV], .tok]
    (fun r H' => r = .tup [] ∧ H' = [seenO [x], .cells [.map 0], tkC [x] 5, .cells [.msl 1 6 0 1], .gone, .tok, arL [x]]) := by
  refine ASpec.reEnd (s40a _ _ _ _ ?_)
  rw [show findM (seenM []) (⟨x.toArray⟩ : ByteArray) = none from rfl]
  refine needJ (by simp) ⟨⟨rfl, rfl⟩, needJ (by omega) (needJ (by omega) ?_)⟩
  exact ⟨_, _, ReSt.trans (ReSt.map (id := 0) rfl (put_seen (o := []) (by simp))) (ReSt.trans (ReSt.arr (id := 6) (q' := .map encL [] [x]) rfl rfl) (ReSt.leCell (id := 2) (cs' := [.sl 1 (.map encL [] [x]) (.tok 5)]) rfl ⟨leAppE (Les.refl _), trivial⟩)), rfl, rfl⟩

noncomputable def xV : Bool → AV
  | true => .ptr 1 0
  | false => .nilp
abbrev FN : AV := .fn 40 [.ptr 3 0, .ptr 4 0, .ptr 5 0]
noncomputable abbrev HA (es : Kn) : List AObj := [xM es, .cells [.map 0], seenO [], .cells [.map 2], tkC [] 6, .cells [NILV], .tok]
noncomputable abbrev HB (es : Kn) (t o : List Nm) : List AObj := [xM es, .cells [.map 0], seenO o, .cells [.map 2], tkC t 6, .cells [.msl 1 7 0 o.length], .tok, arL o]

section
variable {es : Kn} {x : Nm} {t o : List Nm}
theorem in0 (h : x ∈ o) (q : List AObj) : ASpec Try.prog 40 [.str (B x), .ptr 3 0, .ptr 4 0, .ptr 5 0] (HB es t o ++ q) (fun r H' => r = .tup [] ∧ H' = HB es t o ++ q) := by
  refine ASpec.subH [2, 3, 4, 5, 6, 7] _ _ (noteIn (t := t) h) _ _ (by decide) rfl rfl rfl (fun i hi => ?_) ?_
  · match i, hi with
    | 0, _ | 1, _ | 2, _ | 3, _ | 4, _ | 5, _ => rfl
  · show _ ++ [] = _
    rw [List.append_nil]
    rfl
theorem out0 (h : x ∉ o) (ht : t.length ≤ 1000000000000) (ho : o.length ≤ 1000000000000) : ASpec Try.prog 40 [.str (B x), .ptr 3 0, .ptr 4 0, .ptr 5 0] (HB es t o)
    (fun r H' => r = .tup [] ∧ H' = [xM es, .cells [.map 0], seenO (o ++ [x]), .cells [.map 2], tkC (t ++ [x]) 8, .cells [.msl 1 9 0 (o ++ [x]).length], .gone, .gone, .tok, arL (o ++ [x])]) := by
  refine ASpec.subH [2, 3, 4, 5, 6, 7] _ _ (noteOut h ht ho) _ _ (by decide) rfl rfl rfl (fun i hi => ?_) rfl
  match i, hi with
  | 0, _ | 1, _ | 2, _ | 3, _ | 4, _ | 5, _ => rfl
theorem out1 (c : AObj) (h : x ∉ o) (ht : t.length ≤ 1000000000000) (ho : o.length ≤ 1000000000000) : ASpec Try.prog 40 [.str (B x), .ptr 3 0, .ptr 4 0, .ptr 5 0] (HB es t o ++ [c])
    (fun r H' => r = .tup [] ∧ H' = [xM es, .cells [.map 0], seenO (o ++ [x]), .cells [.map 2], tkC (t ++ [x]) 9, .cells [.msl 1 10 0 (o ++ [x]).length], .gone, .gone, c, .tok, arL (o ++ [x])]) := by
  refine ASpec.subH [2, 3, 4, 5, 6, 7] _ _ (noteOut h ht ho) _ _ (by decide) rfl rfl rfl (fun i hi => ?_) rfl
  match i, hi with
  | 0, _ | 1, _ | 2, _ | 3, _ | 4, _ | 5, _ => rfl
theorem fst1 (c : AObj) : ASpec Try.prog 40 [.str (B x), .ptr 3 0, .ptr 4 0, .ptr 5 0] (HA es ++ [c])
    (fun r H' => r = .tup [] ∧ H' = [xM es, .cells [.map 0], seenO [x], .cells [.map 2], tkC [x] 8, .cells [.msl 1 9 0 1], .gone, c, .tok, arL [x]]) := by
  refine ASpec.subH [2, 3, 4, 5, 6] _ _ noteFst _ _ (by decide) rfl rfl rfl (fun i hi => ?_) rfl
  match i, hi with
  | 0, _ | 1, _ | 2, _ | 3, _ | 4, _ => rfl
end

/-! ### what is known -/
def getX (b : Bool) (es : Kn) (k : Nm) : Mani × Bool := if b = true then getM es k else ((k, []), false)
def gX (b : Bool) (es : Kn) (k : Nm) : List Nm := mnM (getX b es k).1
theorem leR0 {ρ : Nat → Nat} : Le (.sl 0 (.raw []) .nil) (AV.ren ρ (.sl 2 (.map T.encR (0, []) []) .none)) := Le.sl (s' := Seq.ren _ (.map T.encR (0, []) [])) rfl (.inr ⟨rfl, fun _ h => by cases h⟩) (.inr rfl)
theorem hasN (s : Nm) (H : List AObj) : ASpec Try.prog 29 [.nilp, .str (B s)] H (fun r H' => r = .bool false ∧ H' = H) :=
  ASpec.pureH H (s29 _ _ ⟨rfl, rfl⟩) _ _ rfl rfl
theorem getN (s : Nm) (H : List AObj) : ASpec Try.prog 41 [.nilp, .str (B s)] H (fun r H' => r = .tup [.agg (encM (s, [])), .bool false] ∧ H' = H) := by
  have k : ASpec Try.prog 41 [.nilp, .str (B s)] [] (fun r H' => r = .tup [.agg (encM (s, [])), .bool false] ∧ H' = []) := by
    refine ASpec.sel (s41 _ _ (ASpec.call (hasN s _) (Les.refl _) ⟨false, rfl, rfl, condBn (fun _ => X.pa ?_) fun h => by cases h⟩))
    exact Le.tup ⟨Le.agg ⟨Le.refl _, leR0, trivial⟩, Le.refl _, trivial⟩
  exact ASpec.pureH H k _ _ rfl rfl
theorem get_x (b : Bool) {es : Kn} (hes : OkX es) (k : Nm) (H : List AObj) (h0 : H[0]? = some (xM es)) (h1 : H[1]? = some (.cells [.map 0])) :
    ASpec Try.prog 41 [xV b, .str (B k)] H (fun r H' => r = .tup [.agg (encM (getX b es k).1), .bool (getX b es k).2] ∧ H' = H) := by
  cases b with
  | true => exact X.get_spec es k hes H 0 1 (by omega) h0 h1
  | false => exact getN k H
theorem getX_ok (b : Bool) {es : Kn} (hes : OkX es) (k : Nm) : (getX b es k).1.2.length ≤ lim ∧ ∀ r ∈ (getX b es k).1.2, r.2.length ≤ lim := by
  unfold getX
  split
  · unfold getM
    split
    · rename_i m hm
      exact ⟨(hes _ _ hm).2.1, fun r hr => ((hes _ _ hm).2.2 r hr).1⟩
    · exact ⟨by simp, fun r hr => by simp at hr⟩
  · exact ⟨by simp, fun r hr => by simp at hr⟩

abbrev P2 (es : Kn) (root : List Need) (R : List Nm) : AV → List AObj → Prop := fun r H' => ∃ l H2 r2, Sel 2 l H' H2 ∧ Le r (AV.ren (selR l H'.length) r2) ∧
  ((root = [] ∧ r2 = NILV ∧ H2 = HX es ∧ R = []) ∨ (r2 = .msl 1 2 0 R.length ∧ H2 = HX es ++ [arL R]))
theorem sel2 {es : Kn} (q : List AObj) : Sel 2 [0, 1] (xM es :: .cells [.map 0] :: q) (HX es) :=
  selN (by decide) (by decide) (fun i h => by match i, h with | 0, _ | 1, _ => rfl) ⟨by rw [mp_ren]; rfl, rfl, trivial⟩

section
variable {b : Bool} {es : Kn} (hes : OkX es) {root : List Need} {U : List Nm} (hU : ∀ x, ∀ y ∈ gX b es x, y ∈ U) (hUl : U.length ≤ 1000000)
include hes

theorem n14 {s : List Nm} (hs : s.length ≤ lim) {to : List Nm × List Nm} {Post : AV → List AObj → Prop} (k : AWP Try.prog 61 2 c16_9 [(0, xV b), (6, .ptr 4 0), (7, .ptr 5 0), (8, FN)] (HB es to.1 to.2) (q16_4 2 Post)) :
    ∀ (m i : Nat) (t o : List Nm), m + i = s.length → t.length + m ≤ 1000000000000 → o.length + m ≤ 1000000000000 → notesF (s.drop i) t o = to →
    AWP Try.prog 61 2 c16_14 [(0, xV b), (6, .ptr 4 0), (7, .ptr 5 0), (8, FN), (48, slL s), (49, .int .i64 s.length), (50, .int .i64 i)] (HB es t o) (q16_7 2 Post) := by
  unfold lim at hs
  intro m
  induction m with
  | zero =>
    intro i t o hm ht ho h
    rw [List.drop_eq_nil_of_le (by omega)] at h
    subst h
    exact v16_14b _ _ _ _ _ _ _ _ _ (condD (fun hc => by omega) fun _ => k)
  | succ m ih =>
    intro i t o hm ht ho h
    rw [dropD s [] i (by omega)] at h
    refine v16_14b _ _ _ _ _ _ _ _ _ (condD (fun hc => needJ ⟨by omega, by omega⟩ ?_) fun hc => by omega)
    rw [Int.toNat_natCast, succ64 (by omega)]
    generalize s.getD i [] = y at h ⊢
    simp only [notesF] at h
    by_cases hy : y ∈ o
    · rw [if_pos hy] at h
      exact ASpec.call (in0 hy []) (Les.refl _) (.inl ⟨(), rfl, rfl, ih (i + 1) t o (by omega) (by omega) (by omega) h⟩)
    · rw [if_neg hy] at h
      refine ASpec.call (out0 hy (by omega) (by omega)) (Les.refl _) (.inr ⟨(t ++ [y], o ++ [y]), rfl, rfl, ?_⟩)
      refine AWP.shape [0, 1, 2, 3, 4, 5, 8, 9] _ (HB es (t ++ [y]) (o ++ [y])) (selN (by decide) (by decide) (fun i h => by match i, h with | 0, _ | 1, _ => rfl) ⟨by rw [mp_ren]; rfl, rfl, rfl, rfl, rfl, rfl, rfl, rfl, trivial⟩)
        (by cases b <;> exact slotsR rfl) (ih (i + 1) (t ++ [y]) (o ++ [y]) (by omega) (by simp; omega) (by simp; omega) h)

include hU hUl
theorem n9 {R : List Nm} : ∀ (f : Nat) (t o : List Nm), 2 * U.length + t.length < f + 2 * o.length → f ≤ 10000000 → o.Nodup → (∀ x ∈ o, x ∈ U) → sortL (codeN (gX b es) f t o) = R →
    AWP Try.prog 61 2 c16_9 [(0, xV b), (6, .ptr 4 0), (7, .ptr 5 0), (8, FN)] (HB es t o) (q16_4 2 (P2 es root R)) := by
  intro f
  induction f with
  | zero =>
    intro t o hm hf hn hu h
    have := sub_len hn hu
    omega
  | succ f ih =>
    intro t o hm hf hn hu h
    have hol := sub_len hn hu
    cases t with
    | nil =>
      have h : sortL o = R := h
      refine v16_9b _ _ _ _ _ _ (condD (fun hc => by simp at hc) fun _ => ?_)
      refine ASpec.mono (So.sort_spec (l := o) (id := 7) rfl rfl (by omega)) fun r H' hh => .inr ⟨sortL o, hh.1, hh.2, ?_⟩
      refine ⟨[0, 1, 7], HX es ++ [arL R], .msl 1 2 0 R.length, selN (by decide) (by decide) (fun i h => by match i, h with | 0, _ | 1, _ => rfl) ⟨by rw [mp_ren]; rfl, rfl, by rw [h]; rfl, trivial⟩, ?_, .inr ⟨rfl, rfl⟩⟩
      rw [← h, Pl.sort_len]; exact Le.refl _
    | cons y t =>
      simp only [codeN] at h
      simp only [List.length_cons] at hm
      refine v16_9b _ _ _ _ _ _ (condD (fun hc => needJ ⟨by omega, by simp⟩ (needJ ⟨by omega, by simp; omega, by omega, rfl⟩ ?_)) fun hc => by simp at hc)
      refine ASpec.call (get_x b hes y _ rfl rfl) (Les.refl _) ⟨getX b es y, rfl, rfl, ?_⟩
      have hok := getX_ok b hes y
      refine ASpec.call (names_spec (getX b es y).1 hok.1 hok.2 _) (Les.refl _) ⟨gX b es y, rfl, rfl, ?_⟩
      have hgl : (gX b es y).length ≤ U.length := sub_len (up_nd (Pl.addAll_up _ List.Pairwise.nil)) (hU y)
      obtain ⟨d, e1, e2, e3⟩ := notes_spec (gX b es y) t o
      have hu2 : ∀ x ∈ o ++ d, x ∈ U := fun x hx => by
        rcases (e3 x).1 hx with hx | hx
        · exact hu x hx
        · exact hU y x hx
      have hl2 := sub_len (e2 hn) hu2
      simp only [List.length_append] at hl2
      rw [e1] at h
      have hy : (y :: t).getD 0 [] = y := rfl
      have ht : ((y :: t).take (y :: t).length).drop 1 = t := by rw [List.take_length]; rfl
      refine AWP.re (ReSt.tokCell (id := 4) (j := 0) (sz' := 1) (q' := .map encL [] t) rfl rfl (.inr rfl) (by simp [Ab.Seq.toList]) (.inl rfl)) ?_
      refine AWP.shape [0, 1, 2, 3, 4, 5, 9, 7] _ (HB es t o) (selN (by decide) (by decide) (fun i h => by match i, h with | 0, _ | 1, _ => rfl) ⟨by rw [mp_ren]; rfl, rfl, rfl, rfl, rfl, rfl, rfl, rfl, trivial⟩)
        (by cases b <;> exact slotsR rfl) (n14 hes (s := gX b es y) (by unfold lim; omega) (to := (t ++ d, o ++ d)) (ih (t ++ d) (o ++ d) (by simp; omega) (by omega) (e2 hn) hu2 h) (gX b es y).length 0 t o (by omega) (by omega) (by omega) (by rw [List.drop_zero, e1]))

variable (hr : ∀ n ∈ root, n.1 ∈ U) (hrl : root.length ≤ 1000000)
include hr hrl
theorem n5 {R : List Nm} : ∀ (m i : Nat) (t o : List Nm), m + i = root.length → t.length ≤ i → o.length ≤ i → o.Nodup → (∀ x ∈ o, x ∈ U) →
    sortL (codeN (gX b es) (4 * U.length + 3) (notesF ((root.drop i).map (·.1)) t o).1 (notesF ((root.drop i).map (·.1)) t o).2) = R →
    t = o →
    AWP Try.prog 61 2 c16_5 [(0, xV b), (6, .ptr 4 0), (7, .ptr 5 0), (8, FN), (18, slN root), (19, .int .i64 root.length), (20, .int .i64 i)] (HB es t o) (q16_2 2 (P2 es root R)) := by
  intro m
  induction m with
  | zero =>
    intro i t o hm ht ho hn hu h hto
    have hol := sub_len hn hu
    rw [List.drop_eq_nil_of_le (by omega)] at h
    exact v16_5b _ _ _ _ _ _ _ _ _ (condD (fun hc => by omega) fun _ => n9 hes hU hUl (4 * U.length + 3) t o (by subst hto; omega) (by omega) hn hu h)
  | succ m ih =>
    intro i t o hm ht ho hn hu h hto
    rw [dropD root ([], []) i (by omega), List.map_cons] at h
    have hy := hr _ (memD root ([], []) i (by omega))
    refine v16_5b _ _ _ _ _ _ _ _ _ (condD (fun hc => needJ ⟨by omega, by omega⟩ ?_) fun hc => by omega)
    rw [Int.toNat_natCast, succ64 (by omega)]
    generalize root.getD i ([], []) = y at h hy ⊢
    simp only [notesF] at h
    by_cases hm2 : y.1 ∈ o
    · rw [if_pos hm2] at h
      refine ASpec.call (in0 hm2 [_]) (Les.refl _) (.inl ⟨(), rfl, rfl, ?_⟩)
      exact AWP.shape [0, 1, 2, 3, 4, 5, 6, 7] _ (HB es t o) (selN (by decide) (by decide) (fun i h => by match i, h with | 0, _ | 1, _ => rfl) ⟨by rw [mp_ren]; rfl, rfl, rfl, rfl, rfl, rfl, rfl, rfl, trivial⟩)
        (by cases b <;> exact slotsR rfl) (ih (i + 1) t o (by omega) (by omega) (by omega) hn hu h hto)
    · rw [if_neg hm2] at h
      refine ASpec.call (out1 _ hm2 (by omega) (by omega)) (Les.refl _) (.inr ⟨(t ++ [y.1], o ++ [y.1]), rfl, rfl, ?_⟩)
      refine AWP.shape [0, 1, 2, 3, 4, 5, 9, 10] _ (HB es (t ++ [y.1]) (o ++ [y.1])) (selN (by decide) (by decide) (fun i h => by match i, h with | 0, _ | 1, _ => rfl) ⟨by rw [mp_ren]; rfl, rfl, rfl, rfl, rfl, rfl, rfl, rfl, trivial⟩)
        (by cases b <;> exact slotsR rfl) (ih (i + 1) (t ++ [y.1]) (o ++ [y.1]) (by omega) (by simp; omega) (by simp; omega) ?_ (fun z hz => ?_) h (by rw [hto]))
      · rw [List.nodup_append]
        refine ⟨hn, by simp, fun a ha c hc => ?_⟩
        simp at hc; subst hc
        rintro rfl
        exact hm2 ha
      · rcases List.mem_append.1 hz with hz | hz
        · exact hu z hz
        · simp at hz; subst hz; exact hy

theorem names16 {R : List Nm} (hR : sortL (codeN (gX b es) (4 * U.length + 3) (notesF (root.map (·.1)) [] []).1 (notesF (root.map (·.1)) [] []).2) = R) :
    ASpec Try.prog 16 [xV b, slN root] (HX es) (fun r H' => (root = [] ∧ r = NILV ∧ H' = HX es ∧ R = []) ∨ (r = .msl 1 2 0 R.length ∧ H' = HX es ++ [arL R])) := by
  refine ASpec.sel (s16 _ _ _ (P2 es root R) ?_)
  refine AWP.re (ReSt.map (id := 2) (m' := .typed EB []) rfl mle_nil) ?_
  refine AWP.re (ReSt.tokCell (id := 4) (j := 0) (sz' := 1) (q' := .map encL [] []) rfl rfl (.inl rfl) rfl (.inr rfl)) ?_
  refine AWP.spell [(0, xV b), (6, .ptr 4 0), (7, .ptr 5 0), (8, FN), (18, slN root), (19, .int .i64 root.length), (20, .int .i64 (0 : Nat))] ⟨rfl, Le.refl _, rfl, Le.refl _, rfl, Le.refl _, rfl, Le.refl _, rfl, Le.refl _, rfl, Le.refl _, rfl, Le.refl _, trivial⟩ ?_
  cases root with
  | nil =>
    refine v16_5a _ _ _ _ _ _ _ (condD (fun hc => by simp at hc) fun _ => ?_)
    refine v16_9a _ _ _ _ (So.sort_nil.mono fun r H' hh => .inl ⟨(), hh.1, hh.2, [0, 1], HX es, NILV, sel2 _, Le.refl _, .inl ⟨rfl, rfl, rfl, ?_⟩⟩)
    rw [← hR]; simp [notesF, codeN, sortL]
  | cons y r =>
    refine v16_5a _ _ _ _ _ _ _ (condD (fun hc => needJ ⟨by omega, by simp⟩ ?_) fun hc => by simp at hc)
    rw [Int.toNat_natCast, succ64 (by omega)]
    refine ASpec.call (fst1 _) (Les.refl _) (.inr ⟨([y.1], [y.1]), rfl, rfl, ?_⟩)
    refine AWP.shape [0, 1, 2, 3, 4, 5, 8, 9] _ (HB es [y.1] [y.1]) (selN (by decide) (by decide) (fun i h => by match i, h with | 0, _ | 1, _ => rfl) ⟨by rw [mp_ren]; rfl, rfl, rfl, rfl, rfl, rfl, rfl, rfl, trivial⟩)
        (by cases b <;> exact slotsR rfl) (n5 hes hU hUl hr hrl r.length 1 [y.1] [y.1] (by simp) (by simp) (by simp) (by simp) (fun z hz => by simp at hz; subst hz; exact hr y (by simp)) hR rfl)
end
end Rc
end

section
/- The names that are missing, by the program (reach.Missing: slices.DeleteFunc with a method's value). -/

set_option linter.unusedVariables false
set_option linter.unusedSimpArgs false
set_option linter.unusedSectionVars false
set_option maxRecDepth 100000
open Go Go.Ab Go.Proofs V S T C
namespace Rc
open W (sl1 slS slN slR)
open So (sortL)
open X (hasI getM OkX mp_ren)
def hasX (b : Bool) (es : Kn) (k : Nm) : Bool := if b = true then hasI es k else false
theorem has_x (b : Bool) {es : Kn} (k : Nm) (H : List AObj) (h0 : H[0]? = some (xM es)) (h1 : H[1]? = some (.cells [.map 0])) :
    ASpec Try.prog 29 [xV b, .str (B k)] H (fun r H' => r = .bool (hasX b es k) ∧ H' = H) := by
  cases b with
  | true => exact X.has_spec es k H 0 1 (by omega) h0 h1
  | false => exact hasN k H
noncomputable abbrev fX (b : Bool) : AV := .bfn 29 [xV b]
noncomputable abbrev HR (es : Kn) (s : List Nm) : List AObj := [xM es, .cells [.map 0], arL s]

section
variable (p : Nm → Bool)
def ixP : List Nm → Nat → Int
  | [], _ => -1
  | y :: r, i => if p y = true then i else ixP r (i + 1)
def outP (l : List Nm) : List Nm := l.filter fun x => !p x
theorem ixP_none : ∀ {l : List Nm} {i : Nat}, ixP p l i = -1 → outP p l = l
  | [], _, _ => rfl
  | y :: r, i, h => by
    simp only [ixP] at h
    split at h
    · omega
    · rename_i hy
      have := ixP_none h
      unfold outP at this ⊢
      rw [List.filter_cons, if_pos (by simpa using hy), this]
theorem ixP_some : ∀ {l : List Nm} {i : Nat}, ixP p l i ≠ -1 → ∃ j : Nat, ixP p l i = ((i + j : Nat) : Int) ∧ j < l.length ∧ outP p (l.take (j + 1)) = l.take j
  | [], _, h => (h rfl).elim
  | y :: r, i, h => by
    simp only [ixP] at h ⊢
    split
    · rename_i hy
      refine ⟨0, rfl, by simp, ?_⟩
      simp [outP, hy]
    · rename_i hy
      rw [if_neg hy] at h
      obtain ⟨j, h1, h2, h3⟩ := ixP_some (i := i + 1) h
      refine ⟨j + 1, by rw [h1]; congr 1; omega, by simp; omega, ?_⟩
      rw [List.take_succ_cons, List.take_succ_cons]
      unfold outP at h3 ⊢
      rw [List.filter_cons, if_pos (by simpa using hy), h3]
end
section
variable {b : Bool} {es : Kn}
theorem ix2 {s : List Nm} (hl : s.length ≤ 10000000) {R : Int} : ∀ (m i : Nat), m + i = s.length → ixP (hasX b es) (s.drop i) i = R →
    AWP Try.prog 19 3 c62_2 [(0, .msl 1 2 0 s.length), (1, fX b), (7, .int .i64 s.length), (8, .int .i64 i)] (HR es s) (q62_2 3 (fun r H' => r = .int .i64 R ∧ H' = HR es s)) := by
  intro m
  induction m with
  | zero =>
    intro i hm h
    refine v62_2m _ _ _ _ _ _ _ (condD (fun hc => by omega) fun _ => ?_)
    rw [List.drop_eq_nil_of_le (by omega)] at h
    subst h
    exact ⟨rfl, rfl⟩
  | succ m ih =>
    intro i hm h
    rw [dropD s [] i (by omega)] at h
    simp only [ixP] at h
    refine v62_2m _ _ _ _ _ _ _ (condD (fun hc => needJ ⟨by omega, by omega⟩ (needJ (by rw [Int.toNat_natCast]; omega) ?_)) fun hc => by omega)
    rw [Int.toNat_natCast, Nat.zero_add, succ64 (by omega)]
    generalize s.getD i [] = y at h ⊢
    refine ASpec.call (has_x b y _ rfl rfl) (Les.refl _) ⟨_, rfl, rfl, condB (fun h1 => ?_) fun h1 => ?_⟩
    · rw [if_pos h1] at h; subst h; exact ⟨rfl, rfl⟩
    · rw [if_neg (by rw [h1]; simp)] at h; exact ih (i + 1) (by omega) h
theorem ix_spec (s : List Nm) (hl : s.length ≤ 10000000) : ASpec Try.prog 62 [.msl 1 2 0 s.length, fX b] (HR es s) (fun r H' => r = .int .i64 (ixP (hasX b es) s 0) ∧ H' = HR es s) :=
  s62m _ _ _ _ (ix2 hl s.length 0 (by omega) rfl)

abbrev PD (es : Kn) (R : List Nm) : AV → List AObj → Prop := fun r H' => ∃ q n, r = .msl 1 2 0 n ∧ H' = [xM es, .cells [.map 0], .arr 1 q] ∧ n ≤ q.toList.length ∧ R.map encL = q.toList.take n
theorem del11 {A R : List Nm} {i : Nat} (hl : A.length ≤ 10000000) (hi : i < A.length) (h : A.take i = R) :
    AWP Try.prog 42 3 c46_11 [(0, .msl 1 2 0 A.length), (5, .int .i64 i)] (HR es A) (q46_0 3 (PD es R)) := by
  refine v46_11 .nilp _ _ _ _ _ (needJ ⟨by omega, by omega⟩ (condD (fun _ => needJ (by rw [Int.toNat_natCast]; omega) (needJ ⟨by omega, by omega⟩ ?_)) fun hc => by omega))
  rw [Int.toNat_natCast, Nat.zero_add]
  refine ⟨_, i, rfl, rfl, ?_, ?_⟩
  · simp [copied, Ab.Seq.toList]; omega
  · simp only [copied, Ab.Seq.toList]
    rw [← h, List.map_take, List.take_append_of_le_length (by simp; omega), List.take_take, Nat.min_self]
theorem del5 {s : List Nm} (hl : s.length ≤ 10000000) : ∀ (m i j : Nat) (A : List Nm), m + j = s.length → i < j → A.length = s.length → A.take i = outP (hasX b es) (s.take j) → A.drop j = s.drop j →
    AWP Try.prog 42 3 c46_5 [(0, .msl 1 2 0 A.length), (1, fX b), (5, .int .i64 i), (6, .int .i64 j)] (HR es A) (q46_2 3 (PD es (outP (hasX b es) s))) := by
  intro m
  induction m with
  | zero =>
    intro i j A hm hij hA ht hd
    refine v46_5 _ _ _ _ _ _ _ (condD (fun hc => by omega) fun _ => del11 (by omega) (by omega) ?_)
    rw [ht, List.take_of_length_le (by omega)]
  | succ m ih =>
    intro i j A hm hij hA ht hd
    have hdj := hd
    rw [dropD A [] j (by omega), dropD s [] j (by omega)] at hdj
    have hx : A.getD j [] = s.getD j [] := (List.cons.inj hdj).1
    have hd1 : A.drop (j + 1) = s.drop (j + 1) := (List.cons.inj hdj).2
    have htj : s.take (j + 1) = s.take j ++ [s.getD j []] := by
      rw [List.take_add_one, List.getD_eq_getElem?_getD, List.getElem?_eq_getElem (show j < s.length by omega)]; rfl
    have hdr : outP (hasX b es) (s.take (j + 1)) = outP (hasX b es) (s.take j) ++ (if hasX b es (s.getD j []) = true then [] else [s.getD j []]) := by
      rw [htj]
      unfold outP
      rw [List.filter_append]
      congr 1
      by_cases h : hasX b es (s.getD j []) = true
      · rw [if_pos h, List.filter_cons, if_neg (by rw [h]; simp)]; rfl
      · rw [if_neg h, List.filter_cons, if_pos (by simpa using h)]; rfl
    refine v46_5 _ _ _ _ _ _ _ (condD (fun hc => needJ ⟨by omega, by omega⟩ (needJ (by rw [Int.toNat_natCast]; omega) ?_)) fun hc => by omega)
    rw [Int.toNat_natCast, Nat.zero_add, succ64 (by omega), succ64 (by omega), hx]
    generalize s.getD j [] = y at hdr hx ⊢
    refine ASpec.call (has_x b y _ rfl rfl) (Les.refl _) ⟨_, rfl, rfl, condBn (fun h1 => ?_) fun h1 => ?_⟩
    · rw [if_neg (by rw [h1]; simp)] at hdr
      refine needJ ⟨by omega, by omega⟩ (needJ (by rw [Int.toNat_natCast]; omega) ?_)
      rw [Int.toNat_natCast, Nat.zero_add]
      have eA : (A.set i y).length = A.length := List.length_set
      have key := ih (i + 1) (j + 1) (A.set i y) (by omega) (by omega) (by rw [eA, hA]) ?_ ?_
      · rw [eA] at key
        refine AWP.re (ReSt.arr (id := 2) (q := _) (q' := .map encL [] (A.set i y)) rfl (by simp only [Ab.Seq.toList, List.map_set]; rfl)) ?_
        exact key
      · rw [hdr, ← ht, List.take_add_one]
        congr 1
        · rw [List.take_set_of_le (Nat.le_refl _)]
        · rw [List.getElem?_set_self (by omega)]; rfl
      · rw [List.drop_set_of_lt (by omega), hd1]
    · rw [if_pos h1, List.append_nil] at hdr
      exact ih i (j + 1) A (by omega) (by omega) hA (by rw [ht, hdr]) hd1
theorem del0 (s : List Nm) (hl : s.length ≤ 10000000) : ASpec Try.prog 46 [.msl 1 2 0 s.length, fX b] (HR es s) (PD es (outP (hasX b es) s)) := by
  refine s46m _ _ _ _ (ASpec.call (ix_spec s hl) (Les.refl _) ⟨_, rfl, rfl, condE (fun h => ?_) fun h => ?_⟩)
  · refine ⟨_, s.length, rfl, rfl, by simp [Ab.Seq.toList], ?_⟩
    rw [ixP_none _ h]; simp only [Ab.Seq.toList]; rw [List.take_of_length_le (by simp)]
  · obtain ⟨j, h1, h2, h3⟩ := ixP_some _ h
    rw [h1, Nat.zero_add]
    refine v46_4 _ _ _ _ _ _ ?_
    rw [succ64 (by omega)]
    exact del5 hl (s.length - (j + 1)) j (j + 1) s (by omega) (by omega) rfl h3.symm rfl
theorem del_spec (s : List Nm) (hl : s.length ≤ 10000000) : ASpec Try.prog 46 [.msl 1 2 0 s.length, fX b] (HR es s) (fun r H' => r = slL (outP (hasX b es) s) ∧ H' = [xM es, .cells [.map 0], .gone]) := by
  refine ASpec.reEnd ((del0 s hl).mono fun r H' hh => ?_)
  obtain ⟨q, n, rfl, rfl, hn, hq⟩ := hh
  exact ⟨_, _, ReSt.freeze1 (id := 2) (q' := .map encL [] (outP (hasX b es) s)) rfl (by show 3 ≤ 3; omega) hn (by rw [← hq]; rfl), rfl, rfl⟩
theorem del_nil : ASpec Try.prog 46 [NILV, fX b] (HX es) (fun r H' => r = slL [] ∧ H' = HX es) := by
  have k : ASpec Try.prog 62 [NILV, fX b] (HX es) (fun r H' => r = .int .i64 (-1) ∧ H' = HX es) :=
    s62v _ _ _ (v62_2v _ _ _ _ _ _ (condD (fun hc => by omega) fun _ => ⟨rfl, rfl⟩))
  refine ASpec.sel (s46v _ _ _ (ASpec.call k (Les.refl _) ⟨-1, rfl, rfl, condE (fun _ => ?_) fun h => (h rfl).elim⟩))
  exact ⟨[0, 1], HX es, slL [], sel2 [], nilLle _, rfl, rfl⟩

variable (hes : OkX es) {root : List Need} {U : List Nm} (hU : ∀ x, ∀ y ∈ gX b es x, y ∈ U) (hUl : U.length ≤ 1000000) (hr : ∀ n ∈ root, n.1 ∈ U) (hrl : root.length ≤ 1000000)
include hes hU hUl hr hrl
theorem names_len {R : List Nm} (hR : sortL (codeN (gX b es) (4 * U.length + 3) (notesF (root.map (·.1)) [] []).1 (notesF (root.map (·.1)) [] []).2) = R) : R.length ≤ U.length := by
  obtain ⟨d, e1, e2, e3⟩ := notes_spec (root.map (·.1)) [] []
  simp only [List.nil_append, List.not_mem_nil, false_or] at e1 e2 e3
  rw [e1] at hR
  have hU1 : ∀ x ∈ root.map (·.1), x ∈ U := fun x hx => by
    obtain ⟨n, hn, rfl⟩ := List.mem_map.1 hx
    exact hr n hn
  have hd : ∀ x ∈ d, RS (gX b es) (root.map (·.1)) x := fun x hx => .base ((e3 x).1 hx)
  have hl := rs_len (gX b es) hU1 hU (e2 List.nodup_nil) hd
  have hc := code_spec (gX b es) hU1 hU (4 * U.length + 3) d d (e2 List.nodup_nil) hd (fun x hx => (e3 x).2 hx) (fun x hx => hx) (fun x hx => .inl hx) (by omega)
  rw [← hR, Pl.sort_len]
  exact rs_len (gX b es) hU1 hU hc.1 fun x hx => (hc.2 x).1 hx
theorem missing18 {R : List Nm} (hR : sortL (codeN (gX b es) (4 * U.length + 3) (notesF (root.map (·.1)) [] []).1 (notesF (root.map (·.1)) [] []).2) = R) :
    ASpec Try.prog 18 [xV b, slN root] (HX es) (fun r H' => r = slL (outP (hasX b es) R) ∧ H' = HX es) := by
  have hRl := names_len hes hU hUl hr hrl hR
  refine ASpec.sel (s18 _ _ _ _ ((names16 hes hU hUl hr hrl hR).mono fun r H' hh => ?_))
  rcases hh with ⟨h1, h2, h3, h4⟩ | ⟨h2, h3⟩
  · refine .inl ⟨(), h2, h3, ?_⟩
    subst h4
    refine (del_nil (b := b) (es := es)).mono fun r H' hh => ⟨[], hh.1, hh.2, [0, 1], HX es, slL [], sel2 [], slLle _ _ _, rfl, rfl⟩
  · refine .inr ⟨R, h2, h3, ?_⟩
    refine (del_spec (b := b) (es := es) R (by omega)).mono fun r H' hh => ⟨outP (hasX b es) R, hh.1, hh.2, [0, 1], HX es, slL (outP (hasX b es) R), sel2 [_], slLle _ _ _, rfl, rfl⟩
end
end Rc
end

section
/- The index and the document's: plain laws. -/

set_option linter.unusedVariables false
set_option linter.unusedSimpArgs false
open Go Go.Ab Go.Proofs V S T C
namespace Xd
open X (hasI getM readK putI OkX find_none)
open Pl (Up up_one tri ltT ltI sort_up sort_mem)
open Dp (less_iff less_trans less_tri)
open So (sortL)
abbrev Nm := List UInt8
def kdOf (k : Nm) : Known → Kd
  | some m => (m, true)
  | none => ((k, []), false)
def insK (x : Kd) : List Kd → List Kd
  | [] => [x]
  | y :: r => if Op.bytesLess x.1.1 y.1.1 = true then x :: y :: r else y :: insK x r
def atF (s : Nm) : List Kd → Option Kd
  | [] => none
  | y :: r => if y.1.1 = s then some y else atF s r
def hasD (l : List Kd) (s : Nm) : Bool := (atF s l).isSome
def getKd (l : List Kd) (s : Nm) : Mani × Bool := match atF s l with
  | some y => (y.1, y.2)
  | none => ((s, []), false)
def putKd (l : List Kd) (s b : Nm) : Int × List Kd :=
  if fitM s = false ∨ 8192 < b.length then (1, l) else if hasD l s = true then (6, l) else (0, insK (kdOf s (readK s b)) l)

theorem insK_len (x : Kd) : ∀ l : List Kd, (insK x l).length = l.length + 1
  | [] => rfl
  | y :: r => by
    simp only [insK]
    split
    · rfl
    · simp [insK_len x r]
theorem insK_mem {x y : Kd} : ∀ {l : List Kd}, y ∈ insK x l ↔ y = x ∨ y ∈ l
  | [] => by simp [insK]
  | z :: r => by
    simp only [insK]
    split
    · simp
    · have := insK_mem (x := x) (y := y) (l := r)
      simp only [List.mem_cons, this]
      constructor
      · rintro (h | h | h) <;> simp [h]
      · rintro (h | h | h) <;> simp [h]
theorem atF_none {s : Nm} : ∀ {l : List Kd}, atF s l = none ↔ ∀ y ∈ l, y.1.1 ≠ s
  | [] => by simp [atF]
  | y :: r => by
    simp only [atF]
    split
    · rename_i h; simp [h]
    · rename_i h; rw [atF_none]; simp [h]
theorem atF_ins {x : Kd} {s : Nm} : ∀ {l : List Kd}, atF x.1.1 l = none → atF s (insK x l) = if x.1.1 = s then some x else atF s l
  | [], _ => by simp [insK, atF]
  | y :: r, h => by
    simp only [atF] at h
    split at h
    · cases h
    · rename_i hy
      simp only [insK]
      split
      · simp only [atF]
      · simp only [atF]
        rw [atF_ins h]
        by_cases e : y.1.1 = s
        · rw [if_pos e, if_pos e, if_neg (fun h => hy (by rw [e, h]))]
        · rw [if_neg e, if_neg e]

abbrev UpD (l : List Kd) : Prop := l.Pairwise fun a b => Op.bytesLess a.1.1 b.1.1 = true
theorem insK_up {x : Kd} : ∀ {l : List Kd}, UpD l → atF x.1.1 l = none → UpD (insK x l)
  | [], _, _ => by simp [insK]
  | y :: r, h, hn => by
    have h' := List.pairwise_cons.1 h
    have hy := atF_none.1 hn y (by simp)
    have hr : atF x.1.1 r = none := atF_none.2 fun z hz => atF_none.1 hn z (by simp [hz])
    simp only [insK]
    split
    · rename_i hb
      refine List.pairwise_cons.2 ⟨fun z hz => ?_, h⟩
      rcases List.mem_cons.1 hz with rfl | hz
      · exact hb
      · exact less_trans hb (h'.1 z hz)
    · rename_i hb
      have hlt : Op.bytesLess y.1.1 x.1.1 = true := less_tri (by simpa using hb) (fun e => hy e.symm)
      refine List.pairwise_cons.2 ⟨fun z hz => ?_, insK_up h'.2 hr⟩
      rcases insK_mem.1 hz with rfl | hz
      · exact hlt
      · exact h'.1 z hz

/-- the index and the document's know the same -/
structure RelX (es : Kn) (l : List Kd) : Prop where
  up : UpD l
  look : ∀ s, atF s l = (findM es (B s)).map (kdOf s)
  len : l.length = es.length
  nd : (es.map (·.1)).Nodup
theorem rel0 : RelX [] [] := ⟨List.Pairwise.nil, fun s => rfl, rfl, List.Pairwise.nil⟩

theorem setM_app {α : Type} (k : ByteArray) (v : α) : ∀ es : List (ByteArray × α), findM es k = none → setM es k v = es ++ [(k, v)]
  | [], _ => rfl
  | p :: l, h => by
    simp only [findM] at h
    split at h
    · cases h
    · rename_i e
      simp only [setM, if_neg e]
      rw [setM_app k v l h]; rfl
theorem find_keys {α : Type} {k : ByteArray} : ∀ {es : List (ByteArray × α)}, findM es k = none ↔ k ∉ es.map (·.1)
  | [] => by simp [findM]
  | p :: l => by
    simp only [findM, List.map_cons, List.mem_cons, not_or]
    split
    · rename_i h; simp [h]
    · rename_i h; rw [find_keys]; simp [h]
theorem kdOf_name (k b : Nm) : (kdOf k (readK k b)).1.1 = k := by
  unfold readK
  split
  · rfl
  · rename_i h
    show (W.readM b).1.1 = k
    exact Classical.byContradiction fun hn => h (.inr hn)
theorem B_inj {a b : Nm} (h : B a = B b) : a = b := by
  have := congrArg (fun x : ByteArray => x.data.toList) h
  simpa using this

theorem rel_has {es : Kn} {l : List Kd} (h : RelX es l) (s : Nm) : hasD l s = hasI es s := by
  unfold hasD hasI
  rw [h.look s, Option.isSome_map]
theorem rel_put {es : Kn} {l : List Kd} (h : RelX es l) (s b : Nm) : (putKd l s b).1 = (putI es s b).1 ∧ RelX (putI es s b).2 (putKd l s b).2 := by
  unfold putKd putI
  rw [rel_has h]
  split
  · exact ⟨rfl, h⟩
  · split
    · exact ⟨rfl, h⟩
    · rename_i hn
      have hn : hasI es s = false := by simpa using hn
      have hf := find_none hn
      have ha : atF (kdOf s (readK s b)).1.1 l = none := by rw [kdOf_name, h.look s, hf]; rfl
      refine ⟨rfl, insK_up h.up ha, fun t => ?_, ?_, ?_⟩
      · rw [atF_ins ha, kdOf_name, findM_set, h.look t]
        by_cases e : s = t
        · subst e; rw [if_pos rfl, if_pos rfl]; rfl
        · rw [if_neg e, if_neg (fun hh => e (B_inj hh).symm)]
      · rw [insK_len, setM_app _ _ _ hf, h.len]; simp
      · rw [setM_app _ _ _ hf, List.map_append, List.nodup_append]
        refine ⟨h.nd, by simp, fun a ha b hb => ?_⟩
        simp at hb
        subst hb
        rintro rfl
        exact (find_keys.1 hf) ha

/-! ### names -/
end Xd
end

section
/- strings.Compare, by the library's contract at this program (the laying was written by the kit's lay-plain tool). -/

set_option linter.unusedVariables false
set_option linter.unusedSimpArgs false
namespace Go.Proofs
open Go.Shelf
end Go.Proofs
open Go Go.Ab Go.Proofs V S T C
namespace Dp
end Dp
end

section
/- Depots: what the code and the document's code compute. -/

set_option linter.unusedVariables false
set_option linter.unusedSimpArgs false
set_option maxRecDepth 100000
open Go Go.Ab Go.Proofs V S T C
open W (sl1 slS slN slR leNone readM cons_dec)
namespace Dp

abbrev PA (r0 : AV) : AV → List AObj → Prop := fun r H' => ∃ l H2 r2, Sel 0 l H' H2 ∧ Le r (AV.ren (selR l H'.length) r2) ∧ (r2 = r0 ∧ H2 = [])
theorem pa {r r0 : AV} {H' : List AObj} (h : Le r (AV.ren (selR [] H'.length) r0)) : PA r0 r H' := ⟨[], [], r0, Sel.none, h, rfl, rfl⟩
noncomputable abbrev slL (l : List (List UInt8)) : AV := .sl 1 (.map encL [] l) .none
/-! ### large -/

/-! ### which may be -/

/-! ### looking for a name -/

/-! ### bodies and manifests -/

def readB (s b : List UInt8) : Mani × Bool := if (readM b).2 ≠ 0 ∨ (readM b).1.1 ≠ s then ((s, []), false) else ((readM b).1, true)
abbrev PMB (v : Mani × Bool) : AV → List AObj → Prop := PA (.tup [.agg (encM v.1), .bool v.2])
theorem pmNone {v : Mani × Bool} {s : List UInt8} {H' : List AObj} (h : v = ((s, []), false)) : PMB v (.tup [.agg [.str (B s), .sl 0 (.raw []) .nil], .bool false]) H' := by
  subst h
  exact pa (Le.tup ⟨Le.agg ⟨Le.refl _, Le.sl (s' := Seq.ren _ (.map T.encR (0, []) [])) rfl (.inr ⟨rfl, fun _ h => by cases h⟩) (.inr rfl), trivial⟩, Le.refl _, trivial⟩)
theorem pmSome {v : Mani × Bool} {m : Mani} {H' : List AObj} (h : v = (m, true)) : PMB v (.tup [.agg (encM m), .bool true]) H' := by
  subst h
  exact pa (Le.refl _)

/-! ### the document's -/

theorem rread_spec (s b : List UInt8) (hb : b.length ≤ 1000000) (H : List AObj) : ASpec Try.prog 57 [.str (B s), .str (B b)] H (fun r H' => r = .tup [.agg (encM (readB s b).1), .bool (readB s b).2] ∧ H' = H) := by
  have k : ASpec Try.prog 57 [.str (B s), .str (B b)] [] (fun r H' => r = .tup [.agg (encM (readB s b).1), .bool (readB s b).2] ∧ H' = []) := by
    refine ASpec.sel (s57 _ _ _ (ASpec.call (W.rread_spec b hb _) (Les.refl _) ⟨((readM b).1, (readM b).2), rfl, rfl, condNe (fun h => pmNone ?_) fun h => condSn (fun h2 => pmNone ?_) fun h2 => pmSome ?_⟩))
    · rw [readB, if_pos (.inl h)]
    · rw [readB, if_pos (.inr h2)]
    · rw [readB, if_neg (by rintro (h3 | h3); exact h3 h; exact h3 h2)]
  exact ASpec.pureH H k _ _ rfl rfl

theorem names4 {a b : List (List UInt8)} {c : Bool} (hl : a.length ≤ lim) (he : a.length = b.length) : ∀ (m i : Nat), m + i = a.length → decide (a.drop i = b.drop i) = c →
    AWP Try.prog 26 0 c15_4 [(0, slL a), (1, slL b), (5, .int .i64 i)] [] (q15_2 0 (PB c)) := by
  unfold lim at hl
  intro m
  induction m with
  | zero =>
    intro i hm h
    refine v15_4 _ _ _ _ _ (condD (fun hc => by omega) fun _ => pb ?_)
    rw [List.drop_eq_nil_of_le (by omega), List.drop_eq_nil_of_le (by omega)] at h
    rw [← h]; simp
  | succ m ih =>
    intro i hm h
    rw [dropD a [] i (by omega), dropD b [] i (by omega), cons_dec] at h
    refine v15_4 _ _ _ _ _ (condD (fun hc => needJ ⟨by omega, by omega⟩ (needJ ⟨by omega, by omega⟩ ?_)) fun hc => by omega)
    rw [Int.toNat_natCast]
    generalize a.getD i [] = x at h ⊢
    generalize b.getD i [] = y at h ⊢
    refine condSn (fun h1 => pb ?_) fun h1 => ?_
    · rw [decide_eq_false h1, Bool.false_and] at h; exact h
    · rw [decide_eq_true h1, Bool.true_and] at h
      rw [succ64 (by omega)]
      exact ih (i + 1) (by omega) h

theorem names_spec (a b : List (List UInt8)) (hl : a.length ≤ lim) (H : List AObj) : ASpec Try.prog 15 [slL a, slL b] H (fun r H' => r = .bool (decide (a = b)) ∧ H' = H) := by
  have k : ASpec Try.prog 15 [slL a, slL b] [] (fun r H' => r = .bool (decide (a = b)) ∧ H' = []) := by
    refine ASpec.sel (s15 _ _ _ (condNe (fun h => pb ?_) fun h => names4 hl (by omega) a.length 0 (by omega) rfl))
    symm
    rw [decide_eq_false]
    rintro rfl; exact h rfl
  exact ASpec.pureH H k _ _ rfl rfl

/-! ### the examples -/

/-! ### the law -/

end Dp
end

section
/- The document's index: has, get, put, of; the index's of, and its copy. -/

set_option linter.unusedVariables false
set_option linter.unusedSimpArgs false
set_option maxRecDepth 100000
open Go Go.Ab Go.Proofs V S T C
open W (sl1 slS slN slR)
namespace Xd
open X (hasI getM readK putI OkX find_none PA pa mp_ren selX)
/-- at the end of a call -/
theorem cellEnd {H : List AObj} {P : Program} {f : FuncId} {args : List AV} {Post : AV → List AObj → Prop}
    (h : ASpec P f args H (fun r H' => ∃ id cs cs', H'[id]? = some (.cells cs) ∧ Les cs cs' ∧ Post r (H'.set id (.cells cs')))) : ASpec P f args H Post := by
  intro M loc w vs ht hr hv
  refine (h M loc w vs ht hr hv).mono fun e w' hh => ?_
  obtain ⟨v, r, H', M', loc', he, ⟨id, cs, cs', ho, hq, hP⟩, r1, r2, r3⟩ := hh
  have hl := hq.len
  obtain ⟨k1, k2⟩ := r1.respell id (.cells cs) (.cells cs') ho (by intro h; cases h) (by intro h; cases h) (fun hO => by
    obtain ⟨b, vs, T, fr, e1, e2, e3, e4, e5, hs, e6⟩ := hO
    exact ⟨b, vs, T, fr, e1, e2, e3, e4, e5, by omega, fun i hi => hq.get i (by omega) hi _ _ _ _ (e6 i (by omega))⟩)
  exact ⟨v, r, _, M', loc', he, hP, k1, r2.keeps (k2.keeps r1), StepN.trans r3 k2 r3.len⟩

noncomputable abbrev agK (l : List Kd) : AV := .agg (encXd l)
theorem liftK {H : List AObj} {p : Nat} {x x' : List Kd} {f : FuncId} {args args' : List AV} {r0 r' : AV} (hp : H[p]? = some (.cells (encXd x))) (k : ASpec Try.prog f args [.cells (encXd x)] (fun r H' => r = r0 ∧ H' = [.cells (encXd x')]))
    (ha : args.map (AV.ren (callR [p] H.length)) = args') (hr : AV.ren (callR [p] H.length) r0 = r') :
    ASpec Try.prog f args' H (fun r H' => r = r' ∧ H' = H.set p (.cells (encXd x'))) := by
  refine ASpec.subH [p] H _ k args' r' (by simp) rfl ha hr (fun i hi => ?_) ?_
  · match i, hi with
    | 0, _ => exact hp
  · have e : graftH (callR [p] H.length) [p] H [.cells (encXd x')] = H.set p (.cells (encXd x')) ++ [] := rfl
    rw [e, List.append_nil]

/-! ### where a name lies -/
def ixD (s : Nm) : List Kd → Nat → Int
  | [], _ => -1
  | y :: r, i => if y.1.1 = s then i else ixD s r (i + 1)
theorem ix_none {s : Nm} : ∀ {l : List Kd} {i : Nat}, atF s l = none → ixD s l i = -1
  | [], _, _ => rfl
  | y :: r, i, h => by
    simp only [atF] at h
    split at h
    · cases h
    · rename_i hy; simp only [ixD, if_neg hy]; exact ix_none h
theorem ix_some {s : Nm} : ∀ {l : List Kd} {i : Nat} {y : Kd}, atF s l = some y → ∃ j : Nat, ixD s l i = ((i + j : Nat) : Int) ∧ j < l.length ∧ l.getD j noKd = y
  | [], _, _, h => by cases h
  | z :: r, i, y, h => by
    simp only [atF] at h
    split at h
    · rename_i hz; cases h; exact ⟨0, by simp [ixD, hz], by simp, rfl⟩
    · rename_i hz
      obtain ⟨j, h1, h2, h3⟩ := ix_some (i := i + 1) h
      exact ⟨j + 1, by simp only [ixD, if_neg hz]; rw [h1]; congr 1; omega, by simp; omega, by simpa using h3⟩
theorem ix_has (s : Nm) (l : List Kd) : decide (ixD s l 0 ≥ 0) = hasD l s := by
  unfold hasD
  cases h : atF s l with
  | none => rw [ix_none h]; rfl
  | some y => obtain ⟨j, h1, _, _⟩ := ix_some (i := 0) h; rw [h1]; simp

theorem at2 {l : List Kd} {s : Nm} (hl : l.length ≤ lim) {R : Int} : ∀ (m i : Nat), m + i = l.length → ixD s (l.drop i) i = R →
    AWP Try.prog 23 0 c58_2 [(1, .str (B s)), (2, .ptr 0 0), (5, .int .i64 i)] [.cells (encXd l)] (q58_2 0 (PA (.int .i64 R))) := by
  unfold lim at hl
  intro m
  induction m with
  | zero =>
    intro i hm h
    refine v58_2 _ _ _ _ _ (condD (fun hc => by omega) fun _ => ?_)
    rw [List.drop_eq_nil_of_le (by omega)] at h
    subst h
    exact pa (Le.refl _)
  | succ m ih =>
    intro i hm h
    rw [dropD l noKd i (by omega)] at h
    simp only [ixD] at h
    refine v58_2 _ _ _ _ _ (condD (fun hc => needJ ⟨by omega, by omega⟩ ?_) fun hc => by omega)
    rw [Int.toNat_natCast, succ64 (by omega)]
    generalize l.getD i noKd = y at h ⊢
    refine condS (fun h1 => pa ?_) fun h1 => ?_
    · rw [if_pos h1] at h; subst h; exact Le.refl _
    · rw [if_neg h1] at h; exact ih (i + 1) (by omega) h
theorem at_spec (l : List Kd) (s : Nm) (hl : l.length ≤ lim) (H : List AObj) : ASpec Try.prog 58 [agK l, .str (B s)] H (fun r H' => r = .int .i64 (ixD s l 0) ∧ H' = H) := by
  have k : ASpec Try.prog 58 [agK l, .str (B s)] [] (fun r H' => r = .int .i64 (ixD s l 0) ∧ H' = []) :=
    ASpec.sel (s58 _ _ _ (at2 hl l.length 0 (by omega) rfl))
  exact ASpec.pureH H k _ _ rfl rfl
theorem has_spec (l : List Kd) (s : Nm) (hl : l.length ≤ lim) (H : List AObj) : ASpec Try.prog 39 [agK l, .str (B s)] H (fun r H' => r = .bool (hasD l s) ∧ H' = H) := by
  have k : ASpec Try.prog 39 [agK l, .str (B s)] [] (fun r H' => r = .bool (hasD l s) ∧ H' = []) := by
    refine ASpec.sel (s39 _ _ _ (ASpec.call (at_spec l s hl _) (Les.refl _) ⟨_, rfl, rfl, pa ?_⟩))
    rw [ix_has]; exact Le.refl _
  exact ASpec.pureH H k _ _ rfl rfl
/-! ### does it hold? -/
/-! ### names -/
/-! ### Put -/
theorem kdOf_read (s b : Nm) : kdOf s (readK s b) = Dp.readB s b := by
  unfold readK Dp.readB
  split <;> rfl
abbrev P1 (r0 : AV) (x' : List Kd) : AV → List AObj → Prop := fun r H' => ∃ q H2 r2, Sel 1 q H' H2 ∧ Le r (AV.ren (selR q H'.length) r2) ∧ (r2 = r0 ∧ H2 = [.cells (encXd x')])
theorem p1 {x' : List Kd} {r r0 : AV} (q : List AObj) (h : ∀ ρ, Le r (AV.ren ρ r0)) : P1 r0 x' r (.cells (encXd x') :: q) := by
  refine ⟨[0], [.cells (encXd x')], r0, ⟨by decide, rfl, Nat.le_refl _, fun j hj => ?_, fun j hj => ?_⟩, h _, rfl, rfl⟩
  · match j, hj with
    | 0, _ => rfl
  · match j, hj with
    | 0, _ => exact .inl rfl
abbrev PC (r0 : AV) (x' : List Kd) : AV → List AObj → Prop := fun r H' => ∃ id cs cs', H'[id]? = some (.cells cs) ∧ Les cs cs' ∧ P1 r0 x' r (H'.set id (.cells cs'))
theorem pc {x' : List Kd} {r r0 : AV} {cs : List AV} (q : List AObj) (h : Les cs (encXd x')) (h2 : ∀ ρ, Le r (AV.ren ρ r0)) : PC r0 x' r (.cells cs :: q) :=
  ⟨0, cs, encXd x', rfl, h, p1 q h2⟩
theorem put15 {l o R : List Kd} {x : Kd} {b : Bool} (ho : o.length ≤ 10000000) (h : o ++ (if b = true then [] else [x]) = R) :
    AWP Try.prog 83 1 c38_15 [(0, .ptr 0 0), (7, .ptr 1 0), (8, .bool x.2), (9, .sl 3 (.map encKd noKd o) (.tok 2)), (10, .bool b)] [.cells (encXd l), .cells (encM x.1), .tok] (q38_0 1 (PC (.int .i64 0) R)) := by
  refine v38_15 _ _ _ _ _ _ _ (condBn (fun hb => needJ (by omega) ?_) fun hb => ?_)
  · rw [if_neg (by rw [hb]; simp)] at h
    subst h
    exact pc _ ⟨Le.sl (s' := .map encKd noKd (o ++ [x])) (by simp [Ab.Seq.toList]; rfl) (.inl rfl) (.inr rfl), trivial⟩ fun ρ => Le.refl _
  · rw [if_pos hb, List.append_nil] at h
    subst h
    exact pc _ ⟨Le.sl (s' := .map encKd noKd o) rfl (.inl rfl) (.inr rfl), trivial⟩ fun ρ => Le.refl _
theorem put9 {l : List Kd} {x : Kd} (hl : l.length ≤ lim) {R : List Kd} : ∀ (m i : Nat) (o : List Kd) (b : Bool), m + i = l.length → o.length ≤ i + b.toNat → o ++ (if b = true then l.drop i else insK x (l.drop i)) = R →
    AWP Try.prog 83 1 c38_9 [(0, .ptr 0 0), (1, .str (B x.1.1)), (7, .ptr 1 0), (8, .bool x.2), (9, .sl 3 (.map encKd noKd o) (.tok 2)), (10, .bool b), (11, .int .i64 i)] [.cells (encXd l), .cells (encM x.1), .tok] (q38_2 1 (PC (.int .i64 0) R)) := by
  unfold lim at hl
  intro m
  induction m with
  | zero =>
    intro i o b hm ho h
    have hb1 : b.toNat ≤ 1 := by cases b <;> decide
    rw [List.drop_eq_nil_of_le (by omega)] at h
    exact v38_9 _ _ _ _ _ _ _ _ _ (condD (fun hc => by omega) fun _ => put15 (by omega) h)
  | succ m ih =>
    intro i o b hm ho h
    have hb1 : b.toNat ≤ 1 := by cases b <;> decide
    rw [dropD l noKd i (by omega)] at h
    refine v38_9 _ _ _ _ _ _ _ _ _ (condD (fun hc => ?_) fun hc => by omega)
    rw [Int.toNat_natCast, succ64 (by omega)]
    generalize l.getD i noKd = y at h ⊢
    have one : o ++ y :: (if b = true then l.drop (i + 1) else insK x (l.drop (i + 1))) = R →
        AWP Try.prog 83 1 c38_9 [(0, .ptr 0 0), (1, .str (B x.1.1)), (7, .ptr 1 0), (8, .bool x.2), (9, .sl 3 (.app (.map encKd noKd o) (.raw [encKd y])) (.tok 3)), (10, .bool b), (11, .int .i64 (i + 1 : Nat))] [.cells (encXd l), .cells (encM x.1), .gone, .tok] (q38_2 1 (PC (.int .i64 0) R)) := by
      intro h
      refine AWP.shape [0, 1, 3] [(0, .ptr 0 0), (1, .str (B x.1.1)), (7, .ptr 1 0), (8, .bool x.2), (9, .sl 3 (.map encKd noKd (o ++ [y])) (.tok 2)), (10, .bool b), (11, .int .i64 (i + 1 : Nat))] [.cells (encXd l), .cells (encM x.1), .tok] ⟨by decide, rfl, by decide, fun j hj => ?_, fun j hj => ?_⟩
        ⟨rfl, Le.refl _, rfl, Le.refl _, rfl, Le.refl _, rfl, Le.refl _, rfl, leAppE (Les.refl _), rfl, Le.refl _, rfl, Le.refl _, trivial⟩ (ih (i + 1) (o ++ [y]) b (by omega) (by simp; omega) (by rw [← h]; simp))
      · match j, hj with
        | 0, _ => rfl
      · match j, hj with
        | 0, _ | 1, _ | 2, _ => exact .inl rfl
    refine condBn (fun hb => needJ ⟨by omega, by omega⟩ ?_) fun hb => needJ ⟨by omega, by omega⟩ (needJ (by omega) (one (by rw [← h, if_pos hb, if_pos hb])))
    rw [if_neg (by rw [hb]; simp)] at h
    simp only [insK] at h
    rw [B_toList, B_toList]
    refine condB (fun h1 => needJ (by omega) (needJ ⟨by omega, by omega⟩ (needJ (by omega) ?_))) fun h1 => needJ ⟨by omega, by omega⟩ (needJ (by omega) (one (by rw [← h, if_neg (show ¬ Op.bytesLess x.1.1 y.1.1 = true by rw [h1]; simp), if_neg (show ¬ b = true by rw [hb]; simp)])))
    rw [if_pos h1] at h
    refine AWP.shape [0, 1, 4] [(0, .ptr 0 0), (1, .str (B x.1.1)), (7, .ptr 1 0), (8, .bool x.2), (9, .sl 3 (.map encKd noKd ((o ++ [x]) ++ [y])) (.tok 2)), (10, .bool true), (11, .int .i64 (i + 1 : Nat))] [.cells (encXd l), .cells (encM x.1), .tok] ⟨by decide, rfl, by decide, fun j hj => ?_, fun j hj => ?_⟩
        ⟨rfl, Le.refl _, rfl, Le.refl _, rfl, Le.refl _, rfl, Le.refl _, rfl, ?_, rfl, Le.refl _, rfl, Le.refl _, trivial⟩ (ih (i + 1) ((o ++ [x]) ++ [y]) true (by omega) (by rw [hb] at ho; simp at ho ⊢; omega) (by rw [← h, if_pos rfl]; simp))
    · match j, hj with
      | 0, _ => rfl
    · match j, hj with
      | 0, _ | 1, _ | 2, _ => exact .inl rfl
    · have ren : ∀ (ρ : Nat → Nat) (z : Kd), renL ρ (encKd z) = encKd z := fun ρ z => rfl
      exact Le.sl (s' := Seq.ren _ (.map encKd noKd ((o ++ [x]) ++ [y]))) (by simp [Ab.Seq.toList, Seq.ren, ren]; exact ⟨rfl, rfl⟩) (.inl rfl) (.inl rfl)
theorem put0 (l : List Kd) (s b : Nm) (hl : l.length ≤ lim) (hs : s.length ≤ lim) (hb : b.length ≤ 1000000) : ASpec Try.prog 38 [.ptr 0 0, .str (B s), .str (B b)] [.cells (encXd l)] (fun r H' => r = .int .i64 (putKd l s b).1 ∧ H' = [.cells (encXd (putKd l s b).2)]) := by
  have same : ∀ (e : Int), putKd l s b = (e, l) → PC (.int .i64 (putKd l s b).1) (putKd l s b).2 (.int .i64 e) [.cells (encXd l)] := by
    intro e h
    rw [h]
    exact pc [] (Les.refl _) fun ρ => Le.refl _
  refine ASpec.sel (cellEnd (s38 _ _ _ _ ?_))
  refine ASpec.call (rfit_spec (l := s) (by unfold big; unfold lim at hs; omega) _) (Les.refl _) ⟨_, rfl, rfl, condBn (fun h1 => same 1 ?_) fun h1 => ?_⟩
  · rw [putKd, if_pos (.inl h1)]
  rw [B_size]
  refine condD (fun h2 => same 1 ?_) fun h2 => ?_
  · rw [putKd, if_pos (.inr (by omega))]
  refine ASpec.call (has_spec l s hl _) (Les.refl _) ⟨_, rfl, rfl, condB (fun h3 => same 6 ?_) fun h3 => ?_⟩
  · rw [putKd, if_neg (by rw [h1]; simp; omega), if_pos h3]
  have hp : putKd l s b = (0, insK (kdOf s (readK s b)) l) := by rw [putKd, if_neg (by rw [h1]; simp; omega), if_neg (by rw [h3]; simp)]
  rw [hp, kdOf_read]
  have hn : (Dp.readB s b).1.1 = s := by rw [← kdOf_read]; exact kdOf_name s b
  refine ASpec.call (Dp.rread_spec s b hb _) (Les.refl _) ⟨_, rfl, rfl, ?_⟩
  generalize Dp.readB s b = x at hn ⊢
  subst hn
  refine AWP.re (ReSt.tok (k := 9) (q' := .map encKd noKd []) (sz' := 3) (s2 := [(0, .ptr 0 0), (1, .str (B x.1.1)), (7, .ptr 1 0), (8, .bool x.2), (9, .sl 3 (.map encKd noKd []) (.tok 2)), (10, .bool false), (11, .int .i64 (0 : Nat))]) rfl (.inl rfl) rfl (.inr rfl) (fun d hd => ?_) rfl) ?_
  · simp only [Ab.get]
    have e : Nat.beq 9 d = false := by
      cases hx : Nat.beq 9 d with
      | false => rfl
      | true => exact absurd (Nat.eq_of_beq_eq_true hx).symm hd
    rw [e]; rfl
  · exact put9 hl l.length 0 [] false (by omega) (by simp) (by simp)
theorem put_spec {H : List AObj} {p : Nat} (l : List Kd) (hp : H[p]? = some (.cells (encXd l))) (s b : Nm) (hl : l.length ≤ lim) (hs : s.length ≤ lim) (hb : b.length ≤ 1000000) :
    ASpec Try.prog 38 [.ptr p 0, .str (B s), .str (B b)] H (fun r H' => r = .int .i64 (putKd l s b).1 ∧ H' = H.set p (.cells (encXd (putKd l s b).2))) :=
  liftK hp (put0 l s b hl hs hb) rfl rfl

/-! ### Of -/
def ofKd : List Ent → List Kd → List Kd
  | [], l => l
  | e :: r, l => ofKd r (putKd l e.1 e.2).2
def ofI : List Ent → Kn → Kn
  | [], es => es
  | e :: r, es => ofI r (putI es e.1 e.2).2
theorem putKd_len (l : List Kd) (s b : Nm) : (putKd l s b).2.length ≤ l.length + 1 := by
  unfold putKd
  split
  · simp
  · split
    · simp
    · simp [insK_len]
abbrev smE (e : List Ent) : Prop := e.length ≤ 60 ∧ ∀ x ∈ e, x.1.length ≤ 200 ∧ x.2.length ≤ 9000
noncomputable abbrev slE (e : List Ent) : AV := .sl 2 (.map encEn ([], []) e) .none
theorem of3 {e : List Ent} (he : smE e) {R : List Kd} : ∀ (m i : Nat) (l : List Kd), m + i = e.length → l.length ≤ i → ofKd (e.drop i) l = R →
    AWP Try.prog 25 0 c13_3 [(0, slE e), (2, .ptr 0 0), (3, .ptr 1 0), (4, .int .i64 i)] [.cells [.sl 0 (.raw []) .nil], .cells (encXd l)] (q13_2 0 (PA (agK R))) := by
  intro m
  induction m with
  | zero =>
    intro i l hm hl h
    refine v13_3 _ _ _ _ _ (condD (fun hc => by omega) fun _ => pa ?_)
    rw [List.drop_eq_nil_of_le (by omega)] at h
    have h' : l = R := h
    subst h'
    exact Le.refl _
  | succ m ih =>
    intro i l hm hl h
    have h30 := he.1
    have hx := he.2 _ (memD e ([], []) i (by omega))
    rw [dropD e ([], []) i (by omega)] at h
    refine v13_3 _ _ _ _ _ (condD (fun hc => needJ ⟨by omega, by omega⟩ (needJ ⟨by omega, by omega⟩ (needJ (allBytes_map _) ?_))) fun hc => by omega)
    rw [bytesOf_map, Int.toNat_natCast, succ64 (by omega)]
    generalize e.getD i ([], []) = x at h hx ⊢
    simp only [ofKd] at h
    have hlen := putKd_len l x.1 x.2
    exact ASpec.call (put_spec l rfl x.1 x.2 (by unfold lim; omega) (by unfold lim; omega) (by omega)) (Les.refl _) ⟨putKd l x.1 x.2, rfl, rfl, ih (i + 1) _ (by omega) (by omega) h⟩
theorem of_spec (e : List Ent) (he : smE e) (H : List AObj) : ASpec Try.prog 13 [slE e] H (fun r H' => r = agK (ofKd e []) ∧ H' = H) := by
  have k : ASpec Try.prog 13 [slE e] [] (fun r H' => r = agK (ofKd e []) ∧ H' = []) := by
    refine ASpec.sel (s13 _ _ ?_)
    refine AWP.re (ReSt.leCell (id := 1) (cs' := encXd []) rfl ⟨Le.sl rfl (.inr ⟨rfl, fun _ h => by cases h⟩) (.inr rfl), trivial⟩) ?_
    exact of3 he e.length 0 [] (by omega) (by simp) rfl
  exact ASpec.pureH H k _ _ rfl rfl

abbrev PX0 (es : Kn) (r0 : AV) : AV → List AObj → Prop := fun r H' => ∃ l H2 r2, Sel 0 l H' H2 ∧ Le r (AV.ren (selR l H'.length) r2) ∧ (r2 = r0 ∧ H2 = HX es)
theorem selX0 (es : Kn) (q : List AObj) : Sel 0 [0, 1] (HX es ++ q) (HX es) := by
  obtain ⟨h1, h2, h3, h4, h5⟩ := selX es q
  exact ⟨h1, h2, Nat.zero_le _, fun i hi => by omega, h5⟩
theorem xof3 {e : List Ent} (he : smE e) {R : Kn} : ∀ (m i : Nat) (es : Kn), m + i = e.length → ofI (e.drop i) es = R →
    AWP Try.prog 21 0 c12_3 [(3, .ptr 1 0), (7, slE e), (8, .int .i64 e.length), (9, .int .i64 i)] (HX es) (q12_2 0 (PX0 R (.ptr 1 0))) := by
  intro m
  induction m with
  | zero =>
    intro i es hm h
    refine v12_3 _ _ _ _ _ _ (condD (fun hc => by omega) fun _ => ?_)
    rw [List.drop_eq_nil_of_le (by omega)] at h
    have h' : es = R := h
    subst h'
    exact ⟨_, _, _, selX0 es [], Le.refl _, rfl, rfl⟩
  | succ m ih =>
    intro i es hm h
    have h30 := he.1
    have hx := he.2 _ (memD e ([], []) i (by omega))
    rw [dropD e ([], []) i (by omega)] at h
    refine v12_3 _ _ _ _ _ _ (condD (fun hc => needJ ⟨by omega, by omega⟩ ?_) fun hc => by omega)
    rw [Int.toNat_natCast, succ64 (by omega)]
    generalize e.getD i ([], []) = x at h hx ⊢
    simp only [ofI] at h
    refine ASpec.call (X.put_spec es x.1 x.2 (by unfold lim; omega) _ 0 1 (by omega) rfl rfl) (Les.refl _) ⟨putI es x.1 x.2, rfl, rfl, ?_⟩
    refine AWP.shape [0, 1] [(3, .ptr 1 0), (7, slE e), (8, .int .i64 e.length), (9, .int .i64 (i + 1 : Nat))] (HX (putI es x.1 x.2).2) (selX0 _ [_])
      ⟨rfl, Le.refl _, rfl, Le.refl _, rfl, Le.refl _, rfl, Le.refl _, trivial⟩ (ih (i + 1) _ (by omega) h)
theorem xof0 (e : List Ent) (he : smE e) : ASpec Try.prog 12 [slE e] [] (fun r H' => r = .ptr 1 0 ∧ H' = HX (ofI e [])) := by
  refine ASpec.sel (s12 _ _ (ASpec.call (X.new_spec []) (Les.refl _) ⟨(), rfl, rfl, ?_⟩))
  exact xof3 he e.length 0 [] (by omega) rfl
theorem xof_spec (e : List Ent) (he : smE e) (H : List AObj) : ASpec Try.prog 12 [slE e] H (fun r H' => r = .ptr (H.length + 1) 0 ∧ H' = H ++ [.mp (.typed EK (ofI e [])), .cells [.map H.length]]) := by
  refine (ASpec.subH [] H (H ++ [.mp (.typed EK (ofI e [])), .cells [.map H.length]]) (xof0 e he) [slE e] (.ptr (H.length + 1) 0) (by simp) rfl rfl (by simp [AV.ren, callR]) (fun i hi => by cases hi) ?_)
  simp [graftH, grafted, HX, mp_ren]
  simp [AObj.ren, renL, AV.ren, callR]

/-! ### the copy -/
end Xd
end

section
/- What may be needed, of an index: plain laws for reach's statements. -/

set_option linter.unusedVariables false
set_option linter.unusedSimpArgs false
set_option linter.unusedSectionVars false
set_option maxRecDepth 100000
open Go Go.Ab Go.Proofs V S T C
namespace Rc
open Pl (Up up_one tri ltT ltI sort_mem sort_len addM addM_mem addM_up addAll addAll_up addAll_mem addAll_len)
open So (sortL)
open X (hasI getM readK putI OkX okX_put okX_nil find_none)
open W (readM)
open Xd (ofI ofKd RelX)
/-- few releases, of few needs -/
def small (m : Mani) : Prop := m.2.length ≤ 8 ∧ ∀ r ∈ m.2, r.2.length ≤ 6
def OkS (es : Kn) : Prop := ∀ p ∈ es, ∀ m, p.2 = some m → small m
theorem rel_small : ∀ {l : List Rel} {e : Int}, relF e l = true → ∀ r ∈ l, r.2.length ≤ 6
  | [], _, _, r, hr => by simp at hr
  | x :: l, e, h, r, hr => by
    simp only [relF] at h
    split at h
    · cases h
    · rename_i hn
      rcases List.mem_cons.1 hr with rfl | hr
      · have : needOk r.2 = true := by
          cases hb : needOk r.2 with
          | true => rfl
          | false => exact (hn (.inr (.inr hb))).elim
        unfold needOk at this
        rw [Bool.and_eq_true] at this
        exact of_decide_eq_true this.2
      · exact rel_small h r hr
theorem man_small {m : Mani} (h : manOk m = true) : small m := by
  unfold manOk at h
  rw [Bool.and_eq_true, Bool.and_eq_true] at h
  exact ⟨of_decide_eq_true h.2.2, rel_small h.1⟩
theorem read_small {bs : Nm} (h : (readM bs).2 = 0) : small (readM bs).1 := by
  unfold readM at h ⊢
  split at h
  · cases h
  · rename_i hb
    rw [if_neg hb]
    unfold W.endM at h ⊢
    split at h
    · rename_i hc; exact (hc h).elim
    · rename_i hc
      split at h
      · rename_i hm
        rw [if_neg hc, if_pos hm]
        exact man_small hm
      · cases h
theorem set_mem {α : Type} {k : ByteArray} {v : α} : ∀ {l : List (ByteArray × α)} {p : ByteArray × α}, p ∈ setM l k v → p ∈ l ∨ p = (k, v)
  | [], p, h => by simp [setM] at h; exact .inr h
  | q :: l, p, h => by
    simp only [setM] at h
    split at h
    · rcases List.mem_cons.1 h with h | h
      · exact .inr h
      · exact .inl (by simp [h])
    · rcases List.mem_cons.1 h with h | h
      · exact .inl (by simp [h])
      · rcases set_mem h with h | h
        · exact .inl (by simp [h])
        · exact .inr h
theorem okS_put {es : Kn} {k bs : Nm} (h : OkS es) : OkS (putI es k bs).2 := by
  unfold putI
  split
  · exact h
  · split
    · exact h
    · intro p hp m hm
      rcases set_mem hp with hp | rfl
      · exact h p hp m hm
      · unfold readK at hm
        split at hm
        · cases hm
        · rename_i hn
          cases hm
          exact read_small (Classical.byContradiction fun h => hn (.inl h))
theorem okS_nil : OkS [] := fun p hp => by simp at hp
theorem find_mem {α : Type} {k : ByteArray} {v : α} : ∀ {l : List (ByteArray × α)}, findM l k = some v → ∃ p ∈ l, p.2 = v
  | [], h => by cases h
  | q :: l, h => by
    simp only [findM] at h
    split at h
    · cases h; exact ⟨q, by simp, rfl⟩
    · obtain ⟨p, h1, h2⟩ := find_mem h; exact ⟨p, by simp [h1], h2⟩

/-! ### all names -/
def namesK (p : ByteArray × Known) : List Nm := match p.2 with
  | some m => allN m
  | none => []
def univ (es : Kn) (root : List Nm) : List Nm := root ++ es.flatMap namesK
theorem flat_len {α β : Type} {f : α → List β} {n : Nat} : ∀ {l : List α}, (∀ x ∈ l, (f x).length ≤ n) → (l.flatMap f).length ≤ n * l.length
  | [], _ => by simp
  | x :: l, h => by
    have h1 := h x (by simp)
    have h2 := flat_len (l := l) fun y hy => h y (by simp [hy])
    simp only [List.flatMap_cons, List.length_append, List.length_cons, Nat.mul_succ]; omega
theorem all_len {m : Mani} (h : small m) : (allN m).length ≤ 48 := by
  have := flat_len (f := fun r : Rel => r.2.map (·.1)) (n := 6) (l := m.2) fun r hr => by simpa using h.2 r hr
  have := h.1
  unfold allN; omega
theorem univ_len {es : Kn} {root : List Nm} (h : OkS es) : (univ es root).length ≤ root.length + 48 * es.length := by
  have := flat_len (f := namesK) (n := 48) (l := es) fun p hp => by
    unfold namesK
    split
    · rename_i m hm; exact all_len (h p hp m hm)
    · simp
  unfold univ; simp only [List.length_append]; omega
theorem univ_root {es : Kn} {root : List Nm} {x : Nm} (h : x ∈ root) : x ∈ univ es root := by simp [univ, h]
theorem univ_g {b : Bool} {es : Kn} {root : List Nm} (x y : Nm) (h : y ∈ gX b es x) : y ∈ univ es root := by
  unfold gX getX at h
  split at h
  · unfold getM at h
    split at h
    · rename_i m hm
      rw [mnM, addAll_mem] at h
      rcases h with h | h
      · obtain ⟨p, h1, h2⟩ := find_mem hm
        refine List.mem_append_right _ (List.mem_flatMap.2 ⟨p, h1, ?_⟩)
        unfold namesK
        rw [h2]; exact h
      · cases h
    · simp [mnM, allN, addAll] at h
  · simp [mnM, allN, addAll] at h

def reachM (b : Bool) (es : Kn) (root : List Nm) : List Nm :=
  sortL (codeN (gX b es) (4 * (univ es root).length + 3) (notesF root [] []).1 (notesF root [] []).2)
theorem ref_is {b : Bool} {es : Kn} {root : List Nm} {f : Nat} (hf : (univ es root).length < f) : refN (gX b es) f (addAll root []) = reachM b es root :=
  (reach_one (gX b es) (fun _ h => univ_root h) univ_g hf (by omega)).symm
theorem reach_spec (b : Bool) (es : Kn) (root : List Nm) : Up (reachM b es root) ∧ ∀ x, x ∈ reachM b es root ↔ RS (gX b es) root x := by
  rw [← ref_is (f := (univ es root).length + 1) (by omega)]
  have hm : ∀ x, x ∈ addAll root [] ↔ x ∈ root := fun x => by rw [addAll_mem]; simp
  exact ref_spec (gX b es) (fun _ h => univ_root h) (univ_g (es := es)) _ _ (addAll_up _ List.Pairwise.nil) (fun x hx => .base ((hm x).1 hx)) (fun x hx => (hm x).2 hx) (by omega)
theorem reach_len (b : Bool) (es : Kn) (root : List Nm) : (reachM b es root).length ≤ (univ es root).length :=
  sub_len (up_nd (reach_spec b es root).1) fun x hx => rs_bound (gX b es) (fun _ h => univ_root h) univ_g (((reach_spec b es root).2 x).1 hx)

/-! ### more is known -/
def More (es es2 : Kn) : Prop := ∀ k v, findM es k = some v → findM es2 k = some v
theorem More.refl (es : Kn) : More es es := fun _ _ h => h
theorem More.trans {a b c : Kn} (h : More a b) (k : More b c) : More a c := fun x v e => k x v (h x v e)
/-! ### nothing is known -/
/-! ### one more name -/
theorem add_in {x : Nm} {o : List Nm} (hu : Up o) : ((addM x o).length = o.length) ↔ x ∈ o := by
  constructor
  · intro h
    refine Classical.byContradiction fun hx => ?_
    have := sub_len (a := x :: o) (b := addM x o) (List.nodup_cons.2 ⟨hx, up_nd hu⟩) fun y hy => addM_mem.2 (by
      rcases List.mem_cons.1 hy with rfl | hy
      · exact .inl rfl
      · exact .inr hy)
    simp at this; omega
  · intro h
    rw [up_one (addM_up hu) hu fun y => by rw [addM_mem]; exact ⟨fun h2 => by rcases h2 with rfl | h2 <;> assumption, .inr⟩]
end Rc
end

section
/- What may be needed, by the document: Add, Names, reach's Names and Missing, and the law's own look. -/

set_option linter.unusedVariables false
set_option linter.unusedSimpArgs false
set_option linter.unusedSectionVars false
set_option maxRecDepth 100000
open Go Go.Ab Go.Proofs V S T C
namespace Rr
open Pl (Up up_one addM addM_mem addM_up addAll addAll_up addAll_mem addAll_len)
open W (sl1 slS slN slR)
open X (hasI getM OkX mp_ren PA pa)
open Xd (hasD getKd agK)
open Rc (Nm slL slLle nilLle slotsR selN small mnM allN refN roundF outP sub_len up_nd all_len)
/-! ### Add -/
theorem add4 {o : List Nm} {x : Nm} (hl : o.length ≤ 1000000) {R : List Nm} : ∀ (m i : Nat) (r : List Nm) (b : Bool), m + i = o.length → r.length ≤ i + b.toNat → R = r ++ (if b = true then o.drop i else addM x (o.drop i)) →
    AWP Try.prog 48 0 c21_4 [(0, slL o), (1, .str (B x)), (5, .sl 1 (.map encL [] r) (.tok 0)), (6, .bool b), (7, .int .i64 i)] [.tok] (q21_2 0 (PA (slL R))) := by
  intro m
  induction m with
  | zero =>
    intro i r b hm hr hR
    have hb1 : b.toNat ≤ 1 := by cases b <;> decide
    refine v21_4 _ _ _ _ _ _ _ (condD (fun h => by omega) fun _ => condBn (fun hb => needJ (by omega) ?_) fun hb => ?_)
    · rw [if_neg (by rw [hb]; simp), List.drop_eq_nil_of_le (by omega)] at hR
      simp only [addM] at hR
      subst hR
      exact pa (Le.trans (leAppE (Les.refl _)) (slLle _ _ _))
    · rw [if_pos hb, List.drop_eq_nil_of_le (by omega), List.append_nil] at hR
      subst hR
      exact pa (slLle _ _ _)
  | succ m ih =>
    intro i r b hm hr hR
    have hb1 : b.toNat ≤ 1 := by cases b <;> decide
    rw [dropD o [] i (by omega)] at hR
    have nxt1 : ∀ (y : Nm) (b : Bool), r.length ≤ i + b.toNat → R = (r ++ [y]) ++ (if b = true then o.drop (i + 1) else addM x (o.drop (i + 1))) →
        AWP Try.prog 48 0 c21_4 [(0, slL o), (1, .str (B x)), (5, .sl 1 (.app (.map encL [] r) (.raw [[.str (B y)]])) (.tok 1)), (6, .bool b), (7, .int .i64 (IntKind.wrap .i64 ((i : Int) + 1)))] [.gone, .tok] (q21_2 0 (PA (slL R))) := by
      intro y b hr h
      rw [succ64 (by omega)]
      exact AWP.shape [1] [(0, slL o), (1, .str (B x)), (5, .sl 1 (.map encL [] (r ++ [y])) (.tok 0)), (6, .bool b), (7, .int .i64 (i + 1 : Nat))] [.tok] (Sel.mk0 (by decide) ⟨rfl, trivial⟩)
        ⟨rfl, slLle _ _ _, rfl, Le.refl _, rfl, leAppE (Les.refl _), rfl, Le.refl _, rfl, Le.refl _, trivial⟩ (ih (i + 1) (r ++ [y]) b (by omega) (by simp; omega) h)
    refine v21_4 _ _ _ _ _ _ _ (condD (fun _ => ?_) fun h => by omega)
    rw [Int.toNat_natCast]
    generalize o.getD i [] = y at hR ⊢
    refine condBn (fun hb => needJ ⟨by omega, by omega⟩ ?_) fun hb => needJ ⟨by omega, by omega⟩ (needJ (by omega) (nxt1 y b hr (by rw [hR, if_pos hb, if_pos hb]; simp)))
    rw [if_neg (by rw [hb]; simp)] at hR
    simp only [addM] at hR
    rw [B_toList, B_toList]
    refine condB (fun hc => needJ (by omega) (needJ ⟨by omega, by omega⟩ ?_)) fun hc => needJ ⟨by omega, by omega⟩ (needJ (by omega) (nxt1 y b hr (by rw [hR, if_neg (by rw [hc]; simp), if_neg (by rw [hb]; simp)]; simp)))
    rw [if_pos hc] at hR
    have ce : ∀ {A C : Prop}, (x = y → A) → (x ≠ y → C) → condP (x == y) A C := fun {A C} h1 h2 => condB (fun h => h1 (beq_iff_eq.1 h)) fun h => h2 (beq_eq_false_iff_ne.1 h)
    refine ce (fun he => ?_) fun hne => needJ ⟨by omega, by omega⟩ (needJ (by omega) ?_)
    · rw [if_pos he] at hR
      exact nxt1 x true (by rw [hb] at hr; simp at hr ⊢; omega) (by rw [hR, if_pos rfl]; simp)
    · rw [if_neg hne] at hR
      rw [succ64 (by omega)]
      have := ih (i + 1) ((r ++ [x]) ++ [y]) true (by omega) (by rw [hb] at hr; simp at hr ⊢; omega) (by rw [hR, if_pos rfl]; simp)
      refine AWP.shape [2] [(0, slL o), (1, .str (B x)), (5, .sl 1 (.map encL [] ((r ++ [x]) ++ [y])) (.tok 0)), (6, .bool true), (7, .int .i64 (i + 1 : Nat))] [.tok] (Sel.mk0 (by decide) ⟨rfl, trivial⟩)
        ⟨rfl, slLle _ _ _, rfl, Le.refl _, rfl, ?_, rfl, Le.refl _, rfl, Le.refl _, trivial⟩ this
      exact Le.sl (s' := Seq.ren _ (.map encL [] ((r ++ [x]) ++ [y]))) (by simp [Ab.Seq.toList, Seq.ren, renLL]; first | exact ⟨rfl, rfl⟩ | rfl | exact ⟨fun a _ => rfl, rfl, rfl⟩) (.inl rfl) (.inl rfl)
theorem add_spec (o : List Nm) (x : Nm) (hl : o.length ≤ 1000000) (H : List AObj) : ASpec Try.prog 21 [slL o, .str (B x)] H (fun r H' => r = slL (addM x o) ∧ H' = H) := by
  have k : ASpec Try.prog 21 [slL o, .str (B x)] [] (fun r H' => r = slL (addM x o) ∧ H' = []) := by
    refine ASpec.sel (s21 _ _ _ ?_)
    refine AWP.re (ReSt.tok (k := 5) (q' := .map encL [] []) (sz' := 1) (s2 := [(0, slL o), (1, .str (B x)), (5, .sl 1 (.map encL [] []) (.tok 0)), (6, .bool false), (7, .int .i64 (0 : Nat))]) rfl (.inl rfl) rfl (.inr rfl) (fun d hd => ?_) rfl) ?_
    · simp only [Ab.get]
      have e : Nat.beq 5 d = false := by
        cases hx : Nat.beq 5 d with
        | false => rfl
        | true => exact absurd (Nat.eq_of_beq_eq_true hx).symm hd
      rw [e]; rfl
    · exact add4 hl o.length 0 [] false (by omega) (by simp) rfl
  exact ASpec.pureH H k _ _ rfl rfl
theorem addAll_cons (x : Nm) (l o : List Nm) : addAll (x :: l) o = addAll l (addM x o) := rfl
theorem addM_len (x : Nm) (o : List Nm) : (addM x o).length ≤ o.length + 1 := by
  have := addAll_len [x] (o := o)
  simp [addAll] at this; omega

/-! ### a manifest's names -/
section
variable {m : Mani}
end
/-! ### again and again -/
section
variable {l : List Kd} (hl : l.length ≤ lim) (hsm : ∀ x, small (getKd l x).1) {U : List Nm} (hU : ∀ x, ∀ y ∈ mnM (getKd l x).1, y ∈ U) (hUl : U.length ≤ 100000)
end

/-! ### what is missing -/
/-! ### is it asked? -/
section
variable {es : Kn} (hes : OkX es) (hsm : ∀ x, small (getM es x).1) {k : Nm}
end
end Rr
end

section
/- The laws ReachTells and ReachGrows: each returns true. -/

set_option linter.unusedVariables false
set_option linter.unusedSimpArgs false
set_option linter.unusedSectionVars false
set_option maxRecDepth 100000
open Go Go.Ab Go.Proofs V S T C
namespace Rr
open Pl (Up up_one addM addM_mem addM_up addAll addAll_up addAll_mem addAll_len)
open W (sl1 slS slN slR)
open X (hasI getM putI OkX mp_ren PA pa okX_nil okX_put largeD_spec largeD_ok largeD)
open Xd (hasD getKd agK ofI ofKd RelX rel0 rel_put rel_has putKd putKd_len slE smE)
open Rc (Nm slL slLle nilLle slotsR selN small mnM allN refN roundF outP sub_len up_nd all_len reachM univ univ_len univ_root univ_g OkS okS_nil okS_put gX hasX xV sel2 names16 missing18 reach_spec reach_len ref_is More)
/-! ### the index of entries -/
theorem okX_of : ∀ (e : List Ent) (es : Kn), OkX es → OkX (ofI e es)
  | [], _, h => h
  | x :: e, es, h => okX_of e _ (okX_put h)
theorem okS_of : ∀ (e : List Ent) (es : Kn), OkS es → OkS (ofI e es)
  | [], _, h => h
  | x :: e, es, h => okS_of e _ (okS_put h)
theorem rel_of : ∀ (e : List Ent) (es : Kn) (l : List Kd), RelX es l → RelX (ofI e es) (ofKd e l)
  | [], _, _, h => h
  | x :: e, es, l, h => rel_of e _ _ (rel_put h x.1 x.2).2
theorem ofKd_len : ∀ (e : List Ent) (l : List Kd), (ofKd e l).length ≤ e.length + l.length
  | [], l => by simp [ofKd]
  | x :: e, l => by
    have h1 := ofKd_len e (putKd l x.1 x.2).2
    have h2 := putKd_len l x.1 x.2
    simp only [ofKd, List.length_cons]; omega
theorem ofI_len (e : List Ent) : (ofI e []).length ≤ e.length := by
  rw [← (rel_of e [] [] rel0).len]
  simpa using ofKd_len e []
/-! ### values, at any place -/
section
variable {es : Kn} (hes : OkX es) (hS : OkS es) (hl : es.length ≤ 100) {root : List Need} (hr : root.length ≤ 1000)
include hes hS hl hr
theorem univ_le : (univ es (root.map (·.1))).length ≤ 100000 := by
  have := univ_len (root := root.map (·.1)) hS
  rw [List.length_map] at this
  omega
theorem names_val (b : Bool) : ASpec Try.prog 16 [xV b, slN root] (HX es) (fun r H' => r = slL (reachM b es (root.map (·.1))) ∧ H' = HX es) := by
  have hu := univ_le hes hS hl hr
  refine ASpec.sel (ASpec.reEnd ((names16 (b := b) (root := root) (U := univ es (root.map (·.1))) hes univ_g (by omega) (fun n hn => univ_root (List.mem_map.2 ⟨n, hn, rfl⟩)) (by omega) (R := reachM b es (root.map (·.1))) rfl).mono fun r H' hh => ?_))
  rcases hh with ⟨h1, h2, h3, h4⟩ | ⟨h2, h3⟩
  · rw [h2, h3, h4]
    exact ⟨_, _, ReSt.refl _ _, [0, 1], HX es, slL [], sel2 [], nilLle _, rfl, rfl⟩
  · rw [h2, h3]
    exact ⟨_, _, ReSt.freeze1 (id := 2) (q' := .map encL [] (reachM b es (root.map (·.1)))) rfl (by show 2 ≤ 3; omega) (by simp [Seq.toList]) (by simp only [Seq.toList]; rw [List.take_of_length_le (by simp)]), [0, 1], HX es, slL _, sel2 [_], slLle _ _ _, rfl, rfl⟩
theorem missing_val (b : Bool) : ASpec Try.prog 18 [xV b, slN root] (HX es) (fun r H' => r = slL (outP (hasX b es) (reachM b es (root.map (·.1)))) ∧ H' = HX es) := by
  have hu := univ_le hes hS hl hr
  exact missing18 (b := b) (root := root) (U := univ es (root.map (·.1))) hes univ_g (by omega) (fun n hn => univ_root (List.mem_map.2 ⟨n, hn, rfl⟩)) (by omega) (R := reachM b es (root.map (·.1))) rfl
theorem missing_at (H : List AObj) (q p : Nat) (hqp : q ≠ p) (hq : H[q]? = some (.mp (.typed EK es))) (hp : H[p]? = some (.cells [.map q])) :
    ASpec Try.prog 18 [.ptr p 0, slN root] H (fun r H' => r = slL (outP (hasX true es) (reachM true es (root.map (·.1)))) ∧ H' = H) := by
  have := X.liftX H q p hqp hq hp (missing_val hes hS hl hr true) (args' := [.ptr p 0, slN root]) (r' := slL (outP (hasX true es) (reachM true es (root.map (·.1))))) rfl rfl
  rwa [set_same hq] at this
theorem rlen_le (b : Bool) : (reachM b es (root.map (·.1))).length ≤ 100000 := Nat.le_trans (reach_len b es _) (univ_le hes hS hl hr)
end

/-! ### the example -/
/-! ### ReachTells -/
section
variable {e : List Ent} {root : List Need} (he : e.length ≤ 30 ∧ ∀ x ∈ e, x.1.length ≤ 200 ∧ x.2.length ≤ 9000) (hr : root.length ≤ 40) (hc : needOk root = true)
include he hr hc
end
end Rr
end

section
/- Names of lists, by their places: the program's way (a range over a function), and the document's. -/

set_option linter.unusedVariables false
set_option linter.unusedSimpArgs false
set_option linter.unusedSectionVars false
set_option maxRecDepth 100000
open Go Go.Ab Go.Proofs V S T C
namespace Wn
open W (sl1 slS slN slR)
open X (PA pa)
open Rc (Nm slL slLle nilLle slotsR selN noteM dedupF dedup_len)
noncomputable abbrev slV (v : List (List Nm)) : AV := .sl 1 (.map encLs [] v) .none
noncomputable abbrev tkC (t : List Nm) (k : Nat) : AObj := .cells [.sl 1 (.map encL [] t) (.tok k)]
/-! ### plain -/
def rowN : List (List Nm) → Nat → List Nm
  | [], _ => []
  | y :: r, k => if k < y.length then y.getD k [] :: rowN r k else rowN r k
def colF (v : List (List Nm)) : Nat → Nat → List Nm → List Nm
  | 0, _, o => o
  | n + 1, k, o => colF v n (k + 1) (dedupF (rowN v k) o)
def mostF : List (List Nm) → Nat → Nat
  | [], m => m
  | x :: r, m => mostF r (if x.length > m then x.length else m)
def firstM (v : List (List Nm)) : List Nm := colF v (mostF v 0) 0 []
abbrev few (v : List (List Nm)) : Prop := v.length ≤ 20 ∧ ∀ x ∈ v, x.length ≤ 20
theorem most_le : ∀ {v : List (List Nm)} {m : Nat}, (∀ x ∈ v, x.length ≤ 20) → m ≤ 20 → mostF v m ≤ 20
  | [], m, _, h => h
  | x :: r, m, h, hm => by
    simp only [mostF]
    exact most_le (fun y hy => h y (by simp [hy])) (by
      split
      · exact h x (by simp)
      · exact hm)
theorem most_ge : ∀ {v : List (List Nm)} {m : Nat}, m ≤ mostF v m ∧ ∀ x ∈ v, x.length ≤ mostF v m
  | [], m => ⟨Nat.le_refl _, fun x hx => by simp at hx⟩
  | y :: r, m => by
    obtain ⟨h1, h2⟩ := most_ge (v := r) (m := if y.length > m then y.length else m)
    simp only [mostF]
    have hm : m ≤ (if y.length > m then y.length else m) ∧ y.length ≤ (if y.length > m then y.length else m) := by split <;> omega
    refine ⟨Nat.le_trans hm.1 h1, fun x hx => ?_⟩
    rcases List.mem_cons.1 hx with rfl | hx
    · exact Nat.le_trans hm.2 h1
    · exact h2 x hx
theorem row_len : ∀ (v : List (List Nm)) (k : Nat), (rowN v k).length ≤ v.length
  | [], _ => by simp [rowN]
  | y :: r, k => by
    have := row_len r k
    simp only [rowN]; split <;> simp <;> omega
/-! ### is it there? -/
theorem ix2 {o : List Nm} {s : Nm} (hl : o.length ≤ 1000000) {Post : AV → List AObj → Prop} (hp : ∀ x : Int, (decide (x ≥ 0) = decide (s ∈ o)) → Post (.int .i64 x) []) : ∀ (m i : Nat), m + i = o.length → (s ∈ o ↔ s ∈ o.drop i) →
    AWP Try.prog 19 0 c66_2 [(0, slL o), (1, .str (B s)), (7, .int .i64 o.length), (8, .int .i64 i)] [] (q66_2 0 Post) := by
  intro m
  induction m with
  | zero =>
    intro i hm h
    rw [List.drop_eq_nil_of_le (by omega)] at h
    have h2 : ¬ s ∈ o := fun hs => by have := h.1 hs; cases this
    refine v66_2 _ _ _ _ _ _ (condD (fun hc => by omega) fun _ => hp _ ?_)
    rw [decide_eq_false h2]; rfl
  | succ m ih =>
    intro i hm h
    have hmem := memD o [] i (by omega)
    rw [dropD o [] i (by omega)] at h
    refine v66_2 _ _ _ _ _ _ (condD (fun hc => needJ ⟨by omega, by omega⟩ ?_) fun hc => by omega)
    rw [Int.toNat_natCast, succ64 (by omega)]
    generalize o.getD i [] = y at h hmem ⊢
    rw [B_toList, B_toList]
    refine condB (fun he => hp _ ?_) fun he => ih (i + 1) (by omega) ?_
    · have : s = y := beq_iff_eq.1 he
      subst this
      rw [decide_eq_true hmem]
      exact decide_eq_true (by omega)
    · have hne : ¬ s = y := beq_eq_false_iff_ne.1 he
      rw [h]; simp [hne]
theorem in_spec (o : List Nm) (s : Nm) (hl : o.length ≤ 1000000) (H : List AObj) : ASpec Try.prog 50 [slL o, .str (B s)] H (fun r H' => r = .bool (decide (s ∈ o)) ∧ H' = H) := by
  have k : ASpec Try.prog 50 [slL o, .str (B s)] [] (fun r H' => r = .bool (decide (s ∈ o)) ∧ H' = []) := by
    refine s50 _ _ _ (s66 _ _ _ (ix2 hl (fun x hx => ?_) o.length 0 (by omega) (by simp)))
    refine ⟨x, rfl, rfl, ?_, rfl⟩
    rw [hx]
  exact ASpec.pureH H k _ _ rfl rfl

/-! ### the round -/
theorem yCellEnd {P : Program} {H : List AObj} {id : Nat} {args : List AV} {Post : AV → List AObj → Prop}
    (h : AYield P id args H (fun r H' => ∃ id cs cs', H'[id]? = some (.cells cs) ∧ Les cs cs' ∧ Post r (H'.set id (.cells cs')))) : AYield P id args H Post := by
  intro M loc w vs b ht hr hv hl
  obtain ⟨f, tmps, asg, body, h1, h2⟩ := h M loc w vs b ht hr hv hl
  refine ⟨f, tmps, asg, body, h1, h2.mono fun e w' hh => ?_⟩
  obtain ⟨v, r, H', M', loc', he, ⟨id, cs, cs', ho, hq, hP⟩, r1, r2, r3⟩ := hh
  have hl := hq.len
  obtain ⟨k1, k2⟩ := r1.respell id (.cells cs) (.cells cs') ho (by intro h; cases h) (by intro h; cases h) (fun hO => by
    obtain ⟨b, vs, T, fr, e1, e2, e3, e4, e5, hs, e6⟩ := hO
    exact ⟨b, vs, T, fr, e1, e2, e3, e4, e5, by omega, fun i hi => hq.get i (by omega) hi _ _ _ _ (e6 i (by omega))⟩)
  exact ⟨v, r, _, M', loc', he, hP, k1, r2.keeps (k2.keeps r1), StepN.trans r3 k2 r3.len⟩
noncomputable abbrev LP : AObj := .lp 17 [(3, .ptr 0 0), (7, .bad)] [7] c27_4a c27_4 .ready
noncomputable abbrev LPB : AObj := .lp 17 [(3, .ptr 0 0), (7, .bad)] [7] c27_4a c27_4 .busy
noncomputable abbrev HV (v : List (List Nm)) (o : List Nm) : List AObj := [tkC o 3, .cells [slV v], LP, .tok]
noncomputable abbrev HV4 (v : List (List Nm)) (o : List Nm) : List AObj := [tkC o 4, .cells [slV v], LP, .gone, .tok]
theorem round {v : List (List Nm)} {o : List Nm} {s : Nm} (ho : o.length ≤ 1000000) {Post : AV → List AObj → Prop} (h1 : s ∈ o → Post (.bool true) (HV v o)) (h2 : s ∉ o → Post (.bool true) (HV4 v (o ++ [s]))) :
    AYield Try.prog 2 [.str (B s)] (HV v o) Post := by
  refine yCellEnd (AYield.of (N := 17) [3, 7] rfl rfl rfl ?_)
  refine v27_4 v o s LP LPB 4 (fun _ _ => True) _ (needJ rfl ?_)
  refine ASpec.call (in_spec o s ho _) ⟨slLle id _ _, Le.refl _, trivial⟩ ⟨_, rfl, rfl, condBn (fun h => needJ (by omega) ⟨rfl, ?_⟩) fun h => ⟨rfl, ?_⟩⟩
  · exact ⟨0, _, [.sl 1 (.map encL [] (o ++ [s])) (.tok 4)], rfl, ⟨leAppE (Les.refl _), trivial⟩, h2 (of_decide_eq_false h)⟩
  · exact ⟨0, _, [.sl 1 (.map encL [] o) (.tok 3)], rfl, Les.refl _, h1 (of_decide_eq_true h)⟩

/-! ### the columns -/
theorem col10 {v : List (List Nm)} (hv : few v) {k n : Nat} (hn : n ≤ 20) (hk : k ≤ 20) {o' : List Nm} {Post : AV → List AObj → Prop} (kk : AWP Try.prog 45 3 c65_7 [(0, .yld 2), (1, .ptr 1 0), (20, .int .i64 n), (21, .int .i64 (k + 1 : Nat))] (HV v o') (q65_3 3 Post)) :
    ∀ (m j : Nat) (o : List Nm), m + j = v.length → o.length + m ≤ 100000 → dedupF (rowN (v.drop j) k) o = o' →
    AWP Try.prog 45 3 c65_10 [(0, .yld 2), (1, .ptr 1 0), (6, .int .i64 k), (20, .int .i64 n), (21, .int .i64 k), (24, slV v), (25, .int .i64 v.length), (26, .int .i64 j)] (HV v o) (q65_7 3 Post) := by
  have h20 := hv.1
  intro m
  induction m with
  | zero =>
    intro j o hm ho h
    rw [List.drop_eq_nil_of_le (by omega)] at h
    have h : o = o' := h
    subst h
    refine v65_10 _ _ _ _ _ _ _ _ _ _ (condD (fun hc => by omega) fun _ => ?_)
    rw [succ64 (by omega)]
    exact kk
  | succ m ih =>
    intro j o hm ho h
    rw [dropD v [] j (by omega)] at h
    have hy20 := hv.2 _ (memD v [] j (by omega))
    refine v65_10 _ _ _ _ _ _ _ _ _ _ (condD (fun hc => needJ ⟨by omega, by omega⟩ ?_) fun hc => by omega)
    rw [Int.toNat_natCast, Int.toNat_natCast, succ64 (by omega)]
    generalize v.getD j [] = y at h hy20 ⊢
    simp only [rowN] at h
    refine condD (fun hky => needJ ⟨by omega, by omega⟩ ?_) fun hky => ih (j + 1) o (by omega) (by omega) (by rw [if_neg (by omega)] at h; exact h)
    rw [if_pos (by omega)] at h
    generalize y.getD k [] = s at h ⊢
    simp only [dedupF] at h
    refine round (by omega) (fun hs => .inl ⟨(), rfl, rfl, ih (j + 1) o (by omega) (by omega) (by rw [noteM, if_pos hs] at h; exact h)⟩) fun hs => .inr ⟨o ++ [s], rfl, rfl, ?_⟩
    refine AWP.shape [0, 1, 2, 4] _ (HV v (o ++ [s])) (selN (by decide) (by decide) (fun i h => by match i, h with | 0, _ | 1, _ | 2, _ => rfl) ⟨rfl, rfl, rfl, rfl, trivial⟩) (by exact slotsR rfl)
      (ih (j + 1) (o ++ [s]) (by omega) (by simp; omega) (by rw [noteM, if_neg hs] at h; exact h))
theorem col7 {v : List (List Nm)} (hv : few v) {n : Nat} (hn : n ≤ 20) {R : List Nm} {Post : AV → List AObj → Prop} (kk : Post (.tup []) (HV v R)) :
    ∀ (m k : Nat) (o : List Nm), m + k = n → o.length + 20 * m ≤ 1000 → colF v m k o = R →
    AWP Try.prog 45 3 c65_7 [(0, .yld 2), (1, .ptr 1 0), (20, .int .i64 n), (21, .int .i64 k)] (HV v o) (q65_3 3 Post) := by
  have h20 := hv.1
  intro m
  induction m with
  | zero =>
    intro k o hm ho h
    have h : o = R := h
    subst h
    exact v65_7 _ _ _ _ _ _ _ (condD (fun hc => by omega) fun _ => kk)
  | succ m ih =>
    intro k o hm ho h
    simp only [colF] at h
    have hl1 := dedup_len (l := rowN v k) (o := o)
    have hl2 := row_len v k
    exact v65_7 _ _ _ _ _ _ _ (condD (fun hc => col10 hv hn (by omega) (ih (k + 1) _ (by omega) (by omega) h) v.length 0 o (by omega) (by omega) rfl) fun hc => by omega)
theorem col2 {v : List (List Nm)} (hv : few v) {M : Nat} {Post : AV → List AObj → Prop} (kk : AWP Try.prog 45 3 c65_7 [(0, .yld 2), (1, .ptr 1 0), (20, .int .i64 M), (21, .int .i64 (0 : Nat))] (HV v []) (q65_3 3 Post)) :
    ∀ (d i m : Nat), d + i = v.length → mostF (v.drop i) m = M → m ≤ 20 →
    AWP Try.prog 45 3 c65_2 [(0, .yld 2), (1, .ptr 1 0), (3, .int .i64 m), (9, slV v), (10, .int .i64 v.length), (11, .int .i64 i)] [.cells [.sl 0 (.raw []) .nil], .cells [slV v], LP] (q65_2 3 Post) := by
  have h20 := hv.1
  intro d
  induction d with
  | zero =>
    intro i m hd h hm
    rw [List.drop_eq_nil_of_le (by omega)] at h
    have h : m = M := h
    subst h
    refine v65_2 _ _ _ _ _ _ _ (condD (fun hc => by omega) fun _ => ?_)
    exact AWP.re (ReSt.tokCell (id := 0) (j := 0) (sz' := 1) (q' := .map encL [] []) rfl rfl (.inl rfl) rfl (.inr rfl)) kk
  | succ d ih =>
    intro i m hd h hm
    have hy20 := hv.2 _ (memD v [] i (by omega))
    rw [dropD v [] i (by omega)] at h
    refine v65_2 _ _ _ _ _ _ _ (condD (fun hc => needJ ⟨by omega, by omega⟩ ?_) fun hc => by omega)
    rw [Int.toNat_natCast, succ64 (by omega)]
    generalize v.getD i [] = y at h hy20 ⊢
    simp only [mostF] at h
    have e : (if (y.length : Int) > (m : Int) then (y.length : Int) else (m : Int)) = ((if y.length > m then y.length else m : Nat) : Int) := by
      split <;> split <;> omega
    rw [e]
    exact ih (i + 1) _ (by omega) h (by split <;> omega)
theorem first_spec (v : List (List Nm)) (hv : few v) (H : List AObj) : ASpec Try.prog 27 [slV v] H (fun r H' => r = slL (firstM v) ∧ H' = H) := by
  have k : ASpec Try.prog 27 [slV v] [] (fun r H' => r = slL (firstM v) ∧ H' = []) := by
    have c49 : ∀ H, ASpec Try.prog 49 [slV v] H (fun r H' => r = .fn 65 [.ptr H.length 0] ∧ H' = H ++ [.cells [slV v]]) := fun H =>
      ASpec.subH [] H _ (s49 v _ ⟨rfl, rfl⟩) _ _ (by simp) rfl rfl (by simp [AV.ren, renL, callR]) (fun i hi => by cases hi) rfl
    refine ASpec.sel (s27 v _ (ASpec.call (c49 _) (Les.refl _) ⟨(), rfl, rfl, ?_⟩))
    have hm := most_le hv.2 (m := 0) (by omega)
    refine s65 v LP _ (col2 hv (M := mostF v 0) (col7 hv hm ?_ (mostF v 0) 0 [] (by omega) (by simp; omega) rfl) v.length 0 0 (by omega) (by simp) (by omega))
    refine ⟨_, _, _, _, _, .ready, rfl, ?_⟩
    show AWP Try.prog 17 0 c27_6 [(3, .ptr 0 0)] [tkC (firstM v) 3, .cells [slV v], .gone, .tok] (q27_0 0 _)
    refine AWP.shape [0, 3] [(3, .ptr 0 0)] [tkC (firstM v) 1, .tok] (Sel.mk0 (by decide) ⟨rfl, rfl, trivial⟩) (by exact slotsR rfl) ?_
    exact v27_6 _ _ _ (pa (slLle _ _ _))
  exact ASpec.pureH H k _ _ rfl rfl

/-! ### the document's -/
end Wn
end

section
/- The laws WantLists and WantOnce: each returns true. -/

set_option linter.unusedVariables false
set_option linter.unusedSimpArgs false
set_option linter.unusedSectionVars false
set_option maxRecDepth 100000
open Go Go.Ab Go.Proofs V S T C
namespace Wn
open Pl (Up up_one addM addM_mem addM_up addAll addAll_up addAll_mem addAll_len)
open W (sl1 slS slN slR)
open X (hasI getM putI OkX mp_ren PA pa okX_nil okX_put largeD_spec largeD_ok largeD)
open Xd (hasD getKd agK ofI ofKd RelX rel0 rel_has ofKd slE smE)
open Rc (Nm slL slLle nilLle slotsR selN outP sub_len up_nd reachM OkS okS_nil gX hasX sel2 reach_spec reach_len noteM dedupF dedup_mem dedup_nd)
open Rr (okX_of okS_of rel_of ofKd_len ofI_len rlen_le missing_at missing_val add_spec)
theorem nilL : Le (.sl 0 (.raw []) .nil) (slL []) := Le.sl rfl (.inr ⟨rfl, fun _ h => by cases h⟩) (.inr rfl)
/-! ### List -/
def restM (s : Nm) (l : List Nm) : List Nm := l.filter fun x => decide (x ≠ s)
def listM (h : Nm → Bool) (miss : List Nm) (s : Nm) (b : Bool) : List Nm := (if (fitM s && !h s) = true then [s] else []) ++ (if b = true then restM s miss else [])
theorem restM_cons (s x : Nm) (l : List Nm) : restM s (x :: l) = (if x = s then [] else [x]) ++ restM s l := by
  unfold restM
  by_cases h : x = s
  · rw [List.filter_cons, if_neg (by simp [h]), if_pos h]; rfl
  · rw [List.filter_cons, if_pos (by simp [h]), if_neg h]; rfl
section
variable {es : Kn}
theorem sel3 (q : List AObj) : Sel 2 [0, 1] (HX es ++ q) (HX es) := X.selX es q
theorem ls6 {s : Nm} {t R : List Nm} (ht : t.length ≤ 1000000) : ∀ (d i : Nat) (o : List Nm), d + i = t.length → o.length ≤ i + 1 → o ++ restM s (t.drop i) = R →
    AWP Try.prog 42 2 c25_6 [(2, .str (B s)), (9, .sl 1 (.map encL [] o) (.tok 2)), (27, slL t), (28, .int .i64 t.length), (29, .int .i64 i)] (HX es ++ [.tok]) (q25_2 2 (X.PX es (slL R))) := by
  intro d
  induction d with
  | zero =>
    intro i o hd ho h
    rw [List.drop_eq_nil_of_le (by omega)] at h
    have h : o ++ [] = R := h
    rw [List.append_nil] at h
    subst h
    exact v25_6 _ _ _ _ _ _ _ _ (condD (fun hc => by omega) fun _ => v25_11 _ _ _ _ ⟨[0, 1], HX es, slL o, sel3 [_], slLle _ _ _, rfl, rfl⟩)
  | succ d ih =>
    intro i o hd ho h
    rw [dropD t [] i (by omega), restM_cons] at h
    refine v25_6 _ _ _ _ _ _ _ _ (condD (fun hc => needJ ⟨by omega, by omega⟩ ?_) fun hc => by omega)
    rw [Int.toNat_natCast, succ64 (by omega)]
    generalize t.getD i [] = y at h ⊢
    rw [B_toList, B_toList]
    refine condBn (fun hc => needJ (by omega) ?_) fun hc => ?_
    · have hne : ¬ y = s := beq_eq_false_iff_ne.1 hc
      rw [if_neg hne] at h
      exact AWP.shape [0, 1, 3] [(2, .str (B s)), (9, .sl 1 (.map encL [] (o ++ [y])) (.tok 2)), (27, slL t), (28, .int .i64 t.length), (29, .int .i64 (i + 1 : Nat))] [.mp (.typed EK es), .cells [.map 0], .tok]
        (selN (by decide) (by decide) (fun i h => by match i, h with | 0, _ | 1, _ => rfl) ⟨by rw [mp_ren]; rfl, rfl, rfl, trivial⟩)
        ⟨rfl, Le.refl _, rfl, leAppE (Les.refl _), rfl, slLle _ _ _, rfl, Le.refl _, rfl, Le.refl _, trivial⟩ (ih (i + 1) (o ++ [y]) (by omega) (by simp; omega) (by rw [← h]; simp))
    · have he : y = s := beq_iff_eq.1 hc
      rw [if_pos he] at h
      exact ih (i + 1) o (by omega) (by omega) h
variable (hes : OkX es) (hS : OkS es) (hl : es.length ≤ 100) {root : List Need} (hr : root.length ≤ 1000)
include hes hS hl hr
theorem ls4 {s : Nm} {b : Bool} {o R : List Nm} (ho : o.length ≤ 1) (h : o ++ (if b = true then restM s (outP (hasX true es) (reachM true es (root.map (·.1)))) else []) = R) :
    AWP Try.prog 42 2 c25_4 [(0, .ptr 1 0), (1, slN root), (2, .str (B s)), (3, .bool b), (9, .sl 1 (.map encL [] o) (.tok 2))] (HX es ++ [.tok]) (q25_0 2 (X.PX es (slL R))) := by
  have hrl := rlen_le hes hS hl (root := root) (by omega) true
  have hol : (outP (hasX true es) (reachM true es (root.map (·.1)))).length ≤ 100000 := Nat.le_trans (List.length_filter_le _ _) hrl
  have hM := missing_at hes hS hl hr (HX es ++ [.tok]) 0 1 (by omega) rfl rfl
  generalize outP (hasX true es) (reachM true es (root.map (·.1))) = miss at hM h hol
  refine v25_4 _ _ _ _ _ _ _ (condB (fun hb => ?_) fun hb => ?_)
  · rw [if_pos hb] at h
    exact ASpec.call hM (Les.refl _) ⟨miss, rfl, rfl, ls6 (t := miss) (by omega) miss.length 0 o (Nat.add_zero _) (by omega) h⟩
  · rw [if_neg (by rw [hb]; simp), List.append_nil] at h
    subst h
    exact v25_11 _ _ _ _ ⟨[0, 1], HX es, slL o, sel3 [_], slLle _ _ _, rfl, rfl⟩
theorem list0 (s : Nm) (hs : s.length ≤ 1000) (b : Bool) : ASpec Try.prog 25 [.ptr 1 0, slN root, .str (B s), .bool b] (HX es)
    (fun r H' => r = slL (listM (hasI es) (outP (hasX true es) (reachM true es (root.map (·.1)))) s b) ∧ H' = HX es) := by
  have nl : ∀ {R : List Nm}, listM (hasI es) (outP (hasX true es) (reachM true es (root.map (·.1)))) s b = R → ¬ (fitM s && !hasI es s) = true →
      AWP Try.prog 42 2 c25_4 [(0, .ptr 1 0), (1, slN root), (2, .str (B s)), (3, .bool b), (9, .sl 0 (.raw []) .nil)] (HX es) (q25_0 2 (X.PX es (slL R))) := by
    intro R h hn
    unfold listM at h
    rw [if_neg hn] at h
    refine AWP.re (ReSt.tok (k := 9) (q' := .map encL [] []) (sz' := 1) (s2 := [(0, .ptr 1 0), (1, slN root), (2, .str (B s)), (3, .bool b), (9, .sl 1 (.map encL [] []) (.tok 2))]) rfl (.inl rfl) rfl (.inr rfl) (fun d hd => ?_) rfl) (ls4 hes hS hl hr (by simp) h)
    simp only [Ab.get]
    have e : Nat.beq 9 d = false := by
      cases hx : Nat.beq 9 d with
      | false => rfl
      | true => exact absurd (Nat.eq_of_beq_eq_true hx).symm hd
    rw [e]; rfl
  refine ASpec.sel (s25 _ _ _ _ _ ?_)
  refine ASpec.call (fit_spec (l := s) (by unfold big; omega) _) (Les.refl _) ⟨_, rfl, rfl, condB (fun h1 => ?_) fun h1 => nl rfl (by rw [h1]; simp)⟩
  refine ASpec.call (X.has_spec es s _ 0 1 (by omega) rfl rfl) (Les.refl _) ⟨_, rfl, rfl, condBn (fun h2 => needJ (by omega) ?_) fun h2 => nl rfl (by rw [h1, h2]; simp)⟩
  refine AWP.spell [(0, .ptr 1 0), (1, slN root), (2, .str (B s)), (3, .bool b), (9, .sl 1 (.map encL [] [s]) (.tok 2))] ⟨rfl, Le.refl _, rfl, Le.refl _, rfl, Le.refl _, rfl, Le.refl _, rfl, Le.sl rfl (.inl rfl) (.inl rfl), trivial⟩ (ls4 hes hS hl hr (o := [s]) (by simp) ?_)
  have hh : (fitM s && !hasI es s) = true := by rw [h1, h2]; rfl
  unfold listM
  rw [if_pos hh]
theorem list_at (s : Nm) (hs : s.length ≤ 1000) (b : Bool) (H : List AObj) (q p : Nat) (hqp : q ≠ p) (hq : H[q]? = some (.mp (.typed EK es))) (hp : H[p]? = some (.cells [.map q])) :
    ASpec Try.prog 25 [.ptr p 0, slN root, .str (B s), .bool b] H (fun r H' => r = slL (listM (hasI es) (outP (hasX true es) (reachM true es (root.map (·.1)))) s b) ∧ H' = H) := by
  have := X.liftX H q p hqp hq hp (list0 hes hS hl hr s hs b) (args' := [.ptr p 0, slN root, .str (B s), .bool b]) (r' := slL (listM (hasI es) (outP (hasX true es) (reachM true es (root.map (·.1)))) s b)) rfl rfl
  rwa [set_same hq] at this
end

/-! ### the document's -/
/-! ### is it too long? -/
def longF : List (List Nm) → Bool
  | [] => false
  | x :: r => if 20 < x.length then true else longF r
def longM (q : Ask) : Bool := if 200 < q.1.length then true else if 20 < q.2.2.length then true else longF q.2.2
theorem long4 {q : Ask} (hl : q.2.2.length ≤ 20) {c : Bool} : ∀ (m i : Nat), m + i = q.2.2.length → longF (q.2.2.drop i) = c →
    AWP Try.prog 28 0 c23_4 [(1, .ptr 0 0), (3, .int .i64 i)] [.cells (encA q)] (q23_2 0 (PB c)) := by
  intro m
  induction m with
  | zero =>
    intro i hm h
    refine v23_4 _ _ _ _ (condD (fun hc => by omega) fun _ => pb ?_)
    rw [List.drop_eq_nil_of_le (by omega)] at h
    exact h
  | succ m ih =>
    intro i hm h
    rw [dropD q.2.2 [] i (by omega)] at h
    simp only [longF] at h
    refine v23_4 _ _ _ _ (condD (fun hc => needJ ⟨by omega, by omega⟩ ?_) fun hc => by omega)
    rw [Int.toNat_natCast, succ64 (by omega)]
    generalize q.2.2.getD i [] = y at h ⊢
    refine condD (fun h1 => pb ?_) fun h1 => ih (i + 1) (by omega) ?_
    · rw [if_pos (by omega)] at h; exact h
    · rw [if_neg (by omega)] at h; exact h
theorem long_spec (q : Ask) (H : List AObj) : ASpec Try.prog 23 [.agg (encA q)] H (fun r H' => r = .bool (longM q) ∧ H' = H) := by
  have k : ASpec Try.prog 23 [.agg (encA q)] [] (fun r H' => r = .bool (longM q) ∧ H' = []) := by
    refine ASpec.sel (s23 q (PB (longM q)) ?_)
    unfold longM
    rw [B_size]
    refine condD (fun h => pb ?_) fun h => condD (fun h2 => pb ?_) fun h2 => ?_
    · rw [if_pos (by omega)]
    · rw [if_neg (by omega), if_pos (by omega)]
    · rw [if_neg (by omega), if_neg (by omega)]
      exact long4 (by omega) q.2.2.length 0 (by omega) rfl
  exact ASpec.pureH H k _ _ rfl rfl
theorem longF_ok : ∀ {l : List (List Nm)}, longF l = false → ∀ x ∈ l, x.length ≤ 20
  | [], _, x, hx => by simp at hx
  | y :: r, h, x, hx => by
    simp only [longF] at h
    split at h
    · cases h
    · rcases List.mem_cons.1 hx with rfl | hx
      · omega
      · exact longF_ok h x hx
theorem long_ok {q : Ask} (h : longM q = false) : q.1.length ≤ 200 ∧ few q.2.2 := by
  unfold longM at h
  split at h
  · cases h
  · split at h
    · cases h
    · exact ⟨by omega, by omega, longF_ok h⟩

/-! ### the example -/
abbrev rootW : List Need := [([97], [(0, 1000000000)]), ([98], [(0, 1000000000)])]
theorem reachW : reachM true [] (rootW.map (·.1)) = [[97], [98]] := by
  obtain ⟨u, m⟩ := reach_spec true [] (rootW.map (·.1))
  refine up_one u (by refine List.pairwise_cons.2 ⟨fun y hy => ?_, List.pairwise_singleton _ _⟩; simp at hy; subst hy; exact Dp.less_iff.1 (by decide)) fun x => ?_
  rw [m]
  constructor
  · intro hx
    cases hx with
    | base h => simpa using h
    | step _ hy => simp [gX, Rc.getX, getM, findM, Rc.mnM, Rc.allN, addAll] at hy
  · intro hx
    exact .base (by simpa using hx)
theorem awake_spec (H : List AObj) : ASpec Try.prog 24 [] H (fun r H' => r = .bool true ∧ H' = H) := by
  have e1 : listM (hasI []) (outP (hasX true []) (reachM true [] (rootW.map (·.1)))) [98] true = [[98], [97]] := by
    have h1 : fitM [98] = true := by decide +kernel
    have h2 : hasI [] [98] = false := rfl
    have h3 : outP (hasX true []) [[97], [98]] = [[97], [98]] := by unfold outP hasX hasI; simp [findM]
    rw [reachW, h3]
    unfold listM restM
    rw [h1, h2]
    simp
  have e2 : firstM [[[97], [98]], [[99], [97]]] = [[97], [99], [98]] := by decide
  have k : ASpec Try.prog 24 [] [] (fun r H' => r = .bool true ∧ H' = []) := by
    refine ASpec.sel (s24 _ (ASpec.call (X.new_spec []) (Les.refl _) ⟨(), rfl, rfl, ?_⟩))
    have hroot : Le (.sl 2 (.raw [[.str (B [97]), .sl 2 (.raw [[.int .i64 0, .int .i64 1000000000]]) .full], [.str (B [98]), .sl 2 (.raw [[.int .i64 0, .int .i64 1000000000]]) .full]]) .full) (slN rootW) :=
      Le.slE rfl (fun i h h' => by
        match i, h with
        | 0, _ | 1, _ => exact ⟨Le.refl _, Le.sl rfl (.inl rfl) (.inr rfl), trivial⟩) (.inr rfl)
    have hv : Le (.sl 1 (.raw [[.sl 1 (.raw [[.str (B [97])], [.str (B [98])]]) .full], [.sl 1 (.raw [[.str (B [99])], [.str (B [97])]]) .full]]) .full) (slV [[[97], [98]], [[99], [97]]]) :=
      Le.slE rfl (fun i h h' => by
        match i, h with
        | 0, _ | 1, _ => exact ⟨Le.sl rfl (.inl rfl) (.inr rfl), trivial⟩) (.inr rfl)
    refine ASpec.call (list_at okX_nil okS_nil (by simp) (root := rootW) (by simp) [98] (by simp) true _ 0 1 (by omega) rfl rfl) ⟨Le.refl _, hroot, Le.refl _, Le.refl _, trivial⟩ ⟨_, rfl, rfl, ?_⟩
    rw [e1]
    refine ASpec.call (first_spec [[[97], [98]], [[99], [97]]] ⟨by simp, fun x hx => by simp at hx; rcases hx with rfl | rfl <;> simp⟩ _) ⟨hv, trivial⟩ ⟨_, rfl, rfl, ?_⟩
    rw [e2]
    refine condE (fun _ => needJ ⟨by omega, by simp⟩ (condB (fun _ => needJ ⟨by omega, by simp⟩ (condB (fun _ => condE (fun _ => needJ ⟨by omega, by simp⟩ (pb ?_)) fun h => (h rfl).elim) fun h => ?_)) fun h => ?_)) fun h => (h rfl).elim
    · show ((B [99]).toList == (B [99]).toList) = true
      rw [B_toList]; rfl
    · have h : ((B [97]).toList == (B [97]).toList) = false := h
      rw [B_toList] at h; cases h
    · have h : ((B [98]).toList == (B [98]).toList) = false := h
      rw [B_toList] at h; cases h
  exact ASpec.pureH H k _ _ rfl rfl

theorem col_len {v : List (List Nm)} : ∀ (n k : Nat) (o : List Nm), (colF v n k o).length ≤ o.length + v.length * n
  | 0, _, o => by simp [colF]
  | n + 1, k, o => by
    have h1 := col_len (v := v) n (k + 1) (dedupF (rowN v k) o)
    have h2 := Rc.dedup_len (l := rowN v k) (o := o)
    have h3 := row_len v k
    simp only [colF]
    rw [Nat.mul_succ]; omega
/-! ### WantLists -/
end Wn
end

section
/- The law WantOnce: it returns true. -/

set_option linter.unusedVariables false
set_option linter.unusedSimpArgs false
set_option linter.unusedSectionVars false
set_option maxRecDepth 100000
open Go Go.Ab Go.Proofs V S T C
namespace Wn
open Pl (Up up_one addM addM_mem addM_up addAll addAll_up addAll_mem addAll_len)
open W (sl1 slS slN slR)
open X (hasI getM putI OkX mp_ren PA pa okX_nil okX_put largeD_spec largeD_ok largeD)
open Xd (ofI slE smE)
open Rc (Nm slL slLle outP sub_len up_nd reachM OkS okS_nil gX hasX reach_spec noteM dedupF dedup_mem dedup_nd dedup_len)
open Rr (okX_of okS_of ofI_len rlen_le add_spec)
/-! ### plain -/
theorem row_mem {y : Nm} : ∀ {v : List (List Nm)} {k : Nat}, y ∈ rowN v k ↔ ∃ x ∈ v, k < x.length ∧ x.getD k [] = y
  | [], k => by simp [rowN]
  | z :: r, k => by
    simp only [rowN]
    split
    · rename_i h
      rw [List.mem_cons, row_mem]
      constructor
      · rintro (h2 | ⟨x, h1, h2⟩)
        · exact ⟨z, by simp, h, h2.symm⟩
        · exact ⟨x, by simp [h1], h2⟩
      · rintro ⟨x, h1, h2, h3⟩
        rcases List.mem_cons.1 h1 with rfl | h1
        · exact .inl h3.symm
        · exact .inr ⟨x, h1, h2, h3⟩
    · rename_i h
      rw [row_mem]
      constructor
      · rintro ⟨x, h1, h2⟩; exact ⟨x, by simp [h1], h2⟩
      · rintro ⟨x, h1, h2, h3⟩
        rcases List.mem_cons.1 h1 with rfl | h1
        · exact (h h2).elim
        · exact ⟨x, h1, h2, h3⟩
theorem col_mem {v : List (List Nm)} {y : Nm} : ∀ (n k : Nat) (o : List Nm), y ∈ colF v n k o ↔ y ∈ o ∨ ∃ j, k ≤ j ∧ j < k + n ∧ y ∈ rowN v j
  | 0, k, o => by
    simp only [colF]
    constructor
    · exact .inl
    · rintro (h | ⟨j, h1, h2, _⟩)
      · exact h
      · omega
  | n + 1, k, o => by
    simp only [colF]
    rw [col_mem n (k + 1), dedup_mem]
    constructor
    · rintro ((h | h) | ⟨j, h1, h2, h3⟩)
      · exact .inr ⟨k, by omega, by omega, h⟩
      · exact .inl h
      · exact .inr ⟨j, by omega, by omega, h3⟩
    · rintro (h | ⟨j, h1, h2, h3⟩)
      · exact .inl (.inr h)
      · by_cases e : j = k
        · subst e; exact .inl (.inl h3)
        · exact .inr ⟨j, by omega, by omega, h3⟩
theorem col_nd {v : List (List Nm)} : ∀ (n k : Nat) (o : List Nm), o.Nodup → (colF v n k o).Nodup
  | 0, _, _, h => h
  | n + 1, k, o, h => col_nd n (k + 1) _ (dedup_nd h)
theorem first_mem {v : List (List Nm)} {y : Nm} : y ∈ firstM v ↔ ∃ x ∈ v, y ∈ x := by
  unfold firstM
  rw [col_mem]
  constructor
  · rintro (h | ⟨j, _, _, h⟩)
    · cases h
    · obtain ⟨x, h1, h2, h3⟩ := row_mem.1 h
      refine ⟨x, h1, ?_⟩
      rw [← h3, getD_lt _ _ _ h2]
      exact List.getElem_mem h2
  · rintro ⟨x, h1, h2⟩
    obtain ⟨j, hj, he⟩ := List.mem_iff_getElem.1 h2
    have := (most_ge (v := v) (m := 0)).2 x h1
    exact .inr ⟨j, by omega, by omega, row_mem.2 ⟨x, h1, hj, by rw [getD_lt _ _ _ hj]; exact he⟩⟩
theorem first_nd (v : List (List Nm)) : (firstM v).Nodup := col_nd _ _ _ List.nodup_nil
theorem add_nd {l : List Nm} (h : l.Nodup) : (addAll l []).length = l.length := by
  have h1 := sub_len (up_nd (addAll_up l List.Pairwise.nil)) fun x hx => by
    rcases (addAll_mem l).1 hx with hx | hx
    · exact hx
    · cases hx
  have h2 := sub_len h fun x hx => (addAll_mem l (o := []) (y := x)).2 (.inl hx)
  omega
theorem addAll_app (a b o : List Nm) : addAll (a ++ b) o = addAll b (addAll a o) := by unfold addAll; rw [List.foldl_append]
theorem list_ok {h : Nm → Bool} {m : List Nm} (hm : m.Nodup) (hh : ∀ x ∈ m, h x = false) (s : Nm) (b : Bool) : (listM h m s b).Nodup ∧ ∀ x ∈ listM h m s b, h x = false := by
  have hn : (restM s m).Nodup := hm.filter _
  have hs : s ∉ restM s m := fun hx => by simp [restM] at hx
  have hr : ∀ x ∈ restM s m, h x = false := fun x hx => hh x (List.mem_filter.1 hx).1
  unfold listM
  split
  · rename_i hc
    rw [Bool.and_eq_true] at hc
    have h1 : h s = false := by simpa using hc.2
    split
    · exact ⟨List.nodup_cons.2 ⟨hs, hn⟩, fun x hx => by
        rcases List.mem_cons.1 hx with rfl | hx
        · exact h1
        · exact hr x hx⟩
    · exact ⟨by simp, fun x hx => by simp at hx; subst hx; exact h1⟩
  · split
    · exact ⟨hn, hr⟩
    · exact ⟨by simp, fun x hx => by simp at hx⟩

/-! ### WantOnce -/
section
variable {es : Kn} {q : Ask} (hv : few q.2.2)
noncomputable abbrev HQ (es : Kn) (q : Ask) : List AObj := [.cells (encA q), .mp (.typed EK es), .cells [.map 1]]
include hv
theorem on22 {f all : List Nm} (hf : f.Nodup) (hfl : f.length ≤ 1000) (ha : addAll f [] = all) : ∀ (d i : Nat) (came : List Nm), d + i = f.length → addAll (f.drop i) came = all → came.length ≤ i →
    AWP Try.prog 127 0 c6_22 [(11, slL f), (12, slL all), (13, slL came), (16, .int .i64 i)] (HQ es q) (q6_10 0 (PB true)) := by
  intro d
  induction d with
  | zero =>
    intro i came hd h hl
    rw [List.drop_eq_nil_of_le (by omega)] at h
    have h : came = all := h
    subst h
    have hcl : came.length = f.length := by rw [← ha]; exact add_nd hf
    refine v6_22 _ _ _ _ _ _ _ _ (condD (fun hc => by omega) fun _ => condE (fun _ => ?_) fun h => (h (by omega)).elim)
    refine ASpec.call (Dp.names_spec _ _ (by unfold lim; omega) _) (Les.refl _) ⟨_, rfl, rfl, condB (fun _ => ?_) fun h => by simp at h⟩
    exact ASpec.call (awake_spec _) (Les.refl _) ⟨(), rfl, rfl, pb rfl⟩
  | succ d ih =>
    intro i came hd h hl
    rw [dropD f [] i (by omega), Rr.addAll_cons] at h
    refine v6_22 _ _ _ _ _ _ _ _ (condD (fun hc => needJ ⟨by omega, by omega⟩ ?_) fun hc => by omega)
    rw [Int.toNat_natCast, succ64 (by omega)]
    generalize f.getD i [] = y at h ⊢
    have hl1 := Rr.addM_len y came
    exact ASpec.call (add_spec came y (by omega) _) (Les.refl _) ⟨_, rfl, rfl, ih (i + 1) _ (by omega) h (by omega)⟩
theorem on18 {f : List Nm} {i : Nat} (hi : i < q.2.2.length) {all' : List Nm} (kk : AWP Try.prog 127 0 c6_15 [(5, .ptr 0 0), (11, slL f), (12, slL all'), (13, .sl 0 (.raw []) .nil), (14, .int .i64 (i + 1 : Nat))] (HQ es q) (q6_4 0 (PB true))) :
    ∀ (d j : Nat) (all : List Nm), d + j = (q.2.2.getD i []).length → all.length + d ≤ 100000 → addAll ((q.2.2.getD i []).drop j) all = all' →
    AWP Try.prog 127 0 c6_18 [(5, .ptr 0 0), (11, slL f), (12, slL all), (13, .sl 0 (.raw []) .nil), (14, .int .i64 i), (15, .int .i64 j)] (HQ es q) (q6_8 0 (PB true)) := by
  have h20 := hv.1
  have hy20 := hv.2 _ (memD q.2.2 [] i hi)
  intro d
  induction d with
  | zero =>
    intro j all hd hl h
    rw [List.drop_eq_nil_of_le (by omega)] at h
    have h : all = all' := h
    subst h
    refine v6_18 _ _ _ _ _ _ _ _ (needJ ⟨by omega, by omega⟩ ?_)
    rw [Int.toNat_natCast]
    refine condD (fun hc => by omega) fun _ => ?_
    rw [succ64 (by omega)]; exact kk
  | succ d ih =>
    intro j all hd hl h
    rw [dropD (q.2.2.getD i []) [] j (by omega), Rr.addAll_cons] at h
    refine v6_18 _ _ _ _ _ _ _ _ (needJ ⟨by omega, by omega⟩ ?_)
    rw [Int.toNat_natCast]
    refine condD (fun _ => needJ ⟨by omega, by omega⟩ (needJ ⟨by omega, by omega⟩ ?_)) fun hc => by omega
    rw [Int.toNat_natCast, succ64 (by omega)]
    have hl1 := Rr.addM_len ((q.2.2.getD i []).getD j []) all
    exact ASpec.call (add_spec all _ (by omega) _) (Les.refl _) ⟨_, rfl, rfl, ih (j + 1) _ (by omega) (by omega) h⟩
theorem on15 {f all' : List Nm} (hf : f.Nodup) (hfl : f.length ≤ 1000) (ha : addAll f [] = all') : ∀ (d i : Nat) (all : List Nm), d + i = q.2.2.length → all.length + 20 * d ≤ 1000 → addAll (q.2.2.drop i).flatten all = all' →
    AWP Try.prog 127 0 c6_15 [(5, .ptr 0 0), (11, slL f), (12, slL all), (13, .sl 0 (.raw []) .nil), (14, .int .i64 i)] (HQ es q) (q6_4 0 (PB true)) := by
  have h20 := hv.1
  intro d
  induction d with
  | zero =>
    intro i all hd hl h
    rw [List.drop_eq_nil_of_le (by omega)] at h
    have h : all = all' := h
    subst h
    refine v6_15 _ _ _ _ _ _ _ (condD (fun hc => by omega) fun _ => ?_)
    exact AWP.spell [(11, slL f), (12, slL all), (13, slL []), (16, .int .i64 (0 : Nat))] ⟨rfl, Le.refl _, rfl, Le.refl _, rfl, nilL, rfl, Le.refl _, trivial⟩ (on22 hv hf hfl ha f.length 0 [] (Nat.add_zero _) ha (by simp))
  | succ d ih =>
    intro i all hd hl h
    have hy20 := hv.2 _ (memD q.2.2 [] i (by omega))
    rw [dropD q.2.2 [] i (by omega), List.flatten_cons, addAll_app] at h
    have hl1 := addAll_len (q.2.2.getD i []) (o := all)
    refine v6_15 _ _ _ _ _ _ _ (condD (fun _ => ?_) fun hc => by omega)
    exact on18 hv (by omega) (ih (i + 1) _ (by omega) (by omega) h) (q.2.2.getD i []).length 0 all (Nat.add_zero _) (by omega) (by rw [List.drop_zero])
theorem on7 {w : List Nm} (hw : w.Nodup) (hh : ∀ x ∈ w, hasI es x = false) (hwl : w.length ≤ 200000) : ∀ (d i : Nat) (had : List Nm), d + i = w.length → Up had → (∀ x, x ∈ had ↔ x ∈ w.take i) → had.length ≤ i →
    AWP Try.prog 127 0 c6_7 [(5, .ptr 0 0), (7, .ptr 2 0), (8, slL w), (9, slL had), (10, .int .i64 i)] (HQ es q) (q6_2 0 (PB true)) := by
  intro d
  induction d with
  | zero =>
    intro i had hd hu hm hl
    refine v6_7 _ _ _ _ _ _ _ (condD (fun hc => by omega) fun _ => ?_)
    refine ASpec.call (first_spec q.2.2 hv _) (Les.refl _) ⟨_, rfl, rfl, ?_⟩
    have h1 := col_len (v := q.2.2) (mostF q.2.2 0) 0 []
    have h2 := most_le hv.2 (m := 0) (by omega)
    have h3 : q.2.2.length * mostF q.2.2 0 ≤ 20 * 20 := Nat.mul_le_mul hv.1 h2
    have hfl : (firstM q.2.2).length ≤ 1000 := by unfold firstM; simp at h1; omega
    have ha : addAll (firstM q.2.2) [] = addAll q.2.2.flatten [] := up_one (addAll_up _ List.Pairwise.nil) (addAll_up _ List.Pairwise.nil) fun x => by
      rw [addAll_mem, addAll_mem, first_mem, List.mem_flatten]
    refine AWP.spell [(5, .ptr 0 0), (11, slL (firstM q.2.2)), (12, slL []), (13, .sl 0 (.raw []) .nil), (14, .int .i64 (0 : Nat))] ⟨rfl, Le.refl _, rfl, Le.refl _, rfl, nilL, rfl, Le.refl _, rfl, Le.refl _, trivial⟩
      (on15 hv (first_nd _) hfl ha q.2.2.length 0 [] (Nat.add_zero _) (by have := hv.1; simp; omega) rfl)
  | succ d ih =>
    intro i had hd hu hm hl
    have hx := memD w [] i (by omega)
    have hnx : w.getD i [] ∉ had := fun h => by
      have h := (hm _).1 h
      have hs : w = w.take i ++ w.drop i := (List.take_append_drop i w).symm
      rw [dropD w [] i (by omega)] at hs
      rw [hs, List.nodup_append] at hw
      exact hw.2.2 _ h _ (by simp) rfl
    have htk : w.take (i + 1) = w.take i ++ [w.getD i []] := by
      rw [List.take_add_one, List.getD_eq_getElem?_getD, List.getElem?_eq_getElem (show i < w.length by omega)]; rfl
    refine v6_7 _ _ _ _ _ _ _ (condD (fun _ => needJ ⟨by omega, by omega⟩ ?_) fun hc => by omega)
    rw [Int.toNat_natCast, succ64 (by omega)]
    generalize w.getD i [] = y at hx hnx htk ⊢
    refine ASpec.call (X.has_spec es y _ 1 2 (by omega) rfl rfl) (Les.refl _) ⟨_, rfl, rfl, ?_⟩
    rw [hh y hx]
    refine condB (fun h => by cases h) fun _ => needJ ⟨by omega, by omega⟩ ?_
    have hl1 := Rr.addM_len y had
    refine ASpec.call (add_spec had y (by omega) _) (Les.refl _) ⟨_, rfl, rfl, condE (fun h => ?_) fun _ => needJ ⟨by omega, by omega⟩ ?_⟩
    · exact (hnx ((Rc.add_in hu).1 (by omega))).elim
    · refine ASpec.call (add_spec had y (by omega) _) (Les.refl _) ⟨_, rfl, rfl, ih (i + 1) _ (by omega) (addM_up hu) (fun x => ?_) (by omega)⟩
      rw [addM_mem, htk, List.mem_append, hm]
      simp [or_comm]
end
theorem once_spec (e : List Ent) (root : List Need) (q : Ask) : ASpec Try.prog 6 [slE e, slN root, .agg (encA q)] [] (fun r H' => r = .bool true ∧ H' = []) := by
  have wake : ∀ H, ASpec Try.prog 24 [] H (fun r H' => ∃ x : Unit, r = .bool true ∧ H' = H ∧ PB true (.bool true) H) := fun H => ASpec.call (awake_spec _) (Les.refl _) ⟨(), rfl, rfl, pb rfl⟩
  refine ASpec.sel (s6 e root q (PB true) (ASpec.call (largeD_spec e _) (Les.refl _) ⟨_, rfl, rfl, condB (fun _ => wake _) fun h1 => ?_⟩))
  refine ASpec.call (largeN_spec root _) (Les.refl _) ⟨_, rfl, rfl, condB (fun _ => wake _) fun h2 => ?_⟩
  have he := largeD_ok h1
  have hr : root.length ≤ 40 := by
    unfold largeN at h2
    split at h2
    · cases h2
    · omega
  refine ASpec.call (rneedCheck_spec root (largeN_ok h2) _) (Les.refl _) ⟨_, rfl, rfl, condBn (fun _ => wake _) fun hc => ?_⟩
  refine ASpec.call (long_spec q _) (Les.refl _) ⟨_, rfl, rfl, condB (fun _ => wake _) fun h3 => ?_⟩
  obtain ⟨hq, hv⟩ := long_ok h3
  have hsm : smE e := ⟨by have := he.1; omega, he.2⟩
  have hX := okX_of e [] okX_nil
  have hS := okS_of e [] okS_nil
  have hl : (ofI e []).length ≤ 100 := by have := ofI_len e; have := he.1; omega
  have hrl := rlen_le hX hS hl (root := root) (by omega) true
  have hol : (outP (hasX true (ofI e [])) (reachM true (ofI e []) (root.map (·.1)))).length ≤ 100000 := Nat.le_trans (List.length_filter_le _ _) hrl
  have hmn : (outP (hasX true (ofI e [])) (reachM true (ofI e []) (root.map (·.1)))).Nodup := (up_nd (reach_spec true _ _).1).filter _
  have hmh : ∀ x ∈ outP (hasX true (ofI e [])) (reachM true (ofI e []) (root.map (·.1))), hasI (ofI e []) x = false := fun x hx => by
    unfold outP at hx
    have := (List.mem_filter.1 hx).2
    unfold hasX at this
    simpa using this
  refine ASpec.call (Xd.xof_spec e hsm _) (Les.refl _) ⟨ofI e [], rfl, rfl, ?_⟩
  have hL := list_at hX hS hl (root := root) (by omega) q.1 (by omega) q.2.1 [.cells (encA q), .mp (.typed EK (ofI e [])), .cells [.map 1]] 1 2 (by omega) rfl rfl
  generalize outP (hasX true (ofI e [])) (reachM true (ofI e []) (root.map (·.1))) = miss at hol hmn hmh hL
  have hll : (listM (hasI (ofI e [])) miss q.1 q.2.1).length ≤ 200000 := by
    have h5 : (restM q.1 miss).length ≤ 100000 := Nat.le_trans (List.length_filter_le _ _) hol
    unfold listM
    rw [List.length_append]
    split <;> split <;> simp <;> omega
  obtain ⟨k1, k2⟩ := list_ok hmn hmh q.1 q.2.1
  refine ASpec.call hL (Les.refl _) ⟨_, rfl, rfl, ?_⟩
  exact AWP.spell [(5, .ptr 0 0), (7, .ptr 2 0), (8, slL (listM (hasI (ofI e [])) miss q.1 q.2.1)), (9, slL []), (10, .int .i64 (0 : Nat))] ⟨rfl, Le.refl _, rfl, Le.refl _, rfl, Le.refl _, rfl, nilL, rfl, Le.refl _, trivial⟩
    (on7 hv k1 k2 hll (listM (hasI (ofI e [])) miss q.1 q.2.1).length 0 [] (Nat.add_zero _) List.Pairwise.nil (fun x => by simp) (by simp))
end Wn
end
