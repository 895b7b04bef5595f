/- Q8: several of this proof's own texts, one behind the other: what each proves stands at its head. -/
import Derived.Shelf.SortM.Plain
import Derived.Shelf.SortM.SortNone
import Derived.Ground.SlgmProg
import Derived.Test.YtbacghbkaapncaaGreatProg
import Derived.Test.YtbacghbkaapncaaGreatA4
import Derived.Test.YtbacghbkaapncaaGreatQ5
import Derived.Test.YtbacghbkaapncaaGreatA3
import Derived.Test.YtbacghbkaapncaaGreatQ7
import Derived.Shelf.Lays
import Derived.Shelf.Small.Strs
import Derived.Test.YtbacghbkaapncaaGreatQ6
import Derived.Handed
import Derived.Shelf.Vars
section
/- The library's sort of strings and of ints at this program's numbers: laid by the kit's own tool. -/

namespace Go.Proofs
open Go.Shelf
def Tryz.mSort_ren : Go.Shelf.Ren := ⟨fun | 6 => 45 | 8 => 80 | 9 => 79 | 19 => 113 | 20 => 114 | 21 => 104 | 22 => 105 | 23 => 106 | 24 => 107 | 25 => 108 | 26 => 109 | 27 => 110 | 28 => 111 | 29 => 112 | 36 => 144 | 31 => 145 | 32 => 146 | 37 => 147 | 38 => 148 | 39 => 149 | 41 => 166 | n => n, fun | 27 => 40 | 29 => 9 | 3 => 3 | 32 => 135 | 26 => 40 | 0 => 0 | 44 => 62 | 46 => 172 | 4 => 4 | 36 => 164 | 35 => 163 | 41 => 90 | 5 => 5 | 9 => 9 | 53 => 199 | 57 => 203 | 63 => 219 | 64 => 145 | n => n, fun | n => n⟩
theorem Tryz.mSort : Go.Proofs.SlLaysM.n6 Tryz.prog Tryz.mSort_ren := {
  mixed := by kernel_rfl
  f6 := ⟨Tryz.f45.name, by decide, Tryz.func45.trans (congrArg some (by kernel_rfl))⟩
  f8 := Tryz.func80.trans (congrArg some (by kernel_rfl))
  f9 := ⟨Tryz.f79.name, by decide, Tryz.func79.trans (congrArg some (by kernel_rfl))⟩
  f19 := Tryz.func113.trans (congrArg some (by kernel_rfl))
  f20 := Tryz.func114.trans (congrArg some (by kernel_rfl))
  f21 := ⟨Tryz.f104.name, by decide, Tryz.func104.trans (congrArg some (by kernel_rfl))⟩
  f22 := ⟨Tryz.f105.name, by decide, Tryz.func105.trans (congrArg some (by kernel_rfl))⟩
  f23 := ⟨Tryz.f106.name, by decide, Tryz.func106.trans (congrArg some (by kernel_rfl))⟩
  f24 := ⟨Tryz.f107.name, by decide, Tryz.func107.trans (congrArg some (by kernel_rfl))⟩
  f25 := ⟨Tryz.f108.name, by decide, Tryz.func108.trans (congrArg some (by kernel_rfl))⟩
  f26 := ⟨Tryz.f109.name, by decide, Tryz.func109.trans (congrArg some (by kernel_rfl))⟩
  f27 := ⟨Tryz.f110.name, by decide, Tryz.func110.trans (congrArg some (by kernel_rfl))⟩
  f28 := ⟨Tryz.f111.name, by decide, Tryz.func111.trans (congrArg some (by kernel_rfl))⟩
  f29 := ⟨Tryz.f112.name, by decide, Tryz.func112.trans (congrArg some (by kernel_rfl))⟩
  f31 := Tryz.func145.trans (congrArg some (by kernel_rfl))
  f32 := Tryz.func146.trans (congrArg some (by kernel_rfl))
  f36 := ⟨Tryz.f144.name, by decide, Tryz.func144.trans (congrArg some (by kernel_rfl))⟩
  f37 := ⟨Tryz.f147.name, by decide, Tryz.func147.trans (congrArg some (by kernel_rfl))⟩
  f38 := ⟨Tryz.f148.name, by decide, Tryz.func148.trans (congrArg some (by kernel_rfl))⟩
  f39 := ⟨Tryz.f149.name, by decide, Tryz.func149.trans (congrArg some (by kernel_rfl))⟩
  f41 := ⟨Tryz.f166.name, by decide, Tryz.func166.trans (congrArg some (by kernel_rfl))⟩
  t0 := Tryz.underlying0
  a0 := Tryz.isAgg0
  z0 := Tryz.sizeOf0
  v0 := Tryz.zeroValue0
  t3 := Tryz.underlying3
  a3 := Tryz.isAgg3
  z3 := Tryz.sizeOf3
  v3 := Tryz.zeroValue3
  t4 := Tryz.underlying4
  a4 := Tryz.isAgg4
  z4 := Tryz.sizeOf4
  v4 := Tryz.zeroValue4
  t5 := Tryz.underlying5
  a5 := Tryz.isAgg5
  z5 := Tryz.sizeOf5
  v5 := Tryz.zeroValue5
  t9 := Tryz.underlying9
  a9 := Tryz.isAgg9
  z9 := Tryz.sizeOf9
  v9 := Tryz.zeroValue9
  t26 := Tryz.underlying40
  a26 := Tryz.isAgg40
  z26 := Tryz.sizeOf40
  v26 := Tryz.zeroValue40
  t27 := Tryz.underlying40
  a27 := Tryz.isAgg40
  z27 := Tryz.sizeOf40
  v27 := Tryz.zeroValue40
  t29 := Tryz.underlying9
  a29 := Tryz.isAgg9
  z29 := Tryz.sizeOf9
  v29 := Tryz.zeroValue9
  t32 := Tryz.underlying135
  a32 := Tryz.isAgg135
  z32 := Tryz.sizeOf135
  v32 := Tryz.zeroValue135
  t35 := Tryz.underlying163
  a35 := Tryz.isAgg163
  z35 := Tryz.sizeOf163
  v35 := Tryz.zeroValue163
  t36 := Tryz.underlying164
  a36 := Tryz.isAgg164
  z36 := Tryz.sizeOf164
  v36 := Tryz.zeroValue164
  t41 := Tryz.underlying90
  a41 := Tryz.isAgg90
  z41 := Tryz.sizeOf90
  v41 := Tryz.zeroValue90
  t44 := Tryz.underlying62
  a44 := Tryz.isAgg62
  z44 := Tryz.sizeOf62
  v44 := Tryz.zeroValue62
  t46 := Tryz.underlying172
  a46 := Tryz.isAgg172
  z46 := Tryz.sizeOf172
  v46 := Tryz.zeroValue172
  t53 := Tryz.underlying199
  a53 := Tryz.isAgg199
  z53 := Tryz.sizeOf199
  v53 := Tryz.zeroValue199
  t57 := Tryz.underlying203
  a57 := Tryz.isAgg203
  z57 := Tryz.sizeOf203
  v57 := Tryz.zeroValue203
  t63 := Tryz.underlying219
  a63 := Tryz.isAgg219
  z63 := Tryz.sizeOf219
  v63 := Tryz.zeroValue219
  t64 := Tryz.underlying145
  a64 := Tryz.isAgg145
  z64 := Tryz.sizeOf145
  v64 := Tryz.zeroValue145 }

end Go.Proofs
end

section
/- The library's sort of names and of ints, as specifications. -/

set_option linter.unusedVariables false
set_option linter.unusedSimpArgs false
open Go Go.Ab Go.Proofs Go.Sort T
namespace So

def sortL (l : List (List UInt8)) : List (List UInt8) := l.mergeSort fun x y => decide (x ≤ y)
theorem sort_spec {H : List AObj} {id : Nat} {q : Seq} {l : List (List UInt8)} (hid : H[id]? = some (.arr 1 q)) (hq : q.toList = l.map encL) (hl : l.length < 4611686018427387904) :
    ASpec Tryz.prog 45 [.msl 1 id 0 l.length] H (fun r H' => r = .tup [] ∧ H' = H.set id (.arr 1 (.map encL [] (sortL l)))) := by
  refine ASpec.sorts (enc := encStr) (e1 := fun x => .str ⟨x.toArray⟩) (srt := sortL) (fun _ => rfl) (fun M w loc x v => ?_) (fun l => by simp [sortL]) (fun blk off cap ss w h1 h2 h3 => ?_) hid hq hl
  · constructor
    · intro h; cases h; rfl
    · rintro rfl; exact .str _
  · exact AnyM.slices_Sort_string Tryz.mSort blk off cap ss w h1 h2 h3

/-- of nothing: nothing -/
theorem sort_nil {H : List AObj} {z : Nat} {tip : Tip} : ASpec Tryz.prog 45 [.sl z (.raw []) tip] H (fun r H' => r = .tup [] ∧ H' = H) := by
  refine ASpec.of_calls fun M loc w vs ht hv => ?_
  obtain ⟨hs, hv⟩ := hv
  have hv0 := hv 0 (by simp)
  simp only [List.getElem_cons_zero] at hv0
  have hvs : vs = #[vs[0]'(by simp at hs; omega)] := by
    apply Array.ext
    · simpa using hs
    · intro i h1 h2
      have : i = 0 := by simp at h2; omega
      subst this; rfl
  generalize vs[0]'(by simp at hs; omega) = v0 at hv0 hvs
  subst hvs
  have key : ∀ p cap, Calls Tryz.prog 45 #[.slice p 0 cap] w fun e w' => ∃ v, e = .returned v ∧ VRel M w' loc (.tup []) v ∧ Grown w w' := fun p cap =>
    (AnyM.slices_Sort_string_none Tryz.mSort p cap w).mono fun e w' ⟨h1, h2⟩ => by
      subst h2
      exact ⟨_, h1, .tup _ _ rfl (fun i h => by simp at h), ⟨Nat.le_refl _, fun _ _ => rfl, rfl, rfl, rfl⟩⟩
  cases hv0 with
  | slnil => exact key none 0
  | slz => exact key _ 0
  | sl _ _ _ b o cap => exact key _ _

end So
end

section
/- Names that are sorted and lie once each: the two ways to come by them are one. -/

set_option linter.unusedVariables false
set_option linter.unusedSimpArgs false
open Go Go.Ab Go.Proofs
namespace Pl
open Dp (less_iff less_trans less_irrefl less_tri)
abbrev Nm := List UInt8

/-- a name to names that rise, once -/
def addM (x : Nm) : List Nm → List Nm
  | [] => [x]
  | y :: r => if (Op.bytesLess x y || x == y) = true then (if x = y then x :: r else x :: y :: r) else y :: addM x r

abbrev Up (l : List Nm) : Prop := l.Pairwise fun a b => a < b

theorem tri (a b : Nm) : a < b ∨ a = b ∨ b < a := by
  by_cases h : a = b
  · exact .inr (.inl h)
  · cases hx : Op.bytesLess a b with
    | true => exact .inl (less_iff.1 hx)
    | false => exact .inr (.inr (less_iff.1 (less_tri hx h)))
theorem ltT {a b c : Nm} (h : a < b) (k : b < c) : a < c := List.lt_trans h k
theorem ltI {a : Nm} (h : a < a) : False := List.lt_irrefl a h

theorem up_one : ∀ {a b : List Nm}, Up a → Up b → (∀ x, x ∈ a ↔ x ∈ b) → a = b
  | [], [], _, _, _ => rfl
  | [], y :: b, _, _, h => by have := (h y).2 (by simp); simp at this
  | x :: a, [], _, _, h => by have := (h x).1 (by simp); simp at this
  | x :: a, y :: b, ha, hb, h => by
    have ha' := List.pairwise_cons.1 ha
    have hb' := List.pairwise_cons.1 hb
    have e : x = y := by
      rcases List.mem_cons.1 ((h x).1 (by simp)) with e | m
      · exact e
      · rcases List.mem_cons.1 ((h y).2 (by simp)) with e | m2
        · exact e.symm
        · exact (ltI (ltT (hb'.1 x m) (ha'.1 y m2))).elim
    subst e
    rw [up_one ha'.2 hb'.2]
    intro z
    constructor
    · intro hz
      rcases List.mem_cons.1 ((h z).1 (by simp [hz])) with e | m
      · subst e; exact (ltI (ha'.1 z hz)).elim
      · exact m
    · intro hz
      rcases List.mem_cons.1 ((h z).2 (by simp [hz])) with e | m
      · subst e; exact (ltI (hb'.1 z hz)).elim
      · exact m

theorem addM_mem {x y : Nm} : ∀ {o : List Nm}, y ∈ addM x o ↔ y = x ∨ y ∈ o
  | [] => by simp [addM]
  | z :: r => by
    simp only [addM]
    split
    · split
      · rename_i e; subst e; simp
      · simp
    · have := addM_mem (x := x) (y := y) (o := r)
      simp only [List.mem_cons, this]
      constructor
      · rintro (h | h | h) <;> simp [h]
      · rintro (h | h | h) <;> simp [h]

theorem addM_up {x : Nm} : ∀ {o : List Nm}, Up o → Up (addM x o)
  | [], _ => by simp [addM, Up]
  | z :: r, h => by
    have h' := List.pairwise_cons.1 h
    simp only [addM]
    split
    · rename_i hb
      split
      · rename_i e; subst e; exact h
      · rename_i hne
        have hl : x < z := by
          rw [Bool.or_eq_true] at hb
          rcases hb with hb | hb
          · exact less_iff.1 hb
          · exact (hne (beq_iff_eq.1 hb)).elim
        refine List.pairwise_cons.2 ⟨fun y hy => ?_, h⟩
        rcases List.mem_cons.1 hy with e | m
        · subst e; exact hl
        · exact ltT hl (h'.1 y m)
    · rename_i hb
      rw [Bool.or_eq_true, not_or] at hb
      have hl : z < x := by
        rcases tri x z with h1 | h1 | h1
        · exact (hb.1 (less_iff.2 h1)).elim
        · exact (hb.2 (beq_iff_eq.2 h1)).elim
        · exact h1
      refine List.pairwise_cons.2 ⟨fun y hy => ?_, addM_up h'.2⟩
      rcases addM_mem.1 hy with e | m
      · subst e; exact hl
      · exact h'.1 y m

def addAll (l : List Nm) (o : List Nm) : List Nm := l.foldl (fun o x => addM x o) o
theorem addAll_up : ∀ (l : List Nm) {o : List Nm}, Up o → Up (addAll l o)
  | [], _, h => h
  | x :: l, _, h => addAll_up l (addM_up h)
theorem addAll_mem : ∀ (l : List Nm) {o : List Nm} {y : Nm}, y ∈ addAll l o ↔ y ∈ l ∨ y ∈ o
  | [], o, y => by simp [addAll]
  | x :: l, o, y => by
    show y ∈ addAll l (addM x o) ↔ _
    rw [addAll_mem l, addM_mem, List.mem_cons]
    constructor
    · rintro (h | h | h) <;> simp [h]
    · rintro ((h | h) | h) <;> simp [h]
theorem addAll_len : ∀ (l : List Nm) {o : List Nm}, (addAll l o).length ≤ l.length + o.length
  | [], o => by simp [addAll]
  | x :: l, o => by
    have h1 := addAll_len l (o := addM x o)
    have h2 : ∀ o : List Nm, (addM x o).length ≤ o.length + 1 := by
      intro o
      induction o with
      | nil => simp [addM]
      | cons y r ih => simp only [addM]; split <;> (try split) <;> simp <;> omega
    have h3 := h2 o
    show (addAll l (addM x o)).length ≤ _
    simp only [List.length_cons]; omega

theorem sort_up (l : List Nm) : (So.sortL l).Pairwise fun a b => a ≤ b := by
  have h := List.pairwise_mergeSort (le := fun x y : Nm => decide (x ≤ y)) (fun a b c h1 h2 => ?_) (fun a b => ?_) l
  · exact h.imp (fun h => of_decide_eq_true h)
  · simp only [decide_eq_true_eq] at *
    intro h3
    rcases tri b c with h4 | h4 | h4
    · exact h1 (ltT h4 h3)
    · subst h4; exact h1 h3
    · exact h2 h4
  · simp only [Bool.or_eq_true, decide_eq_true_eq]
    rcases tri a b with h | h | h
    · exact .inl (fun k => ltI (ltT h k))
    · subst h; exact .inl (fun k => ltI k)
    · exact .inr (fun k => ltI (ltT h k))

theorem sort_mem (l : List Nm) (x : Nm) : x ∈ So.sortL l ↔ x ∈ l := by simp [So.sortL]
theorem sort_len (l : List Nm) : (So.sortL l).length = l.length := by simp [So.sortL]

end Pl
end

section
/- What may be needed: two ways to come by the names are one. Plain laws. -/

set_option linter.unusedVariables false
set_option linter.unusedSimpArgs false
open Go Go.Ab Go.Proofs
namespace Rc
open Pl (Up up_one tri ltT ltI sort_up sort_mem sort_len addM addM_mem addM_up addAll addAll_up addAll_mem)
open So (sortL)
abbrev Nm := List UInt8

theorem sort_strict {a : List Nm} (hn : a.Nodup) : Up (sortL a) := by
  have h1 := sort_up a
  have h2 : (sortL a).Nodup := (List.mergeSort_perm _ _).nodup_iff.2 hn
  refine (List.Pairwise.and h1 h2).imp fun {a b} hab => ?_
  rcases tri a b with ht | ht | ht
  · exact ht
  · exact (hab.2 ht).elim
  · exact (hab.1 ht).elim
theorem up_nd {a : List Nm} (h : Up a) : a.Nodup := h.imp fun {a b} hab e => by subst e; exact ltI hab
theorem sort_one {a b : List Nm} (hn : a.Nodup) (hu : Up b) (h : ∀ x, x ∈ a ↔ x ∈ b) : sortL a = b :=
  up_one (sort_strict hn) hu fun x => by rw [sort_mem]; exact h x

/-! ### each once -/
def noteM (s : Nm) (o : List Nm) : List Nm := if s ∈ o then o else o ++ [s]
def dedupF : List Nm → List Nm → List Nm
  | [], o => o
  | s :: r, o => dedupF r (noteM s o)
theorem note_mem {s x : Nm} {o : List Nm} : x ∈ noteM s o ↔ x = s ∨ x ∈ o := by
  unfold noteM
  split
  · rename_i h
    constructor
    · exact fun hx => .inr hx
    · rintro (rfl | hx)
      · exact h
      · exact hx
  · simp [or_comm]
theorem note_nd {s : Nm} {o : List Nm} (h : o.Nodup) : (noteM s o).Nodup := by
  unfold noteM
  split
  · exact h
  · rename_i hs
    rw [List.nodup_append]
    refine ⟨h, by simp, fun a ha b hb => ?_⟩
    simp at hb; subst hb
    rintro rfl
    exact hs ha
theorem dedup_mem : ∀ {l o : List Nm} {x : Nm}, x ∈ dedupF l o ↔ x ∈ l ∨ x ∈ o
  | [], o, x => by simp [dedupF]
  | s :: r, o, x => by
    simp only [dedupF]
    rw [dedup_mem, note_mem, List.mem_cons]
    constructor
    · rintro (h | h | h) <;> simp [h]
    · rintro ((h | h) | h) <;> simp [h]
/-- the names that a manifest's releases need -/
def allN (m : T.Mani) : List Nm := m.2.flatMap fun r => r.2.map (·.1)
def mnM (m : T.Mani) : List Nm := addAll (allN m) []
/-! ### lists within lists -/
theorem sub_len : ∀ {a b : List Nm}, a.Nodup → (∀ x ∈ a, x ∈ b) → a.length ≤ b.length
  | [], b, _, _ => Nat.zero_le _
  | x :: r, b, hn, h => by
    have hn' := List.nodup_cons.1 hn
    have hx := h x (by simp)
    have h1 := sub_len (a := r) (b := b.erase x) hn'.2 fun y hy => (List.mem_erase_of_ne (fun e => by subst e; exact hn'.1 hy)).2 (h y (by simp [hy]))
    have h2 := List.length_erase_of_mem hx
    have h3 := List.length_pos_of_mem hx
    simp only [List.length_cons]; omega
/-! ### what may be needed -/
section
variable (g : Nm → List Nm)
inductive RS (root : List Nm) : Nm → Prop
  | base {x : Nm} : x ∈ root → RS root x
  | step {x y : Nm} : RS root x → y ∈ g x → RS root y
theorem rs_least {root : List Nm} {o : List Nm} (h1 : ∀ x ∈ root, x ∈ o) (h2 : ∀ x ∈ o, ∀ y ∈ g x, y ∈ o) {x : Nm} (h : RS g root x) : x ∈ o := by
  induction h with
  | base h => exact h1 _ h
  | step _ hy ih => exact h2 _ ih _ hy
theorem rs_bound {root U : List Nm} (h1 : ∀ x ∈ root, x ∈ U) (h2 : ∀ x, ∀ y ∈ g x, y ∈ U) {x : Nm} (h : RS g root x) : x ∈ U := by
  cases h with
  | base h => exact h1 _ h
  | step _ hy => exact h2 _ _ hy

/-- the document's way: again and again, until nothing comes -/
def roundF : List Nm → List Nm → List Nm
  | [], o => o
  | x :: l, o => roundF l (addAll (g x) o)
theorem round_mem : ∀ {l o : List Nm} {y : Nm}, y ∈ roundF g l o ↔ y ∈ o ∨ ∃ x ∈ l, y ∈ g x
  | [], o, y => by simp [roundF]
  | x :: l, o, y => by
    simp only [roundF]
    rw [round_mem, addAll_mem]
    constructor
    · rintro ((h | h) | ⟨z, hz, h⟩)
      · exact .inr ⟨x, by simp, h⟩
      · exact .inl h
      · exact .inr ⟨z, by simp [hz], h⟩
    · rintro (h | ⟨z, hz, h⟩)
      · exact .inl (.inr h)
      · rcases List.mem_cons.1 hz with rfl | hz
        · exact .inl (.inl h)
        · exact .inr ⟨z, hz, h⟩
theorem round_up : ∀ {l o : List Nm}, Up o → Up (roundF g l o)
  | [], _, h => h
  | x :: l, o, h => by
    simp only [roundF]
    exact round_up (addAll_up _ h)
variable {root U : List Nm} (hU1 : ∀ x ∈ root, x ∈ U) (hU2 : ∀ x, ∀ y ∈ g x, y ∈ U)
include hU1 hU2
theorem rs_len {o : List Nm} (hn : o.Nodup) (h : ∀ x ∈ o, RS g root x) : o.length ≤ U.length :=
  sub_len hn fun x hx => rs_bound g hU1 hU2 (h x hx)
end

section
variable (g : Nm → List Nm) {root U : List Nm} (hU1 : ∀ x ∈ root, x ∈ U) (hU2 : ∀ x, ∀ y ∈ g x, y ∈ U)
include hU1 hU2
end
end Rc
end

section
/- Names that a manifest's releases need, by the program (mani.Names): sorted, each once. -/

set_option linter.unusedVariables false
set_option linter.unusedSimpArgs false
set_option maxRecDepth 100000
open Go Go.Ab Go.Proofs V S T C
namespace Rc
open Pl (Up)
open W (sl1 slS slN slR)
open So (sortL sort_spec sort_nil)
noncomputable abbrev slL (l : List Nm) : AV := .sl 1 (.map encL [] l) .none
noncomputable abbrev arL (o : List Nm) : AObj := .arr 1 (.map encL [] o)
theorem B_inj {a b : Nm} : (⟨a.toArray⟩ : ByteArray) = ⟨b.toArray⟩ ↔ a = b := by
  constructor
  · intro h
    have := congrArg (fun x : ByteArray => x.data.toList) h
    simpa using this
  · rintro rfl; rfl
theorem find_seen (x : Nm) : ∀ o : List Nm, findM (seenM o) ⟨x.toArray⟩ = if x ∈ o then some true else none
  | [] => rfl
  | y :: r => by
    show (if _ then _ else _) = _
    by_cases h : y = x
    · subst h; simp
    · have h3 : ¬ x = y := fun e => h e.symm
      have h2 : ¬ ((⟨x.toArray⟩ : ByteArray) = ⟨y.toArray⟩) := fun e => h3 (B_inj.1 e)
      have ih := find_seen x r
      unfold seenM at ih
      dsimp only
      rw [if_neg h2, ih]
      simp [h3]
theorem set_seen (x : Nm) : ∀ o : List Nm, x ∉ o → setM (seenM o) ⟨x.toArray⟩ true = seenM (o ++ [x])
  | [], _ => rfl
  | y :: r, h => by
    have h2 : ¬ ((⟨x.toArray⟩ : ByteArray) = ⟨y.toArray⟩) := fun e => h (by simp [B_inj.1 e])
    have ih := set_seen x r (fun hx => h (by simp [hx]))
    show (if _ then _ else _) = _
    unfold seenM at ih ⊢
    dsimp only
    rw [if_neg h2, ih]
    rfl
theorem put_seen {x : Nm} {o : List Nm} (h : x ∉ o) : MLe (MM.put (.typed EB (seenM o)) ⟨x.toArray⟩ (.bool true)).toList (MM.typed EB (seenM (o ++ [x]))).toList := by
  rw [← set_seen x o h]
  exact mle_put rfl
theorem ren_mp {ρ : Nat → Nat} {es : List (ByteArray × Bool)} : AObj.ren ρ (.mp (.typed EB es)) = .mp (.typed EB es) := by
  show AObj.mp (.typed (Enc.ren ρ EB) es) = _
  congr 2

theorem selN {n : Nat} {l : List Nat} {H H2 : List AObj} (h1 : l.Nodup) (h0 : n ≤ l.length) (h2 : ∀ i, i < n → l[i]? = some i) (h3 : SelL H (selR l H.length) l H2) : Sel n l H H2 := by
  obtain ⟨a, b⟩ := SelL.at h3
  exact ⟨h1, a, h0, h2, fun i hi => .inl (b _ i hi)⟩

theorem slotsR {ρ : Nat → Nat} : ∀ {s s2 : Slots}, s = s2.map (fun p => (p.1, AV.ren ρ p.2)) → Slots2 (fun a b => Le a (AV.ren ρ b)) s s2
  | _, [], h => by subst h; trivial
  | _, p :: r, h => by subst h; exact ⟨rfl, Le.refl _, slotsR rfl⟩
section
variable {rs : List Rel} {nn i0 : Int} {Post : AV → List AObj → Prop}
end

theorem slLle (ρ : Nat → Nat) (l : List Nm) (t : Tip) : Le (.sl 1 (.map encL [] l) t) (AV.ren ρ (slL l)) := Le.sl (s' := Seq.ren ρ (.map encL [] l)) (by simp [Ab.Seq.toList, Seq.ren]; exact fun a _ => rfl) (.inl rfl) (.inr rfl)
theorem nilLle (ρ : Nat → Nat) : Le (.sl 0 (.raw []) .nil) (AV.ren ρ (slL [])) := Le.sl (s' := Seq.ren ρ (.map encL [] [])) rfl (.inr ⟨rfl, fun _ h => by cases h⟩) (.inr rfl)
end Rc
end

section
/- The names that may be needed, by the program (reach.Names): a row of its own, sorted. -/

set_option linter.unusedVariables false
set_option linter.unusedSimpArgs false
set_option linter.unusedSectionVars false
set_option maxRecDepth 100000
open Go Go.Ab Go.Proofs V S T C
namespace Rc
open Pl (Up)
open W (sl1 slS slN slR)
open So (sortL)
open X (hasI getM OkX mp_ren)
noncomputable abbrev xM (es : Kn) : AObj := .mp (.typed EK es)

/-! ### the closure -/
section
variable {es : Kn} {x : Nm} {t o : List Nm}
end

/-! ### what is known -/
def getX (b : Bool) (es : Kn) (k : Nm) : Mani × Bool := if b = true then getM es k else ((k, []), false)
def gX (b : Bool) (es : Kn) (k : Nm) : List Nm := mnM (getX b es k).1
theorem sel2 {es : Kn} (q : List AObj) : Sel 2 [0, 1] (xM es :: .cells [.map 0] :: q) (HX es) :=
  selN (by decide) (by decide) (fun i h => by match i, h with | 0, _ | 1, _ => rfl) ⟨by rw [mp_ren]; rfl, rfl, trivial⟩

section
variable {b : Bool} {es : Kn} (hes : OkX es) {root : List Need} {U : List Nm} (hU : ∀ x, ∀ y ∈ gX b es x, y ∈ U) (hUl : U.length ≤ 1000000)
include hes

include hU hUl
variable (hr : ∀ n ∈ root, n.1 ∈ U) (hrl : root.length ≤ 1000000)
include hr hrl
end
end Rc
end

section
/- The names that are missing, by the program (reach.Missing: slices.DeleteFunc with a method's value). -/

set_option linter.unusedVariables false
set_option linter.unusedSimpArgs false
set_option linter.unusedSectionVars false
set_option maxRecDepth 100000
open Go Go.Ab Go.Proofs V S T C
namespace Rc
open W (sl1 slS slN slR)
open So (sortL)
open X (hasI getM OkX mp_ren)
section
variable (p : Nm → Bool)
end
section
variable {b : Bool} {es : Kn}
variable (hes : OkX es) {root : List Need} {U : List Nm} (hU : ∀ x, ∀ y ∈ gX b es x, y ∈ U) (hUl : U.length ≤ 1000000) (hr : ∀ n ∈ root, n.1 ∈ U) (hrl : root.length ≤ 1000000)
include hes hU hUl hr hrl
end
end Rc
end

section
/- The index and the document's: plain laws. -/

set_option linter.unusedVariables false
set_option linter.unusedSimpArgs false
open Go Go.Ab Go.Proofs V S T C
namespace Xd
open X (hasI getM readK putI OkX find_none)
open Pl (Up up_one tri ltT ltI sort_up sort_mem)
open Dp (less_iff less_trans less_irrefl less_tri)
open So (sortL)
abbrev Nm := List UInt8
def kdOf (k : Nm) : Known → Kd
  | some m => (m, true)
  | none => ((k, []), false)
def insK (x : Kd) : List Kd → List Kd
  | [] => [x]
  | y :: r => if Op.bytesLess x.1.1 y.1.1 = true then x :: y :: r else y :: insK x r
def atF (s : Nm) : List Kd → Option Kd
  | [] => none
  | y :: r => if y.1.1 = s then some y else atF s r
def hasD (l : List Kd) (s : Nm) : Bool := (atF s l).isSome
def getKd (l : List Kd) (s : Nm) : Mani × Bool := match atF s l with
  | some y => (y.1, y.2)
  | none => ((s, []), false)
def putKd (l : List Kd) (s b : Nm) : Int × List Kd :=
  if fitM s = false ∨ 8192 < b.length then (1, l) else if hasD l s = true then (6, l) else (0, insK (kdOf s (readK s b)) l)

theorem insK_len (x : Kd) : ∀ l : List Kd, (insK x l).length = l.length + 1
  | [] => rfl
  | y :: r => by
    simp only [insK]
    split
    · rfl
    · simp [insK_len x r]
theorem insK_mem {x y : Kd} : ∀ {l : List Kd}, y ∈ insK x l ↔ y = x ∨ y ∈ l
  | [] => by simp [insK]
  | z :: r => by
    simp only [insK]
    split
    · simp
    · have := insK_mem (x := x) (y := y) (l := r)
      simp only [List.mem_cons, this]
      constructor
      · rintro (h | h | h) <;> simp [h]
      · rintro (h | h | h) <;> simp [h]
theorem atF_none {s : Nm} : ∀ {l : List Kd}, atF s l = none ↔ ∀ y ∈ l, y.1.1 ≠ s
  | [] => by simp [atF]
  | y :: r => by
    simp only [atF]
    split
    · rename_i h; simp [h]
    · rename_i h; rw [atF_none]; simp [h]
theorem atF_ins {x : Kd} {s : Nm} : ∀ {l : List Kd}, atF x.1.1 l = none → atF s (insK x l) = if x.1.1 = s then some x else atF s l
  | [], _ => by simp [insK, atF]
  | y :: r, h => by
    simp only [atF] at h
    split at h
    · cases h
    · rename_i hy
      simp only [insK]
      split
      · simp only [atF]
      · simp only [atF]
        rw [atF_ins h]
        by_cases e : y.1.1 = s
        · rw [if_pos e, if_pos e, if_neg (fun h => hy (by rw [e, h]))]
        · rw [if_neg e, if_neg e]

abbrev UpD (l : List Kd) : Prop := l.Pairwise fun a b => Op.bytesLess a.1.1 b.1.1 = true
theorem insK_up {x : Kd} : ∀ {l : List Kd}, UpD l → atF x.1.1 l = none → UpD (insK x l)
  | [], _, _ => by simp [insK]
  | y :: r, h, hn => by
    have h' := List.pairwise_cons.1 h
    have hy := atF_none.1 hn y (by simp)
    have hr : atF x.1.1 r = none := atF_none.2 fun z hz => atF_none.1 hn z (by simp [hz])
    simp only [insK]
    split
    · rename_i hb
      refine List.pairwise_cons.2 ⟨fun z hz => ?_, h⟩
      rcases List.mem_cons.1 hz with rfl | hz
      · exact hb
      · exact less_trans hb (h'.1 z hz)
    · rename_i hb
      have hlt : Op.bytesLess y.1.1 x.1.1 = true := less_tri (by simpa using hb) (fun e => hy e.symm)
      refine List.pairwise_cons.2 ⟨fun z hz => ?_, insK_up h'.2 hr⟩
      rcases insK_mem.1 hz with rfl | hz
      · exact hlt
      · exact h'.1 z hz

/-- the index and the document's know the same -/
structure RelX (es : Kn) (l : List Kd) : Prop where
  up : UpD l
  look : ∀ s, atF s l = (findM es (B s)).map (kdOf s)
  len : l.length = es.length
  nd : (es.map (·.1)).Nodup
theorem rel0 : RelX [] [] := ⟨List.Pairwise.nil, fun s => rfl, rfl, List.Pairwise.nil⟩

theorem setM_app {α : Type} (k : ByteArray) (v : α) : ∀ es : List (ByteArray × α), findM es k = none → setM es k v = es ++ [(k, v)]
  | [], _ => rfl
  | p :: l, h => by
    simp only [findM] at h
    split at h
    · cases h
    · rename_i e
      simp only [setM, if_neg e]
      rw [setM_app k v l h]; rfl
theorem find_keys {α : Type} {k : ByteArray} : ∀ {es : List (ByteArray × α)}, findM es k = none ↔ k ∉ es.map (·.1)
  | [] => by simp [findM]
  | p :: l => by
    simp only [findM, List.map_cons, List.mem_cons, not_or]
    split
    · rename_i h; simp [h]
    · rename_i h; rw [find_keys]; simp [h]
theorem kdOf_name (k b : Nm) : (kdOf k (readK k b)).1.1 = k := by
  unfold readK
  split
  · rfl
  · rename_i h
    show (W.readM b).1.1 = k
    exact Classical.byContradiction fun hn => h (.inr hn)
theorem B_inj {a b : Nm} (h : B a = B b) : a = b := by
  have := congrArg (fun x : ByteArray => x.data.toList) h
  simpa using this

theorem rel_has {es : Kn} {l : List Kd} (h : RelX es l) (s : Nm) : hasD l s = hasI es s := by
  unfold hasD hasI
  rw [h.look s, Option.isSome_map]
theorem rel_get {es : Kn} {l : List Kd} (h : RelX es l) (s : Nm) : getKd l s = getM es s := by
  unfold getKd getM
  rw [h.look s]
  cases findM es (B s) with
  | none => rfl
  | some v => cases v <;> rfl
theorem rel_put {es : Kn} {l : List Kd} (h : RelX es l) (s b : Nm) : (putKd l s b).1 = (putI es s b).1 ∧ RelX (putI es s b).2 (putKd l s b).2 := by
  unfold putKd putI
  rw [rel_has h]
  split
  · exact ⟨rfl, h⟩
  · split
    · exact ⟨rfl, h⟩
    · rename_i hn
      have hn : hasI es s = false := by simpa using hn
      have hf := find_none hn
      have ha : atF (kdOf s (readK s b)).1.1 l = none := by rw [kdOf_name, h.look s, hf]; rfl
      refine ⟨rfl, insK_up h.up ha, fun t => ?_, ?_, ?_⟩
      · rw [atF_ins ha, kdOf_name, findM_set, h.look t]
        by_cases e : s = t
        · subst e; rw [if_pos rfl, if_pos rfl]; rfl
        · rw [if_neg e, if_neg (fun hh => e (B_inj hh).symm)]
      · rw [insK_len, setM_app _ _ _ hf, h.len]; simp
      · rw [setM_app _ _ _ hf, List.map_append, List.nodup_append]
        refine ⟨h.nd, by simp, fun a ha b hb => ?_⟩
        simp at hb
        subst hb
        rintro rfl
        exact (find_keys.1 hf) ha

/-! ### names -/
end Xd
end

section
/- strings.Compare, by the library's contract at this program (the laying was written by the kit's lay-plain tool). -/

set_option linter.unusedVariables false
set_option linter.unusedSimpArgs false
namespace Go.Proofs
open Go.Shelf
end Go.Proofs
open Go Go.Ab Go.Proofs V S T C
namespace Dp
end Dp
end

section
/- Depots: what the code and the document's code compute. -/

set_option linter.unusedVariables false
set_option linter.unusedSimpArgs false
set_option maxRecDepth 100000
open Go Go.Ab Go.Proofs V S T C
open W (sl1 slS slN slR leNone readM cons_dec)
namespace Dp

abbrev PA (r0 : AV) : AV → List AObj → Prop := fun r H' => ∃ l H2 r2, Sel 0 l H' H2 ∧ Le r (AV.ren (selR l H'.length) r2) ∧ (r2 = r0 ∧ H2 = [])
theorem pa {r r0 : AV} {H' : List AObj} (h : Le r (AV.ren (selR [] H'.length) r0)) : PA r0 r H' := ⟨[], [], r0, Sel.none, h, rfl, rfl⟩
noncomputable abbrev slL (l : List (List UInt8)) : AV := .sl 1 (.map encL [] l) .none
/-! ### large -/

/-! ### which may be -/

/-! ### looking for a name -/

/-! ### bodies and manifests -/

def readB (s b : List UInt8) : Mani × Bool := if (readM b).2 ≠ 0 ∨ (readM b).1.1 ≠ s then ((s, []), false) else ((readM b).1, true)
abbrev PMB (v : Mani × Bool) : AV → List AObj → Prop := PA (.tup [.agg (encM v.1), .bool v.2])
theorem pmNone {v : Mani × Bool} {s : List UInt8} {H' : List AObj} (h : v = ((s, []), false)) : PMB v (.tup [.agg [.str (B s), .sl 0 (.raw []) .nil], .bool false]) H' := by
  subst h
  exact pa (Le.tup ⟨Le.agg ⟨Le.refl _, Le.sl (s' := Seq.ren _ (.map T.encR (0, []) [])) rfl (.inr ⟨rfl, fun _ h => by cases h⟩) (.inr rfl), trivial⟩, Le.refl _, trivial⟩)
theorem pmSome {v : Mani × Bool} {m : Mani} {H' : List AObj} (h : v = (m, true)) : PMB v (.tup [.agg (encM m), .bool true]) H' := by
  subst h
  exact pa (Le.refl _)

/-! ### the document's -/

theorem rread_spec (s b : List UInt8) (hb : b.length ≤ 1000000) (H : List AObj) : ASpec Tryz.prog 63 [.str (B s), .str (B b)] H (fun r H' => r = .tup [.agg (encM (readB s b).1), .bool (readB s b).2] ∧ H' = H) := by
  have k : ASpec Tryz.prog 63 [.str (B s), .str (B b)] [] (fun r H' => r = .tup [.agg (encM (readB s b).1), .bool (readB s b).2] ∧ H' = []) := by
    refine ASpec.sel (s63 _ _ _ (ASpec.call (W.rread_spec b hb _) (Les.refl _) ⟨((readM b).1, (readM b).2), rfl, rfl, condNe (fun h => pmNone ?_) fun h => condSn (fun h2 => pmNone ?_) fun h2 => pmSome ?_⟩))
    · rw [readB, if_pos (.inl h)]
    · rw [readB, if_pos (.inr h2)]
    · rw [readB, if_neg (by rintro (h3 | h3); exact h3 h; exact h3 h2)]
  exact ASpec.pureH H k _ _ rfl rfl

theorem names4 {a b : List (List UInt8)} {c : Bool} (hl : a.length ≤ lim) (he : a.length = b.length) : ∀ (m i : Nat), m + i = a.length → decide (a.drop i = b.drop i) = c →
    AWP Tryz.prog 26 0 c16_4 [(0, slL a), (1, slL b), (5, .int .i64 i)] [] (q16_2 0 (PB c)) := by
  unfold lim at hl
  intro m
  induction m with
  | zero =>
    intro i hm h
    refine v16_4 _ _ _ _ _ (condD (fun hc => by omega) fun _ => pb ?_)
    rw [List.drop_eq_nil_of_le (by omega), List.drop_eq_nil_of_le (by omega)] at h
    rw [← h]; simp
  | succ m ih =>
    intro i hm h
    rw [dropD a [] i (by omega), dropD b [] i (by omega), cons_dec] at h
    refine v16_4 _ _ _ _ _ (condD (fun hc => needJ ⟨by omega, by omega⟩ (needJ ⟨by omega, by omega⟩ ?_)) fun hc => by omega)
    rw [Int.toNat_natCast]
    generalize a.getD i [] = x at h ⊢
    generalize b.getD i [] = y at h ⊢
    refine condSn (fun h1 => pb ?_) fun h1 => ?_
    · rw [decide_eq_false h1, Bool.false_and] at h; exact h
    · rw [decide_eq_true h1, Bool.true_and] at h
      rw [succ64 (by omega)]
      exact ih (i + 1) (by omega) h

theorem names_spec (a b : List (List UInt8)) (hl : a.length ≤ lim) (H : List AObj) : ASpec Tryz.prog 16 [slL a, slL b] H (fun r H' => r = .bool (decide (a = b)) ∧ H' = H) := by
  have k : ASpec Tryz.prog 16 [slL a, slL b] [] (fun r H' => r = .bool (decide (a = b)) ∧ H' = []) := by
    refine ASpec.sel (s16 _ _ _ (condNe (fun h => pb ?_) fun h => names4 hl (by omega) a.length 0 (by omega) rfl))
    symm
    rw [decide_eq_false]
    rintro rfl; exact h rfl
  exact ASpec.pureH H k _ _ rfl rfl

/-! ### the examples -/

/-! ### the law -/

end Dp
end

section
/- The document's index: has, get, put, of; the index's of, and its copy. -/

set_option linter.unusedVariables false
set_option linter.unusedSimpArgs false
set_option maxRecDepth 100000
open Go Go.Ab Go.Proofs V S T C
open W (sl1 slS slN slR)
namespace Xd
open X (hasI getM readK putI OkX find_none PA pa mp_ren selX)
/-- at the end of a call -/
theorem cellEnd {H : List AObj} {P : Program} {f : FuncId} {args : List AV} {Post : AV → List AObj → Prop}
    (h : ASpec P f args H (fun r H' => ∃ id cs cs', H'[id]? = some (.cells cs) ∧ Les cs cs' ∧ Post r (H'.set id (.cells cs')))) : ASpec P f args H Post := by
  intro M loc w vs ht hr hv
  refine (h M loc w vs ht hr hv).mono fun e w' hh => ?_
  obtain ⟨v, r, H', M', loc', he, ⟨id, cs, cs', ho, hq, hP⟩, r1, r2, r3⟩ := hh
  have hl := hq.len
  obtain ⟨k1, k2⟩ := r1.respell id (.cells cs) (.cells cs') ho (by intro h; cases h) (by intro h; cases h) (fun hO => by
    obtain ⟨b, vs, T, fr, e1, e2, e3, e4, e5, hs, e6⟩ := hO
    exact ⟨b, vs, T, fr, e1, e2, e3, e4, e5, by omega, fun i hi => hq.get i (by omega) hi _ _ _ _ (e6 i (by omega))⟩)
  exact ⟨v, r, _, M', loc', he, hP, k1, r2.keeps (k2.keeps r1), StepN.trans r3 k2 r3.len⟩

noncomputable abbrev agK (l : List Kd) : AV := .agg (encXd l)
theorem liftK {H : List AObj} {p : Nat} {x x' : List Kd} {f : FuncId} {args args' : List AV} {r0 r' : AV} (hp : H[p]? = some (.cells (encXd x))) (k : ASpec Tryz.prog f args [.cells (encXd x)] (fun r H' => r = r0 ∧ H' = [.cells (encXd x')]))
    (ha : args.map (AV.ren (callR [p] H.length)) = args') (hr : AV.ren (callR [p] H.length) r0 = r') :
    ASpec Tryz.prog f args' H (fun r H' => r = r' ∧ H' = H.set p (.cells (encXd x'))) := by
  refine ASpec.subH [p] H _ k args' r' (by simp) rfl ha hr (fun i hi => ?_) ?_
  · match i, hi with
    | 0, _ => exact hp
  · have e : graftH (callR [p] H.length) [p] H [.cells (encXd x')] = H.set p (.cells (encXd x')) ++ [] := rfl
    rw [e, List.append_nil]

/-! ### where a name lies -/
def ixD (s : Nm) : List Kd → Nat → Int
  | [], _ => -1
  | y :: r, i => if y.1.1 = s then i else ixD s r (i + 1)
theorem ix_none {s : Nm} : ∀ {l : List Kd} {i : Nat}, atF s l = none → ixD s l i = -1
  | [], _, _ => rfl
  | y :: r, i, h => by
    simp only [atF] at h
    split at h
    · cases h
    · rename_i hy; simp only [ixD, if_neg hy]; exact ix_none h
theorem ix_some {s : Nm} : ∀ {l : List Kd} {i : Nat} {y : Kd}, atF s l = some y → ∃ j : Nat, ixD s l i = ((i + j : Nat) : Int) ∧ j < l.length ∧ l.getD j noKd = y
  | [], _, _, h => by cases h
  | z :: r, i, y, h => by
    simp only [atF] at h
    split at h
    · rename_i hz; cases h; exact ⟨0, by simp [ixD, hz], by simp, rfl⟩
    · rename_i hz
      obtain ⟨j, h1, h2, h3⟩ := ix_some (i := i + 1) h
      exact ⟨j + 1, by simp only [ixD, if_neg hz]; rw [h1]; congr 1; omega, by simp; omega, by simpa using h3⟩
theorem ix_has (s : Nm) (l : List Kd) : decide (ixD s l 0 ≥ 0) = hasD l s := by
  unfold hasD
  cases h : atF s l with
  | none => rw [ix_none h]; rfl
  | some y => obtain ⟨j, h1, _, _⟩ := ix_some (i := 0) h; rw [h1]; simp

theorem at2 {l : List Kd} {s : Nm} (hl : l.length ≤ lim) {R : Int} : ∀ (m i : Nat), m + i = l.length → ixD s (l.drop i) i = R →
    AWP Tryz.prog 23 0 c94_2 [(1, .str (B s)), (2, .ptr 0 0), (5, .int .i64 i)] [.cells (encXd l)] (q94_2 0 (PA (.int .i64 R))) := by
  unfold lim at hl
  intro m
  induction m with
  | zero =>
    intro i hm h
    refine v94_2 _ _ _ _ _ (condD (fun hc => by omega) fun _ => ?_)
    rw [List.drop_eq_nil_of_le (by omega)] at h
    subst h
    exact pa (Le.refl _)
  | succ m ih =>
    intro i hm h
    rw [dropD l noKd i (by omega)] at h
    simp only [ixD] at h
    refine v94_2 _ _ _ _ _ (condD (fun hc => needJ ⟨by omega, by omega⟩ ?_) fun hc => by omega)
    rw [Int.toNat_natCast, succ64 (by omega)]
    generalize l.getD i noKd = y at h ⊢
    refine condS (fun h1 => pa ?_) fun h1 => ?_
    · rw [if_pos h1] at h; subst h; exact Le.refl _
    · rw [if_neg h1] at h; exact ih (i + 1) (by omega) h
theorem at_spec (l : List Kd) (s : Nm) (hl : l.length ≤ lim) (H : List AObj) : ASpec Tryz.prog 94 [agK l, .str (B s)] H (fun r H' => r = .int .i64 (ixD s l 0) ∧ H' = H) := by
  have k : ASpec Tryz.prog 94 [agK l, .str (B s)] [] (fun r H' => r = .int .i64 (ixD s l 0) ∧ H' = []) :=
    ASpec.sel (s94 _ _ _ (at2 hl l.length 0 (by omega) rfl))
  exact ASpec.pureH H k _ _ rfl rfl
theorem has_spec (l : List Kd) (s : Nm) (hl : l.length ≤ lim) (H : List AObj) : ASpec Tryz.prog 62 [agK l, .str (B s)] H (fun r H' => r = .bool (hasD l s) ∧ H' = H) := by
  have k : ASpec Tryz.prog 62 [agK l, .str (B s)] [] (fun r H' => r = .bool (hasD l s) ∧ H' = []) := by
    refine ASpec.sel (s62 _ _ _ (ASpec.call (at_spec l s hl _) (Les.refl _) ⟨_, rfl, rfl, pa ?_⟩))
    rw [ix_has]; exact Le.refl _
  exact ASpec.pureH H k _ _ rfl rfl
theorem leR0 {ρ : Nat → Nat} : Le (.sl 0 (.raw []) .nil) (AV.ren ρ (.sl 2 (.map T.encR (0, []) []) .none)) := Le.sl (s' := Seq.ren _ (.map T.encR (0, []) [])) rfl (.inr ⟨rfl, fun _ h => by cases h⟩) (.inr rfl)
theorem get_spec (l : List Kd) (s : Nm) (hl : l.length ≤ lim) (H : List AObj) : ASpec Tryz.prog 74 [agK l, .str (B s)] H (fun r H' => r = .tup [.agg (encM (getKd l s).1), .bool (getKd l s).2] ∧ H' = H) := by
  have k : ASpec Tryz.prog 74 [agK l, .str (B s)] [] (fun r H' => r = .tup [.agg (encM (getKd l s).1), .bool (getKd l s).2] ∧ H' = []) := by
    refine ASpec.sel (s74 _ _ _ (ASpec.call (at_spec l s hl _) (Les.refl _) ⟨_, rfl, rfl, ?_⟩))
    unfold getKd
    cases h : atF s l with
    | none =>
      rw [ix_none h]
      exact condD (fun _ => pa (Le.tup ⟨Le.agg ⟨Le.refl _, leR0, trivial⟩, Le.refl _, trivial⟩)) fun h => (h (by omega)).elim
    | some y =>
      obtain ⟨j, h1, h2, h3⟩ := ix_some (i := 0) h
      rw [h1, Nat.zero_add]
      refine condD (fun h => by omega) fun _ => needJ ⟨by omega, by omega⟩ (needJ ⟨by omega, by omega⟩ ⟨⟨rfl, rfl⟩, ⟨rfl, rfl⟩, pa ?_⟩)
      rw [Int.toNat_natCast, h3]
      exact Le.refl _
  exact ASpec.pureH H k _ _ rfl rfl

/-! ### does it hold? -/
/-! ### names -/
/-! ### Put -/
theorem kdOf_read (s b : Nm) : kdOf s (readK s b) = Dp.readB s b := by
  unfold readK Dp.readB
  split <;> rfl
abbrev P1 (r0 : AV) (x' : List Kd) : AV → List AObj → Prop := fun r H' => ∃ q H2 r2, Sel 1 q H' H2 ∧ Le r (AV.ren (selR q H'.length) r2) ∧ (r2 = r0 ∧ H2 = [.cells (encXd x')])
theorem p1 {x' : List Kd} {r r0 : AV} (q : List AObj) (h : ∀ ρ, Le r (AV.ren ρ r0)) : P1 r0 x' r (.cells (encXd x') :: q) := by
  refine ⟨[0], [.cells (encXd x')], r0, ⟨by decide, rfl, Nat.le_refl _, fun j hj => ?_, fun j hj => ?_⟩, h _, rfl, rfl⟩
  · match j, hj with
    | 0, _ => rfl
  · match j, hj with
    | 0, _ => exact .inl rfl
abbrev PC (r0 : AV) (x' : List Kd) : AV → List AObj → Prop := fun r H' => ∃ id cs cs', H'[id]? = some (.cells cs) ∧ Les cs cs' ∧ P1 r0 x' r (H'.set id (.cells cs'))
theorem pc {x' : List Kd} {r r0 : AV} {cs : List AV} (q : List AObj) (h : Les cs (encXd x')) (h2 : ∀ ρ, Le r (AV.ren ρ r0)) : PC r0 x' r (.cells cs :: q) :=
  ⟨0, cs, encXd x', rfl, h, p1 q h2⟩
theorem put15 {l o R : List Kd} {x : Kd} {b : Bool} (ho : o.length ≤ 10000000) (h : o ++ (if b = true then [] else [x]) = R) :
    AWP Tryz.prog 83 1 c33_15 [(0, .ptr 0 0), (7, .ptr 1 0), (8, .bool x.2), (9, .sl 3 (.map encKd noKd o) (.tok 2)), (10, .bool b)] [.cells (encXd l), .cells (encM x.1), .tok] (q33_0 1 (PC (.int .i64 0) R)) := by
  refine v33_15 _ _ _ _ _ _ _ (condBn (fun hb => needJ (by omega) ?_) fun hb => ?_)
  · rw [if_neg (by rw [hb]; simp)] at h
    subst h
    exact pc _ ⟨Le.sl (s' := .map encKd noKd (o ++ [x])) (by simp [Ab.Seq.toList]; rfl) (.inl rfl) (.inr rfl), trivial⟩ fun ρ => Le.refl _
  · rw [if_pos hb, List.append_nil] at h
    subst h
    exact pc _ ⟨Le.sl (s' := .map encKd noKd o) rfl (.inl rfl) (.inr rfl), trivial⟩ fun ρ => Le.refl _
theorem put9 {l : List Kd} {x : Kd} (hl : l.length ≤ lim) {R : List Kd} : ∀ (m i : Nat) (o : List Kd) (b : Bool), m + i = l.length → o.length ≤ i + b.toNat → o ++ (if b = true then l.drop i else insK x (l.drop i)) = R →
    AWP Tryz.prog 83 1 c33_9 [(0, .ptr 0 0), (1, .str (B x.1.1)), (7, .ptr 1 0), (8, .bool x.2), (9, .sl 3 (.map encKd noKd o) (.tok 2)), (10, .bool b), (11, .int .i64 i)] [.cells (encXd l), .cells (encM x.1), .tok] (q33_2 1 (PC (.int .i64 0) R)) := by
  unfold lim at hl
  intro m
  induction m with
  | zero =>
    intro i o b hm ho h
    have hb1 : b.toNat ≤ 1 := by cases b <;> decide
    rw [List.drop_eq_nil_of_le (by omega)] at h
    exact v33_9 _ _ _ _ _ _ _ _ _ (condD (fun hc => by omega) fun _ => put15 (by omega) h)
  | succ m ih =>
    intro i o b hm ho h
    have hb1 : b.toNat ≤ 1 := by cases b <;> decide
    rw [dropD l noKd i (by omega)] at h
    refine v33_9 _ _ _ _ _ _ _ _ _ (condD (fun hc => ?_) fun hc => by omega)
    rw [Int.toNat_natCast, succ64 (by omega)]
    generalize l.getD i noKd = y at h ⊢
    have one : o ++ y :: (if b = true then l.drop (i + 1) else insK x (l.drop (i + 1))) = R →
        AWP Tryz.prog 83 1 c33_9 [(0, .ptr 0 0), (1, .str (B x.1.1)), (7, .ptr 1 0), (8, .bool x.2), (9, .sl 3 (.app (.map encKd noKd o) (.raw [encKd y])) (.tok 3)), (10, .bool b), (11, .int .i64 (i + 1 : Nat))] [.cells (encXd l), .cells (encM x.1), .gone, .tok] (q33_2 1 (PC (.int .i64 0) R)) := by
      intro h
      refine AWP.shape [0, 1, 3] [(0, .ptr 0 0), (1, .str (B x.1.1)), (7, .ptr 1 0), (8, .bool x.2), (9, .sl 3 (.map encKd noKd (o ++ [y])) (.tok 2)), (10, .bool b), (11, .int .i64 (i + 1 : Nat))] [.cells (encXd l), .cells (encM x.1), .tok] ⟨by decide, rfl, by decide, fun j hj => ?_, fun j hj => ?_⟩
        ⟨rfl, Le.refl _, rfl, Le.refl _, rfl, Le.refl _, rfl, Le.refl _, rfl, leAppE (Les.refl _), rfl, Le.refl _, rfl, Le.refl _, trivial⟩ (ih (i + 1) (o ++ [y]) b (by omega) (by simp; omega) (by rw [← h]; simp))
      · match j, hj with
        | 0, _ => rfl
      · match j, hj with
        | 0, _ | 1, _ | 2, _ => exact .inl rfl
    refine condBn (fun hb => needJ ⟨by omega, by omega⟩ ?_) fun hb => needJ ⟨by omega, by omega⟩ (needJ (by omega) (one (by rw [← h, if_pos hb, if_pos hb])))
    rw [if_neg (by rw [hb]; simp)] at h
    simp only [insK] at h
    rw [B_toList, B_toList]
    refine condB (fun h1 => needJ (by omega) (needJ ⟨by omega, by omega⟩ (needJ (by omega) ?_))) fun h1 => needJ ⟨by omega, by omega⟩ (needJ (by omega) (one (by rw [← h, if_neg (show ¬ Op.bytesLess x.1.1 y.1.1 = true by rw [h1]; simp), if_neg (show ¬ b = true by rw [hb]; simp)])))
    rw [if_pos h1] at h
    refine AWP.shape [0, 1, 4] [(0, .ptr 0 0), (1, .str (B x.1.1)), (7, .ptr 1 0), (8, .bool x.2), (9, .sl 3 (.map encKd noKd ((o ++ [x]) ++ [y])) (.tok 2)), (10, .bool true), (11, .int .i64 (i + 1 : Nat))] [.cells (encXd l), .cells (encM x.1), .tok] ⟨by decide, rfl, by decide, fun j hj => ?_, fun j hj => ?_⟩
        ⟨rfl, Le.refl _, rfl, Le.refl _, rfl, Le.refl _, rfl, Le.refl _, rfl, ?_, rfl, Le.refl _, rfl, Le.refl _, trivial⟩ (ih (i + 1) ((o ++ [x]) ++ [y]) true (by omega) (by rw [hb] at ho; simp at ho ⊢; omega) (by rw [← h, if_pos rfl]; simp))
    · match j, hj with
      | 0, _ => rfl
    · match j, hj with
      | 0, _ | 1, _ | 2, _ => exact .inl rfl
    · have ren : ∀ (ρ : Nat → Nat) (z : Kd), renL ρ (encKd z) = encKd z := fun ρ z => rfl
      exact Le.sl (s' := Seq.ren _ (.map encKd noKd ((o ++ [x]) ++ [y]))) (by simp [Ab.Seq.toList, Seq.ren, ren]; exact ⟨rfl, rfl⟩) (.inl rfl) (.inl rfl)
theorem put0 (l : List Kd) (s b : Nm) (hl : l.length ≤ lim) (hs : s.length ≤ lim) (hb : b.length ≤ 1000000) : ASpec Tryz.prog 33 [.ptr 0 0, .str (B s), .str (B b)] [.cells (encXd l)] (fun r H' => r = .int .i64 (putKd l s b).1 ∧ H' = [.cells (encXd (putKd l s b).2)]) := by
  have same : ∀ (e : Int), putKd l s b = (e, l) → PC (.int .i64 (putKd l s b).1) (putKd l s b).2 (.int .i64 e) [.cells (encXd l)] := by
    intro e h
    rw [h]
    exact pc [] (Les.refl _) fun ρ => Le.refl _
  refine ASpec.sel (cellEnd (s33 _ _ _ _ ?_))
  refine ASpec.call (rfit_spec (l := s) (by unfold big; unfold lim at hs; omega) _) (Les.refl _) ⟨_, rfl, rfl, condBn (fun h1 => same 1 ?_) fun h1 => ?_⟩
  · rw [putKd, if_pos (.inl h1)]
  rw [B_size]
  refine condD (fun h2 => same 1 ?_) fun h2 => ?_
  · rw [putKd, if_pos (.inr (by omega))]
  refine ASpec.call (has_spec l s hl _) (Les.refl _) ⟨_, rfl, rfl, condB (fun h3 => same 6 ?_) fun h3 => ?_⟩
  · rw [putKd, if_neg (by rw [h1]; simp; omega), if_pos h3]
  have hp : putKd l s b = (0, insK (kdOf s (readK s b)) l) := by rw [putKd, if_neg (by rw [h1]; simp; omega), if_neg (by rw [h3]; simp)]
  rw [hp, kdOf_read]
  have hn : (Dp.readB s b).1.1 = s := by rw [← kdOf_read]; exact kdOf_name s b
  refine ASpec.call (Dp.rread_spec s b hb _) (Les.refl _) ⟨_, rfl, rfl, ?_⟩
  generalize Dp.readB s b = x at hn ⊢
  subst hn
  refine AWP.re (ReSt.tok (k := 9) (q' := .map encKd noKd []) (sz' := 3) (s2 := [(0, .ptr 0 0), (1, .str (B x.1.1)), (7, .ptr 1 0), (8, .bool x.2), (9, .sl 3 (.map encKd noKd []) (.tok 2)), (10, .bool false), (11, .int .i64 (0 : Nat))]) rfl (.inl rfl) rfl (.inr rfl) (fun d hd => ?_) rfl) ?_
  · simp only [Ab.get]
    have e : Nat.beq 9 d = false := by
      cases hx : Nat.beq 9 d with
      | false => rfl
      | true => exact absurd (Nat.eq_of_beq_eq_true hx).symm hd
    rw [e]; rfl
  · exact put9 hl l.length 0 [] false (by omega) (by simp) (by simp)
theorem put_spec {H : List AObj} {p : Nat} (l : List Kd) (hp : H[p]? = some (.cells (encXd l))) (s b : Nm) (hl : l.length ≤ lim) (hs : s.length ≤ lim) (hb : b.length ≤ 1000000) :
    ASpec Tryz.prog 33 [.ptr p 0, .str (B s), .str (B b)] H (fun r H' => r = .int .i64 (putKd l s b).1 ∧ H' = H.set p (.cells (encXd (putKd l s b).2))) :=
  liftK hp (put0 l s b hl hs hb) rfl rfl

/-! ### Of -/
def ofKd : List Ent → List Kd → List Kd
  | [], l => l
  | e :: r, l => ofKd r (putKd l e.1 e.2).2
def ofI : List Ent → Kn → Kn
  | [], es => es
  | e :: r, es => ofI r (putI es e.1 e.2).2
theorem putKd_len (l : List Kd) (s b : Nm) : (putKd l s b).2.length ≤ l.length + 1 := by
  unfold putKd
  split
  · simp
  · split
    · simp
    · simp [insK_len]
abbrev smE (e : List Ent) : Prop := e.length ≤ 60 ∧ ∀ x ∈ e, x.1.length ≤ 200 ∧ x.2.length ≤ 9000
noncomputable abbrev slE (e : List Ent) : AV := .sl 2 (.map encEn ([], []) e) .none
theorem of3 {e : List Ent} (he : smE e) {R : List Kd} : ∀ (m i : Nat) (l : List Kd), m + i = e.length → l.length ≤ i → ofKd (e.drop i) l = R →
    AWP Tryz.prog 25 0 c11_3 [(0, slE e), (2, .ptr 0 0), (3, .ptr 1 0), (4, .int .i64 i)] [.cells [.sl 0 (.raw []) .nil], .cells (encXd l)] (q11_2 0 (PA (agK R))) := by
  intro m
  induction m with
  | zero =>
    intro i l hm hl h
    refine v11_3 _ _ _ _ _ (condD (fun hc => by omega) fun _ => pa ?_)
    rw [List.drop_eq_nil_of_le (by omega)] at h
    have h' : l = R := h
    subst h'
    exact Le.refl _
  | succ m ih =>
    intro i l hm hl h
    have h30 := he.1
    have hx := he.2 _ (memD e ([], []) i (by omega))
    rw [dropD e ([], []) i (by omega)] at h
    refine v11_3 _ _ _ _ _ (condD (fun hc => needJ ⟨by omega, by omega⟩ (needJ ⟨by omega, by omega⟩ (needJ (allBytes_map _) ?_))) fun hc => by omega)
    rw [bytesOf_map, Int.toNat_natCast, succ64 (by omega)]
    generalize e.getD i ([], []) = x at h hx ⊢
    simp only [ofKd] at h
    have hlen := putKd_len l x.1 x.2
    exact ASpec.call (put_spec l rfl x.1 x.2 (by unfold lim; omega) (by unfold lim; omega) (by omega)) (Les.refl _) ⟨putKd l x.1 x.2, rfl, rfl, ih (i + 1) _ (by omega) (by omega) h⟩
theorem of_spec (e : List Ent) (he : smE e) (H : List AObj) : ASpec Tryz.prog 11 [slE e] H (fun r H' => r = agK (ofKd e []) ∧ H' = H) := by
  have k : ASpec Tryz.prog 11 [slE e] [] (fun r H' => r = agK (ofKd e []) ∧ H' = []) := by
    refine ASpec.sel (s11 _ _ ?_)
    refine AWP.re (ReSt.leCell (id := 1) (cs' := encXd []) rfl ⟨Le.sl rfl (.inr ⟨rfl, fun _ h => by cases h⟩) (.inr rfl), trivial⟩) ?_
    exact of3 he e.length 0 [] (by omega) (by simp) rfl
  exact ASpec.pureH H k _ _ rfl rfl

abbrev PX0 (es : Kn) (r0 : AV) : AV → List AObj → Prop := fun r H' => ∃ l H2 r2, Sel 0 l H' H2 ∧ Le r (AV.ren (selR l H'.length) r2) ∧ (r2 = r0 ∧ H2 = HX es)
theorem selX0 (es : Kn) (q : List AObj) : Sel 0 [0, 1] (HX es ++ q) (HX es) := by
  obtain ⟨h1, h2, h3, h4, h5⟩ := selX es q
  exact ⟨h1, h2, Nat.zero_le _, fun i hi => by omega, h5⟩
theorem xof3 {e : List Ent} (he : smE e) {R : Kn} : ∀ (m i : Nat) (es : Kn), m + i = e.length → ofI (e.drop i) es = R →
    AWP Tryz.prog 21 0 c10_3 [(3, .ptr 1 0), (7, slE e), (8, .int .i64 e.length), (9, .int .i64 i)] (HX es) (q10_2 0 (PX0 R (.ptr 1 0))) := by
  intro m
  induction m with
  | zero =>
    intro i es hm h
    refine v10_3 _ _ _ _ _ _ (condD (fun hc => by omega) fun _ => ?_)
    rw [List.drop_eq_nil_of_le (by omega)] at h
    have h' : es = R := h
    subst h'
    exact ⟨_, _, _, selX0 es [], Le.refl _, rfl, rfl⟩
  | succ m ih =>
    intro i es hm h
    have h30 := he.1
    have hx := he.2 _ (memD e ([], []) i (by omega))
    rw [dropD e ([], []) i (by omega)] at h
    refine v10_3 _ _ _ _ _ _ (condD (fun hc => needJ ⟨by omega, by omega⟩ ?_) fun hc => by omega)
    rw [Int.toNat_natCast, succ64 (by omega)]
    generalize e.getD i ([], []) = x at h hx ⊢
    simp only [ofI] at h
    refine ASpec.call (X.put_spec es x.1 x.2 (by unfold lim; omega) _ 0 1 (by omega) rfl rfl) (Les.refl _) ⟨putI es x.1 x.2, rfl, rfl, ?_⟩
    refine AWP.shape [0, 1] [(3, .ptr 1 0), (7, slE e), (8, .int .i64 e.length), (9, .int .i64 (i + 1 : Nat))] (HX (putI es x.1 x.2).2) (selX0 _ [_])
      ⟨rfl, Le.refl _, rfl, Le.refl _, rfl, Le.refl _, rfl, Le.refl _, trivial⟩ (ih (i + 1) _ (by omega) h)
theorem xof0 (e : List Ent) (he : smE e) : ASpec Tryz.prog 10 [slE e] [] (fun r H' => r = .ptr 1 0 ∧ H' = HX (ofI e [])) := by
  refine ASpec.sel (s10 _ _ (ASpec.call (X.new_spec []) (Les.refl _) ⟨(), rfl, rfl, ?_⟩))
  exact xof3 he e.length 0 [] (by omega) rfl
theorem xof_spec (e : List Ent) (he : smE e) (H : List AObj) : ASpec Tryz.prog 10 [slE e] H (fun r H' => r = .ptr (H.length + 1) 0 ∧ H' = H ++ [.mp (.typed EK (ofI e [])), .cells [.map H.length]]) := by
  refine (ASpec.subH [] H (H ++ [.mp (.typed EK (ofI e [])), .cells [.map H.length]]) (xof0 e he) [slE e] (.ptr (H.length + 1) 0) (by simp) rfl rfl (by simp [AV.ren, callR]) (fun i hi => by cases hi) ?_)
  simp [graftH, grafted, HX, mp_ren]
  simp [AObj.ren, renL, AV.ren, callR]

/-! ### the copy -/
end Xd
end

section
/- What may be needed, of an index: plain laws for reach's statements. -/

set_option linter.unusedVariables false
set_option linter.unusedSimpArgs false
set_option linter.unusedSectionVars false
set_option maxRecDepth 100000
open Go Go.Ab Go.Proofs V S T C
namespace Rc
open Pl (Up up_one tri ltT ltI sort_mem sort_len addM addM_mem addM_up addAll addAll_up addAll_mem addAll_len)
open So (sortL)
open X (hasI getM readK putI OkX okX_put okX_nil find_none)
open W (readM)
open Xd (ofI ofKd RelX)
/-- few releases, of few needs -/
def small (m : Mani) : Prop := m.2.length ≤ 8 ∧ ∀ r ∈ m.2, r.2.length ≤ 6
theorem set_mem {α : Type} {k : ByteArray} {v : α} : ∀ {l : List (ByteArray × α)} {p : ByteArray × α}, p ∈ setM l k v → p ∈ l ∨ p = (k, v)
  | [], p, h => by simp [setM] at h; exact .inr h
  | q :: l, p, h => by
    simp only [setM] at h
    split at h
    · rcases List.mem_cons.1 h with h | h
      · exact .inr h
      · exact .inl (by simp [h])
    · rcases List.mem_cons.1 h with h | h
      · exact .inl (by simp [h])
      · rcases set_mem h with h | h
        · exact .inl (by simp [h])
        · exact .inr h
theorem find_mem {α : Type} {k : ByteArray} {v : α} : ∀ {l : List (ByteArray × α)}, findM l k = some v → ∃ p ∈ l, p.2 = v
  | [], h => by cases h
  | q :: l, h => by
    simp only [findM] at h
    split at h
    · cases h; exact ⟨q, by simp, rfl⟩
    · obtain ⟨p, h1, h2⟩ := find_mem h; exact ⟨p, by simp [h1], h2⟩

/-! ### all names -/
/-! ### more is known -/
def More (es es2 : Kn) : Prop := ∀ k v, findM es k = some v → findM es2 k = some v
theorem More.refl (es : Kn) : More es es := fun _ _ h => h
theorem More.trans {a b c : Kn} (h : More a b) (k : More b c) : More a c := fun x v e => k x v (h x v e)
/-! ### nothing is known -/
/-! ### one more name -/
theorem add_in {x : Nm} {o : List Nm} (hu : Up o) : ((addM x o).length = o.length) ↔ x ∈ o := by
  constructor
  · intro h
    refine Classical.byContradiction fun hx => ?_
    have := sub_len (a := x :: o) (b := addM x o) (List.nodup_cons.2 ⟨hx, up_nd hu⟩) fun y hy => addM_mem.2 (by
      rcases List.mem_cons.1 hy with rfl | hy
      · exact .inl rfl
      · exact .inr hy)
    simp at this; omega
  · intro h
    rw [up_one (addM_up hu) hu fun y => by rw [addM_mem]; exact ⟨fun h2 => by rcases h2 with rfl | h2 <;> assumption, .inr⟩]
end Rc
end

section
/- What may be needed, by the document: Add, Names, reach's Names and Missing, and the law's own look. -/

set_option linter.unusedVariables false
set_option linter.unusedSimpArgs false
set_option linter.unusedSectionVars false
set_option maxRecDepth 100000
open Go Go.Ab Go.Proofs V S T C
namespace Rr
open Pl (Up up_one addM addM_mem addM_up addAll addAll_up addAll_mem addAll_len)
open W (sl1 slS slN slR)
open X (hasI getM OkX mp_ren PA pa)
open Xd (hasD getKd agK)
open Rc (Nm slL slLle nilLle slotsR selN small mnM allN roundF sub_len up_nd)
/-! ### Add -/
theorem add4 {o : List Nm} {x : Nm} (hl : o.length ≤ 1000000) {R : List Nm} : ∀ (m i : Nat) (r : List Nm) (b : Bool), m + i = o.length → r.length ≤ i + b.toNat → R = r ++ (if b = true then o.drop i else addM x (o.drop i)) →
    AWP Tryz.prog 48 0 c46_4 [(0, slL o), (1, .str (B x)), (5, .sl 1 (.map encL [] r) (.tok 0)), (6, .bool b), (7, .int .i64 i)] [.tok] (q46_2 0 (PA (slL R))) := by
  intro m
  induction m with
  | zero =>
    intro i r b hm hr hR
    have hb1 : b.toNat ≤ 1 := by cases b <;> decide
    refine v46_4 _ _ _ _ _ _ _ (condD (fun h => by omega) fun _ => condBn (fun hb => needJ (by omega) ?_) fun hb => ?_)
    · rw [if_neg (by rw [hb]; simp), List.drop_eq_nil_of_le (by omega)] at hR
      simp only [addM] at hR
      subst hR
      exact pa (Le.trans (leAppE (Les.refl _)) (slLle _ _ _))
    · rw [if_pos hb, List.drop_eq_nil_of_le (by omega), List.append_nil] at hR
      subst hR
      exact pa (slLle _ _ _)
  | succ m ih =>
    intro i r b hm hr hR
    have hb1 : b.toNat ≤ 1 := by cases b <;> decide
    rw [dropD o [] i (by omega)] at hR
    have nxt1 : ∀ (y : Nm) (b : Bool), r.length ≤ i + b.toNat → R = (r ++ [y]) ++ (if b = true then o.drop (i + 1) else addM x (o.drop (i + 1))) →
        AWP Tryz.prog 48 0 c46_4 [(0, slL o), (1, .str (B x)), (5, .sl 1 (.app (.map encL [] r) (.raw [[.str (B y)]])) (.tok 1)), (6, .bool b), (7, .int .i64 (IntKind.wrap .i64 ((i : Int) + 1)))] [.gone, .tok] (q46_2 0 (PA (slL R))) := by
      intro y b hr h
      rw [succ64 (by omega)]
      exact AWP.shape [1] [(0, slL o), (1, .str (B x)), (5, .sl 1 (.map encL [] (r ++ [y])) (.tok 0)), (6, .bool b), (7, .int .i64 (i + 1 : Nat))] [.tok] (Sel.mk0 (by decide) ⟨rfl, trivial⟩)
        ⟨rfl, slLle _ _ _, rfl, Le.refl _, rfl, leAppE (Les.refl _), rfl, Le.refl _, rfl, Le.refl _, trivial⟩ (ih (i + 1) (r ++ [y]) b (by omega) (by simp; omega) h)
    refine v46_4 _ _ _ _ _ _ _ (condD (fun _ => ?_) fun h => by omega)
    rw [Int.toNat_natCast]
    generalize o.getD i [] = y at hR ⊢
    refine condBn (fun hb => needJ ⟨by omega, by omega⟩ ?_) fun hb => needJ ⟨by omega, by omega⟩ (needJ (by omega) (nxt1 y b hr (by rw [hR, if_pos hb, if_pos hb]; simp)))
    rw [if_neg (by rw [hb]; simp)] at hR
    simp only [addM] at hR
    rw [B_toList, B_toList]
    refine condB (fun hc => needJ (by omega) (needJ ⟨by omega, by omega⟩ ?_)) fun hc => needJ ⟨by omega, by omega⟩ (needJ (by omega) (nxt1 y b hr (by rw [hR, if_neg (by rw [hc]; simp), if_neg (by rw [hb]; simp)]; simp)))
    rw [if_pos hc] at hR
    have ce : ∀ {A C : Prop}, (x = y → A) → (x ≠ y → C) → condP (x == y) A C := fun {A C} h1 h2 => condB (fun h => h1 (beq_iff_eq.1 h)) fun h => h2 (beq_eq_false_iff_ne.1 h)
    refine ce (fun he => ?_) fun hne => needJ ⟨by omega, by omega⟩ (needJ (by omega) ?_)
    · rw [if_pos he] at hR
      exact nxt1 x true (by rw [hb] at hr; simp at hr ⊢; omega) (by rw [hR, if_pos rfl]; simp)
    · rw [if_neg hne] at hR
      rw [succ64 (by omega)]
      have := ih (i + 1) ((r ++ [x]) ++ [y]) true (by omega) (by rw [hb] at hr; simp at hr ⊢; omega) (by rw [hR, if_pos rfl]; simp)
      refine AWP.shape [2] [(0, slL o), (1, .str (B x)), (5, .sl 1 (.map encL [] ((r ++ [x]) ++ [y])) (.tok 0)), (6, .bool true), (7, .int .i64 (i + 1 : Nat))] [.tok] (Sel.mk0 (by decide) ⟨rfl, trivial⟩)
        ⟨rfl, slLle _ _ _, rfl, Le.refl _, rfl, ?_, rfl, Le.refl _, rfl, Le.refl _, trivial⟩ this
      exact Le.sl (s' := Seq.ren _ (.map encL [] ((r ++ [x]) ++ [y]))) (by simp [Ab.Seq.toList, Seq.ren, renLL]; first | exact ⟨rfl, rfl⟩ | rfl | exact ⟨fun a _ => rfl, rfl, rfl⟩) (.inl rfl) (.inl rfl)
theorem add_spec (o : List Nm) (x : Nm) (hl : o.length ≤ 1000000) (H : List AObj) : ASpec Tryz.prog 46 [slL o, .str (B x)] H (fun r H' => r = slL (addM x o) ∧ H' = H) := by
  have k : ASpec Tryz.prog 46 [slL o, .str (B x)] [] (fun r H' => r = slL (addM x o) ∧ H' = []) := by
    refine ASpec.sel (s46 _ _ _ ?_)
    refine AWP.re (ReSt.tok (k := 5) (q' := .map encL [] []) (sz' := 1) (s2 := [(0, slL o), (1, .str (B x)), (5, .sl 1 (.map encL [] []) (.tok 0)), (6, .bool false), (7, .int .i64 (0 : Nat))]) rfl (.inl rfl) rfl (.inr rfl) (fun d hd => ?_) rfl) ?_
    · simp only [Ab.get]
      have e : Nat.beq 5 d = false := by
        cases hx : Nat.beq 5 d with
        | false => rfl
        | true => exact absurd (Nat.eq_of_beq_eq_true hx).symm hd
      rw [e]; rfl
    · exact add4 hl o.length 0 [] false (by omega) (by simp) rfl
  exact ASpec.pureH H k _ _ rfl rfl
theorem nilL : Le (.sl 0 (.raw []) .nil) (slL []) := Le.sl rfl (.inr ⟨rfl, fun _ h => by cases h⟩) (.inr rfl)
theorem addAll_cons (x : Nm) (l o : List Nm) : addAll (x :: l) o = addAll l (addM x o) := rfl
theorem addM_len (x : Nm) (o : List Nm) : (addM x o).length ≤ o.length + 1 := by
  have := addAll_len [x] (o := o)
  simp [addAll] at this; omega

/-! ### a manifest's names -/
section
variable {m : Mani}
end
/-! ### again and again -/
section
variable {l : List Kd} (hl : l.length ≤ lim) (hsm : ∀ x, small (getKd l x).1) {U : List Nm} (hU : ∀ x, ∀ y ∈ mnM (getKd l x).1, y ∈ U) (hUl : U.length ≤ 100000)
end

/-! ### what is missing -/
/-! ### is it asked? -/
section
variable {es : Kn} (hes : OkX es) (hsm : ∀ x, small (getM es x).1) {k : Nm}
end
end Rr
end

section
/- Entries put one by one: what is known may be. -/

set_option linter.unusedVariables false
open Go Go.Ab Go.Proofs V S T C
namespace Rr
open X (hasI getM putI OkX okX_put)
open Xd (hasD getKd agK ofI ofKd RelX rel0 rel_put rel_has rel_get putKd putKd_len)
theorem okX_of : ∀ (e : List Ent) (es : Kn), OkX es → OkX (ofI e es)
  | [], _, h => h
  | x :: e, es, h => okX_of e _ (okX_put h)
theorem rel_of : ∀ (e : List Ent) (es : Kn) (l : List Kd), RelX es l → RelX (ofI e es) (ofKd e l)
  | [], _, _, h => h
  | x :: e, es, l, h => rel_of e _ _ (rel_put h x.1 x.2).2
theorem ofKd_len : ∀ (e : List Ent) (l : List Kd), (ofKd e l).length ≤ e.length + l.length
  | [], l => by simp [ofKd]
  | x :: e, l => by
    have h1 := ofKd_len e (putKd l x.1 x.2).2
    have h2 := putKd_len l x.1 x.2
    simp only [ofKd, List.length_cons]; omega
end Rr
end

section
/- Names of lists, by their places: the program's way (a range over a function), and the document's. -/

set_option linter.unusedVariables false
set_option linter.unusedSimpArgs false
set_option linter.unusedSectionVars false
set_option maxRecDepth 100000
open Go Go.Ab Go.Proofs V S T C
namespace Wn
open W (sl1 slS slN slR)
open X (PA pa)
open Rc (Nm slL slLle nilLle slotsR selN noteM dedupF)
/-! ### plain -/
/-! ### is it there? -/
theorem ix2 {o : List Nm} {s : Nm} (hl : o.length ≤ 1000000) {Post : AV → List AObj → Prop} (hp : ∀ x : Int, (decide (x ≥ 0) = decide (s ∈ o)) → Post (.int .i64 x) []) : ∀ (m i : Nat), m + i = o.length → (s ∈ o ↔ s ∈ o.drop i) →
    AWP Tryz.prog 19 0 c100_2 [(0, slL o), (1, .str (B s)), (7, .int .i64 o.length), (8, .int .i64 i)] [] (q100_2 0 Post) := by
  intro m
  induction m with
  | zero =>
    intro i hm h
    rw [List.drop_eq_nil_of_le (by omega)] at h
    have h2 : ¬ s ∈ o := fun hs => by have := h.1 hs; cases this
    refine v100_2 _ _ _ _ _ _ (condD (fun hc => by omega) fun _ => hp _ ?_)
    rw [decide_eq_false h2]; rfl
  | succ m ih =>
    intro i hm h
    have hmem := memD o [] i (by omega)
    rw [dropD o [] i (by omega)] at h
    refine v100_2 _ _ _ _ _ _ (condD (fun hc => needJ ⟨by omega, by omega⟩ ?_) fun hc => by omega)
    rw [Int.toNat_natCast, succ64 (by omega)]
    generalize o.getD i [] = y at h hmem ⊢
    rw [B_toList, B_toList]
    refine condB (fun he => hp _ ?_) fun he => ih (i + 1) (by omega) ?_
    · have : s = y := beq_iff_eq.1 he
      subst this
      rw [decide_eq_true hmem]
      exact decide_eq_true (by omega)
    · have hne : ¬ s = y := beq_eq_false_iff_ne.1 he
      rw [h]; simp [hne]
theorem in_spec (o : List Nm) (s : Nm) (hl : o.length ≤ 1000000) (H : List AObj) : ASpec Tryz.prog 72 [slL o, .str (B s)] H (fun r H' => r = .bool (decide (s ∈ o)) ∧ H' = H) := by
  have k : ASpec Tryz.prog 72 [slL o, .str (B s)] [] (fun r H' => r = .bool (decide (s ∈ o)) ∧ H' = []) := by
    refine s72 _ _ _ (s100 _ _ _ (ix2 hl (fun x hx => ?_) o.length 0 (by omega) (by simp)))
    refine ⟨x, rfl, rfl, ?_, rfl⟩
    rw [hx]
  exact ASpec.pureH H k _ _ rfl rfl

/-! ### the round -/
/-! ### the columns -/
/-! ### the document's -/
end Wn
end

section
/- What picks need: names visited one by one, and names by rounds. Plain laws. -/

set_option linter.unusedVariables false
set_option linter.unusedSectionVars false
set_option linter.unusedSimpArgs false
open Go Go.Ab Go.Proofs
namespace Ft
open Pl (Up up_one sort_mem addAll addAll_up addAll_mem)
open Rc (RS rs_least rs_bound rs_len roundF round_mem round_up up_nd sort_one)
open So (sortL)
abbrev Nm := List UInt8

def visL (g : Nm → List Nm) (v : List Nm → List Nm → List Nm) : List Nm → List Nm → List Nm
  | [], o => o
  | n :: r, o => visL g v r (if n ∈ o then o else v (g n) (o ++ [n]))
/-- a name, then what it needs, each once -/
def visitF (g : Nm → List Nm) : Nat → List Nm → List Nm → List Nm
  | 0, _, o => o
  | f + 1, l, o => visL g (visitF g f) l o
/-- by rounds -/
def docN (g : Nm → List Nm) : Nat → List Nm → List Nm
  | 0, o => o
  | k + 1, o => docN g k (roundF g o o)

section
variable (g : Nm → List Nm)
theorem rs_mono {a b : List Nm} (h : ∀ x ∈ a, RS g b x) {x : Nm} (hx : RS g a x) : RS g b x := by
  induction hx with
  | base hx => exact h _ hx
  | step _ hy ih => exact .step ih hy

/-- what a visit does -/
structure Did (l o o' : List Nm) : Prop where
  nd : o'.Nodup
  sub : ∀ x ∈ o, x ∈ o'
  all : ∀ x ∈ l, x ∈ o'
  mem : ∀ x ∈ o', x ∈ o ∨ RS g l x
  cl : ∀ x ∈ o', x ∈ o ∨ ∀ y ∈ g x, y ∈ o'
theorem did_nil {o : List Nm} (h : o.Nodup) : Did g [] o o := ⟨h, fun _ h => h, by simp, fun _ h => .inl h, fun _ h => .inl h⟩
theorem did_cons {n : Nm} {r o o1 o' : List Nm} (h1 : Did g [n] o o1) (h2 : Did g r o1 o') : Did g (n :: r) o o' := by
  refine ⟨h2.nd, fun x hx => h2.sub x (h1.sub x hx), fun x hx => ?_, fun x hx => ?_, fun x hx => ?_⟩
  · rcases List.mem_cons.1 hx with rfl | hx
    · exact h2.sub _ (h1.all _ (by simp))
    · exact h2.all x hx
  · rcases h2.mem x hx with hx | hx
    · rcases h1.mem x hx with hx | hx
      · exact .inl hx
      · exact .inr (rs_mono g (fun z hz => .base (by simp at hz; simp [hz])) hx)
    · exact .inr (rs_mono g (fun z hz => .base (by simp [hz])) hx)
  · rcases h2.cl x hx with hx | hx
    · rcases h1.cl x hx with hx | hx
      · exact .inl hx
      · exact .inr fun y hy => h2.sub y (hx y hy)
    · exact .inr hx
theorem did_had {n : Nm} {o : List Nm} (ho : o.Nodup) (h : n ∈ o) : Did g [n] o o :=
  ⟨ho, fun _ h => h, fun x hx => by simp at hx; subst hx; exact h, fun _ h => .inl h, fun _ h => .inl h⟩
theorem did_new {n : Nm} {o o1 : List Nm} (h : Did g (g n) (o ++ [n]) o1) : Did g [n] o o1 := by
  have hn : n ∈ o1 := h.sub n (by simp)
  refine ⟨h.nd, fun x hx => h.sub x (by simp [hx]), fun x hx => by simp at hx; subst hx; exact hn, fun x hx => ?_, fun x hx => ?_⟩
  · rcases h.mem x hx with hx | hx
    · rcases List.mem_append.1 hx with hx | hx
      · exact .inl hx
      · simp at hx; subst hx; exact .inr (.base (by simp))
    · exact .inr (rs_mono g (fun z hz => .step (.base (by simp)) hz) hx)
  · rcases h.cl x hx with hx | hx
    · rcases List.mem_append.1 hx with hx | hx
      · exact .inl hx
      · simp at hx; subst hx; exact .inr fun y hy => h.all y hy
    · exact .inr hx

variable {root U : List Nm} (hU1 : ∀ x ∈ root, x ∈ U) (hU2 : ∀ x, ∀ y ∈ g x, y ∈ U)
include hU1 hU2
theorem nd_add {n : Nm} {o : List Nm} (ho : o.Nodup) (h : n ∉ o) : (o ++ [n]).Nodup := by
  rw [List.nodup_append]
  refine ⟨ho, by simp, fun a ha b hb => ?_⟩
  simp at hb; subst hb
  rintro rfl
  exact h ha
theorem visL_did {f : Nat} (ih : ∀ l o, o.Nodup → (∀ x ∈ o, RS g root x) → (∀ x ∈ l, RS g root x) → U.length < o.length + f → Did g l o (visitF g f l o)) :
    ∀ (l o : List Nm), o.Nodup → (∀ x ∈ o, RS g root x) → (∀ x ∈ l, RS g root x) → U.length < o.length + f + 1 → Did g l o (visL g (visitF g f) l o)
  | [], o, hn, ho, hl, hf => did_nil g hn
  | n :: r, o, hn, ho, hl, hf => by
    simp only [visL]
    have h1 : Did g [n] o (if n ∈ o then o else visitF g f (g n) (o ++ [n])) := by
      split
      · rename_i h; exact did_had g hn h
      · rename_i h
        refine did_new g (ih _ _ (nd_add g hU1 hU2 hn h) (fun x hx => ?_) (fun x hx => .step (hl n (by simp)) hx) (by simp; omega))
        rcases List.mem_append.1 hx with hx | hx
        · exact ho x hx
        · simp at hx; subst hx; exact hl _ (by simp)
    generalize (if n ∈ o then o else visitF g f (g n) (o ++ [n])) = o1 at h1
    have hlen := Rc.sub_len hn h1.sub
    refine did_cons g h1 (visL_did ih r o1 h1.nd (fun x hx => ?_) (fun x hx => hl x (by simp [hx])) (by omega))
    rcases h1.mem x hx with hx | hx
    · exact ho x hx
    · exact rs_mono g (fun z hz => by simp at hz; subst hz; exact hl _ (by simp)) hx
theorem visit_did : ∀ (f : Nat) (l o : List Nm), o.Nodup → (∀ x ∈ o, RS g root x) → (∀ x ∈ l, RS g root x) → U.length < o.length + f → Did g l o (visitF g f l o)
  | 0, l, o, hn, ho, hl, hf => by
    have := rs_len g hU1 hU2 hn ho
    omega
  | f + 1, l, o, hn, ho, hl, hf => visL_did g hU1 hU2 (visit_did f) l o hn ho hl (by omega)
theorem visit_spec {f : Nat} (hf : U.length < f) : (visitF g f root []).Nodup ∧ ∀ x, x ∈ visitF g f root [] ↔ RS g root x := by
  have h := visit_did g hU1 hU2 f root [] List.nodup_nil (by simp) (fun x hx => .base hx) (by simpa using hf)
  refine ⟨h.nd, fun x => ⟨fun hx => ?_, fun hx => rs_least g h.all (fun z hz y hy => ?_) hx⟩⟩
  · rcases h.mem x hx with hx | hx
    · simp at hx
    · exact hx
  · rcases h.cl z hz with hz | hz
    · simp at hz
    · exact hz y hy
end

/-! ### by rounds -/
theorem filter_le {p q : Nm → Bool} (h : ∀ x, p x = true → q x = true) : ∀ P : List Nm, (P.filter p).length ≤ (P.filter q).length ∧ ((P.filter q).length ≤ (P.filter p).length → ∀ x ∈ P, q x = true → p x = true)
  | [] => by simp
  | z :: r => by
    obtain ⟨h1, h2⟩ := filter_le h r
    cases hp : p z with
    | true =>
      have hq := h z hp
      simp only [List.filter_cons, hp, hq, if_true, List.length_cons]
      refine ⟨by omega, fun hl x hx hqx => ?_⟩
      rcases List.mem_cons.1 hx with rfl | hx
      · exact hp
      · exact h2 (by omega) x hx hqx
    | false =>
      cases hq : q z with
      | true =>
        simp only [List.filter_cons, hp, hq, if_true, Bool.false_eq_true, if_false, List.length_cons]
        exact ⟨by omega, fun hl => by omega⟩
      | false =>
        simp only [List.filter_cons, hp, hq, Bool.false_eq_true, if_false]
        refine ⟨h1, fun hl x hx hqx => ?_⟩
        rcases List.mem_cons.1 hx with rfl | hx
        · rw [hq] at hqx; cases hqx
        · exact h2 hl x hx hqx
section
variable (g : Nm → List Nm)
theorem docN_fix : ∀ (k : Nat) (o : List Nm), Up o → (∀ x ∈ o, ∀ y ∈ g x, y ∈ o) → docN g k o = o
  | 0, o, _, _ => rfl
  | k + 1, o, hu, hc => by
    have e : roundF g o o = o := up_one (round_up g hu) hu fun x => by
      rw [round_mem]
      constructor
      · rintro (h | ⟨z, hz, h⟩)
        · exact h
        · exact hc z hz x h
      · exact .inl
    simp only [docN]
    rw [e]
    exact docN_fix k o hu hc
variable {root P : List Nm} (hP : ∀ x, x ∉ P → g x = [])
include hP
theorem docN_spec : ∀ (k : Nat) (o prev : List Nm), Up o → (∀ x ∈ o, RS g root x) → (∀ x ∈ root, x ∈ o) → (∀ x ∈ prev, x ∈ o) → (∀ x ∈ prev, ∀ y ∈ g x, y ∈ o) → P.length < k + (P.filter (fun x => decide (x ∈ prev))).length →
    Up (docN g k o) ∧ ∀ x, x ∈ docN g k o ↔ RS g root x
  | 0, o, prev, hu, ho, hr, hs, hc, hk => by
    have := List.length_filter_le (fun x => decide (x ∈ prev)) P
    omega
  | k + 1, o, prev, hu, ho, hr, hs, hc, hk => by
    obtain ⟨h1, h2⟩ := filter_le (p := fun x => decide (x ∈ prev)) (q := fun x => decide (x ∈ o)) (fun x hx => by simpa using hs x (by simpa using hx)) P
    by_cases h : (P.filter (fun x => decide (x ∈ o))).length ≤ (P.filter (fun x => decide (x ∈ prev))).length
    · have hcl : ∀ x ∈ o, ∀ y ∈ g x, y ∈ o := fun x hx y hy => by
        have hxP : x ∈ P := Classical.byContradiction fun hn => by rw [hP x hn] at hy; simp at hy
        have := h2 h x hxP (by simpa using hx)
        exact hc x (by simpa using this) y hy
      rw [docN_fix g (k + 1) o hu hcl]
      exact ⟨hu, fun x => ⟨ho x, fun hx => rs_least g hr hcl hx⟩⟩
    · simp only [docN]
      refine docN_spec k (roundF g o o) o (round_up g hu) (fun x hx => ?_) (fun x hx => (round_mem g).2 (.inl (hr x hx))) (fun x hx => (round_mem g).2 (.inl hx)) (fun x hx y hy => (round_mem g).2 (.inr ⟨x, hx, hy⟩)) (by omega)
      rcases (round_mem g).1 hx with hx | ⟨z, hz, hx⟩
      · exact ho x hx
      · exact .step (ho z hz) hx
/-- both ways are one -/
theorem needed_one {U : List Nm} (hU1 : ∀ x ∈ root, x ∈ U) (hU2 : ∀ x, ∀ y ∈ g x, y ∈ U) {f : Nat} (hf : U.length < f) :
    sortL (visitF g f root []) = docN g (P.length + 1) (addAll root []) := by
  have hu : Up (addAll root []) := addAll_up _ List.Pairwise.nil
  have hm : ∀ x, x ∈ addAll root [] ↔ x ∈ root := fun x => by rw [addAll_mem]; simp
  have hv := visit_spec g hU1 hU2 hf
  have hd := docN_spec g hP (P.length + 1) (addAll root []) [] hu (fun x hx => .base ((hm x).1 hx)) (fun x hx => (hm x).2 hx) (by simp) (by simp) (by omega)
  exact sort_one hv.1 hd.1 fun x => by rw [hv.2, hd.2]
end
end Ft
end

section
/- fit: what each rule asks, by the program. -/

set_option linter.unusedVariables false
set_option linter.unusedSimpArgs false
set_option linter.unusedSectionVars false
set_option maxRecDepth 100000
open Go Go.Ab Go.Proofs V S T C
namespace Ft
open W (sl1 slS slN slR)
open X (hasI getM OkX mp_ren)
open Pc (slK slKLe)
open Dk (Nm chkF chk_spec getP get_spec)
open E (PA pa)
/-! ### a heap that stays as it is -/
theorem grafted_same {ρ : Nat → Nat} : ∀ (l : List Nat) (Hl H : List AObj), l.length = Hl.length → (∀ i (h : i < Hl.length), H[l.getD i 0]? = some (AObj.ren ρ Hl[i])) → grafted ρ l Hl H = H
  | [], [], H, _, _ => rfl
  | i :: l, o :: Hl, H, hl, h => by
    have h0 := h 0 (by simp)
    simp only [List.getD_cons_zero, List.getElem_cons_zero] at h0
    have e : H.set i (AObj.ren ρ o) = H := set_same h0
    simp only [grafted]
    rw [e]
    exact grafted_same l Hl H (by simpa using hl) fun k hk => by
      have := h (k + 1) (by simp; omega)
      simpa using this
theorem same {f : FuncId} {args args' : List AV} {r0 r' : AV} {Hl : List AObj} (l : List Nat) (H : List AObj) (k : ASpec Tryz.prog f args Hl (fun r H' => r = r0 ∧ H' = Hl))
    (hnd : l.Nodup) (hlen : l.length = Hl.length) (ha : args.map (AV.ren (callR l H.length)) = args') (hr : AV.ren (callR l H.length) r0 = r')
    (hobj : ∀ i (h : i < Hl.length), H[l.getD i 0]? = some (AObj.ren (callR l H.length) Hl[i])) : ASpec Tryz.prog f args' H (fun r H' => r = r' ∧ H' = H) :=
  ASpec.subH l H H k args' r' hnd hlen ha hr hobj (by
    unfold graftH
    rw [hlen, List.drop_length, List.map_nil, List.append_nil]
    exact grafted_same l Hl H hlen hobj)

/-! ### a release of a manifest -/
def lowR (v : Int) : List Rel → Nat
  | [] => 0
  | x :: r => if x.1 < v then 1 + lowR v r else 0
def relM (m : Mani) (v : Int) : Rel × Bool :=
  if v < 0 ∨ 1000000000 ≤ v then ((0, []), false) else if lowR v m.2 < m.2.length ∧ (m.2.getD (lowR v m.2) (0, [])).1 = v then (m.2.getD (lowR v m.2) (0, []), true) else ((0, []), false)
theorem lowR_le (v : Int) : ∀ l : List Rel, lowR v l ≤ l.length
  | [] => Nat.le_refl _
  | x :: r => by
    have := lowR_le v r
    simp only [lowR]
    split <;> simp <;> omega
theorem lowR_lt (v : Int) : ∀ (l : List Rel) (i : Nat), i < lowR v l → (l.getD i (0, [])).1 < v
  | [], i, h => by simp [lowR] at h
  | x :: r, i, h => by
    simp only [lowR] at h
    split at h
    · cases i with
      | zero => simpa
      | succ i => simpa using lowR_lt v r i (by omega)
    · omega
/-- releases that rise -/
structure Rise (l : List Rel) : Prop where
  low : ∀ r ∈ l, 0 ≤ r.1 ∧ r.1 < 1000000000
  up : l.Pairwise fun a b => a.1 < b.1
theorem lowR_ge (v : Int) : ∀ (l : List Rel), l.Pairwise (fun a b => a.1 < b.1) → ∀ i, lowR v l ≤ i → i < l.length → v ≤ (l.getD i (0, [])).1
  | [], _, i, _, hi => by simp at hi
  | x :: r, hu, i, h, hi => by
    rw [List.pairwise_cons] at hu
    simp only [lowR] at h
    split at h
    · cases i with
      | zero => omega
      | succ i => simpa using lowR_ge v r hu.2 i (by omega) (by simpa using hi)
    · rename_i hx
      cases i with
      | zero => simpa using (by omega : v ≤ x.1)
      | succ i =>
        have hm := hu.1 _ (memD r (0, []) i (by simpa using hi))
        simp only [List.getD_cons_succ]
        omega
theorem cmp_spec (x : Rel) (v : Int) (h1 : 0 ≤ x.1 ∧ x.1 < 1000000000) (h2 : 0 ≤ v ∧ v < 1000000000) (H : List AObj) : ASpec Tryz.prog 142 [.agg (T.encR x), .int .i64 v] H (fun r H' => r = .int .i64 (x.1 - v) ∧ H' = H) := by
  have k : ASpec Tryz.prog 142 [.agg (T.encR x), .int .i64 v] [] (fun r H' => r = .int .i64 (x.1 - v) ∧ H' = []) := by
    refine ASpec.sel (s142 _ _ _ (pa ?_))
    rw [wrap64 (by omega) (by omega)]; exact Le.refl _
  exact ASpec.pureH H k _ _ rfl rfl
theorem bsr3 {l : List Rel} {v : Int} (hs : Rise l) (hl : l.length ≤ lim) (hv : 0 ≤ v ∧ v < 1000000000) : ∀ (m i j : Nat), j - i ≤ m → i ≤ lowR v l → lowR v l ≤ j → j ≤ l.length →
    AWP Tryz.prog 49 0 c141_3 [(0, slR l), (1, .int .i64 v), (2, .fn 142 []), (8, .int .i64 l.length), (9, .int .i64 i), (10, .int .i64 j)] []
      (q141_2 0 (PA (.tup [.int .i64 (lowR v l : Nat), .bool (decide (lowR v l < l.length ∧ (l.getD (lowR v l) (0, [])).1 = v))]))) := by
  unfold lim at hl
  have hel : ∀ i, i < l.length → 0 ≤ (l.getD i (0, [])).1 ∧ (l.getD i (0, [])).1 < 1000000000 := fun i hi => hs.low _ (memD l (0, []) i hi)
  have done : ∀ i : Nat, i = lowR v l → condP (decide ((i : Int) < (l.length : Int))) (needP (0 ≤ (i : Int) ∧ (i : Int) < (l.length : Int)) (ASpec Tryz.prog 142 [.agg (T.encR (l.getD (i : Int).toNat (0, []))), .int .i64 v] []
      (fun r H' => ∃ x : Int, r = .int .i64 x ∧ H' = [] ∧ PA (.tup [.int .i64 (lowR v l : Nat), .bool (decide (lowR v l < l.length ∧ (l.getD (lowR v l) (0, [])).1 = v))]) (.tup [.int .i64 i, .bool (x == 0)]) [])))
      (PA (.tup [.int .i64 (lowR v l : Nat), .bool (decide (lowR v l < l.length ∧ (l.getD (lowR v l) (0, [])).1 = v))]) (.tup [.int .i64 i, .bool false]) []) := by
    rintro i rfl
    refine condD (fun h => needJ ⟨by omega, h⟩ ?_) fun h => pa ?_
    · rw [Int.toNat_natCast]
      refine ASpec.call (cmp_spec _ v (hel _ (by omega)) hv _) (Les.refl _) ⟨_, rfl, rfl, pa ?_⟩
      have e : ((l.getD (lowR v l) (0, [])).1 - v == 0) = decide (lowR v l < l.length ∧ (l.getD (lowR v l) (0, [])).1 = v) := by
        rw [Bool.eq_iff_iff, beq_iff_eq, decide_eq_true_eq]
        constructor
        · intro h2; exact ⟨by omega, by omega⟩
        · intro h2; omega
      rw [e]; exact Le.refl _
    · rw [decide_eq_false (show ¬ (lowR v l < l.length ∧ (l.getD (lowR v l) (0, [])).1 = v) from fun h2 => h (by omega))]; exact Le.refl _
  intro m
  induction m with
  | zero =>
    intro i j h1 h2 h3 h4
    exact v141_3 _ _ _ _ _ _ _ (condD (fun hc => by omega) fun _ => done i (by omega))
  | succ m ih =>
    intro i j h1 h2 h3 h4
    refine v141_3 _ _ _ _ _ _ _ (condD (fun hc => needJ (by omega) ?_) fun _ => done i (by omega))
    rw [Sg.mid64 (by omega)]
    have hm1 : i ≤ (i + j) / 2 := by omega
    have hm2 : (i + j) / 2 < j := by omega
    refine needJ ⟨by omega, by omega⟩ ?_
    generalize (i + j) / 2 = h at hm1 hm2 ⊢
    rw [Int.toNat_natCast]
    refine ASpec.call (cmp_spec _ v (hel h (by omega)) hv _) (Les.refl _) ⟨_, rfl, rfl, condD (fun hc => ?_) fun hc => ?_⟩
    · rw [Sg.suc64 (by omega)]
      refine ih (h + 1) j (by omega) ?_ h3 h4
      rcases Nat.lt_or_ge h (lowR v l) with hk | hk
      · omega
      · have := lowR_ge v l hs.up h hk (by omega); omega
    · refine ih i h (by omega) h2 ?_ (by omega)
      rcases Nat.lt_or_ge h (lowR v l) with hk | hk
      · have := lowR_lt v l h hk; omega
      · exact hk
theorem leRel0 : Le (.agg [.int .i64 0, .sl 0 (.raw []) .nil]) (.agg (T.encR (0, []))) := Le.agg ⟨Le.refl _, Le.sl rfl (.inr ⟨rfl, fun _ h => by cases h⟩) (.inr rfl), trivial⟩
theorem rel_spec (m : Mani) (v : Int) (hs : Rise m.2) (hl : m.2.length ≤ lim) (hn : ∀ r ∈ m.2, okN r.2) (H : List AObj) :
    ASpec Tryz.prog 78 [.agg (encM m), .int .i64 v] H (fun r H' => r = .tup [.agg (T.encR (relM m v).1), .bool (relM m v).2] ∧ H' = H) := by
  have k : ASpec Tryz.prog 78 [.agg (encM m), .int .i64 v] [] (fun r H' => r = .tup [.agg (T.encR (relM m v).1), .bool (relM m v).2] ∧ H' = []) := by
    have z : ∀ {H'}, relM m v = ((0, []), false) → PA (.tup [.agg (T.encR (relM m v).1), .bool (relM m v).2]) (.tup [.agg [.int .i64 0, .sl 0 (.raw []) .nil], .bool false]) H' := fun e => by
      rw [e]; exact pa (Le.tup ⟨leRel0, Le.refl _, trivial⟩)
    refine ASpec.sel (s78 m v (PA (.tup [.agg (T.encR (relM m v).1), .bool (relM m v).2])) (condD (fun h => z ?_) fun h => condD (fun h2 => z ?_) fun h2 => ?_))
    · unfold relM; rw [if_pos (by omega)]
    · unfold relM; rw [if_pos (by omega)]
    · have hv : 0 ≤ v ∧ v < 1000000000 := by omega
      have k3 : ASpec Tryz.prog 141 [slR m.2, .int .i64 v, .fn 142 []] [] (fun r H' => r = .tup [.int .i64 (lowR v m.2 : Nat), .bool (decide (lowR v m.2 < m.2.length ∧ (m.2.getD (lowR v m.2) (0, [])).1 = v))] ∧ H' = []) :=
        ASpec.sel (s141 _ _ _ (bsr3 hs hl hv m.2.length 0 m.2.length (by omega) (by omega) (lowR_le v m.2) (by omega)))
      have k2 : ASpec Tryz.prog 102 [.agg (encM m), .int .i64 v] [] (fun r H' => r = .tup [.int .i64 (lowR v m.2 : Nat), .bool (decide (lowR v m.2 < m.2.length ∧ (m.2.getD (lowR v m.2) (0, [])).1 = v))] ∧ H' = []) :=
        ASpec.sel (s102 m v _ (ASpec.call (ASpec.pureH _ k3 _ _ rfl rfl) (Les.refl _) ⟨(((lowR v m.2 : Nat) : Int), _), rfl, rfl, pa (Le.refl _)⟩))
      refine ASpec.call (ASpec.pureH _ k2 _ _ rfl rfl) (Les.refl _) ⟨(((lowR v m.2 : Nat) : Int), _), rfl, rfl, condBn (fun hf => z ?_) fun hf => ?_⟩
      · have hf := of_decide_eq_false hf
        unfold relM; rw [if_neg (by omega), if_neg hf]
      · have hf := of_decide_eq_true hf
        refine needJ ⟨by omega, by show ((lowR v m.2 : Nat) : Int) < _; omega⟩ ?_
        show ASpec Tryz.prog 103 [.agg (T.encR (m.2.getD ((lowR v m.2 : Nat) : Int).toNat (0, [])))] _ _
        rw [Int.toNat_natCast]
        refine ASpec.call (X.cloneR_spec _ (hn _ (memD m.2 (0, []) _ hf.1)) _) (Les.refl _) ⟨m.2.getD (lowR v m.2) (0, []), rfl, rfl, ?_⟩
        have e : relM m v = (m.2.getD (lowR v m.2) (0, []), true) := by unfold relM; rw [if_neg (by omega), if_pos hf]
        rw [e]; exact pa (Le.refl _)
  exact ASpec.pureH H k _ _ rfl rfl
end Ft
end

section
/- fit: the rules of a solution, by the program. -/

set_option linter.unusedVariables false
set_option linter.unusedSimpArgs false
set_option linter.unusedSectionVars false
set_option maxRecDepth 100000
open Go Go.Ab Go.Proofs V S T C
namespace Ft
open W (sl1 slS slN slR leNone renN renS readM)
open X (hasI getM putI OkX mp_ren)
open Pc (slK slKLe)
open Dk (Nm chkF chk_spec getP get_spec)
open E (PA pa)
open Sp (hasS)
/-! ### manifests that may be -/
def OkG (es : Kn) : Prop := ∀ p ∈ es, ∀ m, p.2 = some m → manOk m = true
theorem read_man {bs : Nm} (h : (readM bs).2 = 0) : manOk (readM bs).1 = true := by
  unfold readM at h ⊢
  split at h
  · cases h
  · rename_i hb
    rw [if_neg hb]
    unfold W.endM at h ⊢
    split at h
    · rename_i hc; exact (hc h).elim
    · rename_i hc
      split at h
      · rename_i hm
        rw [if_neg hc, if_pos hm]
        exact hm
      · cases h
theorem okG_nil : OkG [] := fun p h => by cases h
theorem okG_put {es : Kn} {k bs : Nm} (h : OkG es) : OkG (putI es k bs).2 := by
  unfold putI
  split
  · exact h
  · split
    · exact h
    · intro p hp m hm
      rcases Rc.set_mem hp with hp | rfl
      · exact h p hp m hm
      · unfold X.readK at hm
        split at hm
        · cases hm
        · rename_i hc
          simp only [Option.some.injEq] at hm
          subst hm
          exact read_man (by
            by_cases h0 : (readM bs).2 = 0
            · exact h0
            · exact (hc (.inl h0)).elim)
theorem rel_low : ∀ {l : List Rel} {e : Int}, relF e l = true → -1 ≤ e → (∀ r ∈ l, e < r.1 ∧ r.1 < 1000000000 ∧ needOk r.2 = true) ∧ l.Pairwise fun a b => a.1 < b.1
  | [], _, _, _ => ⟨by simp, List.Pairwise.nil⟩
  | x :: l, e, h, he => by
    simp only [relF] at h
    split at h
    · cases h
    · rename_i hn
      have h1 : e < x.1 := by omega
      have h2 : x.1 < 1000000000 := by omega
      have h3 : needOk x.2 = true := by
        cases hb : needOk x.2 with
        | true => rfl
        | false => exact (hn (.inr (.inr hb))).elim
      obtain ⟨r1, r2⟩ := rel_low h (by omega)
      refine ⟨fun r hr => ?_, List.pairwise_cons.2 ⟨fun y hy => (r1 y hy).1, r2⟩⟩
      rcases List.mem_cons.1 hr with rfl | hr
      · exact ⟨h1, h2, h3⟩
      · have := r1 r hr
        exact ⟨by omega, this.2⟩
theorem needs_ok : ∀ {l : List Need} {last : Nm}, needsF last l = true → ∀ n ∈ l, fitM n.1 = true ∧ Sg.ok n.2
  | [], _, _, n, hn => by simp at hn
  | x :: l, last, h, n, hn => by
    simp only [needsF] at h
    split at h
    · cases h
    · rename_i hx
      rcases List.mem_cons.1 hn with rfl | hn
      · refine ⟨?_, ?_⟩
        · cases hb : fitM n.1 with
          | true => rfl
          | false => exact (hx (.inl hb)).elim
        · show chkS (-1) n.2 = true
          cases hb : chkS (-1) n.2 with
          | true => rfl
          | false => exact (hx (.inr (.inr (.inr hb)))).elim
      · exact needs_ok h n hn
/-- needs that may be -/
def NsOk (l : List Need) : Prop := ∀ n ∈ l, fitM n.1 = true ∧ Sg.ok n.2
theorem ns_of {l : List Need} (h : needOk l = true) : NsOk l ∧ l.length ≤ 6 := by
  unfold needOk at h
  rw [Bool.and_eq_true] at h
  exact ⟨needs_ok h.1, of_decide_eq_true h.2⟩
theorem man_rise {m : Mani} (h : manOk m = true) : Rise m.2 ∧ ∀ r ∈ m.2, NsOk r.2 ∧ r.2.length ≤ 6 := by
  unfold manOk at h
  rw [Bool.and_eq_true] at h
  obtain ⟨h1, h2⟩ := rel_low h.1 (by omega)
  exact ⟨⟨fun r hr => by have := h1 r hr; omega, h2⟩, fun r hr => ns_of (h1 r hr).2.2⟩
theorem get_cases {es : Kn} (hg : OkG es) (k : Nm) : (getM es k).1.2 = [] ∨ manOk (getM es k).1 = true := by
  unfold getM
  split
  · rename_i m hm
    obtain ⟨p, hp, e⟩ := Rc.find_mem hm
    exact .inr (hg p hp _ e)
  · exact .inl rfl
theorem get_rise {es : Kn} (hg : OkG es) (k : Nm) : Rise (getM es k).1.2 ∧ ∀ r ∈ (getM es k).1.2, NsOk r.2 ∧ r.2.length ≤ 6 := by
  rcases get_cases hg k with h | h
  · rw [h]; exact ⟨⟨by simp, List.Pairwise.nil⟩, by simp⟩
  · exact man_rise h
theorem get_okN {es : Kn} (hx : OkX es) (k : Nm) : (getM es k).1.2.length ≤ lim ∧ ∀ r ∈ (getM es k).1.2, okN r.2 := by
  unfold getM
  split
  · rename_i m hm
    exact ⟨(hx _ _ hm).2.1, (hx _ _ hm).2.2⟩
  · exact ⟨by simp, by simp⟩
def relOf (es : Kn) (p : Pk) : Rel × Bool := relM (getM es p.1).1 p.2
theorem relM_mem {m : Mani} {v : Int} : (relM m v).1 ∈ m.2 ∨ (relM m v).1 = (0, []) := by
  unfold relM
  split
  · exact .inr rfl
  · split
    · rename_i h; exact .inl (memD m.2 (0, []) _ h.1)
    · exact .inr rfl
theorem rel_needs {es : Kn} (hg : OkG es) (p : Pk) : NsOk (relOf es p).1.2 ∧ (relOf es p).1.2.length ≤ 6 := by
  unfold relOf
  rcases relM_mem (m := (getM es p.1).1) (v := p.2) with h | h
  · exact (get_rise hg p.1).2 _ h
  · rw [h]; exact ⟨fun n hn => by simp at hn, by simp⟩
def metB (l : List Pk) (n : Need) : Bool := (getP l n.1).2 && hasS n.2 (getP l n.1).1

/-! ### in a heap with what is asked -/
theorem selF (es : Kn) (root : List Need) (l : List Pk) (q : List AObj) : Sel 3 [0, 1, 2] (HF es root l ++ q) (HF es root l) := by
  refine ⟨by decide, rfl, by decide, fun i hi => ?_, fun i hi => .inl ?_⟩
  · match i, hi with
    | 0, _ | 1, _ | 2, _ => rfl
  · match i, hi with
    | 0, _ => show some _ = some (AObj.ren _ (.mp (.typed EK es))); rw [mp_ren]
    | 1, _ | 2, _ => rfl
abbrev PF (es : Kn) (root : List Need) (l : List Pk) (r0 : AV) : AV → List AObj → Prop := fun r H' => ∃ s H2 r2, Sel 3 s H' H2 ∧ Le r (AV.ren (selR s H'.length) r2) ∧ (r2 = r0 ∧ H2 = HF es root l)
theorem pf {es : Kn} {root : List Need} {l : List Pk} {r r0 : AV} (q : List AObj) (h : ∀ ρ, Le r (AV.ren ρ r0)) : PF es root l r0 r (HF es root l ++ q) := ⟨_, _, _, selF es root l q, h _, rfl, rfl⟩
/-- .. and one more object -/
noncomputable abbrev HC (es : Kn) (root : List Need) (l : List Pk) (c : AObj) : List AObj := HF es root l ++ [c]
theorem selC (es : Kn) (root : List Need) (l : List Pk) (c : AObj) {q : List AObj} (hc : AObj.ren (selR [0, 1, 2, 3] (HF es root l ++ c :: q).length) c = c) : Sel 4 [0, 1, 2, 3] (HF es root l ++ c :: q) (HC es root l c) := by
  refine ⟨by decide, rfl, by decide, fun i hi => ?_, fun i hi => .inl ?_⟩
  · match i, hi with
    | 0, _ | 1, _ | 2, _ | 3, _ => rfl
  · match i, hi with
    | 0, _ => show some _ = some (AObj.ren _ (.mp (.typed EK es))); rw [mp_ren]
    | 1, _ | 2, _ => rfl
    | 3, _ => show some c = some (AObj.ren _ c); rw [hc]
abbrev PG (es : Kn) (root : List Need) (l : List Pk) (c : AObj) (r0 : AV) : AV → List AObj → Prop := fun r H' => ∃ s H2 r2, Sel 4 s H' H2 ∧ Le r (AV.ren (selR s H'.length) r2) ∧ (r2 = r0 ∧ H2 = HC es root l c)
noncomputable abbrev cA : AObj := .cells [.ptr 2 0]
noncomputable abbrev cQ (q : List Nm) : AObj := .cells [.sl 1 (.map encL [] q) .none]
theorem pgA {es : Kn} {root : List Need} {l : List Pk} {r r0 : AV} (q : List AObj) (h : ∀ ρ, Le r (AV.ren ρ r0)) : PG es root l cA r0 r (HF es root l ++ cA :: q) := ⟨_, _, _, selC es root l cA rfl, h _, rfl, rfl⟩
theorem pgQ {es : Kn} {root : List Need} {l : List Pk} {r r0 : AV} (w : List Nm) (q : List AObj) (h : ∀ ρ, Le r (AV.ren ρ r0)) : PG es root l (cQ w) r0 r (HF es root l ++ cQ w :: q) := ⟨_, _, _, selC es root l (cQ w) rfl, h _, rfl, rfl⟩
/-- what stands for the first three objects of a heap -/
theorem lift3 {f : FuncId} {es : Kn} {root : List Need} {l : List Pk} {args args' : List AV} {r0 r' : AV} (H : List AObj) (k : ASpec Tryz.prog f args (HF es root l) (fun r H' => r = r0 ∧ H' = HF es root l))
    (h0 : H[0]? = some (.mp (.typed EK es))) (h1 : H[1]? = some (.cells [.map 0])) (h2 : H[2]? = some (.cells (encAk root l)))
    (ha : args.map (AV.ren (callR [0, 1, 2] H.length)) = args') (hr : AV.ren (callR [0, 1, 2] H.length) r0 = r') : ASpec Tryz.prog f args' H (fun r H' => r = r' ∧ H' = H) :=
  same [0, 1, 2] H k (by decide) rfl ha hr (fun i hi => by
    match i, hi with
    | 0, _ => show H[0]? = some (AObj.ren _ (.mp (.typed EK es))); rw [mp_ren]; exact h0
    | 1, _ => exact h1
    | 2, _ => exact h2)
theorem leRl (x : Rel) (ρ : Nat → Nat) : Le (.agg (T.encR x)) (AV.ren ρ (.agg (T.encR x))) := Le.agg ⟨Le.refl _, leNone renN, trivial⟩
section
variable {es : Kn} (hx : OkX es) (hg : OkG es) {root : List Need} {l : List Pk} (hl : l.length ≤ 100000)
include hx hg hl
theorem release0 (p : Pk) : ASpec Tryz.prog 44 [.ptr 2 0, .agg (encPk p)] (HF es root l) (fun r H' => r = .tup [.agg (T.encR (relOf es p).1), .bool (relOf es p).2] ∧ H' = HF es root l) := by
  have hr := get_rise hg p.1
  have hn := get_okN hx p.1
  refine ASpec.sel (s44 es root l p (PF es root l (.tup [.agg (T.encR (relOf es p).1), .bool (relOf es p).2])) (ASpec.call (X.get_spec es p.1 hx _ 0 1 (by omega) rfl rfl) (Les.refl _) ⟨getM es p.1, rfl, rfl, ?_⟩))
  repeat refine ⟨⟨rfl, rfl⟩, ?_⟩
  refine ASpec.call (rel_spec (getM es p.1).1 p.2 hr.1 hn.1 hn.2 _) (Les.refl _) ⟨relOf es p, rfl, rfl, ?_⟩
  exact pf (es := es) (root := root) (l := l) [_, _, _] fun ρ => Le.tup ⟨leRl _ ρ, Le.refl _, trivial⟩
theorem met0 (n : Need) (hn : Sg.ok n.2) : ASpec Tryz.prog 65 [.ptr 2 0, .agg (encN n)] (HF es root l) (fun r H' => r = .bool (metB l n) ∧ H' = HF es root l) := by
  refine ASpec.sel (s65 es root l n (PF es root l (.bool (metB l n))) (ASpec.call (get_spec l n.1 hl _) (Les.refl _) ⟨getP l n.1, rfl, rfl, condB (fun h => ?_) fun h => ?_⟩))
  · refine ASpec.call (Sg.has_spec n.2 _ hn _) (Les.refl _) ⟨_, rfl, rfl, pf (es := es) (root := root) (l := l) [_] fun ρ => ?_⟩
    unfold metB; rw [h, Bool.true_and]; exact Le.refl _
  · refine pf (es := es) (root := root) (l := l) [_] fun ρ => ?_
    unfold metB; rw [h, Bool.false_and]; exact Le.refl _

/-! ### the rules, of one -/
theorem absent0 (p : Pk) : ASpec Tryz.prog 67 [.agg (encPk p), .ptr 3 0] (HC es root l cA) (fun r H' => r = .bool (!(relOf es p).2) ∧ H' = HC es root l cA) := by
  refine ASpec.sel (s67 es root l p (PG es root l cA (.bool (!(relOf es p).2))) (ASpec.call (lift3 _ (release0 hx hg hl (root := root) p) rfl rfl rfl rfl rfl) (Les.refl _) ⟨relOf es p, rfl, rfl, ?_⟩))
  exact pgA (es := es) (root := root) (l := l) [_, _] fun ρ => Le.refl _
theorem unmet0 (n : Need) (hn : Sg.ok n.2) : ASpec Tryz.prog 70 [.agg (encN n), .ptr 3 0] (HC es root l cA) (fun r H' => r = .bool (!metB l n) ∧ H' = HC es root l cA) := by
  refine ASpec.sel (s70 es root l n (PG es root l cA (.bool (!metB l n))) (ASpec.call (lift3 _ (met0 hx hg hl (root := root) n hn) rfl rfl rfl rfl rfl) (Les.refl _) ⟨metB l n, rfl, rfl, ?_⟩))
  exact pgA (es := es) (root := root) (l := l) [_] fun ρ => Le.refl _
def ixN (f : Need → Bool) : List Need → Nat → Int
  | [], _ => -1
  | n :: r, i => if f n = true then (i : Int) else ixN f r (i + 1)
omit hx hg hl in
theorem ixN_any (f : Need → Bool) : ∀ (r : List Need) (i : Nat), decide (ixN f r i ≥ 0) = r.any f
  | [], i => by simp [ixN]
  | n :: r, i => by
    simp only [ixN, List.any_cons]
    split
    · rename_i h; rw [h, decide_eq_true (by omega), Bool.true_or]
    · rename_i h; rw [show f n = false by simpa using h, Bool.false_or, ixN_any f r (i + 1)]
theorem any2 {ns : List Need} (hns : NsOk ns) (hnl : ns.length ≤ lim) {R : Int} : ∀ (m i : Nat), m + i = ns.length → ixN (fun n => !metB l n) (ns.drop i) i = R →
    AWP Tryz.prog 19 4 c99_2 [(0, slN ns), (1, .fn 70 [.ptr 3 0]), (7, .int .i64 ns.length), (8, .int .i64 i)] (HC es root l cA) (q99_2 4 (PG es root l cA (.int .i64 R))) := by
  unfold lim at hnl
  intro m
  induction m with
  | zero =>
    intro i hm h
    refine v99_2 _ _ _ _ _ _ _ _ (condD (fun hc => by omega) fun _ => ?_)
    rw [List.drop_eq_nil_of_le (by omega)] at h
    subst h
    exact pgA (es := es) (root := root) (l := l) [] fun ρ => Le.refl _
  | succ m ih =>
    intro i hm h
    rw [dropD ns ([], []) i (by omega)] at h
    have hn := hns _ (memD ns ([], []) i (by omega))
    refine v99_2 _ _ _ _ _ _ _ _ (condD (fun _ => needJ ⟨by omega, by omega⟩ ?_) fun hc => by omega)
    rw [Int.toNat_natCast, succ64 (by omega)]
    generalize ns.getD i ([], []) = n at h hn ⊢
    refine ASpec.call (unmet0 hx hg hl n hn.2) (Les.refl _) ⟨_, rfl, rfl, ?_⟩
    simp only [ixN] at h
    refine condB (fun hb => ?_) fun hb => ?_
    · rw [if_pos hb] at h
      subst h
      exact pgA (es := es) (root := root) (l := l) [] fun ρ => Le.refl _
    · rw [if_neg (by rw [hb]; simp)] at h
      exact ih (i + 1) (by omega) h
def lackB (es : Kn) (l : List Pk) (p : Pk) : Bool := (relOf es p).1.2.any fun n => !metB l n
theorem lacks0 {ns : List Need} (hns : NsOk ns) (hnl : ns.length ≤ lim) : ASpec Tryz.prog 69 [slN ns, .fn 70 [.ptr 3 0]] (HC es root l cA) (fun r H' => r = .bool (ns.any fun n => !metB l n) ∧ H' = HC es root l cA) := by
  have k1 : ASpec Tryz.prog 99 [slN ns, .fn 70 [.ptr 3 0]] (HC es root l cA) (fun r H' => r = .int .i64 (ixN (fun n => !metB l n) ns 0) ∧ H' = HC es root l cA) :=
    ASpec.sel (s99 es root l ns _ (any2 hx hg hl hns hnl ns.length 0 (by omega) rfl))
  refine ASpec.sel (s69 es root l ns (PG es root l cA _) (ASpec.call k1 (Les.refl _) ⟨_, rfl, rfl, ?_⟩))
  rw [ixN_any]
  exact pgA (es := es) (root := root) (l := l) [] fun ρ => Le.refl _
theorem lacking0 (p : Pk) : ASpec Tryz.prog 68 [.agg (encPk p), .ptr 3 0] (HC es root l cA) (fun r H' => r = .bool (lackB es l p) ∧ H' = HC es root l cA) := by
  have hr := rel_needs hg p
  refine ASpec.sel (s68 es root l p (PG es root l cA (.bool (lackB es l p))) (ASpec.call (lift3 _ (release0 hx hg hl (root := root) p) rfl rfl rfl rfl rfl) (Les.refl _) ⟨relOf es p, rfl, rfl, ?_⟩))
  refine ASpec.call (same [0, 1, 2, 3] _ (lacks0 hx hg hl (root := root) (l := l) hr.1 (by unfold lim; omega)) (by decide) rfl rfl rfl (fun i hi => ?_)) (Les.refl _) ⟨_, rfl, rfl, ?_⟩
  · match i, hi with
    | 0, _ => show some _ = some (AObj.ren _ (.mp (.typed EK es))); rw [mp_ren]
    | 1, _ | 2, _ | 3, _ => rfl
  · exact pgA (es := es) (root := root) (l := l) [_, _] fun ρ => Le.refl _
theorem idle0 (q : List Nm) (hq : q.length ≤ 1000000) (p : Pk) : ASpec Tryz.prog 71 [.agg (encPk p), .ptr 3 0] (HC es root l (cQ q)) (fun r H' => r = .bool (!decide (p.1 ∈ q)) ∧ H' = HC es root l (cQ q)) := by
  refine ASpec.sel (s71 es root l q p (PG es root l (cQ q) (.bool (!decide (p.1 ∈ q)))) (ASpec.call (Wn.in_spec q p.1 hq _) (Les.refl _) ⟨_, rfl, rfl, ?_⟩))
  exact pgQ (es := es) (root := root) (l := l) q [_] fun ρ => Le.refl _

/-! ### the first pick of which something is so -/
def ixK (f : Pk → Bool) : List Pk → Nat → Int
  | [], _ => -1
  | p :: r, i => if f p = true then (i : Int) else ixK f r (i + 1)
def firstK (f : Pk → Bool) (l : List Pk) : Nm × Bool := match l.find? f with
  | some p => (p.1, true)
  | none => ([], false)
omit hx hg hl in
theorem ixK_first (f : Pk → Bool) : ∀ (r : List Pk) (i : Nat), (ixK f r i < 0 ∧ r.find? f = none) ∨ ∃ j : Nat, ixK f r i = ((i + j : Nat) : Int) ∧ j < r.length ∧ r.find? f = some (r.getD j noPk)
  | [], i => .inl ⟨by simp [ixK], rfl⟩
  | p :: r, i => by
    simp only [ixK, List.find?_cons]
    split
    · rename_i h
      rw [h]
      exact .inr ⟨0, by simp, by simp, by simp⟩
    · rename_i h
      rw [show f p = false by simpa using h]
      rcases ixK_first f r (i + 1) with h1 | ⟨j, h1, h2, h3⟩
      · exact .inl h1
      · exact .inr ⟨j + 1, by rw [h1]; congr 1; omega, by simp; omega, by simpa using h3⟩

theorem ix2a (f : Pk → Bool) (hf : ∀ p ∈ l, ASpec Tryz.prog 67 [.agg (encPk p), .ptr 3 0] (HC es root l cA) (fun r H' => r = .bool (f p) ∧ H' = HC es root l cA)) {R : Int} : ∀ (m i : Nat), m + i = l.length → ixK f (l.drop i) i = R →
    AWP Tryz.prog 19 4 c98_2 [(0, slK l), (1, .fn 67 [.ptr 3 0]), (7, .int .i64 l.length), (8, .int .i64 i)] (HC es root l cA) (q98_2 4 (PG es root l cA (.int .i64 R))) := by
  intro m
  induction m with
  | zero =>
    intro i hm h
    refine v98_2a _ _ _ _ _ _ _ (condD (fun hc => by omega) fun _ => ?_)
    rw [List.drop_eq_nil_of_le (by omega)] at h
    subst h
    exact pgA (es := es) (root := root) (l := l) [] fun ρ => Le.refl _
  | succ m ih =>
    intro i hm h
    rw [dropD l noPk i (by omega)] at h
    have hp := hf _ (memD l noPk i (by omega))
    refine v98_2a _ _ _ _ _ _ _ (condD (fun _ => needJ ⟨by omega, by omega⟩ ?_) fun hc => by omega)
    rw [Int.toNat_natCast, succ64 (by omega)]
    generalize l.getD i noPk = p at h hp ⊢
    refine ASpec.call hp (Les.refl _) ⟨_, rfl, rfl, ?_⟩
    simp only [ixK] at h
    refine condB (fun hb => ?_) fun hb => ?_
    · rw [if_pos hb] at h
      subst h
      exact pgA (es := es) (root := root) (l := l) [] fun ρ => Le.refl _
    · rw [if_neg (by rw [hb]; simp)] at h
      exact ih (i + 1) (by omega) h
theorem firsta (f : Pk → Bool) (hf : ∀ p ∈ l, ASpec Tryz.prog 67 [.agg (encPk p), .ptr 3 0] (HC es root l cA) (fun r H' => r = .bool (f p) ∧ H' = HC es root l cA)) :
    ASpec Tryz.prog 66 [.ptr 2 0, .fn 67 [.ptr 3 0]] (HC es root l cA) (fun r H' => r = .tup [.str (B (firstK f l).1), .bool (firstK f l).2] ∧ H' = HC es root l cA) := by
  have k1 : ASpec Tryz.prog 98 [slK l, .fn 67 [.ptr 3 0]] (HC es root l cA) (fun r H' => r = .int .i64 (ixK f l 0) ∧ H' = HC es root l cA) :=
    ASpec.sel (s98a es root l _ (ix2a hx hg hl f hf l.length 0 (by omega) rfl))
  refine ASpec.sel (s66a es root l (PG es root l cA _) (ASpec.call k1 (Les.refl _) ⟨_, rfl, rfl, ?_⟩))
  unfold firstK
  rcases ixK_first f l 0 with ⟨h1, h2⟩ | ⟨j, h1, h2, h3⟩
  · rw [h2]
    refine condD (fun _ => ?_) fun h => absurd h1 h
    exact pgA (es := es) (root := root) (l := l) [] fun ρ => Le.refl _
  · rw [h3, h1, Nat.zero_add]
    refine condD (fun h => by omega) fun _ => needJ ⟨by omega, by omega⟩ ?_
    rw [Int.toNat_natCast]
    exact pgA (es := es) (root := root) (l := l) [] fun ρ => Le.refl _

theorem ix2l (f : Pk → Bool) (hf : ∀ p ∈ l, ASpec Tryz.prog 68 [.agg (encPk p), .ptr 3 0] (HC es root l cA) (fun r H' => r = .bool (f p) ∧ H' = HC es root l cA)) {R : Int} : ∀ (m i : Nat), m + i = l.length → ixK f (l.drop i) i = R →
    AWP Tryz.prog 19 4 c98_2 [(0, slK l), (1, .fn 68 [.ptr 3 0]), (7, .int .i64 l.length), (8, .int .i64 i)] (HC es root l cA) (q98_2 4 (PG es root l cA (.int .i64 R))) := by
  intro m
  induction m with
  | zero =>
    intro i hm h
    refine v98_2l _ _ _ _ _ _ _ (condD (fun hc => by omega) fun _ => ?_)
    rw [List.drop_eq_nil_of_le (by omega)] at h
    subst h
    exact pgA (es := es) (root := root) (l := l) [] fun ρ => Le.refl _
  | succ m ih =>
    intro i hm h
    rw [dropD l noPk i (by omega)] at h
    have hp := hf _ (memD l noPk i (by omega))
    refine v98_2l _ _ _ _ _ _ _ (condD (fun _ => needJ ⟨by omega, by omega⟩ ?_) fun hc => by omega)
    rw [Int.toNat_natCast, succ64 (by omega)]
    generalize l.getD i noPk = p at h hp ⊢
    refine ASpec.call hp (Les.refl _) ⟨_, rfl, rfl, ?_⟩
    simp only [ixK] at h
    refine condB (fun hb => ?_) fun hb => ?_
    · rw [if_pos hb] at h
      subst h
      exact pgA (es := es) (root := root) (l := l) [] fun ρ => Le.refl _
    · rw [if_neg (by rw [hb]; simp)] at h
      exact ih (i + 1) (by omega) h
theorem firstl (f : Pk → Bool) (hf : ∀ p ∈ l, ASpec Tryz.prog 68 [.agg (encPk p), .ptr 3 0] (HC es root l cA) (fun r H' => r = .bool (f p) ∧ H' = HC es root l cA)) :
    ASpec Tryz.prog 66 [.ptr 2 0, .fn 68 [.ptr 3 0]] (HC es root l cA) (fun r H' => r = .tup [.str (B (firstK f l).1), .bool (firstK f l).2] ∧ H' = HC es root l cA) := by
  have k1 : ASpec Tryz.prog 98 [slK l, .fn 68 [.ptr 3 0]] (HC es root l cA) (fun r H' => r = .int .i64 (ixK f l 0) ∧ H' = HC es root l cA) :=
    ASpec.sel (s98l es root l _ (ix2l hx hg hl f hf l.length 0 (by omega) rfl))
  refine ASpec.sel (s66l es root l (PG es root l cA _) (ASpec.call k1 (Les.refl _) ⟨_, rfl, rfl, ?_⟩))
  unfold firstK
  rcases ixK_first f l 0 with ⟨h1, h2⟩ | ⟨j, h1, h2, h3⟩
  · rw [h2]
    refine condD (fun _ => ?_) fun h => absurd h1 h
    exact pgA (es := es) (root := root) (l := l) [] fun ρ => Le.refl _
  · rw [h3, h1, Nat.zero_add]
    refine condD (fun h => by omega) fun _ => needJ ⟨by omega, by omega⟩ ?_
    rw [Int.toNat_natCast]
    exact pgA (es := es) (root := root) (l := l) [] fun ρ => Le.refl _

theorem ix2i (q : List Nm) (f : Pk → Bool) (hf : ∀ p ∈ l, ASpec Tryz.prog 71 [.agg (encPk p), .ptr 3 0] (HC es root l (cQ q)) (fun r H' => r = .bool (f p) ∧ H' = HC es root l (cQ q))) {R : Int} : ∀ (m i : Nat), m + i = l.length → ixK f (l.drop i) i = R →
    AWP Tryz.prog 19 4 c98_2 [(0, slK l), (1, .fn 71 [.ptr 3 0]), (7, .int .i64 l.length), (8, .int .i64 i)] (HC es root l (cQ q)) (q98_2 4 (PG es root l (cQ q) (.int .i64 R))) := by
  intro m
  induction m with
  | zero =>
    intro i hm h
    refine v98_2i _ _ _ _ _ _ _ _ (condD (fun hc => by omega) fun _ => ?_)
    rw [List.drop_eq_nil_of_le (by omega)] at h
    subst h
    exact pgQ (es := es) (root := root) (l := l) q [] fun ρ => Le.refl _
  | succ m ih =>
    intro i hm h
    rw [dropD l noPk i (by omega)] at h
    have hp := hf _ (memD l noPk i (by omega))
    refine v98_2i _ _ _ _ _ _ _ _ (condD (fun _ => needJ ⟨by omega, by omega⟩ ?_) fun hc => by omega)
    rw [Int.toNat_natCast, succ64 (by omega)]
    generalize l.getD i noPk = p at h hp ⊢
    refine ASpec.call hp (Les.refl _) ⟨_, rfl, rfl, ?_⟩
    simp only [ixK] at h
    refine condB (fun hb => ?_) fun hb => ?_
    · rw [if_pos hb] at h
      subst h
      exact pgQ (es := es) (root := root) (l := l) q [] fun ρ => Le.refl _
    · rw [if_neg (by rw [hb]; simp)] at h
      exact ih (i + 1) (by omega) h
theorem firsti (q : List Nm) (f : Pk → Bool) (hf : ∀ p ∈ l, ASpec Tryz.prog 71 [.agg (encPk p), .ptr 3 0] (HC es root l (cQ q)) (fun r H' => r = .bool (f p) ∧ H' = HC es root l (cQ q))) :
    ASpec Tryz.prog 66 [.ptr 2 0, .fn 71 [.ptr 3 0]] (HC es root l (cQ q)) (fun r H' => r = .tup [.str (B (firstK f l).1), .bool (firstK f l).2] ∧ H' = HC es root l (cQ q)) := by
  have k1 : ASpec Tryz.prog 98 [slK l, .fn 71 [.ptr 3 0]] (HC es root l (cQ q)) (fun r H' => r = .int .i64 (ixK f l 0) ∧ H' = HC es root l (cQ q)) :=
    ASpec.sel (s98i es root l q _ (ix2i hx hg hl q f hf l.length 0 (by omega) rfl))
  refine ASpec.sel (s66i es root l q (PG es root l (cQ q) _) (ASpec.call k1 (Les.refl _) ⟨_, rfl, rfl, ?_⟩))
  unfold firstK
  rcases ixK_first f l 0 with ⟨h1, h2⟩ | ⟨j, h1, h2, h3⟩
  · rw [h2]
    refine condD (fun _ => ?_) fun h => absurd h1 h
    exact pgQ (es := es) (root := root) (l := l) q [] fun ρ => Le.refl _
  · rw [h3, h1, Nat.zero_add]
    refine condD (fun h => by omega) fun _ => needJ ⟨by omega, by omega⟩ ?_
    rw [Int.toNat_natCast]
    exact pgQ (es := es) (root := root) (l := l) q [] fun ρ => Le.refl _

/-! ### the rules -/
def unmetF (l : List Pk) : List Need → Nm × Bool
  | [] => ([], false)
  | n :: r => if metB l n = false then (n.1, true) else unmetF l r
theorem unmet2 (hns : NsOk root) (hnl : root.length ≤ lim) {R : Nm × Bool} : ∀ (m i : Nat), m + i = root.length → unmetF l (root.drop i) = R →
    AWP Tryz.prog 22 3 c35_2 [(0, .ptr 2 0), (9, slN root), (10, .int .i64 root.length), (11, .int .i64 i)] (HF es root l) (q35_2 3 (PF es root l (.tup [.str (B R.1), .bool R.2]))) := by
  unfold lim at hnl
  intro m
  induction m with
  | zero =>
    intro i hm h
    refine v35_2 _ _ _ _ _ _ _ (condD (fun hc => by omega) fun _ => ?_)
    rw [List.drop_eq_nil_of_le (by omega)] at h
    subst h
    exact pf (es := es) (root := root) (l := l) [] fun ρ => Le.refl _
  | succ m ih =>
    intro i hm h
    rw [dropD root ([], []) i (by omega)] at h
    have hn := hns _ (memD root ([], []) i (by omega))
    refine v35_2 _ _ _ _ _ _ _ (condD (fun _ => needJ ⟨by omega, by omega⟩ ?_) fun hc => by omega)
    rw [Int.toNat_natCast, succ64 (by omega)]
    generalize root.getD i ([], []) = n at h hn ⊢
    refine ASpec.call (lift3 _ (met0 hx hg hl (root := root) n hn.2) rfl rfl rfl rfl rfl) (Les.refl _) ⟨_, rfl, rfl, ?_⟩
    simp only [unmetF] at h
    refine condBn (fun hb => ?_) fun hb => ?_
    · rw [if_pos hb] at h
      subst h
      exact pf (es := es) (root := root) (l := l) [_] fun ρ => Le.refl _
    · rw [if_neg (by rw [hb]; simp)] at h
      exact AWP.shape [0, 1, 2] _ (HF es root l) (selF es root l [_]) (Rc.slotsR rfl) (ih (i + 1) (by omega) h)
theorem rule2 (hns : NsOk root) (hnl : root.length ≤ lim) : ASpec Tryz.prog 35 [.ptr 2 0] (HF es root l) (fun r H' => r = .tup [.str (B (unmetF l root).1), .bool (unmetF l root).2] ∧ H' = HF es root l) :=
  ASpec.sel (s35 es root l _ (unmet2 hx hg hl hns hnl root.length 0 (by omega) rfl))
theorem rule1 (hp : ∀ p ∈ l, p.1.length ≤ 1000) : ASpec Tryz.prog 34 [.ptr 2 0] (HF es root l) (fun r H' => r = .tup [.str (B []), .bool (!chkF none l)] ∧ H' = HF es root l) := by
  refine ASpec.sel (s34 es root l (PF es root l _) (ASpec.call (chk_spec (s := l) hl hp _) (Les.refl _) ⟨_, rfl, rfl, ?_⟩))
  exact pf (es := es) (root := root) (l := l) [] fun ρ => Le.refl _
theorem rule3 : ASpec Tryz.prog 36 [.ptr 2 0] (HF es root l) (fun r H' => r = .tup [.str (B (firstK (fun p => !(relOf es p).2) l).1), .bool (firstK (fun p => !(relOf es p).2) l).2] ∧ H' = HF es root l) := by
  refine ASpec.sel (s36 es root l (PF es root l _) (ASpec.call (firsta hx hg hl _ (fun p _ => absent0 hx hg hl p)) (Les.refl _) ⟨(B (firstK (fun p => !(relOf es p).2) l).1, _), rfl, rfl, ?_⟩))
  exact pf (es := es) (root := root) (l := l) [_] fun ρ => Le.refl _
theorem rule4 : ASpec Tryz.prog 37 [.ptr 2 0] (HF es root l) (fun r H' => r = .tup [.str (B (firstK (lackB es l) l).1), .bool (firstK (lackB es l) l).2] ∧ H' = HF es root l) := by
  refine ASpec.sel (s37 es root l (PF es root l _) (ASpec.call (firstl hx hg hl _ (fun p _ => lacking0 hx hg hl p)) (Les.refl _) ⟨(B (firstK (lackB es l) l).1, _), rfl, rfl, ?_⟩))
  exact pf (es := es) (root := root) (l := l) [_] fun ρ => Le.refl _
end
end Ft
end

section
/- fit.Needed: the names that are needed, by the program's visits. -/

set_option linter.unusedVariables false
set_option linter.unusedSimpArgs false
set_option linter.unusedSectionVars false
set_option maxRecDepth 100000
open Go Go.Ab Go.Proofs V S T C
namespace Ft
open W (sl1 slS slN slR leNone renN renS)
open X (hasI getM putI OkX mp_ren optI)
open Pc (slK slKLe)
open Dk (chkF chk_spec getP get_spec)
open E (PA pa)
open Rc (RS slL slLle nilLle ren_mp find_seen put_seen slotsR selN sort_strict sort_one sub_len)
open So (sortL)
/-! ### one object of a part of the heap is written -/
theorem grafted_out {ρ : Nat → Nat} : ∀ (l : List Nat) (Hl H : List AObj) (i : Nat) (a : AObj), i ∉ l → grafted ρ l Hl (H.set i a) = (grafted ρ l Hl H).set i a
  | [], Hl, H, i, a, _ => by cases Hl <;> rfl
  | k :: l, [], H, i, a, _ => rfl
  | k :: l, o :: Hl, H, i, a, h => by
    simp only [List.mem_cons, not_or] at h
    simp only [grafted]
    rw [List.set_comm _ _ (fun e => h.1 e), grafted_out l Hl _ i a h.2]
theorem grafted_set {ρ : Nat → Nat} : ∀ (l : List Nat) (Hl H : List AObj) (j : Nat) (o' : AObj), l.Nodup → l.length = Hl.length → j < l.length → grafted ρ l (Hl.set j o') H = (grafted ρ l Hl H).set (l.getD j 0) (AObj.ren ρ o')
  | [], _, H, j, o', _, _, h => by simp at h
  | k :: l, [], H, j, o', _, hl, _ => by simp at hl
  | k :: l, o :: Hl, H, 0, o', hn, hl, _ => by
    rw [List.nodup_cons] at hn
    simp only [List.set_cons_zero, grafted, List.getD_cons_zero]
    rw [grafted_out l Hl H k _ hn.1, grafted_out l Hl H k _ hn.1, List.set_set]
  | k :: l, o :: Hl, H, j + 1, o', hn, hl, h => by
    rw [List.nodup_cons] at hn
    simp only [List.set_cons_succ, grafted, List.getD_cons_succ]
    exact grafted_set l Hl _ j o' hn.2 (by simpa using hl) (by simpa using h)
theorem sameSet {f : FuncId} {args args' : List AV} {r0 r' : AV} {Hl : List AObj} (l : List Nat) (H : List AObj) (j : Nat) (o' : AObj) (k : ASpec Tryz.prog f args Hl (fun r H' => r = r0 ∧ H' = Hl.set j o'))
    (hnd : l.Nodup) (hlen : l.length = Hl.length) (hj : j < l.length) (ha : args.map (AV.ren (callR l H.length)) = args') (hr : AV.ren (callR l H.length) r0 = r')
    (hobj : ∀ i (h : i < Hl.length), H[l.getD i 0]? = some (AObj.ren (callR l H.length) Hl[i])) :
    ASpec Tryz.prog f args' H (fun r H' => r = r' ∧ H' = H.set (l.getD j 0) (AObj.ren (callR l H.length) o')) :=
  ASpec.subH l H _ k args' r' hnd hlen ha hr hobj (by
    unfold graftH
    rw [List.drop_eq_nil_of_le (by rw [List.length_set]; omega), List.map_nil, List.append_nil, grafted_set l Hl H j o' hnd hlen hj, grafted_same l Hl H hlen hobj])

/-! ### visits -/
abbrev CAPS : List AV := [.ptr 6 0, .ptr 2 0, .ptr 4 0, .ptr 7 0]
def gF (es : Kn) (l : List Pk) (x : List UInt8) : List (List UInt8) := if (getP l x).2 = true then (relOf es (x, (getP l x).1)).1.2.map (·.1) else []
noncomputable abbrev seenO (o : List (List UInt8)) : AObj := .mp (.typed EB (seenM o))
theorem ren8 (es : Kn) (root : List Need) (l : List Pk) (o : List (List UInt8)) (ρ : Nat → Nat) (h : ∀ i, i < 8 → ρ i = i) : ∀ j (hj : j < 8), AObj.ren ρ ((HV es root l o)[j]'hj) = (HV es root l o)[j]'hj := by
  intro j hj
  match j, hj with
  | 0, _ => exact mp_ren ρ es
  | 1, _ => show AObj.cells [.map (ρ 0)] = _; rw [h 0 (by omega)]; rfl
  | 2, _ => rfl
  | 3, _ => show AObj.cells [.ptr (ρ 1) 0, _, _] = _; rw [h 1 (by omega)]; rfl
  | 4, _ => show AObj.cells [.ptr (ρ 3) 0] = _; rw [h 3 (by omega)]; rfl
  | 5, _ => exact ren_mp
  | 6, _ => show AObj.cells [.map (ρ 5)] = _; rw [h 5 (by omega)]; rfl
  | 7, _ =>
    show AObj.cells [.fn 42 [.ptr (ρ 6) 0, .ptr (ρ 2) 0, .ptr (ρ 4) 0, .ptr (ρ 7) 0]] = _
    rw [h 6 (by omega), h 2 (by omega), h 4 (by omega), h 7 (by omega)]; rfl
abbrev l8 : List Nat := [0, 1, 2, 3, 4, 5, 6, 7]
theorem l8_get (i : Nat) (h : i < 8) : l8[i]? = some i := by
  match i, h with
  | 0, _ | 1, _ | 2, _ | 3, _ | 4, _ | 5, _ | 6, _ | 7, _ => rfl
theorem l8_call (n i : Nat) (h : i < 8) : callR l8 n i = i := by
  match i, h with
  | 0, _ | 1, _ | 2, _ | 3, _ | 4, _ | 5, _ | 6, _ | 7, _ => rfl
theorem l8_sel (n i : Nat) (h : i < 8) : selR l8 n i = i := by
  match i, h with
  | 0, _ | 1, _ | 2, _ | 3, _ | 4, _ | 5, _ | 6, _ | 7, _ => rfl
theorem selV (es : Kn) (root : List Need) (l : List Pk) (o : List (List UInt8)) (q : List AObj) : Sel 8 l8 (HV es root l o ++ q) (HV es root l o) := by
  refine ⟨by decide, rfl, by decide, fun i hi => l8_get i hi, fun i hi => .inl ?_⟩
  have hi : i < 8 := hi
  refine Eq.trans ?_ (congrArg some (ren8 es root l o _ (fun j hj => l8_sel _ j hj) i hi).symm)
  match i, hi with
  | 0, _ | 1, _ | 2, _ | 3, _ | 4, _ | 5, _ | 6, _ | 7, _ => rfl
abbrev PV (es : Kn) (root : List Need) (l : List Pk) (R : List (List UInt8)) : AV → List AObj → Prop := fun r H' => ∃ s H2 r2, Sel 8 s H' H2 ∧ Le r (AV.ren (selR s H'.length) r2) ∧ (r2 = .tup [] ∧ H2 = (HV es root l []).set 5 (seenO R))
theorem pv {es : Kn} {root : List Need} {l : List Pk} {R : List (List UInt8)} (q : List AObj) : PV es root l R (.tup []) (HV es root l R ++ q) := ⟨_, _, _, selV es root l R q, Le.refl _, rfl, rfl⟩

section
variable {es : Kn} (hx : OkX es) (hg : OkG es) {root : List Need} {l : List Pk} (hl : l.length ≤ 100000) {U : List (List UInt8)} (hU1 : ∀ x ∈ root.map (·.1), x ∈ U) (hU2 : ∀ x, ∀ y ∈ gF es l x, y ∈ U) (hUl : U.length ≤ 1000000)
include hx hg hl hU1 hU2 hUl
theorem visit1 {f : Nat} (ih : ∀ (ns : List Need) (o : List (List UInt8)), ns.length ≤ 100000 → o.Nodup → (∀ x ∈ o, RS (gF es l) (root.map (·.1)) x) → (∀ n ∈ ns, RS (gF es l) (root.map (·.1)) n.1) → U.length < o.length + f →
      ASpec Tryz.prog 42 (slN ns :: CAPS) (HV es root l o) (fun r H' => r = .tup [] ∧ H' = (HV es root l o).set 5 (seenO (visitF (gF es l) f (ns.map (·.1)) o))))
    {ns : List Need} (hnl : ns.length ≤ 100000) (hns : ∀ n ∈ ns, RS (gF es l) (root.map (·.1)) n.1) {R : List (List UInt8)} : ∀ (m i : Nat) (o : List (List UInt8)), m + i = ns.length → o.Nodup → (∀ x ∈ o, RS (gF es l) (root.map (·.1)) x) → U.length < o.length + (f + 1) →
      visL (gF es l) (visitF (gF es l) f) ((ns.drop i).map (·.1)) o = R →
    AWP Tryz.prog 47 8 c42_1 [(1, .ptr 6 0), (2, .ptr 2 0), (3, .ptr 4 0), (4, .ptr 7 0), (12, slN ns), (13, .int .i64 ns.length), (14, .int .i64 i)] (HV es root l o) (q42_1 8 (PV es root l R)) := by
  intro m
  induction m with
  | zero =>
    intro i o hm hn ho hf h
    refine v42_1 _ _ _ _ _ _ _ _ _ (condD (fun hc => by omega) fun _ => ?_)
    rw [List.drop_eq_nil_of_le (by omega)] at h
    simp only [List.map_nil, visL] at h
    subst h
    exact pv []
  | succ m im =>
    intro i o hm hn ho hf h
    have hol := Rc.rs_len (gF es l) hU1 hU2 hn ho
    rw [dropD ns ([], []) i (by omega), List.map_cons] at h
    have hrs := hns _ (memD ns ([], []) i (by omega))
    refine v42_1 _ _ _ _ _ _ _ _ _ (condD (fun _ => needJ ⟨by omega, by omega⟩ ?_) fun hc => by omega)
    rw [Int.toNat_natCast]
    generalize ns.getD i ([], []) = n at h hrs ⊢
    rw [find_seen]
    simp only [visL] at h
    by_cases hmem : n.1 ∈ o
    · rw [if_pos hmem] at h ⊢
      rw [succ64 (by omega)]
      exact AWP.shape l8 _ (HV es root l o) (selV es root l o [_]) (slotsR rfl) (im (i + 1) o (by omega) hn ho hf h)
    · rw [if_neg hmem] at h ⊢
      refine AWP.re (ReSt.map (id := 5) rfl (put_seen hmem)) ?_
      have hn' : (o ++ [n.1]).Nodup := by
        have := Rc.note_nd (s := n.1) hn
        rwa [Rc.noteM, if_neg hmem] at this
      have ho' : ∀ x ∈ o ++ [n.1], RS (gF es l) (root.map (·.1)) x := fun x hx => by
        rcases List.mem_append.1 hx with hx | hx
        · exact ho x hx
        · simp at hx; subst hx; exact hrs
      have hol' := Rc.rs_len (gF es l) hU1 hU2 hn' ho'
      have hf' : U.length < (o ++ [n.1]).length + f := by simp; omega
      refine v42_5 es root l (o ++ [n.1]) ns n _ _ _ _ (ASpec.call (get_spec l n.1 hl _) (Les.refl _) ⟨getP l n.1, rfl, rfl, condB (fun hp => ?_) fun hp => ?_⟩)
      · have hrel := rel_needs hg (n.1, (getP l n.1).1)
        have hgx : gF es l n.1 = (relOf es (n.1, (getP l n.1).1)).1.2.map (·.1) := by unfold gF; rw [if_pos hp]
        rw [hgx] at h
        refine ASpec.call (same [0, 1, 3] _ (release0 hx hg hl (root := root) (n.1, (getP l n.1).1)) (by decide) rfl rfl rfl (fun j hj => ?_)) (Les.refl _) ⟨relOf es (n.1, (getP l n.1).1), rfl, rfl, ?_⟩
        · match j, hj with
          | 0, _ => show some _ = some (AObj.ren _ (.mp (.typed EK es))); rw [mp_ren]
          | 1, _ | 2, _ => rfl
        generalize hrr : relOf es (n.1, (getP l n.1).1) = rr at h hrel hgx ⊢
        have hns2 : ∀ y ∈ rr.1.2, RS (gF es l) (root.map (·.1)) y.1 := fun y hy => .step hrs (by rw [hgx]; exact List.mem_map_of_mem hy)
        have hdid := visit_did (gF es l) hU1 hU2 f (rr.1.2.map (·.1)) (o ++ [n.1]) hn' ho' (fun x hx => by
          obtain ⟨y, hy, rfl⟩ := List.mem_map.1 hx
          exact hns2 y hy) hf'
        have hk := ih rr.1.2 (o ++ [n.1]) (by omega) hn' ho' hns2 hf'
        generalize visitF (gF es l) f (rr.1.2.map (·.1)) (o ++ [n.1]) = o2 at h hdid hk
        have ho2 : ∀ x ∈ o2, RS (gF es l) (root.map (·.1)) x := fun x hx => by
          rcases hdid.mem x hx with hx | hx
          · exact ho' x hx
          · exact rs_mono (gF es l) (fun z hz => by
              obtain ⟨y, hy, rfl⟩ := List.mem_map.1 hz
              exact hns2 y hy) hx
        have hlen2 : (o ++ [n.1]).length ≤ o2.length := sub_len hn' hdid.sub
        refine ASpec.call (sameSet l8 _ 5 _ hk (by decide) rfl (by decide) rfl rfl (fun j hj => ?_)) (Les.refl _) ⟨o2, rfl, ?_, ?_⟩
        · have hj : j < 8 := hj
          refine Eq.trans ?_ (congrArg some (ren8 es root l (o ++ [n.1]) _ (fun k hk => l8_call _ k hk) j hj).symm)
          match j, hj with
          | 0, _ | 1, _ | 2, _ | 3, _ | 4, _ | 5, _ | 6, _ | 7, _ => rfl
        · rw [ren_mp]; rfl
        · rw [succ64 (by omega)]
          exact AWP.shape l8 _ (HV es root l o2) (selV es root l o2 [_, _]) (slotsR rfl) (im (i + 1) o2 (by omega) hdid.nd ho2 (by simp at hlen2; omega) h)
      · have hgx : gF es l n.1 = [] := by unfold gF; rw [if_neg (by rw [hp]; simp)]
        rw [hgx] at h
        have hv : visitF (gF es l) f [] (o ++ [n.1]) = o ++ [n.1] := by cases f <;> rfl
        rw [hv] at h
        rw [succ64 (by omega)]
        exact AWP.shape l8 _ (HV es root l (o ++ [n.1])) (selV es root l (o ++ [n.1]) [_]) (slotsR rfl) (im (i + 1) (o ++ [n.1]) (by omega) hn' ho' (by simp; omega) h)
theorem visit0 : ∀ (f : Nat) (ns : List Need) (o : List (List UInt8)), ns.length ≤ 100000 → o.Nodup → (∀ x ∈ o, RS (gF es l) (root.map (·.1)) x) → (∀ n ∈ ns, RS (gF es l) (root.map (·.1)) n.1) → U.length < o.length + f →
      ASpec Tryz.prog 42 (slN ns :: CAPS) (HV es root l o) (fun r H' => r = .tup [] ∧ H' = (HV es root l o).set 5 (seenO (visitF (gF es l) f (ns.map (·.1)) o)))
  | 0, ns, o, _, hn, ho, _, hf => by
    have := Rc.rs_len (gF es l) hU1 hU2 hn ho
    omega
  | f + 1, ns, o, hnl, hn, ho, hns, hf =>
    ASpec.sel (s42 es root l o ns _ (visit1 hx hg hl hU1 hU2 hUl (visit0 f) hnl hns ns.length 0 o (by omega) hn ho hf rfl))
end
end Ft
end

section
/- fit.Needed, fit.Wrong, fit.Solution, by the program. -/

set_option linter.unusedVariables false
set_option linter.unusedSimpArgs false
set_option linter.unusedSectionVars false
set_option maxRecDepth 100000
open Go Go.Ab Go.Proofs V S T C
namespace Ft
open W (sl1 slS slN slR leNone renN renS)
open X (hasI getM putI OkX mp_ren optI)
open Pc (slK slKLe)
open Dk (chkF chk_spec getP get_spec)
open E (PA pa)
open Rc (RS slL slLle nilLle ren_mp find_seen put_seen slotsR selN sort_strict sort_one sub_len arL)
open So (sortL)
open Pl (Up)
/-! ### a range over what was seen -/
abbrev Z2 := List Nat × Nat
abbrev NM := List UInt8
theorem mpv_ren (ρ : Nat → Nat) (o : List NM) (z : Z2) : AObj.ren ρ (.mpv (.typed EB (seenM o)) z) = .mpv (.typed EB (seenM o)) z := by
  show AObj.mpv (.typed (Enc.ren ρ EB) (seenM o)) z = _
  congr 2
theorem seen_get {o : List NM} {i : Nat} {k : ByteArray} {v : Bool} (h : (seenM o)[i]? = some (k, v)) : i < o.length ∧ k = ⟨(o.getD i []).toArray⟩ := by
  unfold seenM at h
  rw [List.getElem?_map] at h
  cases hi : o[i]? with
  | none => rw [hi] at h; cases h
  | some x =>
    rw [hi] at h
    simp only [Option.map_some, Option.some.injEq, Prod.mk.injEq] at h
    refine ⟨(List.getElem?_eq_some_iff.1 hi).1, ?_⟩
    rw [List.getD_eq_getElem?_getD, hi]
    exact h.1.symm
theorem seen_len (o : List NM) : (MM.typed EB (seenM o)).len = o.length := by simp [MM.len, seenM]
structure Vis (o : List NM) (ps : List Nat) (w : List NM) : Prop where
  nd : ps.Nodup
  lt : ∀ i ∈ ps, i < o.length
  row : w = ps.reverse.map (fun i => o.getD i [])
theorem all_range (o : List NM) : (List.range o.length).map (fun i => o.getD i []) = o := by
  apply List.ext_getElem
  · simp
  · intro i h1 h2
    simp [List.getD_eq_getElem?_getD, List.getElem?_eq_getElem h2]
theorem vis_end {o : List NM} {ps : List Nat} {w : List NM} (h : Vis o ps w) (ha : ∀ i, i < o.length → i ∈ ps) : w.Perm o := by
  rw [h.row]
  have hp : ((ps.reverse).map (fun i => o.getD i [])).Perm ((List.range o.length).map (fun i => o.getD i [])) := by
    refine List.Perm.map _ ((List.reverse_perm _).trans ?_)
    refine (List.perm_ext_iff_of_nodup h.nd List.nodup_range).2 fun i => ?_
    rw [List.mem_range]
    exact ⟨h.lt i, ha i⟩
  rwa [all_range] at hp
theorem vis_next {o : List NM} {ps : List Nat} {w : List NM} {i : Nat} (h : Vis o ps w) (hi : i < o.length) (hn : i ∉ ps) : Vis o (i :: ps) (w ++ [o.getD i []]) := by
  refine ⟨List.nodup_cons.2 ⟨hn, h.nd⟩, fun j hj => ?_, ?_⟩
  · rcases List.mem_cons.1 hj with rfl | hj
    · exact hi
    · exact h.lt j hj
  · rw [h.row, List.reverse_cons, List.map_append]; rfl
theorem nd_len : ∀ (n : Nat) (ps : List Nat), ps.Nodup → (∀ i ∈ ps, i < n) → ps.length ≤ n
  | 0, [], _, _ => Nat.le_refl _
  | 0, x :: r, _, h => absurd (h x (by simp)) (Nat.not_lt_zero _)
  | n + 1, ps, hn, h => by
    have h1 := nd_len n (ps.erase n) (hn.erase n) fun i hi => by
      have h2 := h i (List.mem_of_mem_erase hi)
      have h3 : i ≠ n := fun e => by subst e; exact hn.not_mem_erase hi
      omega
    have h2 := List.length_erase (a := n) (l := ps)
    split at h2 <;> omega
theorem vis_len {o : List NM} {ps : List Nat} {w : List NM} (h : Vis o ps w) : ps.length ≤ o.length := nd_len _ _ h.nd h.lt
theorem vis_row {o : List NM} {ps : List Nat} {w : List NM} (h : Vis o ps w) : w.length = ps.length := by rw [h.row]; simp

noncomputable abbrev HM (es : Kn) (o : List NM) (z : Z2) (ps : List Nat) (w : List NM) : List AObj := HX es ++ [.mpv (.typed EB (seenM o)) z, .cells [.map 2], .mit 2 z ps, .arr 1 (.map encL [] w)]
noncomputable abbrev HN (es : Kn) (o : List NM) (z : Z2) (ps : List Nat) : List AObj := HX es ++ [.mpv (.typed EB (seenM o)) z, .cells [.map 2], .mit 2 z ps]
abbrev NILV : AV := .sl 0 (.raw []) .nil
/-- what is handed back, ahead of its freezing -/
abbrev P33 (es : Kn) (R : List NM) : AV → List AObj → Prop := fun r H' => ∃ s H2 r2, Sel 2 s H' H2 ∧ Le r (AV.ren (selR s H'.length) r2) ∧
  ((r2 = NILV ∧ H2 = HX es ∧ R = []) ∨ (r2 = .msl 1 2 0 R.length ∧ H2 = HX es ++ [arL R]))
theorem end11m {es : Kn} {w : List NM} (hw : w.length ≤ 1000000) : AWP Tryz.prog 35 2 c17_11 [(10, .msl 1 2 0 w.length)] (HX es ++ [arL w]) (q17_0 2 (P33 es (sortL w))) := by
  refine v17_11m _ _ _ _ ((So.sort_spec (l := w) (id := 2) rfl rfl (by omega)).mono fun r H' hh => .inr ⟨sortL w, hh.1, hh.2, ?_⟩)
  refine ⟨[0, 1, 2], HX es ++ [arL (sortL w)], .msl 1 2 0 w.length, selN (by decide) (by decide) (fun i h => by match i, h with | 0, _ | 1, _ => rfl) ⟨by rw [mp_ren]; rfl, rfl, rfl, trivial⟩, Le.refl _, .inr ⟨?_, rfl⟩⟩
  rw [Pl.sort_len]
theorem end11n {es : Kn} : AWP Tryz.prog 35 2 c17_11 [(10, NILV)] (HX es) (q17_0 2 (P33 es [])) :=
  v17_11n _ _ _ (So.sort_nil.mono fun r H' hh => .inl ⟨(), hh.1, hh.2, [0, 1], HX es, NILV, Rc.sel2 [], Le.refl _, .inl ⟨rfl, rfl, rfl⟩⟩)
theorem sort_perm {a b : List NM} (h : a.Perm b) (hn : b.Nodup) : sortL a = sortL b :=
  sort_one (h.nodup_iff.2 hn) (sort_strict hn) fun x => by rw [Pl.sort_mem]; exact h.mem_iff
theorem shapeM {es : Kn} {o : List NM} {z : Z2} {ps : List Nat} {w : List NM} {x : NM} {R : List NM} (k : AWP Tryz.prog 35 2 c17_8 [(10, .msl 1 5 0 (w ++ [x]).length), (23, .ptr 4 0)] (HM es o z ps (w ++ [x])) (q17_2 2 (P33 es R))) :
    AWP Tryz.prog 35 2 c17_8 [(10, .msl 1 6 0 (w.length + 1)), (23, .ptr 4 0)] (HX es ++ [.mpv (.typed EB (seenM o)) z, .cells [.map 2], .mit 2 z ps, .gone, .arr 1 (.app (.map encL [] w) (.raw [[.str ⟨x.toArray⟩]]))]) (q17_2 2 (P33 es R)) := by
  refine AWP.re (ReSt.arr (id := 6) (q' := .map encL [] (w ++ [x])) rfl (by simp [Ab.Seq.toList]; rfl)) ?_
  refine AWP.shape [0, 1, 2, 3, 4, 6] _ (HM es o z ps (w ++ [x])) (selN (by decide) (by decide) (fun i h => by match i, h with | 0, _ | 1, _ => rfl) ⟨by rw [mp_ren]; rfl, rfl, by rw [mpv_ren]; rfl, rfl, rfl, rfl, trivial⟩) ?_ k
  rw [List.length_append]
  exact ⟨rfl, Le.refl _, rfl, Le.refl _, trivial⟩
theorem loopM {es : Kn} {o : List NM} (hol : o.length ≤ 1000000) (hn : o.Nodup) {z : Z2} : ∀ (m : Nat) (ps : List Nat) (w : List NM), m + ps.length = o.length → Vis o ps w →
    AWP Tryz.prog 35 2 c17_8 [(10, .msl 1 5 0 w.length), (23, .ptr 4 0)] (HM es o z ps w) (q17_2 2 (P33 es (sortL o))) := by
  have fin : ∀ (ps : List Nat) (w : List NM), Vis o ps w → (∀ i, i < (MM.typed EB (seenM o)).len → i ∈ ps) → AWP Tryz.prog 35 2 c17_11 [(10, .msl 1 5 0 w.length)] (HM es o z ps w) (q17_0 2 (P33 es (sortL o))) := by
    intro ps w hv ha
    rw [seen_len] at ha
    have hp := vis_end hv ha
    have hwl : w.length ≤ 1000000 := by rw [hp.length_eq]; exact hol
    rw [← sort_perm hp hn]
    exact AWP.shape [0, 1, 5] _ (HX es ++ [arL w]) (selN (by decide) (by decide) (fun i h => by match i, h with | 0, _ | 1, _ => rfl) ⟨by rw [mp_ren]; rfl, rfl, rfl, trivial⟩) (slotsR rfl) (end11m hwl)
  intro m
  induction m with
  | zero =>
    intro ps w hm hv
    refine v17_8m es o z ps w 2 _ (needJ rfl ⟨fun ha => fin ps w hv ha, fun i hi hni k v hk => ?_⟩)
    exfalso
    rw [seen_len] at hi
    have hv2 := vis_len (vis_next hv hi (fun h => hni h))
    simp at hv2; omega
  | succ m ih =>
    intro ps w hm hv
    have hwl := vis_row hv
    refine v17_8m es o z ps w 2 _ (needJ rfl ⟨fun ha => fin ps w hv ha, fun i hi hni k v hk => needJ ⟨rfl, hi⟩ fun k' v' hk' => needJ ⟨rfl, by omega⟩ ?_⟩)
    obtain ⟨hi', rfl⟩ := seen_get hk'
    exact shapeM (ih (i :: ps) _ (by simp; omega) (vis_next hv hi' (fun h => hni h)))
theorem loopN {es : Kn} {o : List NM} (hol : o.length ≤ 1000000) (hn : o.Nodup) {z : Z2} : AWP Tryz.prog 35 2 c17_8 [(10, NILV), (23, .ptr 4 0)] (HN es o z []) (q17_2 2 (P33 es (sortL o))) := by
  refine v17_8n es o z [] 2 _ (needJ rfl ⟨fun ha => ?_, fun i hi hni k v hk => needJ ⟨rfl, hi⟩ fun k' v' hk' => needJ (by omega) (needJ (by omega) ?_)⟩)
  · have ho : o = [] := by
      cases o with
      | nil => rfl
      | cons x r => have := ha 0 (by rw [seen_len]; simp); simp at this
    subst ho
    rw [show sortL ([] : List NM) = [] from by simp [sortL]]
    exact AWP.shape [0, 1] _ (HX es) (Rc.sel2 [_, _, _]) (slotsR rfl) end11n
  · obtain ⟨hi', rfl⟩ := seen_get hk'
    have hv : Vis o [i] ([] ++ [o.getD i []]) := vis_next ⟨by simp, by simp, rfl⟩ hi' (by simp)
    refine AWP.re (ReSt.arr (id := 5) (q' := .map encL [] [o.getD i []]) rfl (by simp [Ab.Seq.toList]; rfl)) ?_
    exact loopM hol hn (o.length - 1) [i] [o.getD i []] (by simp; omega) hv

/-! ### the names that are needed -/
def unionU (es : Kn) (root : List Need) (l : List Pk) : List NM := root.map (·.1) ++ l.flatMap fun p => (relOf es p).1.2.map (·.1)
def neededM (es : Kn) (root : List Need) (l : List Pk) : List NM := sortL (visitF (gF es l) ((unionU es root l).length + 1) (root.map (·.1)) [])
theorem getP_mem {l : List Pk} {x : NM} (h : (getP l x).2 = true) : (x, (getP l x).1) ∈ l := by
  unfold getP at h ⊢
  split at h
  · rename_i hc
    rw [if_pos hc]
    have hm := memD l noPk _ hc.1
    have e : (x, (l.getD (Pc.placeM l x) noPk).2) = l.getD (Pc.placeM l x) noPk := Prod.ext hc.2.symm rfl
    show (x, (l.getD (Pc.placeM l x) noPk).2) ∈ l
    rw [e]; exact hm
  · cases h
theorem gF_U (es : Kn) (root : List Need) (l : List Pk) (x : NM) : ∀ y ∈ gF es l x, y ∈ unionU es root l := by
  intro y hy
  unfold gF at hy
  split at hy
  · rename_i hp
    exact List.mem_append_right _ (List.mem_flatMap.2 ⟨_, getP_mem hp, hy⟩)
  · cases hy
theorem flat_le {α β : Type} {f : α → List β} {b : Nat} : ∀ (l : List α), (∀ x ∈ l, (f x).length ≤ b) → (l.flatMap f).length ≤ l.length * b
  | [], _ => by simp
  | x :: r, h => by
    have h1 := h x (by simp)
    have h2 := flat_le r fun y hy => h y (by simp [hy])
    rw [List.flatMap_cons, List.length_append, List.length_cons, Nat.succ_mul]; omega
theorem U_len {es : Kn} (hg : OkG es) (root : List Need) (l : List Pk) (hr : root.length ≤ 1000) (hl : l.length ≤ 1000) : (unionU es root l).length ≤ 7000 := by
  have := flat_le (f := fun p => (relOf es p).1.2.map (·.1)) (b := 6) l fun p _ => by rw [List.length_map]; exact (rel_needs hg p).2
  unfold unionU
  rw [List.length_append, List.length_map]
  have := Nat.mul_le_mul_right 6 hl
  omega
section
variable {es : Kn} (hx : OkX es) (hg : OkG es) {root : List Need} {l : List Pk} (hl : l.length ≤ 1000) (hr : root.length ≤ 1000)
include hx hg hl hr
theorem seen_facts : (visitF (gF es l) ((unionU es root l).length + 1) (root.map (·.1)) []).Nodup ∧ (∀ x, x ∈ visitF (gF es l) ((unionU es root l).length + 1) (root.map (·.1)) [] ↔ RS (gF es l) (root.map (·.1)) x) ∧
    (visitF (gF es l) ((unionU es root l).length + 1) (root.map (·.1)) []).length ≤ 7000 := by
  have h := visit_spec (gF es l) (U := unionU es root l) (root := root.map (·.1)) (fun x hx => List.mem_append_left _ hx) (gF_U es root l) (f := (unionU es root l).length + 1) (by omega)
  refine ⟨h.1, h.2, ?_⟩
  have h1 := Rc.rs_len (gF es l) (U := unionU es root l) (root := root.map (·.1)) (fun x hx => List.mem_append_left _ hx) (gF_U es root l) h.1 (fun x hx => (h.2 x).1 hx)
  have := U_len hg root l hr hl
  omega
theorem needed0 : ASpec Tryz.prog 17 [.ptr 1 0, slN root, slK l] (HX es) (fun r H' => r = slL (neededM es root l) ∧ H' = HX es) := by
  obtain ⟨f1, f2, f3⟩ := seen_facts hx hg hl hr (root := root) (l := l)
  have hUl := U_len hg root l hr hl
  have hv := visit0 hx hg (root := root) (l := l) (by omega) (U := unionU es root l) (fun x hx => List.mem_append_left _ hx) (gF_U es root l) (by omega) ((unionU es root l).length + 1) root [] (by omega) List.nodup_nil (by simp)
    (fun n hn => .base (List.mem_map_of_mem hn)) (by simp)
  have k : ASpec Tryz.prog 17 [.ptr 1 0, slN root, slK l] (HX es) (P33 es (neededM es root l)) := by
    refine s17 es root l _ (ASpec.inMap 5 (.typed EB (seenM [])) rfl mle_nil (ASpec.call hv (Les.refl _) ⟨_, rfl, rfl, ?_⟩))
    unfold neededM
    generalize visitF (gF es l) ((unionU es root l).length + 1) (root.map (·.1)) [] = o at f1 f2 f3 ⊢
    refine AWP.shape [0, 1, 5, 6] [(8, .ptr 3 0)] [.mp (.typed EK es), .cells [.map 0], .mp (.typed EB (seenM o)), .cells [.map 2]] (selN (by decide) (by decide) (fun i h => by match i, h with | 0, _ | 1, _ => rfl) ⟨by rw [mp_ren]; rfl, rfl, by rw [ren_mp]; rfl, rfl, trivial⟩)
      (slotsR rfl) (v17_6 es o 2 _ fun z hz => loopN (by omega) f1)
  refine ASpec.sel (ASpec.reEnd ((ASpec.sel k).mono fun r H' hh => ?_))
  rcases hh with ⟨e1, e2, e3⟩ | ⟨e1, e2⟩
  · subst e1 e2
    rw [e3]
    exact ⟨_, _, ReSt.refl _ _, [0, 1], HX es, slL [], Rc.sel2 [], nilLle _, rfl, rfl⟩
  · subst e1 e2
    exact ⟨_, _, ReSt.freeze1 (id := 2) (q' := .map encL [] (neededM es root l)) rfl (by show 2 ≤ 3; omega) (by simp [Seq.toList]) (by simp only [Seq.toList]; rw [List.take_of_length_le (by simp)]), [0, 1], HX es, slL (neededM es root l), Rc.sel2 [_], slLle _ _ _, rfl, rfl⟩
end
end Ft
end

section
/- fit.Wrong, fit.Solution, by the program; what a solution is, and that it stays one. -/

set_option linter.unusedVariables false
set_option linter.unusedSimpArgs false
set_option linter.unusedSectionVars false
set_option maxRecDepth 100000
open Go Go.Ab Go.Proofs V S T C
namespace Ft
open W (sl1 slS slN slR leNone renN renS)
open X (hasI getM putI OkX mp_ren optI)
open Pc (slK slKLe UpK)
open Dk (chkF chk_spec getP get_spec chk_up)
open E (PA pa)
open Rc (RS slL slLle nilLle ren_mp slotsR selN sort_strict sort_one sub_len arL More)
open So (sortL)
open Pl (Up)
open Sp (hasS)
/-! ### what is wrong -/
noncomputable def wrongM (es : Kn) (root : List Need) (l : List Pk) : Int × NM :=
  if chkF none l = false then (1, []) else if (unmetF l root).2 = true then (2, (unmetF l root).1)
  else if (firstK (fun p => !(relOf es p).2) l).2 = true then (3, (firstK (fun p => !(relOf es p).2) l).1)
  else if (firstK (lackB es l) l).2 = true then (4, (firstK (lackB es l) l).1)
  else if (firstK (fun p => !decide (p.1 ∈ neededM es root l)) l).2 = true then (5, (firstK (fun p => !decide (p.1 ∈ neededM es root l)) l).1) else (0, [])
noncomputable def solB (es : Kn) (root : List Need) (l : List Pk) : Bool := decide ((wrongM es root l).1 = 0)
noncomputable abbrev RUL : AV := .agg [.bfn 34 [.ptr 2 0], .bfn 35 [.ptr 2 0], .bfn 36 [.ptr 2 0], .bfn 37 [.ptr 2 0], .bfn 38 [.ptr 2 0]]
section
variable {es : Kn} (hx : OkX es) (hg : OkG es) {root : List Need} {l : List Pk} (hl : l.length ≤ 1000) (hr : root.length ≤ 1000) (hp : ∀ p ∈ l, p.1.length ≤ 1000) (hns : NsOk root)
include hx hg hl hr
theorem needed_len : (neededM es root l).length ≤ 7000 := by
  unfold neededM
  rw [Pl.sort_len]
  exact (seen_facts hx hg hl hr).2.2
theorem rule5 : ASpec Tryz.prog 38 [.ptr 2 0] (HF es root l) (fun r H' => r = .tup [.str (B (firstK (fun p => !decide (p.1 ∈ neededM es root l)) l).1), .bool (firstK (fun p => !decide (p.1 ∈ neededM es root l)) l).2] ∧ H' = HF es root l) := by
  have hq := needed_len hx hg hl hr (root := root) (l := l)
  have hk : ASpec Tryz.prog 17 [.ptr 1 0, slN root, slK l] (HF es root l) (fun r H' => r = slL (neededM es root l) ∧ H' = HF es root l) :=
    same [0, 1] _ (needed0 hx hg hl hr) (by decide) rfl rfl rfl (fun i hi => by
      match i, hi with
      | 0, _ => show some _ = some (AObj.ren _ (.mp (.typed EK es))); rw [mp_ren]
      | 1, _ => rfl)
  refine ASpec.sel (s38 es root l (PF es root l _) (ASpec.call hk (Les.refl _) ⟨neededM es root l, rfl, rfl, ?_⟩))
  repeat refine ⟨⟨rfl, rfl⟩, ?_⟩
  refine ASpec.call (firsti hx hg (by omega) (neededM es root l) _ (fun p _ => idle0 hx hg (by omega) (neededM es root l) (by omega) p)) (Les.refl _) ⟨(B (firstK (fun p => !decide (p.1 ∈ neededM es root l)) l).1, _), rfl, rfl, ?_⟩
  exact pf (es := es) (root := root) (l := l) [_] fun ρ => Le.refl _
include hp hns
theorem wrong0 : ASpec Tryz.prog 12 [.ptr 1 0, slN root, slK l] (HX es) (fun r H' => r = .tup [.int .i64 (wrongM es root l).1, .str (B (wrongM es root l).2)] ∧ H' = HX es) := by
  have px : ∀ {k : Int} {n : NM}, wrongM es root l = (k, n) → X.PX es (.tup [.int .i64 (wrongM es root l).1, .str (B (wrongM es root l).2)]) (.tup [.int .i64 k, .str (B n)]) (HF es root l) := fun e => by
    rw [e]; exact X.px (es := es) [_] (Le.refl _)
  refine ASpec.sel (s12 es root l (X.PX es (.tup [.int .i64 (wrongM es root l).1, .str (B (wrongM es root l).2)])) ?_)
  refine AWP.shape [0, 1, 2] [(30, RUL), (31, .int .i64 0)] (HF es root l) (selN (by decide) (by decide) (fun i h => by match i, h with | 0, _ | 1, _ => rfl) ⟨by rw [mp_ren]; rfl, rfl, rfl, trivial⟩) (slotsR rfl) ?_
  refine v12_4a es root l 2 _ (needJ ⟨by omega, by omega⟩ (ASpec.call (rule1 hx hg (by omega) hp) (Les.refl _) ⟨(B [], !chkF none l), rfl, rfl, condBn (fun h1 => ?_) fun h1 => ?_⟩))
  · exact px (by unfold wrongM; rw [if_pos h1])
  have h1' : ¬ chkF none l = false := by rw [h1]; simp
  refine v12_4b es root l 2 _ (needJ ⟨by omega, by omega⟩ (ASpec.call (rule2 hx hg (by omega) hns (by unfold lim; omega)) (Les.refl _) ⟨(B (unmetF l root).1, (unmetF l root).2), rfl, rfl, condB (fun h2 => px ?_) fun h2 => ?_⟩))
  · unfold wrongM; rw [if_neg h1', if_pos h2]
  have h2' : ¬ (unmetF l root).2 = true := by rw [show (unmetF l root).2 = false from h2]; simp
  refine v12_4c es root l 2 _ (needJ ⟨by omega, by omega⟩ (ASpec.call (rule3 hx hg (by omega)) (Les.refl _) ⟨(B (firstK (fun p => !(relOf es p).2) l).1, (firstK (fun p => !(relOf es p).2) l).2), rfl, rfl, condB (fun h3 => px ?_) fun h3 => ?_⟩))
  · unfold wrongM; rw [if_neg h1', if_neg h2', if_pos h3]
  have h3' : ¬ (firstK (fun p => !(relOf es p).2) l).2 = true := by rw [show (firstK (fun p => !(relOf es p).2) l).2 = false from h3]; simp
  refine v12_4d es root l 2 _ (needJ ⟨by omega, by omega⟩ (ASpec.call (rule4 hx hg (by omega)) (Les.refl _) ⟨(B (firstK (lackB es l) l).1, (firstK (lackB es l) l).2), rfl, rfl, condB (fun h4 => px ?_) fun h4 => ?_⟩))
  · unfold wrongM; rw [if_neg h1', if_neg h2', if_neg h3', if_pos h4]
  have h4' : ¬ (firstK (lackB es l) l).2 = true := by rw [show (firstK (lackB es l) l).2 = false from h4]; simp
  refine v12_4e es root l 2 _ (needJ ⟨by omega, by omega⟩ (ASpec.call (rule5 hx hg hl hr) (Les.refl _) ⟨(B (firstK (fun p => !decide (p.1 ∈ neededM es root l)) l).1, (firstK (fun p => !decide (p.1 ∈ neededM es root l)) l).2), rfl, rfl, condB (fun h5 => px ?_) fun h5 => v12_4f es root l 2 _ (px ?_)⟩))
  · unfold wrongM; rw [if_neg h1', if_neg h2', if_neg h3', if_neg h4', if_pos h5]
  · have h5' : ¬ (firstK (fun p => !decide (p.1 ∈ neededM es root l)) l).2 = true := by rw [show (firstK (fun p => !decide (p.1 ∈ neededM es root l)) l).2 = false from h5]; simp
    unfold wrongM; rw [if_neg h1', if_neg h2', if_neg h3', if_neg h4', if_neg h5']
theorem sol0 : ASpec Tryz.prog 14 [.ptr 1 0, slN root, slK l] (HX es) (fun r H' => r = .bool (solB es root l) ∧ H' = HX es) := by
  refine s14 es root l _ (ASpec.call (wrong0 hx hg hl hr hp hns) (Les.refl _) ⟨((wrongM es root l).1, B (wrongM es root l).2), rfl, rfl, ?_, rfl⟩)
  congr 1
theorem sol_at (H : List AObj) (q p : Nat) (hqp : q ≠ p) (hq : H[q]? = some (.mp (.typed EK es))) (hp2 : H[p]? = some (.cells [.map q])) :
    ASpec Tryz.prog 14 [.ptr p 0, slN root, slK l] H (fun r H' => r = .bool (solB es root l) ∧ H' = H) := by
  have := X.liftX H q p hqp hq hp2 (sol0 hx hg hl hr hp hns) (args' := [.ptr p 0, slN root, slK l]) (r' := .bool (solB es root l)) rfl rfl
  rwa [set_same hq] at this
theorem wrong_at (H : List AObj) (q p : Nat) (hqp : q ≠ p) (hq : H[q]? = some (.mp (.typed EK es))) (hp2 : H[p]? = some (.cells [.map q])) :
    ASpec Tryz.prog 12 [.ptr p 0, slN root, slK l] H (fun r H' => r = .tup [.int .i64 (wrongM es root l).1, .str (B (wrongM es root l).2)] ∧ H' = H) := by
  have := X.liftX H q p hqp hq hp2 (wrong0 hx hg hl hr hp hns) (args' := [.ptr p 0, slN root, slK l]) (r' := .tup [.int .i64 (wrongM es root l).1, .str (B (wrongM es root l).2)]) rfl rfl
  rwa [set_same hq] at this
omit hp hns in
theorem needed_at (H : List AObj) (q p : Nat) (hqp : q ≠ p) (hq : H[q]? = some (.mp (.typed EK es))) (hp2 : H[p]? = some (.cells [.map q])) :
    ASpec Tryz.prog 17 [.ptr p 0, slN root, slK l] H (fun r H' => r = slL (neededM es root l) ∧ H' = H) := by
  have := X.liftX H q p hqp hq hp2 (needed0 hx hg hl hr (root := root) (l := l)) (args' := [.ptr p 0, slN root, slK l]) (r' := slL (neededM es root l)) rfl rfl
  rwa [set_same hq] at this
end

/-! ### what a solution is -/
structure Sol (es : Kn) (root : List Need) (l : List Pk) : Prop where
  ck : chkF none l = true
  met : ∀ n ∈ root, metB l n = true
  rel : ∀ p ∈ l, (relOf es p).2 = true
  lack : ∀ p ∈ l, lackB es l p = false
  need : ∀ p ∈ l, p.1 ∈ neededM es root l
theorem unmet_none {l : List Pk} : ∀ {root : List Need}, (unmetF l root).2 = false ↔ ∀ n ∈ root, metB l n = true
  | [] => by simp [unmetF]
  | n :: r => by
    simp only [unmetF, List.forall_mem_cons]
    by_cases h : metB l n = false
    · rw [if_pos h]; simp [h]
    · rw [if_neg h, unmet_none (root := r)]; simp [h]
theorem first_none {f : Pk → Bool} {l : List Pk} : (firstK f l).2 = false ↔ ∀ p ∈ l, f p = false := by
  unfold firstK
  cases h : l.find? f with
  | none =>
    rw [List.find?_eq_none] at h
    exact ⟨fun _ p hp => by simpa using h p hp, fun _ => rfl⟩
  | some p =>
    have h1 := List.find?_some h
    have h2 := List.mem_of_find?_eq_some h
    exact ⟨fun h => by simp at h, fun h => by rw [h p h2] at h1; cases h1⟩
theorem sol_iff {es : Kn} {root : List Need} {l : List Pk} : solB es root l = true ↔ Sol es root l := by
  unfold solB wrongM
  rw [decide_eq_true_eq]
  by_cases h1 : chkF none l = false
  · rw [if_pos h1]; exact ⟨fun h => by simp at h, fun h => by rw [h.ck] at h1; cases h1⟩
  rw [if_neg h1]
  by_cases h2 : (unmetF l root).2 = true
  · rw [if_pos h2]; exact ⟨fun h => by simp at h, fun h => by rw [unmet_none.2 h.met] at h2; cases h2⟩
  rw [if_neg h2]
  by_cases h3 : (firstK (fun p => !(relOf es p).2) l).2 = true
  · rw [if_pos h3]; exact ⟨fun h => by simp at h, fun h => by rw [first_none.2 (fun p hp => by simp [h.rel p hp])] at h3; cases h3⟩
  rw [if_neg h3]
  by_cases h4 : (firstK (lackB es l) l).2 = true
  · rw [if_pos h4]; exact ⟨fun h => by simp at h, fun h => by rw [first_none.2 h.lack] at h4; cases h4⟩
  rw [if_neg h4]
  by_cases h5 : (firstK (fun p => !decide (p.1 ∈ neededM es root l)) l).2 = true
  · rw [if_pos h5]; exact ⟨fun h => by simp at h, fun h => by rw [first_none.2 (fun p hp => by simp [h.need p hp])] at h5; cases h5⟩
  rw [if_neg h5]
  refine ⟨fun _ => ⟨by simpa using h1, unmet_none.1 (by simpa using h2), fun p hp => ?_, first_none.1 (by simpa using h4), fun p hp => ?_⟩, fun _ => rfl⟩
  · have := first_none.1 (show (firstK (fun p => !(relOf es p).2) l).2 = false by simpa using h3) p hp
    simpa using this
  · have := first_none.1 (show (firstK (fun p => !decide (p.1 ∈ neededM es root l)) l).2 = false by simpa using h5) p hp
    simpa using this
theorem needed_iff {es : Kn} {root : List Need} {l : List Pk} (x : NM) : x ∈ neededM es root l ↔ RS (gF es l) (root.map (·.1)) x := by
  unfold neededM
  rw [Pl.sort_mem]
  exact (visit_spec (gF es l) (U := unionU es root l) (root := root.map (·.1)) (fun x hx => List.mem_append_left _ hx) (gF_U es root l) (f := (unionU es root l).length + 1) (by omega)).2 x
end Ft
end

section
/- fit, by the document: what is met, needed, and wrong. -/

set_option linter.unusedVariables false
set_option linter.unusedSimpArgs false
set_option linter.unusedSectionVars false
set_option maxRecDepth 100000
open Go Go.Ab Go.Proofs V S T C
namespace Fd
open W (sl1 slS slN slR leNone renN renS)
open X (hasI getM OkX mp_ren)
open Xd (getKd agK RelX rel_get)
open Pc (slK slKLe UpK)
open Dk (chkF getP)
open E (PA pa)
open Rc (slL slLle nilLle slotsR selN)
open Rr (add_spec addM_len nilL addAll_cons)
open Pl (addM addAll addAll_len addM_up)
open Sp (hasS)
open Ft (Rise relM relOf lowR lowR_le metB NsOk OkG get_rise get_okN rel_needs firstK getP_mem leRel0 leRl unmetF lackB)
/-! ### a release, one by one -/
def relL (m : Mani) (v : Int) : Rel × Bool := match m.2.find? (fun r => r.1 == v) with
  | some r => (r, true)
  | none => ((0, []), false)
theorem relL_low (v : Int) : ∀ {l : List Rel}, l.Pairwise (fun a b => a.1 < b.1) → (match l.find? (fun r => r.1 == v) with | some r => (r, true) | none => ((0, []), false)) = (if lowR v l < l.length ∧ (l.getD (lowR v l) (0, [])).1 = v then (l.getD (lowR v l) (0, []), true) else ((0, []), false))
  | [], _ => by simp [lowR]
  | x :: r, hu => by
    have hu := List.pairwise_cons.1 hu
    rw [List.find?_cons]
    by_cases h1 : x.1 < v
    · have e : (x.1 == v) = false := beq_eq_false_iff_ne.2 (by omega)
      rw [e]
      simp only [lowR, if_pos h1]
      rw [relL_low v hu.2, Nat.add_comm 1, List.getD_cons_succ, List.length_cons]
      by_cases h2 : lowR v r < r.length ∧ (r.getD (lowR v r) (0, [])).1 = v
      · rw [if_pos h2, if_pos ⟨by omega, h2.2⟩]
      · rw [if_neg h2, if_neg fun h3 => h2 ⟨by omega, h3.2⟩]
    · simp only [lowR, if_neg h1, List.getD_cons_zero, List.length_cons]
      by_cases h2 : x.1 = v
      · rw [show (x.1 == v) = true from beq_iff_eq.2 h2, if_pos ⟨by omega, h2⟩]
      · rw [show (x.1 == v) = false from beq_eq_false_iff_ne.2 h2, if_neg fun h => h2 h.2]
        have hn : r.find? (fun r => r.1 == v) = none := by
          rw [List.find?_eq_none]
          intro y hy
          have := hu.1 y hy
          have : ¬ y.1 = v := by omega
          simpa using this
        rw [hn]
theorem relL_eq {m : Mani} (h : Rise m.2) (v : Int) : relL m v = relM m v := by
  unfold relL relM
  by_cases hv : v < 0 ∨ 1000000000 ≤ v
  · rw [if_pos hv]
    have hn : m.2.find? (fun r => r.1 == v) = none := by
      rw [List.find?_eq_none]
      intro y hy
      have := h.low y hy
      have : ¬ y.1 = v := by omega
      simpa using this
    rw [hn]
  · rw [if_neg hv]; exact relL_low v h.up
theorem relL2 {m : Mani} {v : Int} (hl : m.2.length ≤ lim) {R : Rel × Bool} : ∀ (k i : Nat), k + i = m.2.length → (match (m.2.drop i).find? (fun r => r.1 == v) with | some r => (r, true) | none => ((0, []), false)) = R →
    AWP Tryz.prog 28 0 c75_2 [(1, .int .i64 v), (2, .ptr 0 0), (4, .ptr 1 0), (6, .int .i64 i)] [.cells (encM m), .cells [.int .i64 0, .sl 0 (.raw []) .nil]] (q75_2 0 (PA (.tup [.agg (T.encR R.1), .bool R.2]))) := by
  unfold lim at hl
  intro k
  induction k with
  | zero =>
    intro i hm h
    rw [List.drop_eq_nil_of_le (by omega)] at h
    subst h
    exact v75_2 _ _ _ _ _ (condD (fun hc => by omega) fun _ => pa (Le.tup ⟨leRel0, Le.refl _, trivial⟩))
  | succ k ih =>
    intro i hm h
    rw [dropD m.2 (0, []) i (by omega), List.find?_cons] at h
    refine v75_2 _ _ _ _ _ (condD (fun _ => needJ ⟨by omega, by omega⟩ ?_) fun hc => by omega)
    rw [Int.toNat_natCast, succ64 (by omega)]
    generalize m.2.getD i (0, []) = x at h ⊢
    refine condE (fun e => needJ ⟨by omega, by omega⟩ (pa ?_)) fun e => ?_
    · rw [show (x.1 == v) = true from beq_iff_eq.2 e] at h
      subst h
      exact Le.tup ⟨leRl _ _, Le.refl _, trivial⟩
    · rw [show (x.1 == v) = false from beq_eq_false_iff_ne.2 e] at h
      exact ih (i + 1) (by omega) h
theorem rel_spec (m : Mani) (v : Int) (hl : m.2.length ≤ lim) (H : List AObj) : ASpec Tryz.prog 75 [.agg (encM m), .int .i64 v] H (fun r H' => r = .tup [.agg (T.encR (relL m v).1), .bool (relL m v).2] ∧ H' = H) := by
  have k : ASpec Tryz.prog 75 [.agg (encM m), .int .i64 v] [] (fun r H' => r = .tup [.agg (T.encR (relL m v).1), .bool (relL m v).2] ∧ H' = []) :=
    ASpec.sel (s75 _ _ _ (relL2 hl m.2.length 0 (by omega) rfl))
  exact ASpec.pureH H k _ _ rfl rfl

/-! ### met, needs -/
def metD (l : List Pk) (n : Need) : Bool := (Pc.getM l n.1).2 && hasS n.2 (Pc.getM l n.1).1
theorem met_eq {l : List Pk} (hc : chkF none l = true) (n : Need) : metD l n = metB l n := by
  unfold metD metB
  rw [Dk.get_one (Dk.chk_up hc)]
theorem met_spec (l : List Pk) (n : Need) (hl : l.length ≤ 1000) (hn : Sg.ok n.2) (H : List AObj) : ASpec Tryz.prog 39 [slK l, .agg (encN n)] H (fun r H' => r = .bool (metD l n) ∧ H' = H) := by
  have k : ASpec Tryz.prog 39 [slK l, .agg (encN n)] [] (fun r H' => r = .bool (metD l n) ∧ H' = []) := by
    refine ASpec.sel (s39 _ _ _ (ASpec.call (Dk.rget_spec l n.1 (by omega) _) (Les.refl _) ⟨Pc.getM l n.1, rfl, rfl, condB (fun h => ?_) fun h => pa ?_⟩))
    · refine ASpec.call (Sg.rhas_spec n.2 _ hn _) (Les.refl _) ⟨_, rfl, rfl, pa ?_⟩
      unfold metD; rw [h, Bool.true_and]; exact Le.refl _
    · unfold metD; rw [h, Bool.false_and]; exact Le.refl _
  exact ASpec.pureH H k _ _ rfl rfl
section
variable {es : Kn} {d : List Kd} (hx : OkX es) (hg : OkG es) (hd : RelX es d) (hdl : d.length ≤ 1000)
include hx hg hd hdl
theorem needs_spec (p : Pk) (H : List AObj) : ASpec Tryz.prog 48 [agK d, .agg (encPk p)] H (fun r H' => r = slN (relOf es p).1.2 ∧ H' = H) := by
  have hr := get_rise hg p.1
  have hn := get_okN hx p.1
  have k : ASpec Tryz.prog 48 [agK d, .agg (encPk p)] [] (fun r H' => r = slN (relOf es p).1.2 ∧ H' = []) := by
    refine ASpec.sel (s48 d p _ (ASpec.call (Xd.get_spec d p.1 (by unfold lim; omega) _) (Les.refl _) ⟨getKd d p.1, rfl, rfl, ?_⟩))
    repeat refine ⟨⟨rfl, rfl⟩, ?_⟩
    rw [rel_get hd]
    refine ASpec.call (rel_spec (getM es p.1).1 p.2 hn.1 _) (Les.refl _) ⟨relL (getM es p.1).1 p.2, rfl, rfl, ?_⟩
    rw [relL_eq hr.1]
    exact pa (leNone renN)
  exact ASpec.pureH H k _ _ rfl rfl
end
end Fd
end

section
/- fit.Needed and fit.Wrong, by the document. -/

set_option linter.unusedVariables false
set_option linter.unusedSimpArgs false
set_option linter.unusedSectionVars false
set_option maxRecDepth 100000
open Go Go.Ab Go.Proofs V S T C
namespace Fd
open W (sl1 slS slN slR leNone renN renS)
open X (hasI getM OkX mp_ren)
open Xd (getKd agK ofI ofKd RelX rel_get)
open Pc (slK slKLe UpK)
open Dk (chkF getP chk_up)
open E (PA pa)
open Rc (slL slLle nilLle slotsR selN sub_len up_nd roundF RS)
open Rr (add_spec addM_len nilL addAll_cons)
open Pl (Up addM addAll addAll_len addAll_up addAll_mem addM_up)
open Ft (Rise relOf metB NsOk OkG lackB unmetF firstK gF gF_U unionU U_len docN neededM needed_one getP_mem NM)
/-! ### what is needed -/
theorem r17 {d : List Kd} {l : List Pk} {s o' : List NM} {t : List Need} {k : Int} {i0 : Nat} {Post : AV → List AObj → Prop} (ht : t.length ≤ 6) (hi0 : i0 ≤ 100000)
    (key : AWP Tryz.prog 75 0 c18_11 [(2, slK l), (3, .ptr 0 0), (7, slL o'), (9, .int .i64 k), (10, slL s), (11, .int .i64 (i0 + 1 : Nat))] [.cells (encXd d)] (q18_8 0 Post)) : ∀ (m j : Nat) (o : List NM), m + j = t.length → o.length + m ≤ 1000000 → addAll ((t.drop j).map (·.1)) o = o' →
    AWP Tryz.prog 75 0 c18_17 [(2, slK l), (3, .ptr 0 0), (7, slL o), (9, .int .i64 k), (10, slL s), (11, .int .i64 i0), (14, slN t), (15, .int .i64 j)] [.cells (encXd d)] (q18_12 0 Post) := by
  intro m
  induction m with
  | zero =>
    intro j o hm ho h
    rw [List.drop_eq_nil_of_le (by omega)] at h
    have h : o = o' := h
    subst h
    refine v18_17 _ _ _ _ _ _ _ _ _ _ (condD (fun hc => by omega) fun _ => ?_)
    rw [succ64 (by omega)]
    exact key
  | succ m ih =>
    intro j o hm ho h
    rw [dropD t ([], []) j (by omega), List.map_cons, addAll_cons] at h
    refine v18_17 _ _ _ _ _ _ _ _ _ _ (condD (fun hc => needJ ⟨by omega, by omega⟩ ?_) fun hc => by omega)
    rw [Int.toNat_natCast, succ64 (by omega)]
    generalize t.getD j ([], []) = y at h ⊢
    have hl := addM_len y.1 o
    exact ASpec.call (add_spec o y.1 (by omega) _) (Les.refl _) ⟨_, rfl, rfl, ih (j + 1) _ (by omega) (by omega) h⟩
section
variable {es : Kn} {d : List Kd} (hx : OkX es) (hg : OkG es) (hd : RelX es d) (hdl : d.length ≤ 1000) {root : List Need} {l : List Pk} (hl : l.length ≤ 1000) (hr : root.length ≤ 1000) (hc : chkF none l = true)
include hx hg hd hdl hl hr hc
theorem r11 {s : List NM} {k : Nat} {R : List NM} {Post : AV → List AObj → Prop} (hs : s.length ≤ 10000) (hk : k ≤ 10000)
    (key : AWP Tryz.prog 75 0 c18_7 [(2, slK l), (3, .ptr 0 0), (7, slL R), (9, .int .i64 (k + 1 : Nat))] [.cells (encXd d)] (q18_4 0 Post)) : ∀ (m i : Nat) (o : List NM), m + i = s.length → Up o → (∀ x ∈ o, x ∈ unionU es root l) → roundF (gF es l) (s.drop i) o = R →
    AWP Tryz.prog 75 0 c18_11 [(2, slK l), (3, .ptr 0 0), (7, slL o), (9, .int .i64 k), (10, slL s), (11, .int .i64 i)] [.cells (encXd d)] (q18_8 0 Post) := by
  intro m
  induction m with
  | zero =>
    intro i o hm hu ho h
    rw [List.drop_eq_nil_of_le (by omega)] at h
    have h : o = R := h
    subst h
    refine v18_11 _ _ _ _ _ _ _ _ (condD (fun hlt => by omega) fun _ => ?_)
    rw [succ64 (by omega)]
    exact key
  | succ m ih =>
    intro i o hm hu ho h
    have hol := sub_len (up_nd hu) ho
    have hU := U_len hg root l hr hl
    rw [dropD s [] i (by omega)] at h
    simp only [roundF] at h
    refine v18_11 _ _ _ _ _ _ _ _ (condD (fun hlt => needJ ⟨by omega, by omega⟩ ?_) fun hlt => by omega)
    rw [Int.toNat_natCast, succ64 (by omega)]
    generalize s.getD i [] = y at h ⊢
    have hgu := gF_U es root l y
    refine ASpec.call (Dk.rget_spec l y (by omega) _) (Les.refl _) ⟨Pc.getM l y, rfl, rfl, ?_⟩
    have e1 : Pc.getM l y = getP l y := (Dk.get_one (chk_up hc) y).symm
    rw [e1]
    have e2 : gF es l y = if (getP l y).2 = true then (relOf es (y, (getP l y).1)).1.2.map (·.1) else [] := rfl
    refine condBn (fun hn => ?_) fun hn => needJ ⟨by omega, by omega⟩ ?_
    · have e3 : gF es l y = [] := by rw [e2, if_neg (by rw [hn]; simp)]
      rw [e3] at h
      exact ih (i + 1) o (by omega) hu ho h
    · have e3 : gF es l y = (relOf es (y, (getP l y).1)).1.2.map (·.1) := by rw [e2, if_pos hn]
      refine ASpec.call (needs_spec hx hg hd hdl (y, (getP l y).1) _) (Les.refl _) ⟨_, rfl, rfl, ?_⟩
      have h6 := (Ft.rel_needs hg (y, (getP l y).1)).2
      refine r17 (o' := addAll (gF es l y) o) h6 (by omega) (ih (i + 1) _ (by omega) (addAll_up _ hu) (fun x hx => ?_) h) (relOf es (y, (getP l y).1)).1.2.length 0 o (by omega) (by omega) (by rw [e3]; rfl)
      rcases (addAll_mem _).1 hx with hx | hx
      · exact hgu x hx
      · exact ho x hx
theorem r7 {R : List NM} : ∀ (m k : Nat) (o : List NM), m + k = l.length + 1 → Up o → (∀ x ∈ o, x ∈ unionU es root l) → docN (gF es l) m o = R →
    AWP Tryz.prog 75 0 c18_7 [(2, slK l), (3, .ptr 0 0), (7, slL o), (9, .int .i64 k)] [.cells (encXd d)] (q18_4 0 (PA (slL R))) := by
  intro m
  induction m with
  | zero =>
    intro k o hm hu ho h
    have h : o = R := h
    subst h
    exact v18_7 _ _ _ _ _ _ (condD (fun hlt => by omega) fun _ => pa (slLle _ _ _))
  | succ m ih =>
    intro k o hm hu ho h
    have hol := sub_len (up_nd hu) ho
    have hU := U_len hg root l hr hl
    simp only [docN] at h
    refine v18_7 _ _ _ _ _ _ (condD (fun hlt => ?_) fun hlt => by omega)
    refine r11 hx hg hd hdl hl hr hc (by omega) (by omega) (ih (k + 1) _ (by omega) (Rc.round_up _ hu) (fun x hx => ?_) h) o.length 0 o (by omega) hu ho rfl
    rcases (Rc.round_mem _).1 hx with hx | ⟨z, _, hx⟩
    · exact ho x hx
    · exact gF_U es root l z x hx
theorem r3 : ∀ (m i : Nat) (o : List NM), m + i = root.length → o.length ≤ i → Up o → (∀ x ∈ o, x ∈ unionU es root l) → addAll ((root.drop i).map (·.1)) o = addAll (root.map (·.1)) [] →
    AWP Tryz.prog 75 0 c18_3 [(1, slN root), (2, slK l), (3, .ptr 0 0), (7, slL o), (8, .int .i64 i)] [.cells (encXd d)] (q18_2 0 (PA (slL (neededM es root l)))) := by
  intro m
  induction m with
  | zero =>
    intro i o hm hoi hu ho h
    rw [List.drop_eq_nil_of_le (by omega)] at h
    have h : o = _ := h
    refine v18_3 _ _ _ _ _ _ _ (condD (fun hlt => by omega) fun _ => v18_6 _ _ _ _ _ ?_)
    refine r7 hx hg hd hdl hl hr hc (l.length + 1) 0 o (by omega) hu ho ?_
    unfold neededM
    rw [h, needed_one (gF es l) (root := root.map (·.1)) (P := l.map (·.1)) (fun x hx => ?_) (U := unionU es root l) (fun x hx => List.mem_append_left _ hx) (gF_U es root l) (f := (unionU es root l).length + 1) (by omega), List.length_map]
    unfold gF
    rw [if_neg fun hp => hx (List.mem_map.2 ⟨_, getP_mem hp, rfl⟩)]
  | succ m ih =>
    intro i o hm hoi hu ho h
    have hmem := memD root ([], []) i (by omega)
    rw [dropD root ([], []) i (by omega), List.map_cons, addAll_cons] at h
    refine v18_3 _ _ _ _ _ _ _ (condD (fun hlt => needJ ⟨by omega, by omega⟩ ?_) fun hlt => by omega)
    rw [Int.toNat_natCast, succ64 (by omega)]
    generalize root.getD i ([], []) = y at h hmem ⊢
    have hl := addM_len y.1 o
    refine ASpec.call (add_spec o y.1 (by omega) _) (Les.refl _) ⟨_, rfl, rfl, ih (i + 1) _ (by omega) (by omega) (addM_up hu) (fun x hx => ?_) h⟩
    rcases Pl.addM_mem.1 hx with rfl | hx
    · exact List.mem_append_left _ (List.mem_map.2 ⟨_, hmem, rfl⟩)
    · exact ho x hx
theorem needed_spec (H : List AObj) : ASpec Tryz.prog 18 [agK d, slN root, slK l] H (fun r H' => r = slL (neededM es root l) ∧ H' = H) := by
  have k : ASpec Tryz.prog 18 [agK d, slN root, slK l] [] (fun r H' => r = slL (neededM es root l) ∧ H' = []) := by
    refine ASpec.sel (s18 d root l _ ?_)
    exact AWP.spell [(1, slN root), (2, slK l), (3, .ptr 0 0), (7, slL []), (8, .int .i64 (0 : Nat))] ⟨rfl, Le.refl _, rfl, Le.refl _, rfl, Le.refl _, rfl, nilL, rfl, Le.refl _, trivial⟩
      (r3 hx hg hd hdl hl hr hc root.length 0 [] (by omega) (by simp) List.Pairwise.nil (fun x hx => by cases hx) rfl)
  exact ASpec.pureH H k _ _ rfl rfl
end
end Fd
end

section
/- What is wrong, by the document. -/

set_option linter.unusedVariables false
set_option linter.unusedSimpArgs false
set_option linter.unusedSectionVars false
set_option maxRecDepth 100000
open Go Go.Ab Go.Proofs V S T C
namespace Fd
open W (sl1 slS slN slR leNone renN renS)
open X (hasI getM OkX mp_ren)
open Xd (getKd agK ofI ofKd RelX rel_get)
open Pc (slK slKLe UpK)
open Dk (chkF getP chk_up)
open E (PA pa)
open Rc (slL slLle nilLle slotsR selN sub_len up_nd roundF RS)
open Rr (add_spec addM_len nilL addAll_cons)
open Pl (Up addM addAll addAll_len addAll_up addAll_mem addM_up)
open Ft (Rise relOf metB NsOk OkG lackB unmetF firstK gF gF_U unionU U_len docN neededM needed_one getP_mem NM wrongM)
theorem up_needed (es : Kn) (root : List Need) (l : List Pk) : Up (neededM es root l) := by
  unfold neededM
  exact Rc.sort_strict (Ft.visit_spec (gF es l) (U := unionU es root l) (root := root.map (·.1)) (fun x hx => List.mem_append_left _ hx) (gF_U es root l) (f := (unionU es root l).length + 1) (by omega)).1
section
variable {es : Kn} {d : List Kd} (hx : OkX es) (hg : OkG es) (hd : RelX es d) (hdl : d.length ≤ 1000) {root : List Need} {l : List Pk} (hl : l.length ≤ 1000) (hr : root.length ≤ 1000) (hc : chkF none l = true) (hns : NsOk root)
include hx hg hd hdl hl hr hc hns
omit hr hns hx hd hdl hg in
theorem b8 {s : List Need} (hs : s.length ≤ 6) (hns : NsOk s) {R : Bool} : ∀ (m i : Nat), m + i = s.length → ((s.drop i).any fun n => !metB l n) = R →
    AWP Tryz.prog 61 0 c40_8 [(1, slK l), (15, slN s), (16, .int .i64 i)] [] (q40_3 0 (PA (.bool R))) := by
  intro m
  induction m with
  | zero =>
    intro i hm h
    rw [List.drop_eq_nil_of_le (by omega)] at h
    have h : false = R := h
    subst h
    exact v40_8 _ _ _ _ _ (condD (fun hlt => by omega) fun _ => pa (Le.refl _))
  | succ m ih =>
    intro i hm h
    have hmem := memD s ([], []) i (by omega)
    rw [dropD s ([], []) i (by omega), List.any_cons] at h
    refine v40_8 _ _ _ _ _ (condD (fun hlt => needJ ⟨by omega, by omega⟩ ?_) fun hlt => by omega)
    rw [Int.toNat_natCast, succ64 (by omega)]
    generalize s.getD i ([], []) = y at h hmem ⊢
    refine ASpec.call (met_spec l y hl (hns y hmem).2 _) (Les.refl _) ⟨_, rfl, rfl, ?_⟩
    rw [met_eq hc]
    refine condBn (fun hn => ?_) fun hn => ?_
    · rw [hn] at h
      have h : true = R := by simpa using h
      subst h
      exact pa (Le.refl _)
    · rw [hn] at h
      exact ih (i + 1) (by omega) (by simpa using h)
omit hr hns in
theorem broken3_spec (p : Pk) (q : List NM) (H : List AObj) : ASpec Tryz.prog 40 [agK d, slK l, .agg (encPk p), .int .i64 3, slL q] H (fun r H' => r = .bool (!(relOf es p).2) ∧ H' = H) := by
  have hrs := Ft.get_rise hg p.1
  have hn := Ft.get_okN hx p.1
  have k : ASpec Tryz.prog 40 [agK d, slK l, .agg (encPk p), .int .i64 3, slL q] [] (fun r H' => r = .bool (!(relOf es p).2) ∧ H' = []) := by
    refine ASpec.sel (s40 d l p 3 q _ (condE (fun _ => ?_) fun h => (h rfl).elim))
    refine ASpec.call (Xd.get_spec d p.1 (by unfold lim; omega) _) (Les.refl _) ⟨getKd d p.1, rfl, rfl, ?_⟩
    rw [rel_get hd]
    refine ASpec.call (rel_spec (X.getM es p.1).1 p.2 hn.1 _) (Les.refl _) ⟨relL (X.getM es p.1).1 p.2, rfl, rfl, ?_⟩
    rw [relL_eq hrs.1]
    exact pa (Le.refl _)
  exact ASpec.pureH H k _ _ rfl rfl
omit hr hns in
theorem broken4_spec (p : Pk) (q : List NM) (H : List AObj) : ASpec Tryz.prog 40 [agK d, slK l, .agg (encPk p), .int .i64 4, slL q] H (fun r H' => r = .bool (lackB es l p) ∧ H' = H) := by
  have k : ASpec Tryz.prog 40 [agK d, slK l, .agg (encPk p), .int .i64 4, slL q] [] (fun r H' => r = .bool (lackB es l p) ∧ H' = []) := by
    refine ASpec.sel (s40 d l p 4 q _ (condE (fun h => by cases h) fun _ => condE (fun _ => ?_) fun h => (h rfl).elim))
    refine ASpec.call (needs_spec hx hg hd hdl p _) (Les.refl _) ⟨_, rfl, rfl, ?_⟩
    have h6 := Ft.rel_needs hg p
    refine AWP.shape [] [(1, slK l), (15, slN (relOf es p).1.2), (16, .int .i64 (0 : Nat))] [] Sel.none (by exact slotsR rfl) (b8 hl hc h6.2 h6.1 (relOf es p).1.2.length 0 (by omega) rfl)
  exact ASpec.pureH H k _ _ rfl rfl
omit hr hns hx hg hd hdl in
theorem broken5_spec (p : Pk) (q : List NM) (hq : Up q) (hql : q.length ≤ 100000) (H : List AObj) : ASpec Tryz.prog 40 [agK d, slK l, .agg (encPk p), .int .i64 5, slL q] H (fun r H' => r = .bool (!decide (p.1 ∈ q)) ∧ H' = H) := by
  have k : ASpec Tryz.prog 40 [agK d, slK l, .agg (encPk p), .int .i64 5, slL q] [] (fun r H' => r = .bool (!decide (p.1 ∈ q)) ∧ H' = []) := by
    refine ASpec.sel (s40 d l p 5 q _ (condE (fun h => by cases h) fun _ => condE (fun h => by cases h) fun _ => ?_))
    refine ASpec.call (add_spec q p.1 (by omega) _) (Les.refl _) ⟨_, rfl, rfl, ?_⟩
    have e : ((((addM p.1 q).length : Nat) : Int) != ((q.length : Nat) : Int)) = !decide (p.1 ∈ q) := by
      have := Rc.add_in (x := p.1) hq
      by_cases h : p.1 ∈ q
      · rw [this.2 h]; simp [h]
      · have h2 : ¬ (addM p.1 q).length = q.length := fun e => h (this.1 e)
        have h3 : ¬ (((addM p.1 q).length : Nat) : Int) = ((q.length : Nat) : Int) := by omega
        rw [show (((((addM p.1 q).length : Nat) : Int) != ((q.length : Nat) : Int))) = true from bne_iff_ne.2 h3]
        simp [h]
    rw [e]
    exact pa (Le.refl _)
  exact ASpec.pureH H k _ _ rfl rfl

omit hx hg hd hdl hr hc hns in
theorem w13 {q : List NM} {rule : Int} {f : Pk → Bool} {Post : AV → List AObj → Prop} (hf : ∀ p, ASpec Tryz.prog 40 [agK d, slK l, .agg (encPk p), .int .i64 rule, slL q] [.cells (encXd d)] (fun r H' => r = .bool (f p) ∧ H' = [.cells (encXd d)])) (hru : 0 ≤ rule ∧ rule ≤ 5)
    (hit : (firstK f l).2 = true → Post (.tup [.int .i64 rule, .str (B (firstK f l).1)]) [.cells (encXd d)])
    (key : (firstK f l).2 = false → AWP Tryz.prog 62 0 c13_10 [(2, slK l), (3, .ptr 0 0), (9, slL q), (10, .int .i64 (rule + 1))] [.cells (encXd d)] (q13_4 0 Post)) : ∀ (m i : Nat), m + i = l.length → firstK f (l.drop i) = firstK f l →
    AWP Tryz.prog 62 0 c13_13 [(2, slK l), (3, .ptr 0 0), (9, slL q), (10, .int .i64 rule), (11, .int .i64 i)] [.cells (encXd d)] (q13_8 0 Post) := by
  intro m
  induction m with
  | zero =>
    intro i hm h
    rw [List.drop_eq_nil_of_le (by omega)] at h
    refine v13_13 _ _ _ _ _ _ _ (condD (fun hlt => by omega) fun _ => ?_)
    rw [wrap64 (by omega) (by omega)]
    exact key (by rw [← h]; rfl)
  | succ m ih =>
    intro i hm h
    rw [dropD l noPk i (by omega)] at h
    refine v13_13 _ _ _ _ _ _ _ (condD (fun hlt => needJ ⟨by omega, by omega⟩ ?_) fun hlt => by omega)
    rw [Int.toNat_natCast, succ64 (by omega)]
    generalize l.getD i noPk = y at h ⊢
    refine ASpec.call (hf y) (Les.refl _) ⟨_, rfl, rfl, condB (fun hn => needJ ⟨by omega, by omega⟩ ⟨⟨rfl, rfl⟩, ?_⟩) fun hn => ih (i + 1) (by omega) ?_⟩
    · have e : firstK f l = (y.1, true) := by rw [← h]; simp only [firstK, List.find?_cons, hn]
      have := hit (by rw [e])
      rw [e] at this
      exact this
    · rw [← h]; simp only [firstK, List.find?_cons, hn]
omit hx hg hd hdl in
theorem w4 {R : Int × NM} (h0 : (unmetF l root).2 = true → R = (2, (unmetF l root).1))
    (key : (unmetF l root).2 = false → AWP Tryz.prog 62 0 c13_8 [(1, slN root), (2, slK l), (3, .ptr 0 0)] [.cells (encXd d)] (q13_0 0 (PA (.tup [.int .i64 R.1, .str (B R.2)])))) : ∀ (m i : Nat), m + i = root.length → unmetF l (root.drop i) = unmetF l root →
    AWP Tryz.prog 62 0 c13_4 [(1, slN root), (2, slK l), (3, .ptr 0 0), (8, .int .i64 i)] [.cells (encXd d)] (q13_2 0 (PA (.tup [.int .i64 R.1, .str (B R.2)]))) := by
  intro m
  induction m with
  | zero =>
    intro i hm h
    rw [List.drop_eq_nil_of_le (by omega)] at h
    exact v13_4 _ _ _ _ _ _ (condD (fun hlt => by omega) fun _ => key (by rw [← h]; rfl))
  | succ m ih =>
    intro i hm h
    have hmem := memD root ([], []) i (by omega)
    rw [dropD root ([], []) i (by omega)] at h
    refine v13_4 _ _ _ _ _ _ (condD (fun hlt => needJ ⟨by omega, by omega⟩ ?_) fun hlt => by omega)
    rw [Int.toNat_natCast, succ64 (by omega)]
    generalize root.getD i ([], []) = y at h hmem ⊢
    refine ASpec.call (met_spec l y hl (hns y hmem).2 _) (Les.refl _) ⟨_, rfl, rfl, ?_⟩
    rw [met_eq hc]
    refine condBn (fun hn => needJ ⟨by omega, by omega⟩ ⟨⟨rfl, rfl⟩, ?_⟩) fun hn => ih (i + 1) (by omega) ?_
    · have e : unmetF l root = (y.1, true) := by rw [← h]; simp only [unmetF, hn, if_true]
      rw [h0 (by rw [e]), e]
      exact pa (Le.refl _)
    · rw [← h]; simp only [unmetF, hn, Bool.true_eq_false, if_false]
theorem wrong1 : AWP Tryz.prog 62 0 c13_4 [(1, slN root), (2, slK l), (3, .ptr 0 0), (8, .int .i64 (0 : Nat))] [.cells (encXd d)] (q13_2 0 (PA (.tup [.int .i64 (wrongM es root l).1, .str (B (wrongM es root l).2)]))) := by
  have hcf : ¬ chkF none l = false := by rw [hc]; simp
  refine w4 hl hr hc hns (fun h => by unfold wrongM; rw [if_neg hcf, if_pos h]) (fun h2 => ?_) root.length 0 (by omega) rfl
  have h2' : ¬ (unmetF l root).2 = true := by rw [h2]; simp
  refine v13_8 _ _ _ _ _ (ASpec.call (needed_spec hx hg hd hdl hl hr hc _) (Les.refl _) ⟨_, rfl, rfl, ?_⟩)
  have hup := up_needed es root l
  have hlen := Ft.needed_len hx hg hl hr (root := root) (l := l)
  refine v13_10 _ _ _ _ _ _ (condD (fun _ => ?_) fun h => by omega)
  refine w13 (f := fun p => !(relOf es p).2) hl (fun p => broken3_spec hx hg hd hdl hl hc p _ _) (by omega) (fun h => ?_) (fun h3 => ?_) l.length 0 (by omega) rfl
  · rw [show wrongM es root l = (3, (firstK (fun p => !(relOf es p).2) l).1) from by unfold wrongM; rw [if_neg hcf, if_neg h2', if_pos h]]
    exact pa (Le.refl _)
  have h3' : ¬ (firstK (fun p => !(relOf es p).2) l).2 = true := by rw [h3]; simp
  refine v13_10 _ _ _ _ _ _ (condD (fun _ => ?_) fun h => by omega)
  refine w13 (f := lackB es l) hl (fun p => broken4_spec hx hg hd hdl hl hc p _ _) (by omega) (fun h => ?_) (fun h4 => ?_) l.length 0 (by omega) rfl
  · rw [show wrongM es root l = (4, (firstK (lackB es l) l).1) from by unfold wrongM; rw [if_neg hcf, if_neg h2', if_neg h3', if_pos h]]
    exact pa (Le.refl _)
  have h4' : ¬ (firstK (lackB es l) l).2 = true := by rw [h4]; simp
  refine v13_10 _ _ _ _ _ _ (condD (fun _ => ?_) fun h => by omega)
  refine w13 (f := fun p => !decide (p.1 ∈ neededM es root l)) hl (fun p => broken5_spec hl hc p _ hup (by omega) _) (by omega) (fun h => ?_) (fun h5 => ?_) l.length 0 (by omega) rfl
  · rw [show wrongM es root l = (5, (firstK (fun p => !decide (p.1 ∈ neededM es root l)) l).1) from by unfold wrongM; rw [if_neg hcf, if_neg h2', if_neg h3', if_neg h4', if_pos h]]
    exact pa (Le.refl _)
  have h5' : ¬ (firstK (fun p => !decide (p.1 ∈ neededM es root l)) l).2 = true := by rw [h5]; simp
  refine v13_10 _ _ _ _ _ _ (condD (fun h => by omega) fun _ => ?_)
  rw [show wrongM es root l = (0, []) from by unfold wrongM; rw [if_neg hcf, if_neg h2', if_neg h3', if_neg h4', if_neg h5']]
  exact pa (Le.refl _)
end
theorem wrong_spec {es : Kn} {d : List Kd} (hx : OkX es) (hg : OkG es) (hd : RelX es d) (hdl : d.length ≤ 1000) {root : List Need} {l : List Pk} (hl : l.length ≤ 1000) (hp : ∀ p ∈ l, p.1.length ≤ 1000) (hr : root.length ≤ 1000) (hns : NsOk root) (H : List AObj) :
    ASpec Tryz.prog 13 [agK d, slN root, slK l] H (fun r H' => r = .tup [.int .i64 (wrongM es root l).1, .str (B (wrongM es root l).2)] ∧ H' = H) := by
  have k : ASpec Tryz.prog 13 [agK d, slN root, slK l] [] (fun r H' => r = .tup [.int .i64 (wrongM es root l).1, .str (B (wrongM es root l).2)] ∧ H' = []) := by
    refine ASpec.sel (s13 d root l _ (ASpec.call (Dk.rchk_spec (s := l) (by omega) (fun p h => by have := hp p h; omega) _) (Les.refl _) ⟨_, rfl, rfl, condBn (fun h => ?_) fun h => ?_⟩))
    · rw [show wrongM es root l = (1, []) from by unfold wrongM; rw [if_pos h]]
      exact pa (Le.refl _)
    · exact wrong1 hx hg hd hdl hl hr h hns
  exact ASpec.pureH H k _ _ rfl rfl
end Fd
end

section
/- The law FitGrows: it returns true. -/

set_option linter.unusedVariables false
set_option linter.unusedSimpArgs false
set_option linter.unusedSectionVars false
set_option maxRecDepth 100000
open Go Go.Ab Go.Proofs V S T C
namespace Ft
open W (sl1 slS slN slR leNone renN renS)
open X (hasI getM putI OkX okX_nil okX_put mp_ren largeD_spec largeD_ok)
open Xd (ofI slE smE)
open Pc (slK slKLe UpK)
open Dk (chkF getP largeK_ok)
open E (PA pa)
open Rc (RS slL More)
open Rr (okX_of)
open Sp (hasS)
theorem okG_of : ∀ (e : List Ent) (es : Kn), OkG es → OkG (ofI e es)
  | [], _, h => h
  | x :: e, es, h => okG_of e _ (okG_put h)

/-! ### the example -/
abbrev rootA : List Need := [([97], [(0, 9)])]
abbrev bodyA : List UInt8 := [1, 97, 1, 5, 0]
abbrev esA : Kn := [(B [97], some ([97], [(5, [])]))]
theorem putA : putI [] [97] bodyA = (0, esA) := by
  have h1 : fitM [97] = true := by decide +kernel
  have h2 : X.readK [97] bodyA = some ([97], [(5, [])]) := by
    have e1 : (W.readM bodyA).2 = 0 := by decide +kernel
    have e2 : (W.readM bodyA).1 = ([97], [(5, [])]) := by kernel_rfl
    unfold X.readK
    rw [if_neg (by rw [e1, e2]; simp), e2]
  rw [putI, if_neg (by rw [h1]; simp), if_neg (by simp [hasI, findM]), h2]; rfl
theorem okA : OkX esA := by rw [show esA = (putI [] [97] bodyA).2 from by rw [putA]]; exact okX_put okX_nil
theorem okGA : OkG esA := by rw [show esA = (putI [] [97] bodyA).2 from by rw [putA]]; exact okG_put okG_nil
theorem nsA : NsOk rootA := fun n hn => by
  simp at hn
  subst hn
  exact ⟨by decide +kernel, by show chkS (-1) [(0, 9)] = true; decide⟩
theorem wrongA : wrongM esA rootA [] = (2, [97]) := by
  have h1 : chkF none [] = true := rfl
  have h2 : metB [] ([97], [(0, 9)]) = false := by unfold metB getP; simp
  unfold wrongM
  rw [if_neg (by rw [h1]; simp)]
  simp only [unmetF, if_pos h2, if_true]
theorem fitA : fitM [97] = true := by decide +kernel
theorem getPA : getP [([97], 5)] [97] = (5, true) := by
  have h : Pc.placeM [([97], 5)] [97] = 0 := by decide
  unfold getP
  rw [h]; simp
theorem relA : relOf esA ([97], 5) = ((5, []), true) := by
  have h : (getM esA [97]).1 = ([97], [(5, [])]) := by unfold getM; simp [findM]
  unfold relOf
  rw [h]
  simp [relM, lowR]
theorem solA : solB esA rootA [([97], 5)] = true := by
  rw [sol_iff]
  refine ⟨?_, fun n hn => ?_, fun p hp => ?_, fun p hp => ?_, fun p hp => ?_⟩
  · have hf : Dk.fitP ([97], 5) = true := by unfold Dk.fitP; rw [fitA]; decide
    simp only [Dk.chkF, hf, Bool.true_eq_false, if_false]
  · simp at hn; subst hn
    unfold metB
    rw [getPA]; decide
  · simp at hp; subst hp; rw [relA]
  · simp at hp; subst hp
    unfold lackB
    rw [relA]; rfl
  · simp at hp; subst hp
    rw [needed_iff]
    exact .base (by simp)
theorem awake_spec (H : List AObj) : ASpec Tryz.prog 9 [] H (fun r H' => r = .bool true ∧ H' = H) := by
  have k : ASpec Tryz.prog 9 [] [] (fun r H' => r = .bool true ∧ H' = []) := by
    refine ASpec.sel (s9 _ (ASpec.call (X.new_spec []) (Les.refl _) ⟨(), rfl, rfl, ?_⟩))
    refine ASpec.call (X.put_spec [] [97] bodyA (by unfold lim; simp) _ 0 1 (by omega) rfl rfl) ⟨Le.refl _, Le.refl _, Le.sl rfl (.inl rfl) (.inl rfl), trivial⟩ ⟨putI [] [97] bodyA, rfl, rfl, ?_⟩
    rw [putA]
    have hroot : Le (.sl 2 (.raw [[.str (B [97]), .sl 2 (.raw [[.int .i64 0, .int .i64 9]]) .full]]) .full) (slN rootA) :=
      Le.slE rfl (fun i h h' => by
        match i, h with
        | 0, _ => exact ⟨Le.refl _, Le.sl rfl (.inl rfl) (.inr rfl), trivial⟩) (.inr rfl)
    have hnil : Le (.sl 0 (.raw []) .nil) (slK []) := Le.sl rfl (.inr ⟨rfl, fun _ h => by cases h⟩) (.inr rfl)
    have hone : Le (.sl 2 (.raw [[.str (B [97]), .int .i64 5]]) .full) (slK [([97], 5)]) := Le.sl rfl (.inl rfl) (.inr rfl)
    refine ASpec.call (wrong_at okA okGA (root := rootA) (l := []) (by simp) (by simp) (by simp) nsA _ 0 1 (by omega) rfl rfl) ⟨Le.refl _, hroot, hnil, trivial⟩ ⟨((wrongM esA rootA []).1, B (wrongM esA rootA []).2), rfl, rfl, ?_⟩
    rw [wrongA]
    refine condE (fun _ => ?_) fun h => (h rfl).elim
    refine ASpec.call (sol_at okA okGA (root := rootA) (l := [([97], 5)]) (by simp) (by simp) (by simp) nsA _ 0 1 (by omega) rfl rfl) ⟨Le.refl _, hroot, hone, trivial⟩ ⟨_, rfl, rfl, ?_⟩
    rw [solA]
    refine condB (fun _ => condE (fun _ => pa ?_) fun h => (h rfl).elim) fun h => by cases h
    show Le (AV.bool ((B [97]).toList == (B [97]).toList)) _
    rw [B_toList]; exact Le.refl _
  exact ASpec.pureH H k _ _ rfl rfl

/-! ### the law -/
section
variable {c : Ch} {es : Kn} (hx : OkX es) (hg : OkG es) (hl : c.2.length ≤ 60) (hp : ∀ p ∈ c.2, p.1.length ≤ 200) (hr : c.1.length ≤ 40) (hns : NsOk c.1) (hs : Sol es c.1 c.2)
include hx hg hl hp hr hns hs
end
end Ft
end

section
/- The law FitTells: it returns true. -/

set_option linter.unusedVariables false
set_option linter.unusedSimpArgs false
set_option linter.unusedSectionVars false
set_option maxRecDepth 100000
open Go Go.Ab Go.Proofs V S T C
namespace Fd
open W (sl1 slS slN slR leNone renN renS)
open X (hasI getM OkX okX_nil mp_ren largeD_spec largeD_ok)
open Xd (getKd agK ofI ofKd RelX rel0 rel_get slE smE)
open Pc (slK slKLe UpK)
open Dk (chkF getP chk_up largeK_ok)
open E (PA pa)
open Rc (slL slLle nilLle slotsR selN)
open Rr (okX_of rel_of ofKd_len)
open Ft (NsOk OkG okG_nil okG_of ns_of metB neededM NM wrongM solB awake_spec sol_at wrong_at needed_at)
theorem wake (H : List AObj) : ASpec Tryz.prog 9 [] H (fun r H' => ∃ x : Unit, r = .bool true ∧ H' = H ∧ PB true (.bool true) H) := ASpec.call (awake_spec _) (Les.refl _) ⟨(), rfl, rfl, pb rfl⟩
section
variable {es : Kn} {d : List Kd} (hx : OkX es) (hg : OkG es) (hd : RelX es d) (hdl : d.length ≤ 1000) {root : List Need} {l : List Pk} (hl : l.length ≤ 1000) (hp : ∀ p ∈ l, p.1.length ≤ 1000) (hr : root.length ≤ 1000) (hns : NsOk root)
include hx hg hd hdl hl hp hr hns
theorem l9 : AWP Tryz.prog 81 0 c3_9 [(1, slN root), (2, slK l), (7, .ptr 1 0), (8, .ptr 2 0)] (HX es ++ [.cells (encXd d)]) (q3_0 0 (PB true)) := by
  refine v3_9 d root l es _ _ (ASpec.call (Dk.rchk_spec (s := l) (by omega) (fun p h => by have := hp p h; omega) _) (Les.refl _) ⟨_, rfl, rfl, condBn (fun _ => ⟨rfl, wake _⟩) fun hc => ?_⟩)
  have hlen := Ft.needed_len hx hg hl hr (root := root) (l := l)
  refine ASpec.call (needed_at hx hg hl hr _ 0 1 (by omega) rfl rfl) (Les.refl _) ⟨_, rfl, rfl, ?_⟩
  repeat refine ⟨⟨rfl, rfl⟩, ?_⟩
  refine ASpec.call (needed_spec hx hg hd hdl hl hr hc _) (Les.refl _) ⟨_, rfl, rfl, ?_⟩
  refine ASpec.call (Dp.names_spec _ _ (by unfold lim; omega) _) (Les.refl _) ⟨_, rfl, rfl, condB (fun _ => wake _) fun h => by simp at h⟩
theorem l5 : AWP Tryz.prog 81 0 c3_5 [(1, slN root), (2, slK l), (7, .ptr 1 0), (8, .ptr 2 0)] (HX es ++ [.cells (encXd d)]) (q3_0 0 (PB true)) := by
  refine v3_5 d root l es _ _ (ASpec.call (wrong_at hx hg hl hr hp hns _ 0 1 (by omega) rfl rfl) (Les.refl _) ⟨((wrongM es root l).1, B (wrongM es root l).2), rfl, rfl, ?_⟩)
  refine ASpec.call (wrong_spec hx hg hd hdl hl hp hr hns _) (Les.refl _) ⟨((wrongM es root l).1, B (wrongM es root l).2), rfl, rfl, ?_⟩
  refine condNe (fun h => (h rfl).elim) fun _ => condB (fun h => by simp at h) fun _ => ?_
  refine ASpec.call (sol_at hx hg hl hr hp hns _ 0 1 (by omega) rfl rfl) (Les.refl _) ⟨_, rfl, rfl, condB (fun h => ?_) fun _ => l9 hx hg hd hdl hl hp hr hns⟩
  unfold solB at h
  by_cases e : (wrongM es root l).1 = 0
  · rw [e] at h; simp at h
  · simp [e] at h
end
theorem fitTells_spec (e : List Ent) (root : List Need) (l : List Pk) : ASpec Tryz.prog 3 [slE e, slN root, slK l] [] (fun r H' => r = .bool true ∧ H' = []) := by
  refine ASpec.sel (s3 e root l (PB true) (ASpec.call (largeD_spec e _) (Les.refl _) ⟨_, rfl, rfl, condB (fun _ => wake _) fun h1 => ?_⟩))
  refine ASpec.call (largeN_spec root _) (Les.refl _) ⟨_, rfl, rfl, condB (fun _ => wake _) fun h3 => ?_⟩
  have he := largeD_ok h1
  have h30 := he.1
  have hr : root.length ≤ 40 := by
    unfold largeN at h3
    split at h3
    · cases h3
    · omega
  refine ASpec.call (rneedCheck_spec root (largeN_ok h3) _) (Les.refl _) ⟨_, rfl, rfl, condBn (fun _ => wake _) fun hc => ?_⟩
  have hns := (ns_of hc).1
  refine ASpec.call (Dk.large_spec l _) (Les.refl _) ⟨_, rfl, rfl, condB (fun _ => wake _) fun h4 => ?_⟩
  obtain ⟨hl, hp⟩ := largeK_ok h4
  have hsm : smE e := ⟨by omega, he.2⟩
  have hX := okX_of e [] okX_nil
  have hG := okG_of e [] okG_nil
  have hR := rel_of e [] [] rel0
  have hkl := ofKd_len e []
  simp only [List.length_nil] at hkl
  refine ASpec.call (Xd.xof_spec e hsm _) (Les.refl _) ⟨ofI e [], rfl, rfl, ?_⟩
  refine ASpec.call (Xd.of_spec e hsm _) (Les.refl _) ⟨ofKd e [], rfl, rfl, ?_⟩
  exact l5 hX hG hR (by omega) (by omega) (fun q hq => by have := hp q hq; omega) (by omega) hns
end Fd
end

section
/- A row's wrap that keeps the world's shape; the tables of a program that has internal/bytealg.MaxLen alone. -/

set_option linter.unusedVariables false
set_option linter.unusedSectionVars false
namespace Go.Ab
theorem tabsM {P : Program} {W : World} {g : Nat} {t : TypeId} (h1 : P.globalNamed "internal/strconv.uint64pow10" = none) (hM : P.globalNamed "internal/bytealg.MaxLen" = some g) (hg : g < P.globals.size)
    (h0 : ((begin P (fun _ _ => 0) default).world.heap[g]?).bind Obj.row? = some (#[.int .i64 0], t))
    (hb : P.buildable t = true) (hc : P.cellTypes P.depth t = some [t]) (hu : P.underlying t = some (.int .i64)) (hsh : W.ShapedOpen P) : Tabs P (mem0 W) W := by
  refine tabs0 (fun g' hg' => by rw [h1] at hg'; cases hg') fun g' hg' => ?_
  rw [hM] at hg'
  cases hg'
  obtain ⟨m, hm⟩ := Go.Proofs.cell_of_shapedOpen_int (g := g) (k := .i64) (zero := #[.int .i64 0]) (t := t) hsh hg h0 rfl hb hc hu
  obtain ⟨cs, hh, hs, _⟩ := hsh.1 g #[.int .i64 0] t hg h0
  have h1 : cs.size = 1 := hs
  have hm2 : cs[0]? = some (.int .i64 m) := by
    simp only [World.cell?, hh] at hm
    exact hm
  refine ⟨m, t, (0, 0), ?_⟩
  rw [hh]
  have : cs = #[.int .i64 m] := by
    apply Array.ext
    · simpa using h1
    · intro i h2 h3
      have : i = 0 := by omega
      subst this
      have := Array.getElem?_eq_getElem h2
      rw [hm2] at this
      simpa using this.symm
  rw [this]
theorem handed_shaped6 {H : Type} {enc : TypeId × Value → H} {a : Assume} {C : Checked} {os : Os} {f : FuncId} {fn : Func} {s : ChangeSpec} {conds : List PathCond} {apart fresh handsOn again : Bool}
    (own : ownKnob C.prog.godebug = none) (started : os.Started) (noInit : C.prog.inits.idxOf? f = none) (hfn : C.prog.funcs[f]? = some fn)
    (witness : ∃ (w : World) (tape : Tape) (i : Input), w.os = os ∧ (w.forCall tape i).Shaped C.prog ∧ i.vars = [] ∧ Input.okWide C.prog (w.forCall tape i) .any w.heap.size f i ∧
      s.pre6 enc C.prog fn conds apart (w.forCall tape i).memory i.args ∧ a.holds C.prog (lone (Frame.enter C.prog f i.args .normal) [] (w.forCall tape i)))
    (contract : ∀ (W : World) (base : Nat) (args : Array Value) (ds gs : List (DataW H)) (before : List MemPlace),
      (∀ (j : Nat) t v, fn.params[j]? = some t → args[j]? = some v → Value.okWide C.prog W .any base t v) →
      DataW.Whole enc C.prog fn.params.toList s.vars apart W args.toList ds gs before →
      conds.all (PathCond.test C.prog ⟨fn.params.toList, ds, s.plain.varTypes C.prog, gs⟩) = true →
      W.ShapedOpen C.prog →
      a.holds C.prog (lone (Frame.enter C.prog f args .normal) [] W) →
      Calls C.prog f args W fun e W' => ∃ v, e = .returned v ∧ s.post enc C.prog fn apart fresh handsOn again W args v W') :
    ReturnsInHanded a C os f .any (s.pre6 enc C.prog fn conds apart) (s.post enc C.prog fn apart fresh handsOn again) := by
  refine returnsInHanded_of_calls own started noInit witness ?_
  intro w tape i _ hsh _ hok hpre hholds
  obtain ⟨_, _, _, fn', hfn', _, _, _, _, hval⟩ := hok
  have e : fn' = fn := Option.some.inj (hfn'.symm.trans hfn)
  subst e
  obtain ⟨⟨ds, gs, before, hw, hc⟩, hz⟩ := hpre
  have hw' := DataW.Whole.of_heap (w' := w.forCall tape i) (by rfl) hw
  refine (contract (w.forCall tape i) w.heap.size i.args ds gs before hval hw' hc hsh hholds).mono fun e W' ⟨v, he, hp⟩ => ?_
  subst he
  exact ChangeSpec.post_blind hp
end Go.Ab
end
