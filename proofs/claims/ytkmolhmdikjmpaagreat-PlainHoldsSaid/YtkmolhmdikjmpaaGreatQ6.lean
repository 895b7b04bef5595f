/- own texts -/
import Derived.Shelf.SortM.Plain
import Derived.Shelf.SortM.SortNone
import Derived.Ground.SlgmProg
import Derived.Test.YtkmolhmdikjmpaaGreatProg
import Derived.Test.YtkmolhmdikjmpaaGreatA3
import Derived.Test.YtkmolhmdikjmpaaGreatQ4
import Derived.Test.YtkmolhmdikjmpaaGreatQ5
import Derived.Shelf.Lays
import Derived.Shelf.Small.Strs
set_option linter.unusedVariables false
set_option linter.unusedSimpArgs false
set_option linter.unusedSectionVars false
set_option maxRecDepth 100000
set_option maxHeartbeats 4000000
noncomputable section
namespace Go.Proofs
open Go.Shelf
def Tryz.mSort_ren : Go.Shelf.Ren := ⟨fun | 6 => 131 | 8 => 158 | 9 => 157 | 19 => 205 | 20 => 206 | 21 => 196 | 22 => 197 | 23 => 198 | 24 => 199 | 25 => 200 | 26 => 201 | 27 => 202 | 28 => 203 | 29 => 204 | 36 => 216 | 31 => 217 | 32 => 218 | 37 => 219 | 38 => 220 | 39 => 221 | 41 => 223 | n => n, fun | 27 => 87 | 29 => 9 | 3 => 3 | 32 => 221 | 26 => 87 | 0 => 0 | 44 => 259 | 46 => 261 | 4 => 4 | 36 => 252 | 35 => 251 | 41 => 147 | 5 => 5 | 9 => 9 | 53 => 268 | 57 => 272 | 63 => 274 | 64 => 204 | n => n, fun | n => n⟩
theorem Tryz.mSort : Go.Proofs.SlLaysM.n6 Tryz.prog Tryz.mSort_ren := {
  mixed := by kernel_rfl
  f6 := ⟨Tryz.f131.name, by decide, Tryz.func131.trans (congrArg some (by kernel_rfl))⟩
  f8 := Tryz.func158.trans (congrArg some (by kernel_rfl))
  f9 := ⟨Tryz.f157.name, by decide, Tryz.func157.trans (congrArg some (by kernel_rfl))⟩
  f19 := Tryz.func205.trans (congrArg some (by kernel_rfl))
  f20 := Tryz.func206.trans (congrArg some (by kernel_rfl))
  f21 := ⟨Tryz.f196.name, by decide, Tryz.func196.trans (congrArg some (by kernel_rfl))⟩
  f22 := ⟨Tryz.f197.name, by decide, Tryz.func197.trans (congrArg some (by kernel_rfl))⟩
  f23 := ⟨Tryz.f198.name, by decide, Tryz.func198.trans (congrArg some (by kernel_rfl))⟩
  f24 := ⟨Tryz.f199.name, by decide, Tryz.func199.trans (congrArg some (by kernel_rfl))⟩
  f25 := ⟨Tryz.f200.name, by decide, Tryz.func200.trans (congrArg some (by kernel_rfl))⟩
  f26 := ⟨Tryz.f201.name, by decide, Tryz.func201.trans (congrArg some (by kernel_rfl))⟩
  f27 := ⟨Tryz.f202.name, by decide, Tryz.func202.trans (congrArg some (by kernel_rfl))⟩
  f28 := ⟨Tryz.f203.name, by decide, Tryz.func203.trans (congrArg some (by kernel_rfl))⟩
  f29 := ⟨Tryz.f204.name, by decide, Tryz.func204.trans (congrArg some (by kernel_rfl))⟩
  f31 := Tryz.func217.trans (congrArg some (by kernel_rfl))
  f32 := Tryz.func218.trans (congrArg some (by kernel_rfl))
  f36 := ⟨Tryz.f216.name, by decide, Tryz.func216.trans (congrArg some (by kernel_rfl))⟩
  f37 := ⟨Tryz.f219.name, by decide, Tryz.func219.trans (congrArg some (by kernel_rfl))⟩
  f38 := ⟨Tryz.f220.name, by decide, Tryz.func220.trans (congrArg some (by kernel_rfl))⟩
  f39 := ⟨Tryz.f221.name, by decide, Tryz.func221.trans (congrArg some (by kernel_rfl))⟩
  f41 := ⟨Tryz.f223.name, by decide, Tryz.func223.trans (congrArg some (by kernel_rfl))⟩
  t0 := Tryz.underlying0
  a0 := Tryz.isAgg0
  z0 := Tryz.sizeOf0
  v0 := Tryz.zeroValue0
  t3 := Tryz.underlying3
  a3 := Tryz.isAgg3
  z3 := Tryz.sizeOf3
  v3 := Tryz.zeroValue3
  t4 := Tryz.underlying4
  a4 := Tryz.isAgg4
  z4 := Tryz.sizeOf4
  v4 := Tryz.zeroValue4
  t5 := Tryz.underlying5
  a5 := Tryz.isAgg5
  z5 := Tryz.sizeOf5
  v5 := Tryz.zeroValue5
  t9 := Tryz.underlying9
  a9 := Tryz.isAgg9
  z9 := Tryz.sizeOf9
  v9 := Tryz.zeroValue9
  t26 := Tryz.underlying87
  a26 := Tryz.isAgg87
  z26 := Tryz.sizeOf87
  v26 := Tryz.zeroValue87
  t27 := Tryz.underlying87
  a27 := Tryz.isAgg87
  z27 := Tryz.sizeOf87
  v27 := Tryz.zeroValue87
  t29 := Tryz.underlying9
  a29 := Tryz.isAgg9
  z29 := Tryz.sizeOf9
  v29 := Tryz.zeroValue9
  t32 := Tryz.underlying221
  a32 := Tryz.isAgg221
  z32 := Tryz.sizeOf221
  v32 := Tryz.zeroValue221
  t35 := Tryz.underlying251
  a35 := Tryz.isAgg251
  z35 := Tryz.sizeOf251
  v35 := Tryz.zeroValue251
  t36 := Tryz.underlying252
  a36 := Tryz.isAgg252
  z36 := Tryz.sizeOf252
  v36 := Tryz.zeroValue252
  t41 := Tryz.underlying147
  a41 := Tryz.isAgg147
  z41 := Tryz.sizeOf147
  v41 := Tryz.zeroValue147
  t44 := Tryz.underlying259
  a44 := Tryz.isAgg259
  z44 := Tryz.sizeOf259
  v44 := Tryz.zeroValue259
  t46 := Tryz.underlying261
  a46 := Tryz.isAgg261
  z46 := Tryz.sizeOf261
  v46 := Tryz.zeroValue261
  t53 := Tryz.underlying268
  a53 := Tryz.isAgg268
  z53 := Tryz.sizeOf268
  v53 := Tryz.zeroValue268
  t57 := Tryz.underlying272
  a57 := Tryz.isAgg272
  z57 := Tryz.sizeOf272
  v57 := Tryz.zeroValue272
  t63 := Tryz.underlying274
  a63 := Tryz.isAgg274
  z63 := Tryz.sizeOf274
  v63 := Tryz.zeroValue274
  t64 := Tryz.underlying204
  a64 := Tryz.isAgg204
  z64 := Tryz.sizeOf204
  v64 := Tryz.zeroValue204 }
end Go.Proofs
end

noncomputable section
open Go Go.Ab Go.Proofs Go.Sort T
namespace So
def sortL (l : List (List UInt8)) : List (List UInt8) := l.mergeSort fun x y => decide (x ≤ y)
theorem sort_spec {H : List AObj} {id : Nat} {q : Seq} {l : List (List UInt8)} (hid : H[id]? = some (.arr 1 q)) (hq : q.toList = l.map encL) (hl : l.length < 4611686018427387904) :
  ASpec Tryz.prog 131 [.msl 1 id 0 l.length] H (fun r H' => r = .tup [] ∧ H' = H.set id (.arr 1 (.map encL [] (sortL l)))) := by
 refine ASpec.sorts (enc := encStr) (e1 := fun x => .str ⟨x.toArray⟩) (srt := sortL) (fun _ => rfl) (fun M w loc x v => ?_) (fun l => by simp [sortL]) (fun blk off cap ss w h1 h2 h3 => ?_) hid hq hl
 ·constructor
  ·intro h; cases h; rfl
  ·rintro rfl; exact .str _
 ·exact AnyM.slices_Sort_string Tryz.mSort blk off cap ss w h1 h2 h3
theorem sort_nil {H : List AObj} {z : Nat} {tip : Tip} : ASpec Tryz.prog 131 [.sl z (.raw []) tip] H (fun r H' => r = .tup [] ∧ H' = H) := by
 refine ASpec.of_calls fun M loc w vs ht hv => ?_
 obtain ⟨hs, hv⟩ := hv
 have hv0 := hv 0 (by simp)
 simp only [List.getElem_cons_zero] at hv0
 have hvs : vs = #[vs[0]'(by simp at hs; omega)] := by
  apply Array.ext
  ·simpa using hs
  ·intro i h1 h2
   have : i = 0 := by simp at h2; omega
   subst this; rfl
 generalize vs[0]'(by simp at hs; omega) = v0 at hv0 hvs
 subst hvs
 have key : ∀ p cap, Calls Tryz.prog 131 #[.slice p 0 cap] w fun e w' => ∃ v, e = .returned v ∧ VRel M w' loc (.tup []) v ∧ Grown w w' := fun p cap =>
  (AnyM.slices_Sort_string_none Tryz.mSort p cap w).mono fun e w' ⟨h1, h2⟩ => by
   subst h2
   exact ⟨_, h1, .tup _ _ rfl (fun i h => by simp at h), ⟨Nat.le_refl _, fun _ _ => rfl, rfl, rfl, rfl⟩⟩
 cases hv0 with
 | slnil => exact key none 0
 | slz => exact key _ 0
 | sl _ _ _ b o cap => exact key _ _
end So
end

noncomputable section
open Go Go.Ab Go.Proofs
namespace Pl
open Dp (less_iff less_trans less_irrefl less_tri)
abbrev Nm := List UInt8
def addM (x : Nm) : List Nm → List Nm
 | [] => [x]
 | y :: r => if (Op.bytesLess x y || x == y) = true then (if x = y then x :: r else x :: y :: r) else y :: addM x r
abbrev Up (l : List Nm) : Prop := l.Pairwise fun a b => a < b
theorem tri (a b : Nm) : a < b ∨ a = b ∨ b < a := by
 by_cases h : a = b
 ·exact .inr (.inl h)
 ·cases hx : Op.bytesLess a b with
  | true => exact .inl (less_iff.1 hx)
  | false => exact .inr (.inr (less_iff.1 (less_tri hx h)))
theorem ltT {a b c : Nm} (h : a < b) (k : b < c) : a < c := List.lt_trans h k
theorem ltI {a : Nm} (h : a < a) : False := List.lt_irrefl a h
theorem up_one : ∀ {a b : List Nm}, Up a → Up b → (∀ x, x ∈ a ↔ x ∈ b) → a = b
 | [], [], _, _, _ => rfl
 | [], y :: b, _, _, h => by have := (h y).2 (by simp); simp at this
 | x :: a, [], _, _, h => by have := (h x).1 (by simp); simp at this
 | x :: a, y :: b, ha, hb, h => by
  have ha' := List.pairwise_cons.1 ha
  have hb' := List.pairwise_cons.1 hb
  have e : x = y := by
   rcases List.mem_cons.1 ((h x).1 (by simp)) with e | m
   ·exact e
   ·rcases List.mem_cons.1 ((h y).2 (by simp)) with e | m2
    ·exact e.symm
    ·exact (ltI (ltT (hb'.1 x m) (ha'.1 y m2))).elim
  subst e
  rw [up_one ha'.2 hb'.2]
  intro z
  constructor
  ·intro hz
   rcases List.mem_cons.1 ((h z).1 (by simp [hz])) with e | m
   ·subst e; exact (ltI (ha'.1 z hz)).elim
   ·exact m
  ·intro hz
   rcases List.mem_cons.1 ((h z).2 (by simp [hz])) with e | m
   ·subst e; exact (ltI (hb'.1 z hz)).elim
   ·exact m
theorem addM_mem {x y : Nm} : ∀ {o : List Nm}, y ∈ addM x o ↔ y = x ∨ y ∈ o
 | [] => by simp [addM]
 | z :: r => by
  simp only [addM]
  split
  ·split
   ·rename_i e; subst e; simp
   ·simp
  ·have := addM_mem (x := x) (y := y) (o := r)
   simp only [List.mem_cons, this]
   constructor
   ·rintro (h | h | h) <;> simp [h]
   ·rintro (h | h | h) <;> simp [h]
theorem addM_up {x : Nm} : ∀ {o : List Nm}, Up o → Up (addM x o)
 | [], _ => by simp [addM, Up]
 | z :: r, h => by
  have h' := List.pairwise_cons.1 h
  simp only [addM]
  split
  ·rename_i hb
   split
   ·rename_i e; subst e; exact h
   ·rename_i hne
    have hl : x < z := by
     rw [Bool.or_eq_true] at hb
     rcases hb with hb | hb
     ·exact less_iff.1 hb
     ·exact (hne (beq_iff_eq.1 hb)).elim
    refine List.pairwise_cons.2 ⟨fun y hy => ?_, h⟩
    rcases List.mem_cons.1 hy with e | m
    ·subst e; exact hl
    ·exact ltT hl (h'.1 y m)
  ·rename_i hb
   rw [Bool.or_eq_true, not_or] at hb
   have hl : z < x := by
    rcases tri x z with h1 | h1 | h1
    ·exact (hb.1 (less_iff.2 h1)).elim
    ·exact (hb.2 (beq_iff_eq.2 h1)).elim
    ·exact h1
   refine List.pairwise_cons.2 ⟨fun y hy => ?_, addM_up h'.2⟩
   rcases addM_mem.1 hy with e | m
   ·subst e; exact hl
   ·exact h'.1 y m
def addAll (l : List Nm) (o : List Nm) : List Nm := l.foldl (fun o x => addM x o) o
theorem addAll_up : ∀ (l : List Nm) {o : List Nm}, Up o → Up (addAll l o)
 | [], _, h => h
 | x :: l, _, h => addAll_up l (addM_up h)
theorem addAll_mem : ∀ (l : List Nm) {o : List Nm} {y : Nm}, y ∈ addAll l o ↔ y ∈ l ∨ y ∈ o
 | [], o, y => by simp [addAll]
 | x :: l, o, y => by
  show y ∈ addAll l (addM x o) ↔ _
  rw [addAll_mem l, addM_mem, List.mem_cons]
  constructor
  ·rintro (h | h | h) <;> simp [h]
  ·rintro ((h | h) | h) <;> simp [h]
theorem sort_up (l : List Nm) : (So.sortL l).Pairwise fun a b => a ≤ b := by
 have h := List.pairwise_mergeSort (le := fun x y : Nm => decide (x ≤ y)) (fun a b c h1 h2 => ?_) (fun a b => ?_) l
 ·exact h.imp (fun h => of_decide_eq_true h)
 ·simp only [decide_eq_true_eq] at *
  intro h3
  rcases tri b c with h4 | h4 | h4
  ·exact h1 (ltT h4 h3)
  ·subst h4; exact h1 h3
  ·exact h2 h4
 ·simp only [Bool.or_eq_true, decide_eq_true_eq]
  rcases tri a b with h | h | h
  ·exact .inl (fun k => ltI (ltT h k))
  ·subst h; exact .inl (fun k => ltI k)
  ·exact .inr (fun k => ltI (ltT h k))
theorem sort_mem (l : List Nm) (x : Nm) : x ∈ So.sortL l ↔ x ∈ l := by simp [So.sortL]
theorem sort_len (l : List Nm) : (So.sortL l).length = l.length := by simp [So.sortL]
end Pl
end

noncomputable section
open Go Go.Ab Go.Proofs
namespace Rc
open Pl (Up up_one tri ltT ltI sort_up sort_mem sort_len addM addM_mem addM_up addAll addAll_up addAll_mem)
open So (sortL)
abbrev Nm := List UInt8
theorem sort_strict {a : List Nm} (hn : a.Nodup) : Up (sortL a) := by
 have h1 := sort_up a
 have h2 : (sortL a).Nodup := (List.mergeSort_perm _ _).nodup_iff.2 hn
 refine (List.Pairwise.and h1 h2).imp fun {a b} hab => ?_
 rcases tri a b with ht | ht | ht
 ·exact ht
 ·exact (hab.2 ht).elim
 ·exact (hab.1 ht).elim
theorem up_nd {a : List Nm} (h : Up a) : a.Nodup := h.imp fun {a b} hab e => by subst e; exact ltI hab
theorem sort_one {a b : List Nm} (hn : a.Nodup) (hu : Up b) (h : ∀ x, x ∈ a ↔ x ∈ b) : sortL a = b :=
 up_one (sort_strict hn) hu fun x => by rw [sort_mem]; exact h x
def noteM (s : Nm) (o : List Nm) : List Nm := if s ∈ o then o else o ++ [s]
def dedupF : List Nm → List Nm → List Nm
 | [], o => o
 | s :: r, o => dedupF r (noteM s o)
theorem note_mem {s x : Nm} {o : List Nm} : x ∈ noteM s o ↔ x = s ∨ x ∈ o := by
 unfold noteM
 split
 ·rename_i h
  constructor
  ·exact fun hx => .inr hx
  ·rintro (rfl | hx)
   ·exact h
   ·exact hx
 ·simp [or_comm]
theorem note_nd {s : Nm} {o : List Nm} (h : o.Nodup) : (noteM s o).Nodup := by
 unfold noteM
 split
 ·exact h
 ·rename_i hs
  rw [List.nodup_append]
  refine ⟨h, by simp, fun a ha b hb => ?_⟩
  simp at hb; subst hb
  rintro rfl
  exact hs ha
theorem note_len {s : Nm} {o : List Nm} : (noteM s o).length ≤ o.length + 1 := by
 unfold noteM; split <;> simp
theorem dedup_mem : ∀ {l o : List Nm} {x : Nm}, x ∈ dedupF l o ↔ x ∈ l ∨ x ∈ o
 | [], o, x => by simp [dedupF]
 | s :: r, o, x => by
  simp only [dedupF]
  rw [dedup_mem, note_mem, List.mem_cons]
  constructor
  ·rintro (h | h | h) <;> simp [h]
  ·rintro ((h | h) | h) <;> simp [h]
theorem dedup_nd : ∀ {l o : List Nm}, o.Nodup → (dedupF l o).Nodup
 | [], _, h => h
 | s :: r, o, h => by
  simp only [dedupF]
  exact dedup_nd (note_nd h)
theorem dedup_len : ∀ {l o : List Nm}, (dedupF l o).length ≤ l.length + o.length
 | [], o => by simp [dedupF]
 | s :: r, o => by
  have h1 := dedup_len (l := r) (o := noteM s o)
  have h2 := note_len (s := s) (o := o)
  simp only [dedupF, List.length_cons]; omega
def allN (m : T.Mani) : List Nm := m.2.flatMap fun r => r.2.map (·.1)
def mnM (m : T.Mani) : List Nm := addAll (allN m) []
theorem names_one (m : T.Mani) : sortL (dedupF (allN m) []) = mnM m :=
 sort_one (dedup_nd List.nodup_nil) (addAll_up _ List.Pairwise.nil) fun x => by rw [dedup_mem, mnM, addAll_mem]
theorem sub_len : ∀ {a b : List Nm}, a.Nodup → (∀ x ∈ a, x ∈ b) → a.length ≤ b.length
 | [], b, _, _ => Nat.zero_le _
 | x :: r, b, hn, h => by
  have hn' := List.nodup_cons.1 hn
  have hx := h x (by simp)
  have h1 := sub_len (a := r) (b := b.erase x) hn'.2 fun y hy => (List.mem_erase_of_ne (fun e => by subst e; exact hn'.1 hy)).2 (h y (by simp [hy]))
  have h2 := List.length_erase_of_mem hx
  have h3 := List.length_pos_of_mem hx
  simp only [List.length_cons]; omega
theorem sub_eq {a b : List Nm} (hn : a.Nodup) (h : ∀ x ∈ a, x ∈ b) (hl : b.length ≤ a.length) : ∀ y ∈ b, y ∈ a := by
 intro y hy
 refine Classical.byContradiction fun hya => ?_
 have := sub_len (a := y :: a) (b := b) (List.nodup_cons.2 ⟨hya, hn⟩) fun x hx => by
  rcases List.mem_cons.1 hx with rfl | hx
  ·exact hy
  ·exact h x hx
 simp at this; omega
section
variable (g : Nm → List Nm)
inductive RS (root : List Nm) : Nm → Prop
 | base {x : Nm} : x ∈ root → RS root x
 | step {x y : Nm} : RS root x → y ∈ g x → RS root y
theorem rs_least {root : List Nm} {o : List Nm} (h1 : ∀ x ∈ root, x ∈ o) (h2 : ∀ x ∈ o, ∀ y ∈ g x, y ∈ o) {x : Nm} (h : RS g root x) : x ∈ o := by
 induction h with
 | base h => exact h1 _ h
 | step _ hy ih => exact h2 _ ih _ hy
theorem rs_bound {root U : List Nm} (h1 : ∀ x ∈ root, x ∈ U) (h2 : ∀ x, ∀ y ∈ g x, y ∈ U) {x : Nm} (h : RS g root x) : x ∈ U := by
 cases h with
 | base h => exact h1 _ h
 | step _ hy => exact h2 _ _ hy
def roundF : List Nm → List Nm → List Nm
 | [], o => o
 | x :: l, o => roundF l (addAll (g x) o)
def refN : Nat → List Nm → List Nm
 | 0, o => o
 | f + 1, o => if (roundF g o o).length = o.length then roundF g o o else refN f (roundF g o o)
theorem round_mem : ∀ {l o : List Nm} {y : Nm}, y ∈ roundF g l o ↔ y ∈ o ∨ ∃ x ∈ l, y ∈ g x
 | [], o, y => by simp [roundF]
 | x :: l, o, y => by
  simp only [roundF]
  rw [round_mem, addAll_mem]
  constructor
  ·rintro ((h | h) | ⟨z, hz, h⟩)
   ·exact .inr ⟨x, by simp, h⟩
   ·exact .inl h
   ·exact .inr ⟨z, by simp [hz], h⟩
  ·rintro (h | ⟨z, hz, h⟩)
   ·exact .inl (.inr h)
   ·rcases List.mem_cons.1 hz with rfl | hz
    ·exact .inl (.inl h)
    ·exact .inr ⟨z, hz, h⟩
theorem round_up : ∀ {l o : List Nm}, Up o → Up (roundF g l o)
 | [], _, h => h
 | x :: l, o, h => by
  simp only [roundF]
  exact round_up (addAll_up _ h)
variable {root U : List Nm} (hU1 : ∀ x ∈ root, x ∈ U) (hU2 : ∀ x, ∀ y ∈ g x, y ∈ U)
include hU1 hU2
theorem rs_len {o : List Nm} (hn : o.Nodup) (h : ∀ x ∈ o, RS g root x) : o.length ≤ U.length :=
 sub_len hn fun x hx => rs_bound g hU1 hU2 (h x hx)
theorem ref_spec : ∀ (f : Nat) (o : List Nm), Up o → (∀ x ∈ o, RS g root x) → (∀ x ∈ root, x ∈ o) → U.length < o.length + f →
  Up (refN g f o) ∧ ∀ x, x ∈ refN g f o ↔ RS g root x
 | 0, o, hu, ho, hr, hf => by
  have := rs_len g hU1 hU2 (up_nd hu) ho
  omega
 | f + 1, o, hu, ho, hr, hf => by
  have hu' : Up (roundF g o o) := round_up g hu
  have ho' : ∀ x ∈ roundF g o o, RS g root x := fun x hx => by
   rcases (round_mem g).1 hx with hx | ⟨z, hz, hx⟩
   ·exact ho x hx
   ·exact .step (ho z hz) hx
  have hs : ∀ x ∈ o, x ∈ roundF g o o := fun x hx => (round_mem g).2 (.inl hx)
  have hl := sub_len (up_nd hu) hs
  simp only [refN]
  split
  ·rename_i e
   have hb := sub_eq (up_nd hu) hs (by omega)
   refine ⟨hu', fun x => ⟨ho' x, fun h => rs_least g (fun x hx => hs x (hr x hx)) (fun x hx y hy => (round_mem g).2 (.inr ⟨x, hb x hx, hy⟩)) h⟩⟩
  ·exact ref_spec f _ hu' ho' (fun x hx => hs x (hr x hx)) (by omega)
end
def notesF : List Nm → List Nm → List Nm → List Nm × List Nm
 | [], t, o => (t, o)
 | s :: r, t, o => if s ∈ o then notesF r t o else notesF r (t ++ [s]) (o ++ [s])
def codeN (g : Nm → List Nm) : Nat → List Nm → List Nm → List Nm
 | 0, _, o => o
 | _ + 1, [], o => o
 | f + 1, x :: t, o => codeN g f (notesF (g x) t o).1 (notesF (g x) t o).2
theorem notes_spec : ∀ (l t o : List Nm), ∃ d : List Nm, notesF l t o = (t ++ d, o ++ d) ∧ (o.Nodup → (o ++ d).Nodup) ∧ ∀ y, y ∈ o ++ d ↔ y ∈ o ∨ y ∈ l
 | [], t, o => ⟨[], by simp [notesF], by simp, by simp⟩
 | s :: r, t, o => by
  by_cases h : s ∈ o
  ·obtain ⟨d, h1, h2, h3⟩ := notes_spec r t o
   refine ⟨d, by simp only [notesF, if_pos h]; exact h1, h2, fun y => ?_⟩
   rw [h3, List.mem_cons]
   constructor
   ·rintro (hy | hy) <;> simp [hy]
   ·rintro (hy | rfl | hy)
    ·exact .inl hy
    ·exact .inl h
    ·exact .inr hy
  ·obtain ⟨d, h1, h2, h3⟩ := notes_spec r (t ++ [s]) (o ++ [s])
   refine ⟨s :: d, by simp only [notesF, if_neg h]; rw [h1]; simp, fun hn => ?_, fun y => ?_⟩
   ·have : (o ++ [s]).Nodup := by
     rw [List.nodup_append]
     refine ⟨hn, by simp, fun a ha b hb => ?_⟩
     simp at hb; subst hb
     rintro rfl
     exact h ha
    have := h2 this
    simpa using this
   ·have := h3 y
    simp only [List.append_assoc, List.singleton_append] at this
    rw [this]
    simp only [List.mem_append, List.mem_cons, List.not_mem_nil, or_false]
    constructor
    ·rintro ((h | h) | h) <;> simp [h]
    ·rintro (h | h | h) <;> simp [h]
section
variable (g : Nm → List Nm) {root U : List Nm} (hU1 : ∀ x ∈ root, x ∈ U) (hU2 : ∀ x, ∀ y ∈ g x, y ∈ U)
include hU1 hU2
theorem code_spec : ∀ (f : Nat) (t o : List Nm), o.Nodup → (∀ x ∈ o, RS g root x) → (∀ x ∈ root, x ∈ o) → (∀ x ∈ t, x ∈ o) → (∀ x ∈ o, x ∈ t ∨ ∀ y ∈ g x, y ∈ o) → 2 * U.length + t.length < f + 2 * o.length →
  (codeN g f t o).Nodup ∧ ∀ x, x ∈ codeN g f t o ↔ RS g root x
 | 0, t, o, hn, ho, hr, ht, hc, hf => by
  have := rs_len g hU1 hU2 hn ho
  omega
 | f + 1, [], o, hn, ho, hr, ht, hc, hf => by
  refine ⟨hn, fun x => ⟨ho x, fun h => rs_least g hr (fun x hx y hy => ?_) h⟩⟩
  rcases hc x hx with h | h
  ·cases h
  ·exact h y hy
 | f + 1, x :: t, o, hn, ho, hr, ht, hc, hf => by
  obtain ⟨d, h1, h2, h3⟩ := notes_spec (g x) t o
  simp only [codeN]
  rw [h1]
  have ho' : ∀ z ∈ o ++ d, RS g root z := fun z hz => by
   rcases (h3 z).1 hz with hz | hz
   ·exact ho z hz
   ·exact .step (ho x (ht x (by simp))) hz
  have hl := rs_len g hU1 hU2 (h2 hn) ho'
  refine code_spec f (t ++ d) (o ++ d) (h2 hn) ho' (fun z hz => by simp [hr z hz]) (fun z hz => ?_) (fun z hz => ?_) ?_
  ·rcases List.mem_append.1 hz with hz | hz
   ·simp [ht z (by simp [hz])]
   ·simp [hz]
  ·rcases List.mem_append.1 hz with hz | hz
   ·rcases hc z hz with hz2 | hz2
    ·rcases List.mem_cons.1 hz2 with rfl | hz2
     ·exact .inr fun y hy => (h3 y).2 (.inr hy)
     ·exact .inl (by simp [hz2])
    ·exact .inr fun y hy => by simp [hz2 y hy]
   ·exact .inl (by simp [hz])
  ·simp only [List.length_append, List.length_cons] at hf hl ⊢; omega
theorem reach_one {f1 f2 : Nat} (h1 : U.length < f1) (h2 : 2 * U.length < f2) :
  sortL (codeN g f2 (notesF root [] []).1 (notesF root [] []).2) = refN g f1 (addAll root []) := by
 obtain ⟨d, e1, e2, e3⟩ := notes_spec root [] []
 simp only [List.nil_append, List.not_mem_nil, false_or] at e1 e2 e3
 rw [e1]
 have hd : ∀ x ∈ d, RS g root x := fun x hx => .base ((e3 x).1 hx)
 have hl := rs_len g hU1 hU2 (e2 List.nodup_nil) hd
 have hc := code_spec g hU1 hU2 f2 d d (e2 List.nodup_nil) hd (fun x hx => (e3 x).2 hx) (fun x hx => hx) (fun x hx => .inl hx) (by omega)
 have hu : Up (addAll root []) := addAll_up _ List.Pairwise.nil
 have hm : ∀ x, x ∈ addAll root [] ↔ x ∈ root := fun x => by rw [addAll_mem]; simp
 have hr := ref_spec g hU1 hU2 f1 (addAll root []) hu (fun x hx => .base ((hm x).1 hx)) (fun x hx => (hm x).2 hx) (by omega)
 exact sort_one hc.1 hr.1 fun x => by rw [hc.2, hr.2]
end
end Rc
end

noncomputable section
open Go Go.Ab Go.Proofs V S T C
namespace Rc
open Pl (Up)
open W (sl1 slS slN slR)
open So (sortL sort_spec sort_nil)
abbrev slL (l : List Nm) : AV := .sl 1 (.map encL [] l) .none
abbrev arL (o : List Nm) : AObj := .arr 1 (.map encL [] o)
abbrev seenO (o : List Nm) : AObj := .mp (.typed EB (seenM o))
theorem B_inj {a b : Nm} : (⟨a.toArray⟩ : ByteArray) = ⟨b.toArray⟩ ↔ a = b := by
 constructor
 ·intro h
  have := congrArg (fun x : ByteArray => x.data.toList) h
  simpa using this
 ·rintro rfl; rfl
theorem find_seen (x : Nm) : ∀ o : List Nm, findM (seenM o) ⟨x.toArray⟩ = if x ∈ o then some true else none
 | [] => rfl
 | y :: r => by
  show (if _ then _ else _) = _
  by_cases h : y = x
  ·subst h; simp
  ·have h3 : ¬ x = y := fun e => h e.symm
   have h2 : ¬ ((⟨x.toArray⟩ : ByteArray) = ⟨y.toArray⟩) := fun e => h3 (B_inj.1 e)
   have ih := find_seen x r
   unfold seenM at ih
   dsimp only
   rw [if_neg h2, ih]
   simp [h3]
theorem set_seen (x : Nm) : ∀ o : List Nm, x ∉ o → setM (seenM o) ⟨x.toArray⟩ true = seenM (o ++ [x])
 | [], _ => rfl
 | y :: r, h => by
  have h2 : ¬ ((⟨x.toArray⟩ : ByteArray) = ⟨y.toArray⟩) := fun e => h (by simp [B_inj.1 e])
  have ih := set_seen x r (fun hx => h (by simp [hx]))
  show (if _ then _ else _) = _
  unfold seenM at ih ⊢
  dsimp only
  rw [if_neg h2, ih]
  rfl
theorem put_seen {x : Nm} {o : List Nm} (h : x ∉ o) : MLe (MM.put (.typed EB (seenM o)) ⟨x.toArray⟩ (.bool true)).toList (MM.typed EB (seenM (o ++ [x]))).toList := by
 rw [← set_seen x o h]
 exact mle_put rfl
theorem ren_mp {ρ : Nat → Nat} {es : List (ByteArray × Bool)} : AObj.ren ρ (.mp (.typed EB es)) = .mp (.typed EB es) := by
 show AObj.mp (.typed (Enc.ren ρ EB) es) = _
 congr 2
def nsF (l : List Need) (o : List Nm) : List Nm := dedupF (l.map (·.1)) o
def rsF : List Rel → List Nm → List Nm
 | [], o => o
 | r :: l, o => rsF l (nsF r.2 o)
theorem nsF_cons (n : Need) (l : List Need) (o : List Nm) : nsF (n :: l) o = nsF l (noteM n.1 o) := rfl
theorem dedup_app : ∀ (a b o : List Nm), dedupF (a ++ b) o = dedupF b (dedupF a o)
 | [], _, _ => rfl
 | x :: a, b, o => by simp only [List.cons_append, dedupF]; exact dedup_app a b _
theorem rsF_eq : ∀ (l : List Rel) (o : List Nm), rsF l o = dedupF (l.flatMap fun r => r.2.map (·.1)) o
 | [], _ => rfl
 | r :: l, o => by
  simp only [rsF, List.flatMap_cons]
  rw [dedup_app, rsF_eq l]; rfl
abbrev PN (R : List Nm) : AV → List AObj → Prop := fun r H' => (R = [] ∧ r = .sl 0 (.raw []) .nil ∧ ∃ m, H' = [m]) ∨ (∃ m, r = .msl 1 1 0 R.length ∧ H' = [m, arL (sortL R)])
def rowV (o : List Nm) : AV := match o with
 | [] => .sl 0 (.raw []) .nil
 | x :: r => .msl 1 1 0 (x :: r).length
def rowH (o : List Nm) : List AObj := match o with
 | [] => [seenO []]
 | x :: r => [seenO (x :: r), arL (x :: r)]
theorem selN {n : Nat} {l : List Nat} {H H2 : List AObj} (h1 : l.Nodup) (h0 : n ≤ l.length) (h2 : ∀ i, i < n → l[i]? = some i) (h3 : SelL H (selR l H.length) l H2) : Sel n l H H2 := by
 obtain ⟨a, b⟩ := SelL.at h3
 exact ⟨h1, a, h0, h2, fun i hi => .inl (b _ i hi)⟩
theorem slotsR {ρ : Nat → Nat} : ∀ {s s2 : Slots}, s = s2.map (fun p => (p.1, AV.ren ρ p.2)) → Slots2 (fun a b => Le a (AV.ren ρ b)) s s2
 | _, [], h => by subst h; trivial
 | _, p :: r, h => by subst h; exact ⟨rfl, Le.refl _, slotsR rfl⟩
theorem app_rowV {o : List Nm} {s : Nm} (h : o ≠ []) : rowV (o ++ [s]) = .msl 1 1 0 (o.length + 1) := by
 cases o with
 | nil => exact (h rfl).elim
 | cons x r => simp [rowV]
theorem app_rowH {o : List Nm} {s : Nm} (h : o ≠ []) : rowH (o ++ [s]) = [seenO (o ++ [s]), arL (o ++ [s])] := by
 cases o with
 | nil => exact (h rfl).elim
 | cons x r => simp [rowH]
section
variable {rs : List Rel} {nn i0 : Int} {Post : AV → List AObj → Prop}
theorem nm7 {ns : List Need} {o' : List Nm} (hl : ns.length ≤ lim) : ∀ (m i : Nat) (o : List Nm), m + i = ns.length → o.length + m ≤ 1000000000000 → nsF (ns.drop i) o = o' →
  AWP Tryz.prog 42 0 c130_4 [(3, .map 0), (4, rowV o'), (11, slR rs), (12, .int .i64 nn), (13, .int .i64 (IntKind.i64.wrap (i0 + 1)))] (rowH o') (q130_2 0 Post) →
  AWP Tryz.prog 42 0 c130_7 [(3, .map 0), (4, rowV o), (11, slR rs), (12, .int .i64 nn), (13, .int .i64 i0), (18, slN ns), (19, .int .i64 ns.length), (20, .int .i64 i)] (rowH o) (q130_6 0 Post) := by
 unfold lim at hl
 intro m
 induction m with
 | zero =>
  intro i o hm ho h k
  rw [List.drop_eq_nil_of_le (by omega)] at h
  have h : o = o' := h
  subst h
  cases o with
  | nil => exact v130_7n _ _ _ _ _ _ _ _ _ (condD (fun hc => by omega) fun _ => k)
  | cons x r => exact v130_7m _ _ _ _ _ _ _ _ _ _ (condD (fun hc => by omega) fun _ => k)
 | succ m ih =>
  intro i o hm ho h k
  rw [dropD ns ([], []) i (by omega), nsF_cons] at h
  cases o with
  | nil =>
   refine v130_7n _ _ _ _ _ _ _ _ _ (condD (fun hc => needJ ⟨by omega, by omega⟩ ?_) fun hc => by omega)
   rw [Int.toNat_natCast, succ64 (by omega)]
   generalize ns.getD i ([], []) = y at h ⊢
   have key := ih (i + 1) [y.1] (by omega) (by simp; omega) h k
   rw [show findM (seenM []) (⟨y.1.toArray⟩ : ByteArray) = none from rfl]
   refine needJ (by omega) (needJ (by omega) ?_)
   refine AWP.re (ReSt.map (id := 0) rfl (put_seen (x := y.1) (o := []) (by simp))) ?_
   refine AWP.re (ReSt.arr (id := 2) (q' := .map encL [] [y.1]) rfl rfl) ?_
   exact AWP.shape [0, 2] _ [seenO [y.1], arL [y.1]] (selN (by decide) (by decide) (fun i h => by omega) ⟨rfl, rfl, trivial⟩) (by exact slotsR rfl) key
  | cons x r =>
   refine v130_7m _ _ _ _ _ _ _ _ _ _ (condD (fun hc => needJ ⟨by omega, by omega⟩ ?_) fun hc => by omega)
   rw [Int.toNat_natCast, succ64 (by omega)]
   generalize ns.getD i ([], []) = y at h ⊢
   have hne : (x :: r) ≠ [] := by simp
   generalize he : x :: r = o at *
   rw [find_seen]
   by_cases hs : y.1 ∈ o
   ·rw [if_pos hs]
    have key := ih (i + 1) o (by omega) (by omega) (by rw [← h, noteM, if_pos hs]) k
    subst he
    exact AWP.shape [0, 1] _ [seenO (x :: r), arL (x :: r)] (selN (by decide) (by decide) (fun i h => by omega) ⟨rfl, rfl, trivial⟩) (by exact slotsR rfl) key
   ·rw [if_neg hs]
    have key := ih (i + 1) (o ++ [y.1]) (by omega) (by simp; omega) (by rw [← h, noteM, if_neg hs]) k
    rw [app_rowV hne, app_rowH hne] at key
    refine needJ ⟨rfl, by omega⟩ ?_
    refine AWP.re (ReSt.map (id := 0) rfl (put_seen hs)) ?_
    refine AWP.re (ReSt.arr (id := 3) (q' := .map encL [] (o ++ [y.1])) rfl (by simp [Ab.Seq.toList]; rfl)) ?_
    exact AWP.shape [0, 3] _ [seenO (o ++ [y.1]), arL (o ++ [y.1])] (selN (by decide) (by decide) (fun i h => by omega) ⟨rfl, rfl, trivial⟩) (by exact slotsR rfl) key
theorem nm4 (hl : rs.length ≤ lim) (hr : ∀ r ∈ rs, r.2.length ≤ lim) {R : List Nm} (hp : ∀ r H', PN R r H' → Post r H') : ∀ (m i : Nat) (o : List Nm), m + i = rs.length → o.length + m * 1000000 ≤ 1000000000000 → rsF (rs.drop i) o = R →
  AWP Tryz.prog 42 0 c130_4 [(3, .map 0), (4, rowV o), (11, slR rs), (12, .int .i64 rs.length), (13, .int .i64 i)] (rowH o) (q130_2 0 Post) := by
 unfold lim at hl hr
 intro m
 induction m with
 | zero =>
  intro i o hm ho h
  rw [List.drop_eq_nil_of_le (by omega)] at h
  have h : o = R := h
  subst h
  cases o with
  | nil => exact v130_4n _ _ _ _ _ _ (condD (fun hc => by omega) fun _ => So.sort_nil.mono fun r H' hh => .inl ⟨(), hh.1, hh.2, hp _ _ (.inl ⟨rfl, rfl, _, rfl⟩)⟩)
  | cons x r =>
   refine v130_4m _ _ _ _ _ _ _ (condD (fun hc => by omega) fun _ => (So.sort_spec (l := x :: r) (id := 1) rfl rfl (by omega)).mono fun _ H' hh => .inr ⟨sortL (x :: r), hh.1, hh.2, hp _ _ (.inr ⟨_, rfl, rfl⟩)⟩)
 | succ m ih =>
  intro i o hm ho h
  have hx := hr _ (memD rs (0, []) i (by omega))
  rw [dropD rs (0, []) i (by omega)] at h
  have kk : AWP Tryz.prog 42 0 c130_7 [(3, .map 0), (4, rowV o), (11, slR rs), (12, .int .i64 rs.length), (13, .int .i64 i), (18, slN (rs.getD i (0, [])).2), (19, .int .i64 (rs.getD i (0, [])).2.length), (20, .int .i64 (0 : Nat))] (rowH o) (q130_6 0 Post) := by
   generalize rs.getD i (0, []) = y at h hx ⊢
   refine nm7 (o' := nsF y.2 o) hx y.2.length 0 o (by omega) (by omega) (by simp) ?_
   rw [succ64 (by omega)]
   refine ih (i + 1) (nsF y.2 o) (by omega) ?_ h
   have := dedup_len (l := y.2.map (·.1)) (o := o)
   rw [List.length_map] at this
   unfold nsF
   rw [Nat.succ_mul] at ho
   omega
  cases o with
  | nil =>
   refine v130_4n _ _ _ _ _ _ (condD (fun hc => needJ ⟨by omega, by omega⟩ ?_) fun hc => by omega)
   rw [Int.toNat_natCast]
   exact AWP.shape [0] _ [seenO []] (selN (by decide) (by decide) (fun i h => by omega) ⟨rfl, trivial⟩) (by exact slotsR rfl) kk
  | cons x r =>
   refine v130_4m _ _ _ _ _ _ _ (condD (fun hc => needJ ⟨by omega, by omega⟩ ?_) fun hc => by omega)
   rw [Int.toNat_natCast]
   exact AWP.shape [0, 1] _ [seenO (x :: r), arL (x :: r)] (selN (by decide) (by decide) (fun i h => by omega) ⟨rfl, rfl, trivial⟩) (by exact slotsR rfl) kk
end
theorem slLle (ρ : Nat → Nat) (l : List Nm) (t : Tip) : Le (.sl 1 (.map encL [] l) t) (AV.ren ρ (slL l)) := Le.sl (s' := Seq.ren ρ (.map encL [] l)) (by simp [Ab.Seq.toList, Seq.ren]; exact fun a _ => rfl) (.inl rfl) (.inr rfl)
theorem nilLle (ρ : Nat → Nat) : Le (.sl 0 (.raw []) .nil) (AV.ren ρ (slL [])) := Le.sl (s' := Seq.ren ρ (.map encL [] [])) rfl (.inr ⟨rfl, fun _ h => by cases h⟩) (.inr rfl)
theorem names_spec (m : Mani) (hl : m.2.length ≤ lim) (hr : ∀ r ∈ m.2, r.2.length ≤ lim) (H : List AObj) : ASpec Tryz.prog 130 [.agg (encM m)] H (fun r H' => r = slL (mnM m) ∧ H' = H) := by
  have e : sortL (rsF m.2 []) = mnM m := by rw [rsF_eq]; exact names_one m
  have k : ASpec Tryz.prog 130 [.agg (encM m)] [] (PN (rsF m.2 [])) := by
    refine s130 m _ ?_
    refine AWP.re (ReSt.map (id := 1) (m' := .typed EB []) rfl mle_nil) ?_
    refine AWP.shape [1] _ [seenO []] (selN (by decide) (by decide) (fun i h => by omega) ⟨rfl, trivial⟩) (by exact slotsR rfl) (nm4 hl hr (fun _ _ h => h) m.2.length 0 [] (by omega) (by unfold lim at hl; simp; omega) (by simp))
  rw [← e]
  have k2 : ASpec Tryz.prog 130 [.agg (encM m)] [] (fun r H' => r = slL (sortL (rsF m.2 [])) ∧ H' = []) := by
   refine ASpec.sel (ASpec.reEnd (k.mono fun r H' hh => ?_))
   rcases hh with ⟨e1, e2, mm, e3⟩ | ⟨mm, e1, e2⟩
   · rw [e1]
     subst e2 e3
     exact ⟨_, _, ReSt.refl _ _, [], [], slL [], Sel.none, nilLle _, by simp [sortL], rfl⟩
   · subst e1 e2
     rw [show (rsF m.2 []).length = (sortL (rsF m.2 [])).length from (Pl.sort_len _).symm]
     exact ⟨_, _, ReSt.freeze1 (id := 1) (q' := .map encL [] (sortL (rsF m.2 []))) rfl (Nat.zero_le _) (by simp [Seq.toList]) (by simp only [Seq.toList]; rw [List.take_of_length_le (by simp)]), [], [], slL (sortL (rsF m.2 [])), Sel.none, slLle _ _ _, rfl, rfl⟩
  exact ASpec.pureH H k2 _ _ rfl rfl
end Rc
end

noncomputable section
open Go Go.Ab Go.Proofs V S T C
namespace Rc
open Pl (Up)
open W (sl1 slS slN slR)
open So (sortL)
open X (hasI getM OkX mp_ren)
abbrev NILV : AV := .sl 0 (.raw []) .nil
abbrev tkC (t : List Nm) (k : Nat) : AObj := .cells [.sl 1 (.map encL [] t) (.tok k)]
abbrev xM (es : Kn) : AObj := .mp (.typed EK es)
theorem noteIn {x : Nm} {t o : List Nm} (h : x ∈ o) : ASpec Tryz.prog 129 [.str (B x), .ptr 1 0, .ptr 2 0, .ptr 3 0] [seenO o, .cells [.map 0], tkC t 4, .cells [.msl 1 5 0 o.length], .tok, arL o]
  (fun r H' => r = .tup [] ∧ H' = [seenO o, .cells [.map 0], tkC t 4, .cells [.msl 1 5 0 o.length], .tok, arL o]) := by
 refine s129b _ _ _ _ _ ?_
 rw [find_seen, if_pos h]
 exact ⟨rfl, rfl⟩
theorem noteOut {x : Nm} {t o : List Nm} (h : x ∉ o) (ht : t.length ≤ 1000000000000) (ho : o.length ≤ 1000000000000) :
  ASpec Tryz.prog 129 [.str (B x), .ptr 1 0, .ptr 2 0, .ptr 3 0] [seenO o, .cells [.map 0], tkC t 4, .cells [.msl 1 5 0 o.length], .tok, arL o]
  (fun r H' => r = .tup [] ∧ H' = [seenO (o ++ [x]), .cells [.map 0], tkC (t ++ [x]) 6, .cells [.msl 1 7 0 (o ++ [x]).length], .gone, .gone, .tok, arL (o ++ [x])]) := by
 refine ASpec.reEnd (s129b _ _ _ _ _ ?_)
 rw [find_seen, if_neg h]
 refine needJ (by omega) ⟨⟨rfl, rfl⟩, needJ ⟨rfl, by omega⟩ ?_⟩
 refine ⟨_, _, ReSt.trans (ReSt.map (id := 0) rfl (put_seen h)) (ReSt.trans (ReSt.arr (id := 7) (q' := .map encL [] (o ++ [x])) rfl (by simp [Ab.Seq.toList]; rfl)) (ReSt.leCell (id := 2) (cs' := [.sl 1 (.map encL [] (t ++ [x])) (.tok 6)]) rfl ⟨leAppE (Les.refl _), trivial⟩)), rfl, ?_⟩
 rw [List.length_append]
 rfl
theorem noteFst {x : Nm} : ASpec Tryz.prog 129 [.str (B x), .ptr 1 0, .ptr 2 0, .ptr 3 0] [seenO [], .cells [.map 0], tkC [] 4, .cells [NILV], .tok]
  (fun r H' => r = .tup [] ∧ H' = [seenO [x], .cells [.map 0], tkC [x] 5, .cells [.msl 1 6 0 1], .gone, .tok, arL [x]]) := by
 refine ASpec.reEnd (s129a _ _ _ _ ?_)
 rw [show findM (seenM []) (⟨x.toArray⟩ : ByteArray) = none from rfl]
 refine needJ (by simp) ⟨⟨rfl, rfl⟩, needJ (by omega) (needJ (by omega) ?_)⟩
 exact ⟨_, _, ReSt.trans (ReSt.map (id := 0) rfl (put_seen (o := []) (by simp))) (ReSt.trans (ReSt.arr (id := 6) (q' := .map encL [] [x]) rfl rfl) (ReSt.leCell (id := 2) (cs' := [.sl 1 (.map encL [] [x]) (.tok 5)]) rfl ⟨leAppE (Les.refl _), trivial⟩)), rfl, rfl⟩
def xV : Bool → AV
 | true => .ptr 1 0
 | false => .nilp
abbrev FN : AV := .fn 129 [.ptr 3 0, .ptr 4 0, .ptr 5 0]
abbrev HA (es : Kn) : List AObj := [xM es, .cells [.map 0], seenO [], .cells [.map 2], tkC [] 6, .cells [NILV], .tok]
abbrev HB (es : Kn) (t o : List Nm) : List AObj := [xM es, .cells [.map 0], seenO o, .cells [.map 2], tkC t 6, .cells [.msl 1 7 0 o.length], .tok, arL o]
section
variable {es : Kn} {x : Nm} {t o : List Nm}
theorem in0 (h : x ∈ o) (q : List AObj) : ASpec Tryz.prog 129 [.str (B x), .ptr 3 0, .ptr 4 0, .ptr 5 0] (HB es t o ++ q) (fun r H' => r = .tup [] ∧ H' = HB es t o ++ q) := by
 refine ASpec.subH [2, 3, 4, 5, 6, 7] _ _ (noteIn (t := t) h) _ _ (by decide) rfl rfl rfl (fun i hi => ?_) ?_
 ·match i, hi with
  | 0, _ | 1, _ | 2, _ | 3, _ | 4, _ | 5, _ => rfl
 ·show _ ++ [] = _
  rw [List.append_nil]
  rfl
theorem out0 (h : x ∉ o) (ht : t.length ≤ 1000000000000) (ho : o.length ≤ 1000000000000) : ASpec Tryz.prog 129 [.str (B x), .ptr 3 0, .ptr 4 0, .ptr 5 0] (HB es t o)
  (fun r H' => r = .tup [] ∧ H' = [xM es, .cells [.map 0], seenO (o ++ [x]), .cells [.map 2], tkC (t ++ [x]) 8, .cells [.msl 1 9 0 (o ++ [x]).length], .gone, .gone, .tok, arL (o ++ [x])]) := by
 refine ASpec.subH [2, 3, 4, 5, 6, 7] _ _ (noteOut h ht ho) _ _ (by decide) rfl rfl rfl (fun i hi => ?_) rfl
 match i, hi with
 | 0, _ | 1, _ | 2, _ | 3, _ | 4, _ | 5, _ => rfl
theorem out1 (c : AObj) (h : x ∉ o) (ht : t.length ≤ 1000000000000) (ho : o.length ≤ 1000000000000) : ASpec Tryz.prog 129 [.str (B x), .ptr 3 0, .ptr 4 0, .ptr 5 0] (HB es t o ++ [c])
  (fun r H' => r = .tup [] ∧ H' = [xM es, .cells [.map 0], seenO (o ++ [x]), .cells [.map 2], tkC (t ++ [x]) 9, .cells [.msl 1 10 0 (o ++ [x]).length], .gone, .gone, c, .tok, arL (o ++ [x])]) := by
 refine ASpec.subH [2, 3, 4, 5, 6, 7] _ _ (noteOut h ht ho) _ _ (by decide) rfl rfl rfl (fun i hi => ?_) rfl
 match i, hi with
 | 0, _ | 1, _ | 2, _ | 3, _ | 4, _ | 5, _ => rfl
theorem fst1 (c : AObj) : ASpec Tryz.prog 129 [.str (B x), .ptr 3 0, .ptr 4 0, .ptr 5 0] (HA es ++ [c])
  (fun r H' => r = .tup [] ∧ H' = [xM es, .cells [.map 0], seenO [x], .cells [.map 2], tkC [x] 8, .cells [.msl 1 9 0 1], .gone, c, .tok, arL [x]]) := by
 refine ASpec.subH [2, 3, 4, 5, 6] _ _ noteFst _ _ (by decide) rfl rfl rfl (fun i hi => ?_) rfl
 match i, hi with
 | 0, _ | 1, _ | 2, _ | 3, _ | 4, _ => rfl
end
def getX (b : Bool) (es : Kn) (k : Nm) : Mani × Bool := if b = true then getM es k else ((k, []), false)
def gX (b : Bool) (es : Kn) (k : Nm) : List Nm := mnM (getX b es k).1
theorem leR0 {ρ : Nat → Nat} : Le (.sl 0 (.raw []) .nil) (AV.ren ρ (.sl 2 (.map T.encR (0, []) []) .none)) := Le.sl (s' := Seq.ren _ (.map T.encR (0, []) [])) rfl (.inr ⟨rfl, fun _ h => by cases h⟩) (.inr rfl)
theorem hasN (s : Nm) (H : List AObj) : ASpec Tryz.prog 15 [.nilp, .str (B s)] H (fun r H' => r = .bool false ∧ H' = H) :=
 ASpec.pureH H (s15 _ _ ⟨rfl, rfl⟩) _ _ rfl rfl
theorem getN (s : Nm) (H : List AObj) : ASpec Tryz.prog 16 [.nilp, .str (B s)] H (fun r H' => r = .tup [.agg (encM (s, [])), .bool false] ∧ H' = H) := by
 have k : ASpec Tryz.prog 16 [.nilp, .str (B s)] [] (fun r H' => r = .tup [.agg (encM (s, [])), .bool false] ∧ H' = []) := by
  refine ASpec.sel (s16 _ _ (ASpec.call (hasN s _) (Les.refl _) ⟨false, rfl, rfl, condBn (fun _ => X.pa ?_) fun h => by cases h⟩))
  exact Le.tup ⟨Le.agg ⟨Le.refl _, leR0, trivial⟩, Le.refl _, trivial⟩
 exact ASpec.pureH H k _ _ rfl rfl
theorem get_x (b : Bool) {es : Kn} (hes : OkX es) (k : Nm) (H : List AObj) (h0 : H[0]? = some (xM es)) (h1 : H[1]? = some (.cells [.map 0])) :
  ASpec Tryz.prog 16 [xV b, .str (B k)] H (fun r H' => r = .tup [.agg (encM (getX b es k).1), .bool (getX b es k).2] ∧ H' = H) := by
 cases b with
 | true => exact X.get_spec es k hes H 0 1 (by omega) h0 h1
 | false => exact getN k H
theorem getX_ok (b : Bool) {es : Kn} (hes : OkX es) (k : Nm) : (getX b es k).1.2.length ≤ lim ∧ ∀ r ∈ (getX b es k).1.2, r.2.length ≤ lim := by
 unfold getX
 split
 ·unfold getM
  split
  ·rename_i m hm
   exact ⟨(hes _ _ hm).2.1, fun r hr => ((hes _ _ hm).2.2 r hr).1⟩
  ·exact ⟨by simp, fun r hr => by simp at hr⟩
 ·exact ⟨by simp, fun r hr => by simp at hr⟩
abbrev P2 (es : Kn) (root : List Need) (R : List Nm) : AV → List AObj → Prop := fun r H' => ∃ l H2 r2, Sel 2 l H' H2 ∧ Le r (AV.ren (selR l H'.length) r2) ∧
 ((root = [] ∧ r2 = NILV ∧ H2 = HX es ∧ R = []) ∨ (r2 = .msl 1 2 0 R.length ∧ H2 = HX es ++ [arL R]))
theorem sel2 {es : Kn} (q : List AObj) : Sel 2 [0, 1] (xM es :: .cells [.map 0] :: q) (HX es) :=
 selN (by decide) (by decide) (fun i h => by match i, h with | 0, _ | 1, _ => rfl) ⟨by rw [mp_ren]; rfl, rfl, trivial⟩
section
variable {b : Bool} {es : Kn} (hes : OkX es) {root : List Need} {U : List Nm} (hU : ∀ x, ∀ y ∈ gX b es x, y ∈ U) (hUl : U.length ≤ 1000000)
include hes
theorem n14 {s : List Nm} (hs : s.length ≤ lim) {to : List Nm × List Nm} {Post : AV → List AObj → Prop} (k : AWP Tryz.prog 61 2 c88_9 [(0, xV b), (6, .ptr 4 0), (7, .ptr 5 0), (8, FN)] (HB es to.1 to.2) (q88_4 2 Post)) :
  ∀ (m i : Nat) (t o : List Nm), m + i = s.length → t.length + m ≤ 1000000000000 → o.length + m ≤ 1000000000000 → notesF (s.drop i) t o = to →
  AWP Tryz.prog 61 2 c88_14 [(0, xV b), (6, .ptr 4 0), (7, .ptr 5 0), (8, FN), (48, slL s), (49, .int .i64 s.length), (50, .int .i64 i)] (HB es t o) (q88_7 2 Post) := by
 unfold lim at hs
 intro m
 induction m with
 | zero =>
  intro i t o hm ht ho h
  rw [List.drop_eq_nil_of_le (by omega)] at h
  subst h
  exact v88_14b _ _ _ _ _ _ _ _ _ (condD (fun hc => by omega) fun _ => k)
 | succ m ih =>
  intro i t o hm ht ho h
  rw [dropD s [] i (by omega)] at h
  refine v88_14b _ _ _ _ _ _ _ _ _ (condD (fun hc => needJ ⟨by omega, by omega⟩ ?_) fun hc => by omega)
  rw [Int.toNat_natCast, succ64 (by omega)]
  generalize s.getD i [] = y at h ⊢
  simp only [notesF] at h
  by_cases hy : y ∈ o
  ·rw [if_pos hy] at h
   exact ASpec.call (in0 hy []) (Les.refl _) (.inl ⟨(), rfl, rfl, ih (i + 1) t o (by omega) (by omega) (by omega) h⟩)
  ·rw [if_neg hy] at h
   refine ASpec.call (out0 hy (by omega) (by omega)) (Les.refl _) (.inr ⟨(t ++ [y], o ++ [y]), rfl, rfl, ?_⟩)
   refine AWP.shape [0, 1, 2, 3, 4, 5, 8, 9] _ (HB es (t ++ [y]) (o ++ [y])) (selN (by decide) (by decide) (fun i h => by match i, h with | 0, _ | 1, _ => rfl) ⟨by rw [mp_ren]; rfl, rfl, rfl, rfl, rfl, rfl, rfl, rfl, trivial⟩)
    (by cases b <;> exact slotsR rfl) (ih (i + 1) (t ++ [y]) (o ++ [y]) (by omega) (by simp; omega) (by simp; omega) h)
include hU hUl
theorem n9 {R : List Nm} : ∀ (f : Nat) (t o : List Nm), 2 * U.length + t.length < f + 2 * o.length → f ≤ 10000000 → o.Nodup → (∀ x ∈ o, x ∈ U) → sortL (codeN (gX b es) f t o) = R →
  AWP Tryz.prog 61 2 c88_9 [(0, xV b), (6, .ptr 4 0), (7, .ptr 5 0), (8, FN)] (HB es t o) (q88_4 2 (P2 es root R)) := by
 intro f
 induction f with
 | zero =>
  intro t o hm hf hn hu h
  have := sub_len hn hu
  omega
 | succ f ih =>
  intro t o hm hf hn hu h
  have hol := sub_len hn hu
  cases t with
  | nil =>
   have h : sortL o = R := h
   refine v88_9b _ _ _ _ _ _ (condD (fun hc => by simp at hc) fun _ => ?_)
   refine ASpec.mono (So.sort_spec (l := o) (id := 7) rfl rfl (by omega)) fun r H' hh => .inr ⟨sortL o, hh.1, hh.2, ?_⟩
   refine ⟨[0, 1, 7], HX es ++ [arL R], .msl 1 2 0 R.length, selN (by decide) (by decide) (fun i h => by match i, h with | 0, _ | 1, _ => rfl) ⟨by rw [mp_ren]; rfl, rfl, by rw [h]; rfl, trivial⟩, ?_, .inr ⟨rfl, rfl⟩⟩
   rw [← h, Pl.sort_len]; exact Le.refl _
  | cons y t =>
   simp only [codeN] at h
   simp only [List.length_cons] at hm
   refine v88_9b _ _ _ _ _ _ (condD (fun hc => needJ ⟨by omega, by simp⟩ (needJ ⟨by omega, by simp; omega, by omega, rfl⟩ ?_)) fun hc => by simp at hc)
   refine ASpec.call (get_x b hes y _ rfl rfl) (Les.refl _) ⟨getX b es y, rfl, rfl, ?_⟩
   have hok := getX_ok b hes y
   refine ASpec.call (names_spec (getX b es y).1 hok.1 hok.2 _) (Les.refl _) ⟨gX b es y, rfl, rfl, ?_⟩
   have hgl : (gX b es y).length ≤ U.length := sub_len (up_nd (Pl.addAll_up _ List.Pairwise.nil)) (hU y)
   obtain ⟨d, e1, e2, e3⟩ := notes_spec (gX b es y) t o
   have hu2 : ∀ x ∈ o ++ d, x ∈ U := fun x hx => by
    rcases (e3 x).1 hx with hx | hx
    ·exact hu x hx
    ·exact hU y x hx
   have hl2 := sub_len (e2 hn) hu2
   simp only [List.length_append] at hl2
   rw [e1] at h
   have hy : (y :: t).getD 0 [] = y := rfl
   have ht : ((y :: t).take (y :: t).length).drop 1 = t := by rw [List.take_length]; rfl
   refine AWP.re (ReSt.tokCell (id := 4) (j := 0) (sz' := 1) (q' := .map encL [] t) rfl rfl (.inr rfl) (by simp [Ab.Seq.toList]) (.inl rfl)) ?_
   refine AWP.shape [0, 1, 2, 3, 4, 5, 9, 7] _ (HB es t o) (selN (by decide) (by decide) (fun i h => by match i, h with | 0, _ | 1, _ => rfl) ⟨by rw [mp_ren]; rfl, rfl, rfl, rfl, rfl, rfl, rfl, rfl, trivial⟩)
    (by cases b <;> exact slotsR rfl) (n14 hes (s := gX b es y) (by unfold lim; omega) (to := (t ++ d, o ++ d)) (ih (t ++ d) (o ++ d) (by simp; omega) (by omega) (e2 hn) hu2 h) (gX b es y).length 0 t o (by omega) (by omega) (by omega) (by rw [List.drop_zero, e1]))
variable (hr : ∀ n ∈ root, n.1 ∈ U) (hrl : root.length ≤ 1000000)
include hr hrl
theorem n5 {R : List Nm} : ∀ (m i : Nat) (t o : List Nm), m + i = root.length → t.length ≤ i → o.length ≤ i → o.Nodup → (∀ x ∈ o, x ∈ U) →
  sortL (codeN (gX b es) (4 * U.length + 3) (notesF ((root.drop i).map (·.1)) t o).1 (notesF ((root.drop i).map (·.1)) t o).2) = R →
  t = o →
  AWP Tryz.prog 61 2 c88_5 [(0, xV b), (6, .ptr 4 0), (7, .ptr 5 0), (8, FN), (18, slN root), (19, .int .i64 root.length), (20, .int .i64 i)] (HB es t o) (q88_2 2 (P2 es root R)) := by
 intro m
 induction m with
 | zero =>
  intro i t o hm ht ho hn hu h hto
  have hol := sub_len hn hu
  rw [List.drop_eq_nil_of_le (by omega)] at h
  exact v88_5b _ _ _ _ _ _ _ _ _ (condD (fun hc => by omega) fun _ => n9 hes hU hUl (4 * U.length + 3) t o (by subst hto; omega) (by omega) hn hu h)
 | succ m ih =>
  intro i t o hm ht ho hn hu h hto
  rw [dropD root ([], []) i (by omega), List.map_cons] at h
  have hy := hr _ (memD root ([], []) i (by omega))
  refine v88_5b _ _ _ _ _ _ _ _ _ (condD (fun hc => needJ ⟨by omega, by omega⟩ ?_) fun hc => by omega)
  rw [Int.toNat_natCast, succ64 (by omega)]
  generalize root.getD i ([], []) = y at h hy ⊢
  simp only [notesF] at h
  by_cases hm2 : y.1 ∈ o
  ·rw [if_pos hm2] at h
   refine ASpec.call (in0 hm2 [_]) (Les.refl _) (.inl ⟨(), rfl, rfl, ?_⟩)
   exact AWP.shape [0, 1, 2, 3, 4, 5, 6, 7] _ (HB es t o) (selN (by decide) (by decide) (fun i h => by match i, h with | 0, _ | 1, _ => rfl) ⟨by rw [mp_ren]; rfl, rfl, rfl, rfl, rfl, rfl, rfl, rfl, trivial⟩)
    (by cases b <;> exact slotsR rfl) (ih (i + 1) t o (by omega) (by omega) (by omega) hn hu h hto)
  ·rw [if_neg hm2] at h
   refine ASpec.call (out1 _ hm2 (by omega) (by omega)) (Les.refl _) (.inr ⟨(t ++ [y.1], o ++ [y.1]), rfl, rfl, ?_⟩)
   refine AWP.shape [0, 1, 2, 3, 4, 5, 9, 10] _ (HB es (t ++ [y.1]) (o ++ [y.1])) (selN (by decide) (by decide) (fun i h => by match i, h with | 0, _ | 1, _ => rfl) ⟨by rw [mp_ren]; rfl, rfl, rfl, rfl, rfl, rfl, rfl, rfl, trivial⟩)
    (by cases b <;> exact slotsR rfl) (ih (i + 1) (t ++ [y.1]) (o ++ [y.1]) (by omega) (by simp; omega) (by simp; omega) ?_ (fun z hz => ?_) h (by rw [hto]))
   ·rw [List.nodup_append]
    refine ⟨hn, by simp, fun a ha c hc => ?_⟩
    simp at hc; subst hc
    rintro rfl
    exact hm2 ha
   ·rcases List.mem_append.1 hz with hz | hz
    ·exact hu z hz
    ·simp at hz; subst hz; exact hy
theorem names16 {R : List Nm} (hR : sortL (codeN (gX b es) (4 * U.length + 3) (notesF (root.map (·.1)) [] []).1 (notesF (root.map (·.1)) [] []).2) = R) :
  ASpec Tryz.prog 88 [xV b, slN root] (HX es) (fun r H' => (root = [] ∧ r = NILV ∧ H' = HX es ∧ R = []) ∨ (r = .msl 1 2 0 R.length ∧ H' = HX es ++ [arL R])) := by
 refine ASpec.sel (s88 _ _ _ (P2 es root R) ?_)
 refine AWP.re (ReSt.map (id := 2) (m' := .typed EB []) rfl mle_nil) ?_
 refine AWP.re (ReSt.tokCell (id := 4) (j := 0) (sz' := 1) (q' := .map encL [] []) rfl rfl (.inl rfl) rfl (.inr rfl)) ?_
 refine AWP.spell [(0, xV b), (6, .ptr 4 0), (7, .ptr 5 0), (8, FN), (18, slN root), (19, .int .i64 root.length), (20, .int .i64 (0 : Nat))] ⟨rfl, Le.refl _, rfl, Le.refl _, rfl, Le.refl _, rfl, Le.refl _, rfl, Le.refl _, rfl, Le.refl _, rfl, Le.refl _, trivial⟩ ?_
 cases root with
 | nil =>
  refine v88_5a _ _ _ _ _ _ _ (condD (fun hc => by simp at hc) fun _ => ?_)
  refine v88_9a _ _ _ _ (So.sort_nil.mono fun r H' hh => .inl ⟨(), hh.1, hh.2, [0, 1], HX es, NILV, sel2 _, Le.refl _, .inl ⟨rfl, rfl, rfl, ?_⟩⟩)
  rw [← hR]; simp [notesF, codeN, sortL]
 | cons y r =>
  refine v88_5a _ _ _ _ _ _ _ (condD (fun hc => needJ ⟨by omega, by simp⟩ ?_) fun hc => by simp at hc)
  rw [Int.toNat_natCast, succ64 (by omega)]
  refine ASpec.call (fst1 _) (Les.refl _) (.inr ⟨([y.1], [y.1]), rfl, rfl, ?_⟩)
  refine AWP.shape [0, 1, 2, 3, 4, 5, 8, 9] _ (HB es [y.1] [y.1]) (selN (by decide) (by decide) (fun i h => by match i, h with | 0, _ | 1, _ => rfl) ⟨by rw [mp_ren]; rfl, rfl, rfl, rfl, rfl, rfl, rfl, rfl, trivial⟩)
    (by cases b <;> exact slotsR rfl) (n5 hes hU hUl hr hrl r.length 1 [y.1] [y.1] (by simp) (by simp) (by simp) (by simp) (fun z hz => by simp at hz; subst hz; exact hr y (by simp)) hR rfl)
end
end Rc
end

noncomputable section
open Go Go.Ab Go.Proofs V S T C
namespace Rc
open W (sl1 slS slN slR)
open So (sortL)
open X (hasI getM OkX mp_ren)
def hasX (b : Bool) (es : Kn) (k : Nm) : Bool := if b = true then hasI es k else false
theorem has_x (b : Bool) {es : Kn} (k : Nm) (H : List AObj) (h0 : H[0]? = some (xM es)) (h1 : H[1]? = some (.cells [.map 0])) :
  ASpec Tryz.prog 15 [xV b, .str (B k)] H (fun r H' => r = .bool (hasX b es k) ∧ H' = H) := by
 cases b with
 | true => exact X.has_spec es k H 0 1 (by omega) h0 h1
 | false => exact hasN k H
abbrev fX (b : Bool) : AV := .bfn 15 [xV b]
abbrev HR (es : Kn) (s : List Nm) : List AObj := [xM es, .cells [.map 0], arL s]
section
variable (p : Nm → Bool)
def ixP : List Nm → Nat → Int
 | [], _ => -1
 | y :: r, i => if p y = true then i else ixP r (i + 1)
def outP (l : List Nm) : List Nm := l.filter fun x => !p x
theorem ixP_none : ∀ {l : List Nm} {i : Nat}, ixP p l i = -1 → outP p l = l
 | [], _, _ => rfl
 | y :: r, i, h => by
  simp only [ixP] at h
  split at h
  ·omega
  ·rename_i hy
   have := ixP_none h
   unfold outP at this ⊢
   rw [List.filter_cons, if_pos (by simpa using hy), this]
theorem ixP_some : ∀ {l : List Nm} {i : Nat}, ixP p l i ≠ -1 → ∃ j : Nat, ixP p l i = ((i + j : Nat) : Int) ∧ j < l.length ∧ outP p (l.take (j + 1)) = l.take j
 | [], _, h => (h rfl).elim
 | y :: r, i, h => by
  simp only [ixP] at h ⊢
  split
  ·rename_i hy
   refine ⟨0, rfl, by simp, ?_⟩
   simp [outP, hy]
  ·rename_i hy
   rw [if_neg hy] at h
   obtain ⟨j, h1, h2, h3⟩ := ixP_some (i := i + 1) h
   refine ⟨j + 1, by rw [h1]; congr 1; omega, by simp; omega, ?_⟩
   rw [List.take_succ_cons, List.take_succ_cons]
   unfold outP at h3 ⊢
   rw [List.filter_cons, if_pos (by simpa using hy), h3]
end
section
variable {b : Bool} {es : Kn}
theorem ix2 {s : List Nm} (hl : s.length ≤ 10000000) {R : Int} : ∀ (m i : Nat), m + i = s.length → ixP (hasX b es) (s.drop i) i = R →
  AWP Tryz.prog 19 3 c128_2 [(0, .msl 1 2 0 s.length), (1, fX b), (7, .int .i64 s.length), (8, .int .i64 i)] (HR es s) (q128_2 3 (fun r H' => r = .int .i64 R ∧ H' = HR es s)) := by
 intro m
 induction m with
 | zero =>
  intro i hm h
  refine v128_2m _ _ _ _ _ _ _ (condD (fun hc => by omega) fun _ => ?_)
  rw [List.drop_eq_nil_of_le (by omega)] at h
  subst h
  exact ⟨rfl, rfl⟩
 | succ m ih =>
  intro i hm h
  rw [dropD s [] i (by omega)] at h
  simp only [ixP] at h
  refine v128_2m _ _ _ _ _ _ _ (condD (fun hc => needJ ⟨by omega, by omega⟩ (needJ (by rw [Int.toNat_natCast]; omega) ?_)) fun hc => by omega)
  rw [Int.toNat_natCast, Nat.zero_add, succ64 (by omega)]
  generalize s.getD i [] = y at h ⊢
  refine ASpec.call (has_x b y _ rfl rfl) (Les.refl _) ⟨_, rfl, rfl, condB (fun h1 => ?_) fun h1 => ?_⟩
  ·rw [if_pos h1] at h; subst h; exact ⟨rfl, rfl⟩
  ·rw [if_neg (by rw [h1]; simp)] at h; exact ih (i + 1) (by omega) h
theorem ix_spec (s : List Nm) (hl : s.length ≤ 10000000) : ASpec Tryz.prog 128 [.msl 1 2 0 s.length, fX b] (HR es s) (fun r H' => r = .int .i64 (ixP (hasX b es) s 0) ∧ H' = HR es s) :=
 s128m _ _ _ _ (ix2 hl s.length 0 (by omega) rfl)
abbrev PD (es : Kn) (R : List Nm) : AV → List AObj → Prop := fun r H' => ∃ q n, r = .msl 1 2 0 n ∧ H' = [xM es, .cells [.map 0], .arr 1 q] ∧ n ≤ q.toList.length ∧ R.map encL = q.toList.take n
theorem del11 {A R : List Nm} {i : Nat} (hl : A.length ≤ 10000000) (hi : i < A.length) (h : A.take i = R) :
  AWP Tryz.prog 42 3 c87_11 [(0, .msl 1 2 0 A.length), (5, .int .i64 i)] (HR es A) (q87_0 3 (PD es R)) := by
 refine v87_11 .nilp _ _ _ _ _ (needJ ⟨by omega, by omega⟩ (condD (fun _ => needJ (by rw [Int.toNat_natCast]; omega) (needJ ⟨by omega, by omega⟩ ?_)) fun hc => by omega))
 rw [Int.toNat_natCast, Nat.zero_add]
 refine ⟨_, i, rfl, rfl, ?_, ?_⟩
 ·simp [copied, Ab.Seq.toList]; omega
 ·simp only [copied, Ab.Seq.toList]
  rw [← h, List.map_take, List.take_append_of_le_length (by simp; omega), List.take_take, Nat.min_self]
theorem del5 {s : List Nm} (hl : s.length ≤ 10000000) : ∀ (m i j : Nat) (A : List Nm), m + j = s.length → i < j → A.length = s.length → A.take i = outP (hasX b es) (s.take j) → A.drop j = s.drop j →
  AWP Tryz.prog 42 3 c87_5 [(0, .msl 1 2 0 A.length), (1, fX b), (5, .int .i64 i), (6, .int .i64 j)] (HR es A) (q87_2 3 (PD es (outP (hasX b es) s))) := by
 intro m
 induction m with
 | zero =>
  intro i j A hm hij hA ht hd
  refine v87_5 _ _ _ _ _ _ _ (condD (fun hc => by omega) fun _ => del11 (by omega) (by omega) ?_)
  rw [ht, List.take_of_length_le (by omega)]
 | succ m ih =>
  intro i j A hm hij hA ht hd
  have hdj := hd
  rw [dropD A [] j (by omega), dropD s [] j (by omega)] at hdj
  have hx : A.getD j [] = s.getD j [] := (List.cons.inj hdj).1
  have hd1 : A.drop (j + 1) = s.drop (j + 1) := (List.cons.inj hdj).2
  have htj : s.take (j + 1) = s.take j ++ [s.getD j []] := by
   rw [List.take_add_one, List.getD_eq_getElem?_getD, List.getElem?_eq_getElem (show j < s.length by omega)]; rfl
  have hdr : outP (hasX b es) (s.take (j + 1)) = outP (hasX b es) (s.take j) ++ (if hasX b es (s.getD j []) = true then [] else [s.getD j []]) := by
   rw [htj]
   unfold outP
   rw [List.filter_append]
   congr 1
   by_cases h : hasX b es (s.getD j []) = true
   ·rw [if_pos h, List.filter_cons, if_neg (by rw [h]; simp)]; rfl
   ·rw [if_neg h, List.filter_cons, if_pos (by simpa using h)]; rfl
  refine v87_5 _ _ _ _ _ _ _ (condD (fun hc => needJ ⟨by omega, by omega⟩ (needJ (by rw [Int.toNat_natCast]; omega) ?_)) fun hc => by omega)
  rw [Int.toNat_natCast, Nat.zero_add, succ64 (by omega), succ64 (by omega), hx]
  generalize s.getD j [] = y at hdr hx ⊢
  refine ASpec.call (has_x b y _ rfl rfl) (Les.refl _) ⟨_, rfl, rfl, condBn (fun h1 => ?_) fun h1 => ?_⟩
  ·rw [if_neg (by rw [h1]; simp)] at hdr
   refine needJ ⟨by omega, by omega⟩ (needJ (by rw [Int.toNat_natCast]; omega) ?_)
   rw [Int.toNat_natCast, Nat.zero_add]
   have eA : (A.set i y).length = A.length := List.length_set
   have key := ih (i + 1) (j + 1) (A.set i y) (by omega) (by omega) (by rw [eA, hA]) ?_ ?_
   ·rw [eA] at key
    refine AWP.re (ReSt.arr (id := 2) (q := _) (q' := .map encL [] (A.set i y)) rfl (by simp only [Ab.Seq.toList, List.map_set]; rfl)) ?_
    exact key
   ·rw [hdr, ← ht, List.take_add_one]
    congr 1
    ·rw [List.take_set_of_le (Nat.le_refl _)]
    ·rw [List.getElem?_set_self (by omega)]; rfl
   ·rw [List.drop_set_of_lt (by omega), hd1]
  ·rw [if_pos h1, List.append_nil] at hdr
   exact ih i (j + 1) A (by omega) (by omega) hA (by rw [ht, hdr]) hd1
theorem del0 (s : List Nm) (hl : s.length ≤ 10000000) : ASpec Tryz.prog 87 [.msl 1 2 0 s.length, fX b] (HR es s) (PD es (outP (hasX b es) s)) := by
 refine s87m _ _ _ _ (ASpec.call (ix_spec s hl) (Les.refl _) ⟨_, rfl, rfl, condE (fun h => ?_) fun h => ?_⟩)
 ·refine ⟨_, s.length, rfl, rfl, by simp [Ab.Seq.toList], ?_⟩
  rw [ixP_none _ h]; simp only [Ab.Seq.toList]; rw [List.take_of_length_le (by simp)]
 ·obtain ⟨j, h1, h2, h3⟩ := ixP_some _ h
  rw [h1, Nat.zero_add]
  refine v87_4 _ _ _ _ _ _ ?_
  rw [succ64 (by omega)]
  exact del5 hl (s.length - (j + 1)) j (j + 1) s (by omega) (by omega) rfl h3.symm rfl
theorem del_spec (s : List Nm) (hl : s.length ≤ 10000000) : ASpec Tryz.prog 87 [.msl 1 2 0 s.length, fX b] (HR es s) (fun r H' => r = slL (outP (hasX b es) s) ∧ H' = [xM es, .cells [.map 0], .gone]) := by
 refine ASpec.reEnd ((del0 s hl).mono fun r H' hh => ?_)
 obtain ⟨q, n, rfl, rfl, hn, hq⟩ := hh
 exact ⟨_, _, ReSt.freeze1 (id := 2) (q' := .map encL [] (outP (hasX b es) s)) rfl (by show 3 ≤ 3; omega) hn (by rw [← hq]; rfl), rfl, rfl⟩
theorem del_nil : ASpec Tryz.prog 87 [NILV, fX b] (HX es) (fun r H' => r = slL [] ∧ H' = HX es) := by
 have k : ASpec Tryz.prog 128 [NILV, fX b] (HX es) (fun r H' => r = .int .i64 (-1) ∧ H' = HX es) :=
  s128v _ _ _ (v128_2v _ _ _ _ _ _ (condD (fun hc => by omega) fun _ => ⟨rfl, rfl⟩))
 refine ASpec.sel (s87v _ _ _ (ASpec.call k (Les.refl _) ⟨-1, rfl, rfl, condE (fun _ => ?_) fun h => (h rfl).elim⟩))
 exact ⟨[0, 1], HX es, slL [], sel2 [], nilLle _, rfl, rfl⟩
variable (hes : OkX es) {root : List Need} {U : List Nm} (hU : ∀ x, ∀ y ∈ gX b es x, y ∈ U) (hUl : U.length ≤ 1000000) (hr : ∀ n ∈ root, n.1 ∈ U) (hrl : root.length ≤ 1000000)
include hes hU hUl hr hrl
theorem names_len {R : List Nm} (hR : sortL (codeN (gX b es) (4 * U.length + 3) (notesF (root.map (·.1)) [] []).1 (notesF (root.map (·.1)) [] []).2) = R) : R.length ≤ U.length := by
 obtain ⟨d, e1, e2, e3⟩ := notes_spec (root.map (·.1)) [] []
 simp only [List.nil_append, List.not_mem_nil, false_or] at e1 e2 e3
 rw [e1] at hR
 have hU1 : ∀ x ∈ root.map (·.1), x ∈ U := fun x hx => by
  obtain ⟨n, hn, rfl⟩ := List.mem_map.1 hx
  exact hr n hn
 have hd : ∀ x ∈ d, RS (gX b es) (root.map (·.1)) x := fun x hx => .base ((e3 x).1 hx)
 have hl := rs_len (gX b es) hU1 hU (e2 List.nodup_nil) hd
 have hc := code_spec (gX b es) hU1 hU (4 * U.length + 3) d d (e2 List.nodup_nil) hd (fun x hx => (e3 x).2 hx) (fun x hx => hx) (fun x hx => .inl hx) (by omega)
 rw [← hR, Pl.sort_len]
 exact rs_len (gX b es) hU1 hU hc.1 fun x hx => (hc.2 x).1 hx
theorem missing18 {R : List Nm} (hR : sortL (codeN (gX b es) (4 * U.length + 3) (notesF (root.map (·.1)) [] []).1 (notesF (root.map (·.1)) [] []).2) = R) :
  ASpec Tryz.prog 38 [xV b, slN root] (HX es) (fun r H' => r = slL (outP (hasX b es) R) ∧ H' = HX es) := by
 have hRl := names_len hes hU hUl hr hrl hR
 refine ASpec.sel (s38 _ _ _ _ ((names16 hes hU hUl hr hrl hR).mono fun r H' hh => ?_))
 rcases hh with ⟨h1, h2, h3, h4⟩ | ⟨h2, h3⟩
 ·refine .inl ⟨(), h2, h3, ?_⟩
  subst h4
  refine (del_nil (b := b) (es := es)).mono fun r H' hh => ⟨[], hh.1, hh.2, [0, 1], HX es, slL [], sel2 [], slLle _ _ _, rfl, rfl⟩
 ·refine .inr ⟨R, h2, h3, ?_⟩
  refine (del_spec (b := b) (es := es) R (by omega)).mono fun r H' hh => ⟨outP (hasX b es) R, hh.1, hh.2, [0, 1], HX es, slL (outP (hasX b es) R), sel2 [_], slLle _ _ _, rfl, rfl⟩
end
end Rc
end

noncomputable section
open Go Go.Ab Go.Proofs V S T C
namespace Xd
open X (hasI getM readK putI OkX find_none)
open Pl (Up up_one tri ltT ltI sort_up sort_mem)
open Dp (less_iff less_trans less_irrefl less_tri)
open So (sortL)
abbrev Nm := List UInt8
def kdOf (k : Nm) : Known → Kd
 | some m => (m, true)
 | none => ((k, []), false)
def insK (x : Kd) : List Kd → List Kd
 | [] => [x]
 | y :: r => if Op.bytesLess x.1.1 y.1.1 = true then x :: y :: r else y :: insK x r
def atF (s : Nm) : List Kd → Option Kd
 | [] => none
 | y :: r => if y.1.1 = s then some y else atF s r
def hasD (l : List Kd) (s : Nm) : Bool := (atF s l).isSome
def getKd (l : List Kd) (s : Nm) : Mani × Bool := match atF s l with
 | some y => (y.1, y.2)
 | none => ((s, []), false)
def putKd (l : List Kd) (s b : Nm) : Int × List Kd :=
 if fitM s = false ∨ 8192 < b.length then (1, l) else if hasD l s = true then (6, l) else (0, insK (kdOf s (readK s b)) l)
theorem insK_len (x : Kd) : ∀ l : List Kd, (insK x l).length = l.length + 1
 | [] => rfl
 | y :: r => by
  simp only [insK]
  split
  ·rfl
  ·simp [insK_len x r]
theorem insK_mem {x y : Kd} : ∀ {l : List Kd}, y ∈ insK x l ↔ y = x ∨ y ∈ l
 | [] => by simp [insK]
 | z :: r => by
  simp only [insK]
  split
  ·simp
  ·have := insK_mem (x := x) (y := y) (l := r)
   simp only [List.mem_cons, this]
   constructor
   ·rintro (h | h | h) <;> simp [h]
   ·rintro (h | h | h) <;> simp [h]
theorem atF_none {s : Nm} : ∀ {l : List Kd}, atF s l = none ↔ ∀ y ∈ l, y.1.1 ≠ s
 | [] => by simp [atF]
 | y :: r => by
  simp only [atF]
  split
  ·rename_i h; simp [h]
  ·rename_i h; rw [atF_none]; simp [h]
theorem atF_ins {x : Kd} {s : Nm} : ∀ {l : List Kd}, atF x.1.1 l = none → atF s (insK x l) = if x.1.1 = s then some x else atF s l
 | [], _ => by simp [insK, atF]
 | y :: r, h => by
  simp only [atF] at h
  split at h
  ·cases h
  ·rename_i hy
   simp only [insK]
   split
   ·simp only [atF]
   ·simp only [atF]
    rw [atF_ins h]
    by_cases e : y.1.1 = s
    ·rw [if_pos e, if_pos e, if_neg (fun h => hy (by rw [e, h]))]
    ·rw [if_neg e, if_neg e]
abbrev UpD (l : List Kd) : Prop := l.Pairwise fun a b => Op.bytesLess a.1.1 b.1.1 = true
theorem insK_up {x : Kd} : ∀ {l : List Kd}, UpD l → atF x.1.1 l = none → UpD (insK x l)
 | [], _, _ => by simp [insK]
 | y :: r, h, hn => by
  have h' := List.pairwise_cons.1 h
  have hy := atF_none.1 hn y (by simp)
  have hr : atF x.1.1 r = none := atF_none.2 fun z hz => atF_none.1 hn z (by simp [hz])
  simp only [insK]
  split
  ·rename_i hb
   refine List.pairwise_cons.2 ⟨fun z hz => ?_, h⟩
   rcases List.mem_cons.1 hz with rfl | hz
   ·exact hb
   ·exact less_trans hb (h'.1 z hz)
  ·rename_i hb
   have hlt : Op.bytesLess y.1.1 x.1.1 = true := less_tri (by simpa using hb) (fun e => hy e.symm)
   refine List.pairwise_cons.2 ⟨fun z hz => ?_, insK_up h'.2 hr⟩
   rcases insK_mem.1 hz with rfl | hz
   ·exact hlt
   ·exact h'.1 z hz
structure RelX (es : Kn) (l : List Kd) : Prop where
 up : UpD l
 look : ∀ s, atF s l = (findM es (B s)).map (kdOf s)
 len : l.length = es.length
 nd : (es.map (·.1)).Nodup
theorem rel0 : RelX [] [] := ⟨List.Pairwise.nil, fun s => rfl, rfl, List.Pairwise.nil⟩
theorem setM_app {α : Type} (k : ByteArray) (v : α) : ∀ es : List (ByteArray × α), findM es k = none → setM es k v = es ++ [(k, v)]
 | [], _ => rfl
 | p :: l, h => by
  simp only [findM] at h
  split at h
  ·cases h
  ·rename_i e
   simp only [setM, if_neg e]
   rw [setM_app k v l h]; rfl
theorem find_keys {α : Type} {k : ByteArray} : ∀ {es : List (ByteArray × α)}, findM es k = none ↔ k ∉ es.map (·.1)
 | [] => by simp [findM]
 | p :: l => by
  simp only [findM, List.map_cons, List.mem_cons, not_or]
  split
  ·rename_i h; simp [h]
  ·rename_i h; rw [find_keys]; simp [h]
theorem kdOf_name (k b : Nm) : (kdOf k (readK k b)).1.1 = k := by
 unfold readK
 split
 ·rfl
 ·rename_i h
  show (W.readM b).1.1 = k
  exact Classical.byContradiction fun hn => h (.inr hn)
theorem B_inj {a b : Nm} (h : B a = B b) : a = b := by
 have := congrArg (fun x : ByteArray => x.data.toList) h
 simpa using this
theorem rel_has {es : Kn} {l : List Kd} (h : RelX es l) (s : Nm) : hasD l s = hasI es s := by
 unfold hasD hasI
 rw [h.look s, Option.isSome_map]
theorem rel_put {es : Kn} {l : List Kd} (h : RelX es l) (s b : Nm) : (putKd l s b).1 = (putI es s b).1 ∧ RelX (putI es s b).2 (putKd l s b).2 := by
 unfold putKd putI
 rw [rel_has h]
 split
 ·exact ⟨rfl, h⟩
 ·split
  ·exact ⟨rfl, h⟩
  ·rename_i hn
   have hn : hasI es s = false := by simpa using hn
   have hf := find_none hn
   have ha : atF (kdOf s (readK s b)).1.1 l = none := by rw [kdOf_name, h.look s, hf]; rfl
   refine ⟨rfl, insK_up h.up ha, fun t => ?_, ?_, ?_⟩
   ·rw [atF_ins ha, kdOf_name, findM_set, h.look t]
    by_cases e : s = t
    ·subst e; rw [if_pos rfl, if_pos rfl]; rfl
    ·rw [if_neg e, if_neg (fun hh => e (B_inj hh).symm)]
   ·rw [insK_len, setM_app _ _ _ hf, h.len]; simp
   ·rw [setM_app _ _ _ hf, List.map_append, List.nodup_append]
    refine ⟨h.nd, by simp, fun a ha b hb => ?_⟩
    simp at hb
    subst hb
    rintro rfl
    exact (find_keys.1 hf) ha
end Xd
end

noncomputable section
namespace Go.Proofs
open Go.Shelf
end Go.Proofs
open Go Go.Ab Go.Proofs V S T C
namespace Dp
end Dp
end

noncomputable section
open Go Go.Ab Go.Proofs V S T C
open W (sl1 slS slN slR leNone readM)
namespace Dp
end Dp
end

noncomputable section
open Go Go.Ab Go.Proofs V S T C
open W (sl1 slS slN slR)
namespace Xd
open X (hasI getM readK putI OkX find_none PA pa mp_ren selX)
def ofKd : List Ent → List Kd → List Kd
 | [], l => l
 | e :: r, l => ofKd r (putKd l e.1 e.2).2
def ofI : List Ent → Kn → Kn
 | [], es => es
 | e :: r, es => ofI r (putI es e.1 e.2).2
theorem putKd_len (l : List Kd) (s b : Nm) : (putKd l s b).2.length ≤ l.length + 1 := by
 unfold putKd
 split
 ·simp
 ·split
  ·simp
  ·simp [insK_len]
abbrev smE (e : List Ent) : Prop := e.length ≤ 60 ∧ ∀ x ∈ e, x.1.length ≤ 200 ∧ x.2.length ≤ 9000
abbrev slE (e : List Ent) : AV := .sl 2 (.map encEn ([], []) e) .none
abbrev PX0 (es : Kn) (r0 : AV) : AV → List AObj → Prop := fun r H' => ∃ l H2 r2, Sel 0 l H' H2 ∧ Le r (AV.ren (selR l H'.length) r2) ∧ (r2 = r0 ∧ H2 = HX es)
theorem selX0 (es : Kn) (q : List AObj) : Sel 0 [0, 1] (HX es ++ q) (HX es) := by
 obtain ⟨h1, h2, h3, h4, h5⟩ := selX es q
 exact ⟨h1, h2, Nat.zero_le _, fun i hi => by omega, h5⟩
theorem xof3 {e : List Ent} (he : smE e) {R : Kn} : ∀ (m i : Nat) (es : Kn), m + i = e.length → ofI (e.drop i) es = R →
  AWP Tryz.prog 21 0 c12_3 [(3, .ptr 1 0), (7, slE e), (8, .int .i64 e.length), (9, .int .i64 i)] (HX es) (q12_2 0 (PX0 R (.ptr 1 0))) := by
 intro m
 induction m with
 | zero =>
  intro i es hm h
  refine v12_3 _ _ _ _ _ _ (condD (fun hc => by omega) fun _ => ?_)
  rw [List.drop_eq_nil_of_le (by omega)] at h
  have h' : es = R := h
  subst h'
  exact ⟨_, _, _, selX0 es [], Le.refl _, rfl, rfl⟩
 | succ m ih =>
  intro i es hm h
  have h30 := he.1
  have hx := he.2 _ (memD e ([], []) i (by omega))
  rw [dropD e ([], []) i (by omega)] at h
  refine v12_3 _ _ _ _ _ _ (condD (fun hc => needJ ⟨by omega, by omega⟩ ?_) fun hc => by omega)
  rw [Int.toNat_natCast, succ64 (by omega)]
  generalize e.getD i ([], []) = x at h hx ⊢
  simp only [ofI] at h
  refine ASpec.call (X.put_spec es x.1 x.2 (by unfold lim; omega) _ 0 1 (by omega) rfl rfl) (Les.refl _) ⟨putI es x.1 x.2, rfl, rfl, ?_⟩
  refine AWP.shape [0, 1] [(3, .ptr 1 0), (7, slE e), (8, .int .i64 e.length), (9, .int .i64 (i + 1 : Nat))] (HX (putI es x.1 x.2).2) (selX0 _ [_])
   ⟨rfl, Le.refl _, rfl, Le.refl _, rfl, Le.refl _, rfl, Le.refl _, trivial⟩ (ih (i + 1) _ (by omega) h)
theorem xof0 (e : List Ent) (he : smE e) : ASpec Tryz.prog 12 [slE e] [] (fun r H' => r = .ptr 1 0 ∧ H' = HX (ofI e [])) := by
 refine ASpec.sel (s12 _ _ (ASpec.call (X.new_spec []) (Les.refl _) ⟨(), rfl, rfl, ?_⟩))
 exact xof3 he e.length 0 [] (by omega) rfl
theorem xof_spec (e : List Ent) (he : smE e) (H : List AObj) : ASpec Tryz.prog 12 [slE e] H (fun r H' => r = .ptr (H.length + 1) 0 ∧ H' = H ++ [.mp (.typed EK (ofI e [])), .cells [.map H.length]]) := by
 refine (ASpec.subH [] H (H ++ [.mp (.typed EK (ofI e [])), .cells [.map H.length]]) (xof0 e he) [slE e] (.ptr (H.length + 1) 0) (by simp) rfl rfl (by simp [AV.ren, callR]) (fun i hi => by cases hi) ?_)
 simp [graftH, grafted, HX, mp_ren]
 simp [AObj.ren, renL, AV.ren, callR]
end Xd
end

noncomputable section
open Go Go.Ab Go.Proofs V S T C
namespace Rc
open Pl (Up up_one tri ltT ltI sort_mem sort_len addM addM_mem addM_up addAll addAll_up addAll_mem)
open So (sortL)
open X (hasI getM readK putI OkX okX_put okX_nil find_none)
open W (readM)
open Xd (ofI ofKd RelX)
def small (m : Mani) : Prop := m.2.length ≤ 8 ∧ ∀ r ∈ m.2, r.2.length ≤ 6
def OkS (es : Kn) : Prop := ∀ p ∈ es, ∀ m, p.2 = some m → small m
theorem rel_small : ∀ {l : List Rel} {e : Int}, relF e l = true → ∀ r ∈ l, r.2.length ≤ 6
 | [], _, _, r, hr => by simp at hr
 | x :: l, e, h, r, hr => by
  simp only [relF] at h
  split at h
  ·cases h
  ·rename_i hn
   rcases List.mem_cons.1 hr with rfl | hr
   ·have : needOk r.2 = true := by
     cases hb : needOk r.2 with
     | true => rfl
     | false => exact (hn (.inr (.inr hb))).elim
    unfold needOk at this
    rw [Bool.and_eq_true] at this
    exact of_decide_eq_true this.2
   ·exact rel_small h r hr
theorem man_small {m : Mani} (h : manOk m = true) : small m := by
 unfold manOk at h
 rw [Bool.and_eq_true, Bool.and_eq_true] at h
 exact ⟨of_decide_eq_true h.2.2, rel_small h.1⟩
theorem read_small {bs : Nm} (h : (readM bs).2 = 0) : small (readM bs).1 := by
 unfold readM at h ⊢
 split at h
 ·cases h
 ·rename_i hb
  rw [if_neg hb]
  unfold W.endM at h ⊢
  split at h
  ·rename_i hc; exact (hc h).elim
  ·rename_i hc
   split at h
   ·rename_i hm
    rw [if_neg hc, if_pos hm]
    exact man_small hm
   ·cases h
theorem set_mem {α : Type} {k : ByteArray} {v : α} : ∀ {l : List (ByteArray × α)} {p : ByteArray × α}, p ∈ setM l k v → p ∈ l ∨ p = (k, v)
 | [], p, h => by simp [setM] at h; exact .inr h
 | q :: l, p, h => by
  simp only [setM] at h
  split at h
  ·rcases List.mem_cons.1 h with h | h
   ·exact .inr h
   ·exact .inl (by simp [h])
  ·rcases List.mem_cons.1 h with h | h
   ·exact .inl (by simp [h])
   ·rcases set_mem h with h | h
    ·exact .inl (by simp [h])
    ·exact .inr h
theorem okS_put {es : Kn} {k bs : Nm} (h : OkS es) : OkS (putI es k bs).2 := by
 unfold putI
 split
 ·exact h
 ·split
  ·exact h
  ·intro p hp m hm
   rcases set_mem hp with hp | rfl
   ·exact h p hp m hm
   ·unfold readK at hm
    split at hm
    ·cases hm
    ·rename_i hn
     cases hm
     exact read_small (Classical.byContradiction fun h => hn (.inl h))
theorem okS_nil : OkS [] := fun p hp => by simp at hp
theorem find_mem {α : Type} {k : ByteArray} {v : α} : ∀ {l : List (ByteArray × α)}, findM l k = some v → ∃ p ∈ l, p.2 = v
 | [], h => by cases h
 | q :: l, h => by
  simp only [findM] at h
  split at h
  ·cases h; exact ⟨q, by simp, rfl⟩
  ·obtain ⟨p, h1, h2⟩ := find_mem h; exact ⟨p, by simp [h1], h2⟩
def namesK (p : ByteArray × Known) : List Nm := match p.2 with
 | some m => allN m
 | none => []
def univ (es : Kn) (root : List Nm) : List Nm := root ++ es.flatMap namesK
theorem flat_len {α β : Type} {f : α → List β} {n : Nat} : ∀ {l : List α}, (∀ x ∈ l, (f x).length ≤ n) → (l.flatMap f).length ≤ n * l.length
 | [], _ => by simp
 | x :: l, h => by
  have h1 := h x (by simp)
  have h2 := flat_len (l := l) fun y hy => h y (by simp [hy])
  simp only [List.flatMap_cons, List.length_append, List.length_cons, Nat.mul_succ]; omega
theorem all_len {m : Mani} (h : small m) : (allN m).length ≤ 48 := by
 have := flat_len (f := fun r : Rel => r.2.map (·.1)) (n := 6) (l := m.2) fun r hr => by simpa using h.2 r hr
 have := h.1
 unfold allN; omega
theorem univ_len {es : Kn} {root : List Nm} (h : OkS es) : (univ es root).length ≤ root.length + 48 * es.length := by
 have := flat_len (f := namesK) (n := 48) (l := es) fun p hp => by
  unfold namesK
  split
  ·rename_i m hm; exact all_len (h p hp m hm)
  ·simp
 unfold univ; simp only [List.length_append]; omega
theorem univ_root {es : Kn} {root : List Nm} {x : Nm} (h : x ∈ root) : x ∈ univ es root := by simp [univ, h]
theorem univ_g {b : Bool} {es : Kn} {root : List Nm} (x y : Nm) (h : y ∈ gX b es x) : y ∈ univ es root := by
 unfold gX getX at h
 split at h
 ·unfold getM at h
  split at h
  ·rename_i m hm
   rw [mnM, addAll_mem] at h
   rcases h with h | h
   ·obtain ⟨p, h1, h2⟩ := find_mem hm
    refine List.mem_append_right _ (List.mem_flatMap.2 ⟨p, h1, ?_⟩)
    unfold namesK
    rw [h2]; exact h
   ·cases h
  ·simp [mnM, allN, addAll] at h
 ·simp [mnM, allN, addAll] at h
def reachM (b : Bool) (es : Kn) (root : List Nm) : List Nm :=
 sortL (codeN (gX b es) (4 * (univ es root).length + 3) (notesF root [] []).1 (notesF root [] []).2)
theorem ref_is {b : Bool} {es : Kn} {root : List Nm} {f : Nat} (hf : (univ es root).length < f) : refN (gX b es) f (addAll root []) = reachM b es root :=
 (reach_one (gX b es) (fun _ h => univ_root h) univ_g hf (by omega)).symm
theorem reach_spec (b : Bool) (es : Kn) (root : List Nm) : Up (reachM b es root) ∧ ∀ x, x ∈ reachM b es root ↔ RS (gX b es) root x := by
 rw [← ref_is (f := (univ es root).length + 1) (by omega)]
 have hm : ∀ x, x ∈ addAll root [] ↔ x ∈ root := fun x => by rw [addAll_mem]; simp
 exact ref_spec (gX b es) (fun _ h => univ_root h) (univ_g (es := es)) _ _ (addAll_up _ List.Pairwise.nil) (fun x hx => .base ((hm x).1 hx)) (fun x hx => (hm x).2 hx) (by omega)
theorem reach_len (b : Bool) (es : Kn) (root : List Nm) : (reachM b es root).length ≤ (univ es root).length :=
 sub_len (up_nd (reach_spec b es root).1) fun x hx => rs_bound (gX b es) (fun _ h => univ_root h) univ_g (((reach_spec b es root).2 x).1 hx)
def More (es es2 : Kn) : Prop := ∀ k v, findM es k = some v → findM es2 k = some v
theorem More.refl (es : Kn) : More es es := fun _ _ h => h
theorem More.trans {a b c : Kn} (h : More a b) (k : More b c) : More a c := fun x v e => k x v (h x v e)
theorem more_put (es : Kn) (k bs : Nm) : More es (putI es k bs).2 := by
 unfold putI
 split
 ·exact .refl _
 ·split
  ·exact .refl _
  ·rename_i h
   intro x v e
   rw [findM_set]
   split
   ·rename_i hx
    subst hx
    rw [find_none (by simpa using h)] at e
    cases e
   ·exact e
theorem more_get {es es2 : Kn} (h : More es es2) {x : Nm} (hx : hasI es x = true) : getM es2 x = getM es x := by
 unfold hasI at hx
 cases hf : findM es (B x) with
 | none => rw [hf] at hx; cases hx
 | some v => unfold getM; rw [hf, h _ _ hf]
theorem rs_mono {g g2 : Nm → List Nm} {root : List Nm} (h : ∀ x, ∀ y ∈ g x, y ∈ g2 x) {x : Nm} (hx : RS g root x) : RS g2 root x := by
 induction hx with
 | base h1 => exact .base h1
 | step _ hy ih => exact .step ih (h _ _ hy)
theorem need_up : ∀ {l : List Need} {last : Nm}, needsF last l = true → Up (l.map (·.1)) ∧ ∀ n ∈ l, last < n.1
 | [], _, _ => ⟨List.Pairwise.nil, fun n hn => by simp at hn⟩
 | x :: l, last, h => by
  simp only [needsF] at h
  split at h
  ·cases h
  ·rename_i hn
   obtain ⟨h1, h2⟩ := need_up h
   have hlt : last < x.1 := by
    have hb : leB x.1 last = false := by
     cases hb : leB x.1 last with
     | false => rfl
     | true => exact (hn (.inr (.inl hb))).elim
    unfold leB at hb
    rw [Bool.or_eq_false_iff] at hb
    rcases tri last x.1 with ht | ht | ht
    ·exact ht
    ·rw [ht] at hb; simp at hb
    ·rw [Dp.less_iff.2 ht] at hb; cases hb.1
   refine ⟨List.pairwise_cons.2 ⟨fun y hy => ?_, h1⟩, fun n hn => ?_⟩
   ·obtain ⟨n, hn, rfl⟩ := List.mem_map.1 hy
    exact h2 n hn
   ·rcases List.mem_cons.1 hn with rfl | hn
    ·exact hlt
    ·exact ltT hlt (h2 n hn)
end Rc
end

noncomputable section
open Go Go.Ab Go.Proofs V S T C
namespace Rr
open Pl (Up up_one addM addM_mem addM_up addAll addAll_up addAll_mem)
open W (sl1 slS slN slR)
open X (hasI getM OkX mp_ren PA pa)
open Xd (hasD getKd)
open Rc (Nm slL slLle nilLle slotsR selN small mnM allN refN roundF outP sub_len up_nd all_len)
section
variable {m : Mani}
end
section
variable {l : List Kd} (hl : l.length ≤ lim) (hsm : ∀ x, small (getKd l x).1) {U : List Nm} (hU : ∀ x, ∀ y ∈ mnM (getKd l x).1, y ∈ U) (hUl : U.length ≤ 100000)
include hl hsm
include hU hUl
end
section
variable {es : Kn} (hes : OkX es) (hsm : ∀ x, small (getM es x).1) {k : Nm}
include hes hsm
end
end Rr
end

noncomputable section
open Go Go.Ab Go.Proofs V S T C
namespace Rr
open X (hasI getM putI OkX okX_put)
open Xd (hasD getKd ofI ofKd RelX rel0 rel_put rel_has putKd putKd_len)
theorem okX_of : ∀ (e : List Ent) (es : Kn), OkX es → OkX (ofI e es)
 | [], _, h => h
 | x :: e, es, h => okX_of e _ (okX_put h)
theorem rel_of : ∀ (e : List Ent) (es : Kn) (l : List Kd), RelX es l → RelX (ofI e es) (ofKd e l)
 | [], _, _, h => h
 | x :: e, es, l, h => rel_of e _ _ (rel_put h x.1 x.2).2
theorem ofKd_len : ∀ (e : List Ent) (l : List Kd), (ofKd e l).length ≤ e.length + l.length
 | [], l => by simp [ofKd]
 | x :: e, l => by
  have h1 := ofKd_len e (putKd l x.1 x.2).2
  have h2 := putKd_len l x.1 x.2
  simp only [ofKd, List.length_cons]; omega
theorem ofI_len (e : List Ent) : (ofI e []).length ≤ e.length := by
 rw [← (rel_of e [] [] rel0).len]
 simpa using ofKd_len e []
end Rr
end

noncomputable section
open Go Go.Ab Go.Proofs V S T C
namespace Wn
open W (sl1 slS slN slR)
open X (PA pa)
open Rc (Nm slL slLle nilLle slotsR selN noteM dedupF dedup_len)
theorem ix2 {o : List Nm} {s : Nm} (hl : o.length ≤ 1000000) {Post : AV → List AObj → Prop} (hp : ∀ x : Int, (decide (x ≥ 0) = decide (s ∈ o)) → Post (.int .i64 x) []) : ∀ (m i : Nat), m + i = o.length → (s ∈ o ↔ s ∈ o.drop i) →
  AWP Tryz.prog 19 0 c209_2 [(0, slL o), (1, .str (B s)), (7, .int .i64 o.length), (8, .int .i64 i)] [] (q209_2 0 Post) := by
 intro m
 induction m with
 | zero =>
  intro i hm h
  rw [List.drop_eq_nil_of_le (by omega)] at h
  have h2 : ¬ s ∈ o := fun hs => by have := h.1 hs; cases this
  refine v209_2 _ _ _ _ _ _ (condD (fun hc => by omega) fun _ => hp _ ?_)
  rw [decide_eq_false h2]; rfl
 | succ m ih =>
  intro i hm h
  have hmem := memD o [] i (by omega)
  rw [dropD o [] i (by omega)] at h
  refine v209_2 _ _ _ _ _ _ (condD (fun hc => needJ ⟨by omega, by omega⟩ ?_) fun hc => by omega)
  rw [Int.toNat_natCast, succ64 (by omega)]
  generalize o.getD i [] = y at h hmem ⊢
  rw [B_toList, B_toList]
  refine condB (fun he => hp _ ?_) fun he => ih (i + 1) (by omega) ?_
  ·have : s = y := beq_iff_eq.1 he
   subst this
   rw [decide_eq_true hmem]
   exact decide_eq_true (by omega)
  ·have hne : ¬ s = y := beq_eq_false_iff_ne.1 he
   rw [h]; simp [hne]
theorem in_spec (o : List Nm) (s : Nm) (hl : o.length ≤ 1000000) (H : List AObj) : ASpec Tryz.prog 169 [slL o, .str (B s)] H (fun r H' => r = .bool (decide (s ∈ o)) ∧ H' = H) := by
 have k : ASpec Tryz.prog 169 [slL o, .str (B s)] [] (fun r H' => r = .bool (decide (s ∈ o)) ∧ H' = []) := by
  refine s169 _ _ _ (s209 _ _ _ (ix2 hl (fun x hx => ?_) o.length 0 (by omega) (by simp)))
  refine ⟨x, rfl, rfl, ?_, rfl⟩
  rw [hx]
 exact ASpec.pureH H k _ _ rfl rfl
end Wn
end

noncomputable section
open Go Go.Ab Go.Proofs
namespace Ft
open Pl (Up up_one sort_mem addAll addAll_up addAll_mem)
open Rc (RS rs_least rs_bound rs_len roundF round_mem round_up up_nd sort_one)
open So (sortL)
abbrev Nm := List UInt8
def visL (g : Nm → List Nm) (v : List Nm → List Nm → List Nm) : List Nm → List Nm → List Nm
 | [], o => o
 | n :: r, o => visL g v r (if n ∈ o then o else v (g n) (o ++ [n]))
def visitF (g : Nm → List Nm) : Nat → List Nm → List Nm → List Nm
 | 0, _, o => o
 | f + 1, l, o => visL g (visitF g f) l o
section
variable (g : Nm → List Nm)
theorem rs_mono {a b : List Nm} (h : ∀ x ∈ a, RS g b x) {x : Nm} (hx : RS g a x) : RS g b x := by
 induction hx with
 | base hx => exact h _ hx
 | step _ hy ih => exact .step ih hy
structure Did (l o o' : List Nm) : Prop where
 nd : o'.Nodup
 sub : ∀ x ∈ o, x ∈ o'
 all : ∀ x ∈ l, x ∈ o'
 mem : ∀ x ∈ o', x ∈ o ∨ RS g l x
 cl : ∀ x ∈ o', x ∈ o ∨ ∀ y ∈ g x, y ∈ o'
theorem did_nil {o : List Nm} (h : o.Nodup) : Did g [] o o := ⟨h, fun _ h => h, by simp, fun _ h => .inl h, fun _ h => .inl h⟩
theorem did_cons {n : Nm} {r o o1 o' : List Nm} (h1 : Did g [n] o o1) (h2 : Did g r o1 o') : Did g (n :: r) o o' := by
 refine ⟨h2.nd, fun x hx => h2.sub x (h1.sub x hx), fun x hx => ?_, fun x hx => ?_, fun x hx => ?_⟩
 ·rcases List.mem_cons.1 hx with rfl | hx
  ·exact h2.sub _ (h1.all _ (by simp))
  ·exact h2.all x hx
 ·rcases h2.mem x hx with hx | hx
  ·rcases h1.mem x hx with hx | hx
   ·exact .inl hx
   ·exact .inr (rs_mono g (fun z hz => .base (by simp at hz; simp [hz])) hx)
  ·exact .inr (rs_mono g (fun z hz => .base (by simp [hz])) hx)
 ·rcases h2.cl x hx with hx | hx
  ·rcases h1.cl x hx with hx | hx
   ·exact .inl hx
   ·exact .inr fun y hy => h2.sub y (hx y hy)
  ·exact .inr hx
theorem did_had {n : Nm} {o : List Nm} (ho : o.Nodup) (h : n ∈ o) : Did g [n] o o :=
 ⟨ho, fun _ h => h, fun x hx => by simp at hx; subst hx; exact h, fun _ h => .inl h, fun _ h => .inl h⟩
theorem did_new {n : Nm} {o o1 : List Nm} (h : Did g (g n) (o ++ [n]) o1) : Did g [n] o o1 := by
 have hn : n ∈ o1 := h.sub n (by simp)
 refine ⟨h.nd, fun x hx => h.sub x (by simp [hx]), fun x hx => by simp at hx; subst hx; exact hn, fun x hx => ?_, fun x hx => ?_⟩
 ·rcases h.mem x hx with hx | hx
  ·rcases List.mem_append.1 hx with hx | hx
   ·exact .inl hx
   ·simp at hx; subst hx; exact .inr (.base (by simp))
  ·exact .inr (rs_mono g (fun z hz => .step (.base (by simp)) hz) hx)
 ·rcases h.cl x hx with hx | hx
  ·rcases List.mem_append.1 hx with hx | hx
   ·exact .inl hx
   ·simp at hx; subst hx; exact .inr fun y hy => h.all y hy
  ·exact .inr hx
variable {root U : List Nm} (hU1 : ∀ x ∈ root, x ∈ U) (hU2 : ∀ x, ∀ y ∈ g x, y ∈ U)
include hU1 hU2
theorem nd_add {n : Nm} {o : List Nm} (ho : o.Nodup) (h : n ∉ o) : (o ++ [n]).Nodup := by
 rw [List.nodup_append]
 refine ⟨ho, by simp, fun a ha b hb => ?_⟩
 simp at hb; subst hb
 rintro rfl
 exact h ha
theorem visL_did {f : Nat} (ih : ∀ l o, o.Nodup → (∀ x ∈ o, RS g root x) → (∀ x ∈ l, RS g root x) → U.length < o.length + f → Did g l o (visitF g f l o)) :
  ∀ (l o : List Nm), o.Nodup → (∀ x ∈ o, RS g root x) → (∀ x ∈ l, RS g root x) → U.length < o.length + f + 1 → Did g l o (visL g (visitF g f) l o)
 | [], o, hn, ho, hl, hf => did_nil g hn
 | n :: r, o, hn, ho, hl, hf => by
  simp only [visL]
  have h1 : Did g [n] o (if n ∈ o then o else visitF g f (g n) (o ++ [n])) := by
   split
   ·rename_i h; exact did_had g hn h
   ·rename_i h
    refine did_new g (ih _ _ (nd_add g hU1 hU2 hn h) (fun x hx => ?_) (fun x hx => .step (hl n (by simp)) hx) (by simp; omega))
    rcases List.mem_append.1 hx with hx | hx
    ·exact ho x hx
    ·simp at hx; subst hx; exact hl _ (by simp)
  generalize (if n ∈ o then o else visitF g f (g n) (o ++ [n])) = o1 at h1
  have hlen := Rc.sub_len hn h1.sub
  refine did_cons g h1 (visL_did ih r o1 h1.nd (fun x hx => ?_) (fun x hx => hl x (by simp [hx])) (by omega))
  rcases h1.mem x hx with hx | hx
  ·exact ho x hx
  ·exact rs_mono g (fun z hz => by simp at hz; subst hz; exact hl _ (by simp)) hx
theorem visit_did : ∀ (f : Nat) (l o : List Nm), o.Nodup → (∀ x ∈ o, RS g root x) → (∀ x ∈ l, RS g root x) → U.length < o.length + f → Did g l o (visitF g f l o)
 | 0, l, o, hn, ho, hl, hf => by
  have := rs_len g hU1 hU2 hn ho
  omega
 | f + 1, l, o, hn, ho, hl, hf => visL_did g hU1 hU2 (visit_did f) l o hn ho hl (by omega)
theorem visit_spec {f : Nat} (hf : U.length < f) : (visitF g f root []).Nodup ∧ ∀ x, x ∈ visitF g f root [] ↔ RS g root x := by
 have h := visit_did g hU1 hU2 f root [] List.nodup_nil (by simp) (fun x hx => .base hx) (by simpa using hf)
 refine ⟨h.nd, fun x => ⟨fun hx => ?_, fun hx => rs_least g h.all (fun z hz y hy => ?_) hx⟩⟩
 ·rcases h.mem x hx with hx | hx
  ·simp at hx
  ·exact hx
 ·rcases h.cl z hz with hz | hz
  ·simp at hz
  ·exact hz y hy
end
section
variable (g : Nm → List Nm)
variable {root P : List Nm} (hP : ∀ x, x ∉ P → g x = [])
include hP
end
end Ft
end

noncomputable section
open Go Go.Ab Go.Proofs V S T C
namespace Ft
open W (sl1 slS slN slR)
open X (hasI getM OkX mp_ren)
open Pc (slK slKLe)
open Dk (Nm chkF chk_spec getP get_spec)
open E (PA pa)
theorem grafted_same {ρ : Nat → Nat} : ∀ (l : List Nat) (Hl H : List AObj), l.length = Hl.length → (∀ i (h : i < Hl.length), H[l.getD i 0]? = some (AObj.ren ρ Hl[i])) → grafted ρ l Hl H = H
 | [], [], H, _, _ => rfl
 | i :: l, o :: Hl, H, hl, h => by
  have h0 := h 0 (by simp)
  simp only [List.getD_cons_zero, List.getElem_cons_zero] at h0
  have e : H.set i (AObj.ren ρ o) = H := set_same h0
  simp only [grafted]
  rw [e]
  exact grafted_same l Hl H (by simpa using hl) fun k hk => by
   have := h (k + 1) (by simp; omega)
   simpa using this
theorem same {f : FuncId} {args args' : List AV} {r0 r' : AV} {Hl : List AObj} (l : List Nat) (H : List AObj) (k : ASpec Tryz.prog f args Hl (fun r H' => r = r0 ∧ H' = Hl))
  (hnd : l.Nodup) (hlen : l.length = Hl.length) (ha : args.map (AV.ren (callR l H.length)) = args') (hr : AV.ren (callR l H.length) r0 = r')
  (hobj : ∀ i (h : i < Hl.length), H[l.getD i 0]? = some (AObj.ren (callR l H.length) Hl[i])) : ASpec Tryz.prog f args' H (fun r H' => r = r' ∧ H' = H) :=
 ASpec.subH l H H k args' r' hnd hlen ha hr hobj (by
  unfold graftH
  rw [hlen, List.drop_length, List.map_nil, List.append_nil]
  exact grafted_same l Hl H hlen hobj)
def lowR (v : Int) : List Rel → Nat
 | [] => 0
 | x :: r => if x.1 < v then 1 + lowR v r else 0
def relM (m : Mani) (v : Int) : Rel × Bool :=
 if v < 0 ∨ 1000000000 ≤ v then ((0, []), false) else if lowR v m.2 < m.2.length ∧ (m.2.getD (lowR v m.2) (0, [])).1 = v then (m.2.getD (lowR v m.2) (0, []), true) else ((0, []), false)
theorem lowR_le (v : Int) : ∀ l : List Rel, lowR v l ≤ l.length
 | [] => Nat.le_refl _
 | x :: r => by
  have := lowR_le v r
  simp only [lowR]
  split <;> simp <;> omega
theorem lowR_lt (v : Int) : ∀ (l : List Rel) (i : Nat), i < lowR v l → (l.getD i (0, [])).1 < v
 | [], i, h => by simp [lowR] at h
 | x :: r, i, h => by
  simp only [lowR] at h
  split at h
  ·cases i with
   | zero => simpa
   | succ i => simpa using lowR_lt v r i (by omega)
  ·omega
structure Rise (l : List Rel) : Prop where
 low : ∀ r ∈ l, 0 ≤ r.1 ∧ r.1 < 1000000000
 up : l.Pairwise fun a b => a.1 < b.1
theorem lowR_ge (v : Int) : ∀ (l : List Rel), l.Pairwise (fun a b => a.1 < b.1) → ∀ i, lowR v l ≤ i → i < l.length → v ≤ (l.getD i (0, [])).1
 | [], _, i, _, hi => by simp at hi
 | x :: r, hu, i, h, hi => by
  rw [List.pairwise_cons] at hu
  simp only [lowR] at h
  split at h
  ·cases i with
   | zero => omega
   | succ i => simpa using lowR_ge v r hu.2 i (by omega) (by simpa using hi)
  ·rename_i hx
   cases i with
   | zero => simpa using (by omega : v ≤ x.1)
   | succ i =>
    have hm := hu.1 _ (memD r (0, []) i (by simpa using hi))
    simp only [List.getD_cons_succ]
    omega
theorem cmp_spec (x : Rel) (v : Int) (h1 : 0 ≤ x.1 ∧ x.1 < 1000000000) (h2 : 0 ≤ v ∧ v < 1000000000) (H : List AObj) : ASpec Tryz.prog 195 [.agg (T.encR x), .int .i64 v] H (fun r H' => r = .int .i64 (x.1 - v) ∧ H' = H) := by
 have k : ASpec Tryz.prog 195 [.agg (T.encR x), .int .i64 v] [] (fun r H' => r = .int .i64 (x.1 - v) ∧ H' = []) := by
  refine ASpec.sel (s195 _ _ _ (pa ?_))
  rw [wrap64 (by omega) (by omega)]; exact Le.refl _
 exact ASpec.pureH H k _ _ rfl rfl
theorem bsr3 {l : List Rel} {v : Int} (hs : Rise l) (hl : l.length ≤ lim) (hv : 0 ≤ v ∧ v < 1000000000) : ∀ (m i j : Nat), j - i ≤ m → i ≤ lowR v l → lowR v l ≤ j → j ≤ l.length →
  AWP Tryz.prog 49 0 c194_3 [(0, slR l), (1, .int .i64 v), (2, .fn 195 []), (8, .int .i64 l.length), (9, .int .i64 i), (10, .int .i64 j)] []
   (q194_2 0 (PA (.tup [.int .i64 (lowR v l : Nat), .bool (decide (lowR v l < l.length ∧ (l.getD (lowR v l) (0, [])).1 = v))]))) := by
 unfold lim at hl
 have hel : ∀ i, i < l.length → 0 ≤ (l.getD i (0, [])).1 ∧ (l.getD i (0, [])).1 < 1000000000 := fun i hi => hs.low _ (memD l (0, []) i hi)
 have done : ∀ i : Nat, i = lowR v l → condP (decide ((i : Int) < (l.length : Int))) (needP (0 ≤ (i : Int) ∧ (i : Int) < (l.length : Int)) (ASpec Tryz.prog 195 [.agg (T.encR (l.getD (i : Int).toNat (0, []))), .int .i64 v] []
   (fun r H' => ∃ x : Int, r = .int .i64 x ∧ H' = [] ∧ PA (.tup [.int .i64 (lowR v l : Nat), .bool (decide (lowR v l < l.length ∧ (l.getD (lowR v l) (0, [])).1 = v))]) (.tup [.int .i64 i, .bool (x == 0)]) [])))
   (PA (.tup [.int .i64 (lowR v l : Nat), .bool (decide (lowR v l < l.length ∧ (l.getD (lowR v l) (0, [])).1 = v))]) (.tup [.int .i64 i, .bool false]) []) := by
  rintro i rfl
  refine condD (fun h => needJ ⟨by omega, h⟩ ?_) fun h => pa ?_
  ·rw [Int.toNat_natCast]
   refine ASpec.call (cmp_spec _ v (hel _ (by omega)) hv _) (Les.refl _) ⟨_, rfl, rfl, pa ?_⟩
   have e : ((l.getD (lowR v l) (0, [])).1 - v == 0) = decide (lowR v l < l.length ∧ (l.getD (lowR v l) (0, [])).1 = v) := by
    rw [Bool.eq_iff_iff, beq_iff_eq, decide_eq_true_eq]
    constructor
    ·intro h2; exact ⟨by omega, by omega⟩
    ·intro h2; omega
   rw [e]; exact Le.refl _
  ·rw [decide_eq_false (show ¬ (lowR v l < l.length ∧ (l.getD (lowR v l) (0, [])).1 = v) from fun h2 => h (by omega))]; exact Le.refl _
 intro m
 induction m with
 | zero =>
  intro i j h1 h2 h3 h4
  exact v194_3 _ _ _ _ _ _ _ (condD (fun hc => by omega) fun _ => done i (by omega))
 | succ m ih =>
  intro i j h1 h2 h3 h4
  refine v194_3 _ _ _ _ _ _ _ (condD (fun hc => needJ (by omega) ?_) fun _ => done i (by omega))
  rw [Sg.mid64 (by omega)]
  have hm1 : i ≤ (i + j) / 2 := by omega
  have hm2 : (i + j) / 2 < j := by omega
  refine needJ ⟨by omega, by omega⟩ ?_
  generalize (i + j) / 2 = h at hm1 hm2 ⊢
  rw [Int.toNat_natCast]
  refine ASpec.call (cmp_spec _ v (hel h (by omega)) hv _) (Les.refl _) ⟨_, rfl, rfl, condD (fun hc => ?_) fun hc => ?_⟩
  ·rw [Sg.suc64 (by omega)]
   refine ih (h + 1) j (by omega) ?_ h3 h4
   rcases Nat.lt_or_ge h (lowR v l) with hk | hk
   ·omega
   ·have := lowR_ge v l hs.up h hk (by omega); omega
  ·refine ih i h (by omega) h2 ?_ (by omega)
   rcases Nat.lt_or_ge h (lowR v l) with hk | hk
   ·have := lowR_lt v l h hk; omega
   ·exact hk
theorem leRel0 : Le (.agg [.int .i64 0, .sl 0 (.raw []) .nil]) (.agg (T.encR (0, []))) := Le.agg ⟨Le.refl _, Le.sl rfl (.inr ⟨rfl, fun _ h => by cases h⟩) (.inr rfl), trivial⟩
theorem rel_spec (m : Mani) (v : Int) (hs : Rise m.2) (hl : m.2.length ≤ lim) (hn : ∀ r ∈ m.2, okN r.2) (H : List AObj) :
  ASpec Tryz.prog 125 [.agg (encM m), .int .i64 v] H (fun r H' => r = .tup [.agg (T.encR (relM m v).1), .bool (relM m v).2] ∧ H' = H) := by
 have k : ASpec Tryz.prog 125 [.agg (encM m), .int .i64 v] [] (fun r H' => r = .tup [.agg (T.encR (relM m v).1), .bool (relM m v).2] ∧ H' = []) := by
  have z : ∀ {H'}, relM m v = ((0, []), false) → PA (.tup [.agg (T.encR (relM m v).1), .bool (relM m v).2]) (.tup [.agg [.int .i64 0, .sl 0 (.raw []) .nil], .bool false]) H' := fun e => by
   rw [e]; exact pa (Le.tup ⟨leRel0, Le.refl _, trivial⟩)
  refine ASpec.sel (s125 m v (PA (.tup [.agg (T.encR (relM m v).1), .bool (relM m v).2])) (condD (fun h => z ?_) fun h => condD (fun h2 => z ?_) fun h2 => ?_))
  ·unfold relM; rw [if_pos (by omega)]
  ·unfold relM; rw [if_pos (by omega)]
  ·have hv : 0 ≤ v ∧ v < 1000000000 := by omega
   have k3 : ASpec Tryz.prog 194 [slR m.2, .int .i64 v, .fn 195 []] [] (fun r H' => r = .tup [.int .i64 (lowR v m.2 : Nat), .bool (decide (lowR v m.2 < m.2.length ∧ (m.2.getD (lowR v m.2) (0, [])).1 = v))] ∧ H' = []) :=
    ASpec.sel (s194 _ _ _ (bsr3 hs hl hv m.2.length 0 m.2.length (by omega) (by omega) (lowR_le v m.2) (by omega)))
   have k2 : ASpec Tryz.prog 156 [.agg (encM m), .int .i64 v] [] (fun r H' => r = .tup [.int .i64 (lowR v m.2 : Nat), .bool (decide (lowR v m.2 < m.2.length ∧ (m.2.getD (lowR v m.2) (0, [])).1 = v))] ∧ H' = []) :=
    ASpec.sel (s156 m v _ (ASpec.call (ASpec.pureH _ k3 _ _ rfl rfl) (Les.refl _) ⟨(((lowR v m.2 : Nat) : Int), _), rfl, rfl, pa (Le.refl _)⟩))
   refine ASpec.call (ASpec.pureH _ k2 _ _ rfl rfl) (Les.refl _) ⟨(((lowR v m.2 : Nat) : Int), _), rfl, rfl, condBn (fun hf => z ?_) fun hf => ?_⟩
   ·have hf := of_decide_eq_false hf
    unfold relM; rw [if_neg (by omega), if_neg hf]
   ·have hf := of_decide_eq_true hf
    refine needJ ⟨by omega, by show ((lowR v m.2 : Nat) : Int) < _; omega⟩ ?_
    show ASpec Tryz.prog 99 [.agg (T.encR (m.2.getD ((lowR v m.2 : Nat) : Int).toNat (0, [])))] _ _
    rw [Int.toNat_natCast]
    refine ASpec.call (X.cloneR_spec _ (hn _ (memD m.2 (0, []) _ hf.1)) _) (Les.refl _) ⟨m.2.getD (lowR v m.2) (0, []), rfl, rfl, ?_⟩
    have e : relM m v = (m.2.getD (lowR v m.2) (0, []), true) := by unfold relM; rw [if_neg (by omega), if_pos hf]
    rw [e]; exact pa (Le.refl _)
 exact ASpec.pureH H k _ _ rfl rfl
end Ft
end

noncomputable section
open Go Go.Ab Go.Proofs V S T C
namespace Ft
open W (sl1 slS slN slR leNone renN renS readM)
open X (hasI getM putI OkX mp_ren)
open Pc (slK slKLe)
open Dk (Nm chkF chk_spec getP get_spec)
open E (PA pa)
open Sp (hasS)
def OkG (es : Kn) : Prop := ∀ p ∈ es, ∀ m, p.2 = some m → manOk m = true
theorem read_man {bs : Nm} (h : (readM bs).2 = 0) : manOk (readM bs).1 = true := by
 unfold readM at h ⊢
 split at h
 ·cases h
 ·rename_i hb
  rw [if_neg hb]
  unfold W.endM at h ⊢
  split at h
  ·rename_i hc; exact (hc h).elim
  ·rename_i hc
   split at h
   ·rename_i hm
    rw [if_neg hc, if_pos hm]
    exact hm
   ·cases h
theorem okG_nil : OkG [] := fun p h => by cases h
theorem okG_put {es : Kn} {k bs : Nm} (h : OkG es) : OkG (putI es k bs).2 := by
 unfold putI
 split
 ·exact h
 ·split
  ·exact h
  ·intro p hp m hm
   rcases Rc.set_mem hp with hp | rfl
   ·exact h p hp m hm
   ·unfold X.readK at hm
    split at hm
    ·cases hm
    ·rename_i hc
     simp only [Option.some.injEq] at hm
     subst hm
     exact read_man (by
      by_cases h0 : (readM bs).2 = 0
      ·exact h0
      ·exact (hc (.inl h0)).elim)
theorem rel_low : ∀ {l : List Rel} {e : Int}, relF e l = true → -1 ≤ e → (∀ r ∈ l, e < r.1 ∧ r.1 < 1000000000 ∧ needOk r.2 = true) ∧ l.Pairwise fun a b => a.1 < b.1
 | [], _, _, _ => ⟨by simp, List.Pairwise.nil⟩
 | x :: l, e, h, he => by
  simp only [relF] at h
  split at h
  ·cases h
  ·rename_i hn
   have h1 : e < x.1 := by omega
   have h2 : x.1 < 1000000000 := by omega
   have h3 : needOk x.2 = true := by
    cases hb : needOk x.2 with
    | true => rfl
    | false => exact (hn (.inr (.inr hb))).elim
   obtain ⟨r1, r2⟩ := rel_low h (by omega)
   refine ⟨fun r hr => ?_, List.pairwise_cons.2 ⟨fun y hy => (r1 y hy).1, r2⟩⟩
   rcases List.mem_cons.1 hr with rfl | hr
   ·exact ⟨h1, h2, h3⟩
   ·have := r1 r hr
    exact ⟨by omega, this.2⟩
theorem needs_ok : ∀ {l : List Need} {last : Nm}, needsF last l = true → ∀ n ∈ l, fitM n.1 = true ∧ Sg.ok n.2
 | [], _, _, n, hn => by simp at hn
 | x :: l, last, h, n, hn => by
  simp only [needsF] at h
  split at h
  ·cases h
  ·rename_i hx
   rcases List.mem_cons.1 hn with rfl | hn
   ·refine ⟨?_, ?_⟩
    ·cases hb : fitM n.1 with
     | true => rfl
     | false => exact (hx (.inl hb)).elim
    ·show chkS (-1) n.2 = true
     cases hb : chkS (-1) n.2 with
     | true => rfl
     | false => exact (hx (.inr (.inr (.inr hb)))).elim
   ·exact needs_ok h n hn
def NsOk (l : List Need) : Prop := ∀ n ∈ l, fitM n.1 = true ∧ Sg.ok n.2
theorem ns_of {l : List Need} (h : needOk l = true) : NsOk l ∧ l.length ≤ 6 := by
 unfold needOk at h
 rw [Bool.and_eq_true] at h
 exact ⟨needs_ok h.1, of_decide_eq_true h.2⟩
theorem man_rise {m : Mani} (h : manOk m = true) : Rise m.2 ∧ ∀ r ∈ m.2, NsOk r.2 ∧ r.2.length ≤ 6 := by
 unfold manOk at h
 rw [Bool.and_eq_true] at h
 obtain ⟨h1, h2⟩ := rel_low h.1 (by omega)
 exact ⟨⟨fun r hr => by have := h1 r hr; omega, h2⟩, fun r hr => ns_of (h1 r hr).2.2⟩
theorem get_cases {es : Kn} (hg : OkG es) (k : Nm) : (getM es k).1.2 = [] ∨ manOk (getM es k).1 = true := by
 unfold getM
 split
 ·rename_i m hm
  obtain ⟨p, hp, e⟩ := Rc.find_mem hm
  exact .inr (hg p hp _ e)
 ·exact .inl rfl
theorem get_rise {es : Kn} (hg : OkG es) (k : Nm) : Rise (getM es k).1.2 ∧ ∀ r ∈ (getM es k).1.2, NsOk r.2 ∧ r.2.length ≤ 6 := by
 rcases get_cases hg k with h | h
 ·rw [h]; exact ⟨⟨by simp, List.Pairwise.nil⟩, by simp⟩
 ·exact man_rise h
theorem get_okN {es : Kn} (hx : OkX es) (k : Nm) : (getM es k).1.2.length ≤ lim ∧ ∀ r ∈ (getM es k).1.2, okN r.2 := by
 unfold getM
 split
 ·rename_i m hm
  exact ⟨(hx _ _ hm).2.1, (hx _ _ hm).2.2⟩
 ·exact ⟨by simp, by simp⟩
def relOf (es : Kn) (p : Pk) : Rel × Bool := relM (getM es p.1).1 p.2
theorem relM_mem {m : Mani} {v : Int} : (relM m v).1 ∈ m.2 ∨ (relM m v).1 = (0, []) := by
 unfold relM
 split
 ·exact .inr rfl
 ·split
  ·rename_i h; exact .inl (memD m.2 (0, []) _ h.1)
  ·exact .inr rfl
theorem rel_needs {es : Kn} (hg : OkG es) (p : Pk) : NsOk (relOf es p).1.2 ∧ (relOf es p).1.2.length ≤ 6 := by
 unfold relOf
 rcases relM_mem (m := (getM es p.1).1) (v := p.2) with h | h
 ·exact (get_rise hg p.1).2 _ h
 ·rw [h]; exact ⟨fun n hn => by simp at hn, by simp⟩
def metB (l : List Pk) (n : Need) : Bool := (getP l n.1).2 && hasS n.2 (getP l n.1).1
theorem selF (es : Kn) (root : List Need) (l : List Pk) (q : List AObj) : Sel 3 [0, 1, 2] (HF es root l ++ q) (HF es root l) := by
 refine ⟨by decide, rfl, by decide, fun i hi => ?_, fun i hi => .inl ?_⟩
 ·match i, hi with
  | 0, _ | 1, _ | 2, _ => rfl
 ·match i, hi with
  | 0, _ => show some _ = some (AObj.ren _ (.mp (.typed EK es))); rw [mp_ren]
  | 1, _ | 2, _ => rfl
abbrev PF (es : Kn) (root : List Need) (l : List Pk) (r0 : AV) : AV → List AObj → Prop := fun r H' => ∃ s H2 r2, Sel 3 s H' H2 ∧ Le r (AV.ren (selR s H'.length) r2) ∧ (r2 = r0 ∧ H2 = HF es root l)
theorem pf {es : Kn} {root : List Need} {l : List Pk} {r r0 : AV} (q : List AObj) (h : ∀ ρ, Le r (AV.ren ρ r0)) : PF es root l r0 r (HF es root l ++ q) := ⟨_, _, _, selF es root l q, h _, rfl, rfl⟩
abbrev HC (es : Kn) (root : List Need) (l : List Pk) (c : AObj) : List AObj := HF es root l ++ [c]
theorem selC (es : Kn) (root : List Need) (l : List Pk) (c : AObj) {q : List AObj} (hc : AObj.ren (selR [0, 1, 2, 3] (HF es root l ++ c :: q).length) c = c) : Sel 4 [0, 1, 2, 3] (HF es root l ++ c :: q) (HC es root l c) := by
 refine ⟨by decide, rfl, by decide, fun i hi => ?_, fun i hi => .inl ?_⟩
 ·match i, hi with
  | 0, _ | 1, _ | 2, _ | 3, _ => rfl
 ·match i, hi with
  | 0, _ => show some _ = some (AObj.ren _ (.mp (.typed EK es))); rw [mp_ren]
  | 1, _ | 2, _ => rfl
  | 3, _ => show some c = some (AObj.ren _ c); rw [hc]
abbrev PG (es : Kn) (root : List Need) (l : List Pk) (c : AObj) (r0 : AV) : AV → List AObj → Prop := fun r H' => ∃ s H2 r2, Sel 4 s H' H2 ∧ Le r (AV.ren (selR s H'.length) r2) ∧ (r2 = r0 ∧ H2 = HC es root l c)
abbrev cA : AObj := .cells [.ptr 2 0]
abbrev cQ (q : List Nm) : AObj := .cells [.sl 1 (.map encL [] q) .none]
theorem pgA {es : Kn} {root : List Need} {l : List Pk} {r r0 : AV} (q : List AObj) (h : ∀ ρ, Le r (AV.ren ρ r0)) : PG es root l cA r0 r (HF es root l ++ cA :: q) := ⟨_, _, _, selC es root l cA rfl, h _, rfl, rfl⟩
theorem pgQ {es : Kn} {root : List Need} {l : List Pk} {r r0 : AV} (w : List Nm) (q : List AObj) (h : ∀ ρ, Le r (AV.ren ρ r0)) : PG es root l (cQ w) r0 r (HF es root l ++ cQ w :: q) := ⟨_, _, _, selC es root l (cQ w) rfl, h _, rfl, rfl⟩
theorem lift3 {f : FuncId} {es : Kn} {root : List Need} {l : List Pk} {args args' : List AV} {r0 r' : AV} (H : List AObj) (k : ASpec Tryz.prog f args (HF es root l) (fun r H' => r = r0 ∧ H' = HF es root l))
  (h0 : H[0]? = some (.mp (.typed EK es))) (h1 : H[1]? = some (.cells [.map 0])) (h2 : H[2]? = some (.cells (encAk root l)))
  (ha : args.map (AV.ren (callR [0, 1, 2] H.length)) = args') (hr : AV.ren (callR [0, 1, 2] H.length) r0 = r') : ASpec Tryz.prog f args' H (fun r H' => r = r' ∧ H' = H) :=
 same [0, 1, 2] H k (by decide) rfl ha hr (fun i hi => by
  match i, hi with
  | 0, _ => show H[0]? = some (AObj.ren _ (.mp (.typed EK es))); rw [mp_ren]; exact h0
  | 1, _ => exact h1
  | 2, _ => exact h2)
theorem leRl (x : Rel) (ρ : Nat → Nat) : Le (.agg (T.encR x)) (AV.ren ρ (.agg (T.encR x))) := Le.agg ⟨Le.refl _, leNone renN, trivial⟩
section
variable {es : Kn} (hx : OkX es) (hg : OkG es) {root : List Need} {l : List Pk} (hl : l.length ≤ 100000)
include hx hg hl
theorem release0 (p : Pk) : ASpec Tryz.prog 163 [.ptr 2 0, .agg (encPk p)] (HF es root l) (fun r H' => r = .tup [.agg (T.encR (relOf es p).1), .bool (relOf es p).2] ∧ H' = HF es root l) := by
 have hr := get_rise hg p.1
 have hn := get_okN hx p.1
 refine ASpec.sel (s163 es root l p (PF es root l (.tup [.agg (T.encR (relOf es p).1), .bool (relOf es p).2])) (ASpec.call (X.get_spec es p.1 hx _ 0 1 (by omega) rfl rfl) (Les.refl _) ⟨getM es p.1, rfl, rfl, ?_⟩))
 repeat refine ⟨⟨rfl, rfl⟩, ?_⟩
 refine ASpec.call (rel_spec (getM es p.1).1 p.2 hr.1 hn.1 hn.2 _) (Les.refl _) ⟨relOf es p, rfl, rfl, ?_⟩
 exact pf (es := es) (root := root) (l := l) [_, _, _] fun ρ => Le.tup ⟨leRl _ ρ, Le.refl _, trivial⟩
theorem met0 (n : Need) (hn : Sg.ok n.2) : ASpec Tryz.prog 160 [.ptr 2 0, .agg (encN n)] (HF es root l) (fun r H' => r = .bool (metB l n) ∧ H' = HF es root l) := by
 refine ASpec.sel (s160 es root l n (PF es root l (.bool (metB l n))) (ASpec.call (get_spec l n.1 hl _) (Les.refl _) ⟨getP l n.1, rfl, rfl, condB (fun h => ?_) fun h => ?_⟩))
 ·refine ASpec.call (Sg.has_spec n.2 _ hn _) (Les.refl _) ⟨_, rfl, rfl, pf (es := es) (root := root) (l := l) [_] fun ρ => ?_⟩
  unfold metB; rw [h, Bool.true_and]; exact Le.refl _
 ·refine pf (es := es) (root := root) (l := l) [_] fun ρ => ?_
  unfold metB; rw [h, Bool.false_and]; exact Le.refl _
theorem absent0 (p : Pk) : ASpec Tryz.prog 162 [.agg (encPk p), .ptr 3 0] (HC es root l cA) (fun r H' => r = .bool (!(relOf es p).2) ∧ H' = HC es root l cA) := by
 refine ASpec.sel (s162 es root l p (PG es root l cA (.bool (!(relOf es p).2))) (ASpec.call (lift3 _ (release0 hx hg hl (root := root) p) rfl rfl rfl rfl rfl) (Les.refl _) ⟨relOf es p, rfl, rfl, ?_⟩))
 exact pgA (es := es) (root := root) (l := l) [_, _] fun ρ => Le.refl _
theorem unmet0 (n : Need) (hn : Sg.ok n.2) : ASpec Tryz.prog 166 [.agg (encN n), .ptr 3 0] (HC es root l cA) (fun r H' => r = .bool (!metB l n) ∧ H' = HC es root l cA) := by
 refine ASpec.sel (s166 es root l n (PG es root l cA (.bool (!metB l n))) (ASpec.call (lift3 _ (met0 hx hg hl (root := root) n hn) rfl rfl rfl rfl rfl) (Les.refl _) ⟨metB l n, rfl, rfl, ?_⟩))
 exact pgA (es := es) (root := root) (l := l) [_] fun ρ => Le.refl _
def ixN (f : Need → Bool) : List Need → Nat → Int
 | [], _ => -1
 | n :: r, i => if f n = true then (i : Int) else ixN f r (i + 1)
omit hx hg hl in
theorem ixN_any (f : Need → Bool) : ∀ (r : List Need) (i : Nat), decide (ixN f r i ≥ 0) = r.any f
 | [], i => by simp [ixN]
 | n :: r, i => by
  simp only [ixN, List.any_cons]
  split
  ·rename_i h; rw [h, decide_eq_true (by omega), Bool.true_or]
  ·rename_i h; rw [show f n = false by simpa using h, Bool.false_or, ixN_any f r (i + 1)]
theorem any2 {ns : List Need} (hns : NsOk ns) (hnl : ns.length ≤ lim) {R : Int} : ∀ (m i : Nat), m + i = ns.length → ixN (fun n => !metB l n) (ns.drop i) i = R →
  AWP Tryz.prog 19 4 c126_2 [(0, slN ns), (1, .fn 166 [.ptr 3 0]), (7, .int .i64 ns.length), (8, .int .i64 i)] (HC es root l cA) (q126_2 4 (PG es root l cA (.int .i64 R))) := by
 unfold lim at hnl
 intro m
 induction m with
 | zero =>
  intro i hm h
  refine v126_2 _ _ _ _ _ _ _ _ (condD (fun hc => by omega) fun _ => ?_)
  rw [List.drop_eq_nil_of_le (by omega)] at h
  subst h
  exact pgA (es := es) (root := root) (l := l) [] fun ρ => Le.refl _
 | succ m ih =>
  intro i hm h
  rw [dropD ns ([], []) i (by omega)] at h
  have hn := hns _ (memD ns ([], []) i (by omega))
  refine v126_2 _ _ _ _ _ _ _ _ (condD (fun _ => needJ ⟨by omega, by omega⟩ ?_) fun hc => by omega)
  rw [Int.toNat_natCast, succ64 (by omega)]
  generalize ns.getD i ([], []) = n at h hn ⊢
  refine ASpec.call (unmet0 hx hg hl n hn.2) (Les.refl _) ⟨_, rfl, rfl, ?_⟩
  simp only [ixN] at h
  refine condB (fun hb => ?_) fun hb => ?_
  ·rw [if_pos hb] at h
   subst h
   exact pgA (es := es) (root := root) (l := l) [] fun ρ => Le.refl _
  ·rw [if_neg (by rw [hb]; simp)] at h
   exact ih (i + 1) (by omega) h
def lackB (es : Kn) (l : List Pk) (p : Pk) : Bool := (relOf es p).1.2.any fun n => !metB l n
theorem lacks0 {ns : List Need} (hns : NsOk ns) (hnl : ns.length ≤ lim) : ASpec Tryz.prog 165 [slN ns, .fn 166 [.ptr 3 0]] (HC es root l cA) (fun r H' => r = .bool (ns.any fun n => !metB l n) ∧ H' = HC es root l cA) := by
 have k1 : ASpec Tryz.prog 126 [slN ns, .fn 166 [.ptr 3 0]] (HC es root l cA) (fun r H' => r = .int .i64 (ixN (fun n => !metB l n) ns 0) ∧ H' = HC es root l cA) :=
  ASpec.sel (s126 es root l ns _ (any2 hx hg hl hns hnl ns.length 0 (by omega) rfl))
 refine ASpec.sel (s165 es root l ns (PG es root l cA _) (ASpec.call k1 (Les.refl _) ⟨_, rfl, rfl, ?_⟩))
 rw [ixN_any]
 exact pgA (es := es) (root := root) (l := l) [] fun ρ => Le.refl _
theorem lacking0 (p : Pk) : ASpec Tryz.prog 164 [.agg (encPk p), .ptr 3 0] (HC es root l cA) (fun r H' => r = .bool (lackB es l p) ∧ H' = HC es root l cA) := by
 have hr := rel_needs hg p
 refine ASpec.sel (s164 es root l p (PG es root l cA (.bool (lackB es l p))) (ASpec.call (lift3 _ (release0 hx hg hl (root := root) p) rfl rfl rfl rfl rfl) (Les.refl _) ⟨relOf es p, rfl, rfl, ?_⟩))
 refine ASpec.call (same [0, 1, 2, 3] _ (lacks0 hx hg hl (root := root) (l := l) hr.1 (by unfold lim; omega)) (by decide) rfl rfl rfl (fun i hi => ?_)) (Les.refl _) ⟨_, rfl, rfl, ?_⟩
 ·match i, hi with
  | 0, _ => show some _ = some (AObj.ren _ (.mp (.typed EK es))); rw [mp_ren]
  | 1, _ | 2, _ | 3, _ => rfl
 ·exact pgA (es := es) (root := root) (l := l) [_, _] fun ρ => Le.refl _
theorem idle0 (q : List Nm) (hq : q.length ≤ 1000000) (p : Pk) : ASpec Tryz.prog 168 [.agg (encPk p), .ptr 3 0] (HC es root l (cQ q)) (fun r H' => r = .bool (!decide (p.1 ∈ q)) ∧ H' = HC es root l (cQ q)) := by
 refine ASpec.sel (s168 es root l q p (PG es root l (cQ q) (.bool (!decide (p.1 ∈ q)))) (ASpec.call (Wn.in_spec q p.1 hq _) (Les.refl _) ⟨_, rfl, rfl, ?_⟩))
 exact pgQ (es := es) (root := root) (l := l) q [_] fun ρ => Le.refl _
def ixK (f : Pk → Bool) : List Pk → Nat → Int
 | [], _ => -1
 | p :: r, i => if f p = true then (i : Int) else ixK f r (i + 1)
def firstK (f : Pk → Bool) (l : List Pk) : Nm × Bool := match l.find? f with
 | some p => (p.1, true)
 | none => ([], false)
omit hx hg hl in
theorem ixK_first (f : Pk → Bool) : ∀ (r : List Pk) (i : Nat), (ixK f r i < 0 ∧ r.find? f = none) ∨ ∃ j : Nat, ixK f r i = ((i + j : Nat) : Int) ∧ j < r.length ∧ r.find? f = some (r.getD j noPk)
 | [], i => .inl ⟨by simp [ixK], rfl⟩
 | p :: r, i => by
  simp only [ixK, List.find?_cons]
  split
  ·rename_i h
   rw [h]
   exact .inr ⟨0, by simp, by simp, by simp⟩
  ·rename_i h
   rw [show f p = false by simpa using h]
   rcases ixK_first f r (i + 1) with h1 | ⟨j, h1, h2, h3⟩
   ·exact .inl h1
   ·exact .inr ⟨j + 1, by rw [h1]; congr 1; omega, by simp; omega, by simpa using h3⟩
theorem ix2a (f : Pk → Bool) (hf : ∀ p ∈ l, ASpec Tryz.prog 162 [.agg (encPk p), .ptr 3 0] (HC es root l cA) (fun r H' => r = .bool (f p) ∧ H' = HC es root l cA)) {R : Int} : ∀ (m i : Nat), m + i = l.length → ixK f (l.drop i) i = R →
  AWP Tryz.prog 19 4 c193_2 [(0, slK l), (1, .fn 162 [.ptr 3 0]), (7, .int .i64 l.length), (8, .int .i64 i)] (HC es root l cA) (q193_2 4 (PG es root l cA (.int .i64 R))) := by
 intro m
 induction m with
 | zero =>
  intro i hm h
  refine v193_2a _ _ _ _ _ _ _ (condD (fun hc => by omega) fun _ => ?_)
  rw [List.drop_eq_nil_of_le (by omega)] at h
  subst h
  exact pgA (es := es) (root := root) (l := l) [] fun ρ => Le.refl _
 | succ m ih =>
  intro i hm h
  rw [dropD l noPk i (by omega)] at h
  have hp := hf _ (memD l noPk i (by omega))
  refine v193_2a _ _ _ _ _ _ _ (condD (fun _ => needJ ⟨by omega, by omega⟩ ?_) fun hc => by omega)
  rw [Int.toNat_natCast, succ64 (by omega)]
  generalize l.getD i noPk = p at h hp ⊢
  refine ASpec.call hp (Les.refl _) ⟨_, rfl, rfl, ?_⟩
  simp only [ixK] at h
  refine condB (fun hb => ?_) fun hb => ?_
  ·rw [if_pos hb] at h
   subst h
   exact pgA (es := es) (root := root) (l := l) [] fun ρ => Le.refl _
  ·rw [if_neg (by rw [hb]; simp)] at h
   exact ih (i + 1) (by omega) h
theorem firsta (f : Pk → Bool) (hf : ∀ p ∈ l, ASpec Tryz.prog 162 [.agg (encPk p), .ptr 3 0] (HC es root l cA) (fun r H' => r = .bool (f p) ∧ H' = HC es root l cA)) :
  ASpec Tryz.prog 161 [.ptr 2 0, .fn 162 [.ptr 3 0]] (HC es root l cA) (fun r H' => r = .tup [.str (B (firstK f l).1), .bool (firstK f l).2] ∧ H' = HC es root l cA) := by
 have k1 : ASpec Tryz.prog 193 [slK l, .fn 162 [.ptr 3 0]] (HC es root l cA) (fun r H' => r = .int .i64 (ixK f l 0) ∧ H' = HC es root l cA) :=
  ASpec.sel (s193a es root l _ (ix2a hx hg hl f hf l.length 0 (by omega) rfl))
 refine ASpec.sel (s161a es root l (PG es root l cA _) (ASpec.call k1 (Les.refl _) ⟨_, rfl, rfl, ?_⟩))
 unfold firstK
 rcases ixK_first f l 0 with ⟨h1, h2⟩ | ⟨j, h1, h2, h3⟩
 ·rw [h2]
  refine condD (fun _ => ?_) fun h => absurd h1 h
  exact pgA (es := es) (root := root) (l := l) [] fun ρ => Le.refl _
 ·rw [h3, h1, Nat.zero_add]
  refine condD (fun h => by omega) fun _ => needJ ⟨by omega, by omega⟩ ?_
  rw [Int.toNat_natCast]
  exact pgA (es := es) (root := root) (l := l) [] fun ρ => Le.refl _
theorem ix2l (f : Pk → Bool) (hf : ∀ p ∈ l, ASpec Tryz.prog 164 [.agg (encPk p), .ptr 3 0] (HC es root l cA) (fun r H' => r = .bool (f p) ∧ H' = HC es root l cA)) {R : Int} : ∀ (m i : Nat), m + i = l.length → ixK f (l.drop i) i = R →
  AWP Tryz.prog 19 4 c193_2 [(0, slK l), (1, .fn 164 [.ptr 3 0]), (7, .int .i64 l.length), (8, .int .i64 i)] (HC es root l cA) (q193_2 4 (PG es root l cA (.int .i64 R))) := by
 intro m
 induction m with
 | zero =>
  intro i hm h
  refine v193_2l _ _ _ _ _ _ _ (condD (fun hc => by omega) fun _ => ?_)
  rw [List.drop_eq_nil_of_le (by omega)] at h
  subst h
  exact pgA (es := es) (root := root) (l := l) [] fun ρ => Le.refl _
 | succ m ih =>
  intro i hm h
  rw [dropD l noPk i (by omega)] at h
  have hp := hf _ (memD l noPk i (by omega))
  refine v193_2l _ _ _ _ _ _ _ (condD (fun _ => needJ ⟨by omega, by omega⟩ ?_) fun hc => by omega)
  rw [Int.toNat_natCast, succ64 (by omega)]
  generalize l.getD i noPk = p at h hp ⊢
  refine ASpec.call hp (Les.refl _) ⟨_, rfl, rfl, ?_⟩
  simp only [ixK] at h
  refine condB (fun hb => ?_) fun hb => ?_
  ·rw [if_pos hb] at h
   subst h
   exact pgA (es := es) (root := root) (l := l) [] fun ρ => Le.refl _
  ·rw [if_neg (by rw [hb]; simp)] at h
   exact ih (i + 1) (by omega) h
theorem firstl (f : Pk → Bool) (hf : ∀ p ∈ l, ASpec Tryz.prog 164 [.agg (encPk p), .ptr 3 0] (HC es root l cA) (fun r H' => r = .bool (f p) ∧ H' = HC es root l cA)) :
  ASpec Tryz.prog 161 [.ptr 2 0, .fn 164 [.ptr 3 0]] (HC es root l cA) (fun r H' => r = .tup [.str (B (firstK f l).1), .bool (firstK f l).2] ∧ H' = HC es root l cA) := by
 have k1 : ASpec Tryz.prog 193 [slK l, .fn 164 [.ptr 3 0]] (HC es root l cA) (fun r H' => r = .int .i64 (ixK f l 0) ∧ H' = HC es root l cA) :=
  ASpec.sel (s193l es root l _ (ix2l hx hg hl f hf l.length 0 (by omega) rfl))
 refine ASpec.sel (s161l es root l (PG es root l cA _) (ASpec.call k1 (Les.refl _) ⟨_, rfl, rfl, ?_⟩))
 unfold firstK
 rcases ixK_first f l 0 with ⟨h1, h2⟩ | ⟨j, h1, h2, h3⟩
 ·rw [h2]
  refine condD (fun _ => ?_) fun h => absurd h1 h
  exact pgA (es := es) (root := root) (l := l) [] fun ρ => Le.refl _
 ·rw [h3, h1, Nat.zero_add]
  refine condD (fun h => by omega) fun _ => needJ ⟨by omega, by omega⟩ ?_
  rw [Int.toNat_natCast]
  exact pgA (es := es) (root := root) (l := l) [] fun ρ => Le.refl _
theorem ix2i (q : List Nm) (f : Pk → Bool) (hf : ∀ p ∈ l, ASpec Tryz.prog 168 [.agg (encPk p), .ptr 3 0] (HC es root l (cQ q)) (fun r H' => r = .bool (f p) ∧ H' = HC es root l (cQ q))) {R : Int} : ∀ (m i : Nat), m + i = l.length → ixK f (l.drop i) i = R →
  AWP Tryz.prog 19 4 c193_2 [(0, slK l), (1, .fn 168 [.ptr 3 0]), (7, .int .i64 l.length), (8, .int .i64 i)] (HC es root l (cQ q)) (q193_2 4 (PG es root l (cQ q) (.int .i64 R))) := by
 intro m
 induction m with
 | zero =>
  intro i hm h
  refine v193_2i _ _ _ _ _ _ _ _ (condD (fun hc => by omega) fun _ => ?_)
  rw [List.drop_eq_nil_of_le (by omega)] at h
  subst h
  exact pgQ (es := es) (root := root) (l := l) q [] fun ρ => Le.refl _
 | succ m ih =>
  intro i hm h
  rw [dropD l noPk i (by omega)] at h
  have hp := hf _ (memD l noPk i (by omega))
  refine v193_2i _ _ _ _ _ _ _ _ (condD (fun _ => needJ ⟨by omega, by omega⟩ ?_) fun hc => by omega)
  rw [Int.toNat_natCast, succ64 (by omega)]
  generalize l.getD i noPk = p at h hp ⊢
  refine ASpec.call hp (Les.refl _) ⟨_, rfl, rfl, ?_⟩
  simp only [ixK] at h
  refine condB (fun hb => ?_) fun hb => ?_
  ·rw [if_pos hb] at h
   subst h
   exact pgQ (es := es) (root := root) (l := l) q [] fun ρ => Le.refl _
  ·rw [if_neg (by rw [hb]; simp)] at h
   exact ih (i + 1) (by omega) h
theorem firsti (q : List Nm) (f : Pk → Bool) (hf : ∀ p ∈ l, ASpec Tryz.prog 168 [.agg (encPk p), .ptr 3 0] (HC es root l (cQ q)) (fun r H' => r = .bool (f p) ∧ H' = HC es root l (cQ q))) :
  ASpec Tryz.prog 161 [.ptr 2 0, .fn 168 [.ptr 3 0]] (HC es root l (cQ q)) (fun r H' => r = .tup [.str (B (firstK f l).1), .bool (firstK f l).2] ∧ H' = HC es root l (cQ q)) := by
 have k1 : ASpec Tryz.prog 193 [slK l, .fn 168 [.ptr 3 0]] (HC es root l (cQ q)) (fun r H' => r = .int .i64 (ixK f l 0) ∧ H' = HC es root l (cQ q)) :=
  ASpec.sel (s193i es root l q _ (ix2i hx hg hl q f hf l.length 0 (by omega) rfl))
 refine ASpec.sel (s161i es root l q (PG es root l (cQ q) _) (ASpec.call k1 (Les.refl _) ⟨_, rfl, rfl, ?_⟩))
 unfold firstK
 rcases ixK_first f l 0 with ⟨h1, h2⟩ | ⟨j, h1, h2, h3⟩
 ·rw [h2]
  refine condD (fun _ => ?_) fun h => absurd h1 h
  exact pgQ (es := es) (root := root) (l := l) q [] fun ρ => Le.refl _
 ·rw [h3, h1, Nat.zero_add]
  refine condD (fun h => by omega) fun _ => needJ ⟨by omega, by omega⟩ ?_
  rw [Int.toNat_natCast]
  exact pgQ (es := es) (root := root) (l := l) q [] fun ρ => Le.refl _
def unmetF (l : List Pk) : List Need → Nm × Bool
 | [] => ([], false)
 | n :: r => if metB l n = false then (n.1, true) else unmetF l r
theorem unmet2 (hns : NsOk root) (hnl : root.length ≤ lim) {R : Nm × Bool} : ∀ (m i : Nat), m + i = root.length → unmetF l (root.drop i) = R →
  AWP Tryz.prog 22 3 c133_2 [(0, .ptr 2 0), (9, slN root), (10, .int .i64 root.length), (11, .int .i64 i)] (HF es root l) (q133_2 3 (PF es root l (.tup [.str (B R.1), .bool R.2]))) := by
 unfold lim at hnl
 intro m
 induction m with
 | zero =>
  intro i hm h
  refine v133_2 _ _ _ _ _ _ _ (condD (fun hc => by omega) fun _ => ?_)
  rw [List.drop_eq_nil_of_le (by omega)] at h
  subst h
  exact pf (es := es) (root := root) (l := l) [] fun ρ => Le.refl _
 | succ m ih =>
  intro i hm h
  rw [dropD root ([], []) i (by omega)] at h
  have hn := hns _ (memD root ([], []) i (by omega))
  refine v133_2 _ _ _ _ _ _ _ (condD (fun _ => needJ ⟨by omega, by omega⟩ ?_) fun hc => by omega)
  rw [Int.toNat_natCast, succ64 (by omega)]
  generalize root.getD i ([], []) = n at h hn ⊢
  refine ASpec.call (lift3 _ (met0 hx hg hl (root := root) n hn.2) rfl rfl rfl rfl rfl) (Les.refl _) ⟨_, rfl, rfl, ?_⟩
  simp only [unmetF] at h
  refine condBn (fun hb => ?_) fun hb => ?_
  ·rw [if_pos hb] at h
   subst h
   exact pf (es := es) (root := root) (l := l) [_] fun ρ => Le.refl _
  ·rw [if_neg (by rw [hb]; simp)] at h
   exact AWP.shape [0, 1, 2] _ (HF es root l) (selF es root l [_]) (Rc.slotsR rfl) (ih (i + 1) (by omega) h)
theorem rule2 (hns : NsOk root) (hnl : root.length ≤ lim) : ASpec Tryz.prog 133 [.ptr 2 0] (HF es root l) (fun r H' => r = .tup [.str (B (unmetF l root).1), .bool (unmetF l root).2] ∧ H' = HF es root l) :=
 ASpec.sel (s133 es root l _ (unmet2 hx hg hl hns hnl root.length 0 (by omega) rfl))
theorem rule1 (hp : ∀ p ∈ l, p.1.length ≤ 1000) : ASpec Tryz.prog 132 [.ptr 2 0] (HF es root l) (fun r H' => r = .tup [.str (B []), .bool (!chkF none l)] ∧ H' = HF es root l) := by
 refine ASpec.sel (s132 es root l (PF es root l _) (ASpec.call (chk_spec (s := l) hl hp _) (Les.refl _) ⟨_, rfl, rfl, ?_⟩))
 exact pf (es := es) (root := root) (l := l) [] fun ρ => Le.refl _
theorem rule3 : ASpec Tryz.prog 134 [.ptr 2 0] (HF es root l) (fun r H' => r = .tup [.str (B (firstK (fun p => !(relOf es p).2) l).1), .bool (firstK (fun p => !(relOf es p).2) l).2] ∧ H' = HF es root l) := by
 refine ASpec.sel (s134 es root l (PF es root l _) (ASpec.call (firsta hx hg hl _ (fun p _ => absent0 hx hg hl p)) (Les.refl _) ⟨(B (firstK (fun p => !(relOf es p).2) l).1, _), rfl, rfl, ?_⟩))
 exact pf (es := es) (root := root) (l := l) [_] fun ρ => Le.refl _
theorem rule4 : ASpec Tryz.prog 135 [.ptr 2 0] (HF es root l) (fun r H' => r = .tup [.str (B (firstK (lackB es l) l).1), .bool (firstK (lackB es l) l).2] ∧ H' = HF es root l) := by
 refine ASpec.sel (s135 es root l (PF es root l _) (ASpec.call (firstl hx hg hl _ (fun p _ => lacking0 hx hg hl p)) (Les.refl _) ⟨(B (firstK (lackB es l) l).1, _), rfl, rfl, ?_⟩))
 exact pf (es := es) (root := root) (l := l) [_] fun ρ => Le.refl _
end
end Ft
end

noncomputable section
open Go Go.Ab Go.Proofs V S T C
namespace Ft
open W (sl1 slS slN slR leNone renN renS)
open X (hasI getM putI OkX mp_ren optI)
open Pc (slK slKLe)
open Dk (chkF chk_spec getP get_spec)
open E (PA pa)
open Rc (RS slL slLle nilLle ren_mp find_seen put_seen slotsR selN sort_strict sort_one sub_len)
open So (sortL)
theorem grafted_out {ρ : Nat → Nat} : ∀ (l : List Nat) (Hl H : List AObj) (i : Nat) (a : AObj), i ∉ l → grafted ρ l Hl (H.set i a) = (grafted ρ l Hl H).set i a
 | [], Hl, H, i, a, _ => by cases Hl <;> rfl
 | k :: l, [], H, i, a, _ => rfl
 | k :: l, o :: Hl, H, i, a, h => by
  simp only [List.mem_cons, not_or] at h
  simp only [grafted]
  rw [List.set_comm _ _ (fun e => h.1 e), grafted_out l Hl _ i a h.2]
theorem grafted_set {ρ : Nat → Nat} : ∀ (l : List Nat) (Hl H : List AObj) (j : Nat) (o' : AObj), l.Nodup → l.length = Hl.length → j < l.length → grafted ρ l (Hl.set j o') H = (grafted ρ l Hl H).set (l.getD j 0) (AObj.ren ρ o')
 | [], _, H, j, o', _, _, h => by simp at h
 | k :: l, [], H, j, o', _, hl, _ => by simp at hl
 | k :: l, o :: Hl, H, 0, o', hn, hl, _ => by
  rw [List.nodup_cons] at hn
  simp only [List.set_cons_zero, grafted, List.getD_cons_zero]
  rw [grafted_out l Hl H k _ hn.1, grafted_out l Hl H k _ hn.1, List.set_set]
 | k :: l, o :: Hl, H, j + 1, o', hn, hl, h => by
  rw [List.nodup_cons] at hn
  simp only [List.set_cons_succ, grafted, List.getD_cons_succ]
  exact grafted_set l Hl _ j o' hn.2 (by simpa using hl) (by simpa using h)
theorem sameSet {f : FuncId} {args args' : List AV} {r0 r' : AV} {Hl : List AObj} (l : List Nat) (H : List AObj) (j : Nat) (o' : AObj) (k : ASpec Tryz.prog f args Hl (fun r H' => r = r0 ∧ H' = Hl.set j o'))
  (hnd : l.Nodup) (hlen : l.length = Hl.length) (hj : j < l.length) (ha : args.map (AV.ren (callR l H.length)) = args') (hr : AV.ren (callR l H.length) r0 = r')
  (hobj : ∀ i (h : i < Hl.length), H[l.getD i 0]? = some (AObj.ren (callR l H.length) Hl[i])) :
  ASpec Tryz.prog f args' H (fun r H' => r = r' ∧ H' = H.set (l.getD j 0) (AObj.ren (callR l H.length) o')) :=
 ASpec.subH l H _ k args' r' hnd hlen ha hr hobj (by
  unfold graftH
  rw [List.drop_eq_nil_of_le (by rw [List.length_set]; omega), List.map_nil, List.append_nil, grafted_set l Hl H j o' hnd hlen hj, grafted_same l Hl H hlen hobj])
abbrev CAPS : List AV := [.ptr 6 0, .ptr 2 0, .ptr 4 0, .ptr 7 0]
def gF (es : Kn) (l : List Pk) (x : List UInt8) : List (List UInt8) := if (getP l x).2 = true then (relOf es (x, (getP l x).1)).1.2.map (·.1) else []
abbrev seenO (o : List (List UInt8)) : AObj := .mp (.typed EB (seenM o))
theorem ren8 (es : Kn) (root : List Need) (l : List Pk) (o : List (List UInt8)) (ρ : Nat → Nat) (h : ∀ i, i < 8 → ρ i = i) : ∀ j (hj : j < 8), AObj.ren ρ ((HV es root l o)[j]'hj) = (HV es root l o)[j]'hj := by
 intro j hj
 match j, hj with
 | 0, _ => exact mp_ren ρ es
 | 1, _ => show AObj.cells [.map (ρ 0)] = _; rw [h 0 (by omega)]; rfl
 | 2, _ => rfl
 | 3, _ => show AObj.cells [.ptr (ρ 1) 0, _, _] = _; rw [h 1 (by omega)]; rfl
 | 4, _ => show AObj.cells [.ptr (ρ 3) 0] = _; rw [h 3 (by omega)]; rfl
 | 5, _ => exact ren_mp
 | 6, _ => show AObj.cells [.map (ρ 5)] = _; rw [h 5 (by omega)]; rfl
 | 7, _ =>
  show AObj.cells [.fn 208 [.ptr (ρ 6) 0, .ptr (ρ 2) 0, .ptr (ρ 4) 0, .ptr (ρ 7) 0]] = _
  rw [h 6 (by omega), h 2 (by omega), h 4 (by omega), h 7 (by omega)]; rfl
abbrev l8 : List Nat := [0, 1, 2, 3, 4, 5, 6, 7]
theorem l8_get (i : Nat) (h : i < 8) : l8[i]? = some i := by
 match i, h with
 | 0, _ | 1, _ | 2, _ | 3, _ | 4, _ | 5, _ | 6, _ | 7, _ => rfl
theorem l8_call (n i : Nat) (h : i < 8) : callR l8 n i = i := by
 match i, h with
 | 0, _ | 1, _ | 2, _ | 3, _ | 4, _ | 5, _ | 6, _ | 7, _ => rfl
theorem l8_sel (n i : Nat) (h : i < 8) : selR l8 n i = i := by
 match i, h with
 | 0, _ | 1, _ | 2, _ | 3, _ | 4, _ | 5, _ | 6, _ | 7, _ => rfl
theorem selV (es : Kn) (root : List Need) (l : List Pk) (o : List (List UInt8)) (q : List AObj) : Sel 8 l8 (HV es root l o ++ q) (HV es root l o) := by
 refine ⟨by decide, rfl, by decide, fun i hi => l8_get i hi, fun i hi => .inl ?_⟩
 have hi : i < 8 := hi
 refine Eq.trans ?_ (congrArg some (ren8 es root l o _ (fun j hj => l8_sel _ j hj) i hi).symm)
 match i, hi with
 | 0, _ | 1, _ | 2, _ | 3, _ | 4, _ | 5, _ | 6, _ | 7, _ => rfl
abbrev PV (es : Kn) (root : List Need) (l : List Pk) (R : List (List UInt8)) : AV → List AObj → Prop := fun r H' => ∃ s H2 r2, Sel 8 s H' H2 ∧ Le r (AV.ren (selR s H'.length) r2) ∧ (r2 = .tup [] ∧ H2 = (HV es root l []).set 5 (seenO R))
theorem pv {es : Kn} {root : List Need} {l : List Pk} {R : List (List UInt8)} (q : List AObj) : PV es root l R (.tup []) (HV es root l R ++ q) := ⟨_, _, _, selV es root l R q, Le.refl _, rfl, rfl⟩
section
variable {es : Kn} (hx : OkX es) (hg : OkG es) {root : List Need} {l : List Pk} (hl : l.length ≤ 100000) {U : List (List UInt8)} (hU1 : ∀ x ∈ root.map (·.1), x ∈ U) (hU2 : ∀ x, ∀ y ∈ gF es l x, y ∈ U) (hUl : U.length ≤ 1000000)
include hx hg hl hU1 hU2 hUl
theorem visit1 {f : Nat} (ih : ∀ (ns : List Need) (o : List (List UInt8)), ns.length ≤ 100000 → o.Nodup → (∀ x ∈ o, RS (gF es l) (root.map (·.1)) x) → (∀ n ∈ ns, RS (gF es l) (root.map (·.1)) n.1) → U.length < o.length + f →
   ASpec Tryz.prog 208 (slN ns :: CAPS) (HV es root l o) (fun r H' => r = .tup [] ∧ H' = (HV es root l o).set 5 (seenO (visitF (gF es l) f (ns.map (·.1)) o))))
  {ns : List Need} (hnl : ns.length ≤ 100000) (hns : ∀ n ∈ ns, RS (gF es l) (root.map (·.1)) n.1) {R : List (List UInt8)} : ∀ (m i : Nat) (o : List (List UInt8)), m + i = ns.length → o.Nodup → (∀ x ∈ o, RS (gF es l) (root.map (·.1)) x) → U.length < o.length + (f + 1) →
   visL (gF es l) (visitF (gF es l) f) ((ns.drop i).map (·.1)) o = R →
  AWP Tryz.prog 47 8 c208_1 [(1, .ptr 6 0), (2, .ptr 2 0), (3, .ptr 4 0), (4, .ptr 7 0), (12, slN ns), (13, .int .i64 ns.length), (14, .int .i64 i)] (HV es root l o) (q208_1 8 (PV es root l R)) := by
 intro m
 induction m with
 | zero =>
  intro i o hm hn ho hf h
  refine v208_1 _ _ _ _ _ _ _ _ _ (condD (fun hc => by omega) fun _ => ?_)
  rw [List.drop_eq_nil_of_le (by omega)] at h
  simp only [List.map_nil, visL] at h
  subst h
  exact pv []
 | succ m im =>
  intro i o hm hn ho hf h
  have hol := Rc.rs_len (gF es l) hU1 hU2 hn ho
  rw [dropD ns ([], []) i (by omega), List.map_cons] at h
  have hrs := hns _ (memD ns ([], []) i (by omega))
  refine v208_1 _ _ _ _ _ _ _ _ _ (condD (fun _ => needJ ⟨by omega, by omega⟩ ?_) fun hc => by omega)
  rw [Int.toNat_natCast]
  generalize ns.getD i ([], []) = n at h hrs ⊢
  rw [find_seen]
  simp only [visL] at h
  by_cases hmem : n.1 ∈ o
  ·rw [if_pos hmem] at h ⊢
   rw [succ64 (by omega)]
   exact AWP.shape l8 _ (HV es root l o) (selV es root l o [_]) (slotsR rfl) (im (i + 1) o (by omega) hn ho hf h)
  ·rw [if_neg hmem] at h ⊢
   refine AWP.re (ReSt.map (id := 5) rfl (put_seen hmem)) ?_
   have hn' : (o ++ [n.1]).Nodup := by
    have := Rc.note_nd (s := n.1) hn
    rwa [Rc.noteM, if_neg hmem] at this
   have ho' : ∀ x ∈ o ++ [n.1], RS (gF es l) (root.map (·.1)) x := fun x hx => by
    rcases List.mem_append.1 hx with hx | hx
    ·exact ho x hx
    ·simp at hx; subst hx; exact hrs
   have hol' := Rc.rs_len (gF es l) hU1 hU2 hn' ho'
   have hf' : U.length < (o ++ [n.1]).length + f := by simp; omega
   refine v208_5 es root l (o ++ [n.1]) ns n _ _ _ _ (ASpec.call (get_spec l n.1 hl _) (Les.refl _) ⟨getP l n.1, rfl, rfl, condB (fun hp => ?_) fun hp => ?_⟩)
   ·have hrel := rel_needs hg (n.1, (getP l n.1).1)
    have hgx : gF es l n.1 = (relOf es (n.1, (getP l n.1).1)).1.2.map (·.1) := by unfold gF; rw [if_pos hp]
    rw [hgx] at h
    refine ASpec.call (same [0, 1, 3] _ (release0 hx hg hl (root := root) (n.1, (getP l n.1).1)) (by decide) rfl rfl rfl (fun j hj => ?_)) (Les.refl _) ⟨relOf es (n.1, (getP l n.1).1), rfl, rfl, ?_⟩
    ·match j, hj with
     | 0, _ => show some _ = some (AObj.ren _ (.mp (.typed EK es))); rw [mp_ren]
     | 1, _ | 2, _ => rfl
    generalize hrr : relOf es (n.1, (getP l n.1).1) = rr at h hrel hgx ⊢
    have hns2 : ∀ y ∈ rr.1.2, RS (gF es l) (root.map (·.1)) y.1 := fun y hy => .step hrs (by rw [hgx]; exact List.mem_map_of_mem hy)
    have hdid := visit_did (gF es l) hU1 hU2 f (rr.1.2.map (·.1)) (o ++ [n.1]) hn' ho' (fun x hx => by
     obtain ⟨y, hy, rfl⟩ := List.mem_map.1 hx
     exact hns2 y hy) hf'
    have hk := ih rr.1.2 (o ++ [n.1]) (by omega) hn' ho' hns2 hf'
    generalize visitF (gF es l) f (rr.1.2.map (·.1)) (o ++ [n.1]) = o2 at h hdid hk
    have ho2 : ∀ x ∈ o2, RS (gF es l) (root.map (·.1)) x := fun x hx => by
     rcases hdid.mem x hx with hx | hx
     ·exact ho' x hx
     ·exact rs_mono (gF es l) (fun z hz => by
       obtain ⟨y, hy, rfl⟩ := List.mem_map.1 hz
       exact hns2 y hy) hx
    have hlen2 : (o ++ [n.1]).length ≤ o2.length := sub_len hn' hdid.sub
    refine ASpec.call (sameSet l8 _ 5 _ hk (by decide) rfl (by decide) rfl rfl (fun j hj => ?_)) (Les.refl _) ⟨o2, rfl, ?_, ?_⟩
    ·have hj : j < 8 := hj
     refine Eq.trans ?_ (congrArg some (ren8 es root l (o ++ [n.1]) _ (fun k hk => l8_call _ k hk) j hj).symm)
     match j, hj with
     | 0, _ | 1, _ | 2, _ | 3, _ | 4, _ | 5, _ | 6, _ | 7, _ => rfl
    ·rw [ren_mp]; rfl
    ·rw [succ64 (by omega)]
     exact AWP.shape l8 _ (HV es root l o2) (selV es root l o2 [_, _]) (slotsR rfl) (im (i + 1) o2 (by omega) hdid.nd ho2 (by simp at hlen2; omega) h)
   ·have hgx : gF es l n.1 = [] := by unfold gF; rw [if_neg (by rw [hp]; simp)]
    rw [hgx] at h
    have hv : visitF (gF es l) f [] (o ++ [n.1]) = o ++ [n.1] := by cases f <;> rfl
    rw [hv] at h
    rw [succ64 (by omega)]
    exact AWP.shape l8 _ (HV es root l (o ++ [n.1])) (selV es root l (o ++ [n.1]) [_]) (slotsR rfl) (im (i + 1) (o ++ [n.1]) (by omega) hn' ho' (by simp; omega) h)
theorem visit0 : ∀ (f : Nat) (ns : List Need) (o : List (List UInt8)), ns.length ≤ 100000 → o.Nodup → (∀ x ∈ o, RS (gF es l) (root.map (·.1)) x) → (∀ n ∈ ns, RS (gF es l) (root.map (·.1)) n.1) → U.length < o.length + f →
   ASpec Tryz.prog 208 (slN ns :: CAPS) (HV es root l o) (fun r H' => r = .tup [] ∧ H' = (HV es root l o).set 5 (seenO (visitF (gF es l) f (ns.map (·.1)) o)))
 | 0, ns, o, _, hn, ho, _, hf => by
  have := Rc.rs_len (gF es l) hU1 hU2 hn ho
  omega
 | f + 1, ns, o, hnl, hn, ho, hns, hf =>
  ASpec.sel (s208 es root l o ns _ (visit1 hx hg hl hU1 hU2 hUl (visit0 f) hnl hns ns.length 0 o (by omega) hn ho hf rfl))
end
end Ft
end

noncomputable section
open Go Go.Ab Go.Proofs V S T C
namespace Ft
open W (sl1 slS slN slR leNone renN renS)
open X (hasI getM putI OkX mp_ren optI)
open Pc (slK slKLe)
open Dk (chkF chk_spec getP get_spec)
open E (PA pa)
open Rc (RS slL slLle nilLle ren_mp find_seen put_seen slotsR selN sort_strict sort_one sub_len arL)
open So (sortL)
open Pl (Up)
abbrev Z2 := List Nat × Nat
abbrev NM := List UInt8
theorem mpv_ren (ρ : Nat → Nat) (o : List NM) (z : Z2) : AObj.ren ρ (.mpv (.typed EB (seenM o)) z) = .mpv (.typed EB (seenM o)) z := by
 show AObj.mpv (.typed (Enc.ren ρ EB) (seenM o)) z = _
 congr 2
theorem seen_get {o : List NM} {i : Nat} {k : ByteArray} {v : Bool} (h : (seenM o)[i]? = some (k, v)) : i < o.length ∧ k = ⟨(o.getD i []).toArray⟩ := by
 unfold seenM at h
 rw [List.getElem?_map] at h
 cases hi : o[i]? with
 | none => rw [hi] at h; cases h
 | some x =>
  rw [hi] at h
  simp only [Option.map_some, Option.some.injEq, Prod.mk.injEq] at h
  refine ⟨(List.getElem?_eq_some_iff.1 hi).1, ?_⟩
  rw [List.getD_eq_getElem?_getD, hi]
  exact h.1.symm
theorem seen_len (o : List NM) : (MM.typed EB (seenM o)).len = o.length := by simp [MM.len, seenM]
structure Vis (o : List NM) (ps : List Nat) (w : List NM) : Prop where
 nd : ps.Nodup
 lt : ∀ i ∈ ps, i < o.length
 row : w = ps.reverse.map (fun i => o.getD i [])
theorem all_range (o : List NM) : (List.range o.length).map (fun i => o.getD i []) = o := by
 apply List.ext_getElem
 ·simp
 ·intro i h1 h2
  simp [List.getD_eq_getElem?_getD, List.getElem?_eq_getElem h2]
theorem vis_end {o : List NM} {ps : List Nat} {w : List NM} (h : Vis o ps w) (ha : ∀ i, i < o.length → i ∈ ps) : w.Perm o := by
 rw [h.row]
 have hp : ((ps.reverse).map (fun i => o.getD i [])).Perm ((List.range o.length).map (fun i => o.getD i [])) := by
  refine List.Perm.map _ ((List.reverse_perm _).trans ?_)
  refine (List.perm_ext_iff_of_nodup h.nd List.nodup_range).2 fun i => ?_
  rw [List.mem_range]
  exact ⟨h.lt i, ha i⟩
 rwa [all_range] at hp
theorem vis_next {o : List NM} {ps : List Nat} {w : List NM} {i : Nat} (h : Vis o ps w) (hi : i < o.length) (hn : i ∉ ps) : Vis o (i :: ps) (w ++ [o.getD i []]) := by
 refine ⟨List.nodup_cons.2 ⟨hn, h.nd⟩, fun j hj => ?_, ?_⟩
 ·rcases List.mem_cons.1 hj with rfl | hj
  ·exact hi
  ·exact h.lt j hj
 ·rw [h.row, List.reverse_cons, List.map_append]; rfl
theorem nd_len : ∀ (n : Nat) (ps : List Nat), ps.Nodup → (∀ i ∈ ps, i < n) → ps.length ≤ n
 | 0, [], _, _ => Nat.le_refl _
 | 0, x :: r, _, h => absurd (h x (by simp)) (Nat.not_lt_zero _)
 | n + 1, ps, hn, h => by
  have h1 := nd_len n (ps.erase n) (hn.erase n) fun i hi => by
   have h2 := h i (List.mem_of_mem_erase hi)
   have h3 : i ≠ n := fun e => by subst e; exact hn.not_mem_erase hi
   omega
  have h2 := List.length_erase (a := n) (l := ps)
  split at h2 <;> omega
theorem vis_len {o : List NM} {ps : List Nat} {w : List NM} (h : Vis o ps w) : ps.length ≤ o.length := nd_len _ _ h.nd h.lt
theorem vis_row {o : List NM} {ps : List Nat} {w : List NM} (h : Vis o ps w) : w.length = ps.length := by rw [h.row]; simp
abbrev HM (es : Kn) (o : List NM) (z : Z2) (ps : List Nat) (w : List NM) : List AObj := HX es ++ [.mpv (.typed EB (seenM o)) z, .cells [.map 2], .mit 2 z ps, .arr 1 (.map encL [] w)]
abbrev HN (es : Kn) (o : List NM) (z : Z2) (ps : List Nat) : List AObj := HX es ++ [.mpv (.typed EB (seenM o)) z, .cells [.map 2], .mit 2 z ps]
abbrev NILV : AV := .sl 0 (.raw []) .nil
abbrev P33 (es : Kn) (R : List NM) : AV → List AObj → Prop := fun r H' => ∃ s H2 r2, Sel 2 s H' H2 ∧ Le r (AV.ren (selR s H'.length) r2) ∧
 ((r2 = NILV ∧ H2 = HX es ∧ R = []) ∨ (r2 = .msl 1 2 0 R.length ∧ H2 = HX es ++ [arL R]))
theorem end11m {es : Kn} {w : List NM} (hw : w.length ≤ 1000000) : AWP Tryz.prog 35 2 c167_11 [(10, .msl 1 2 0 w.length)] (HX es ++ [arL w]) (q167_0 2 (P33 es (sortL w))) := by
 refine v167_11m _ _ _ _ ((So.sort_spec (l := w) (id := 2) rfl rfl (by omega)).mono fun r H' hh => .inr ⟨sortL w, hh.1, hh.2, ?_⟩)
 refine ⟨[0, 1, 2], HX es ++ [arL (sortL w)], .msl 1 2 0 w.length, selN (by decide) (by decide) (fun i h => by match i, h with | 0, _ | 1, _ => rfl) ⟨by rw [mp_ren]; rfl, rfl, rfl, trivial⟩, Le.refl _, .inr ⟨?_, rfl⟩⟩
 rw [Pl.sort_len]
theorem end11n {es : Kn} : AWP Tryz.prog 35 2 c167_11 [(10, NILV)] (HX es) (q167_0 2 (P33 es [])) :=
 v167_11n _ _ _ (So.sort_nil.mono fun r H' hh => .inl ⟨(), hh.1, hh.2, [0, 1], HX es, NILV, Rc.sel2 [], Le.refl _, .inl ⟨rfl, rfl, rfl⟩⟩)
theorem sort_perm {a b : List NM} (h : a.Perm b) (hn : b.Nodup) : sortL a = sortL b :=
 sort_one (h.nodup_iff.2 hn) (sort_strict hn) fun x => by rw [Pl.sort_mem]; exact h.mem_iff
theorem shapeM {es : Kn} {o : List NM} {z : Z2} {ps : List Nat} {w : List NM} {x : NM} {R : List NM} (k : AWP Tryz.prog 35 2 c167_8 [(10, .msl 1 5 0 (w ++ [x]).length), (23, .ptr 4 0)] (HM es o z ps (w ++ [x])) (q167_2 2 (P33 es R))) :
  AWP Tryz.prog 35 2 c167_8 [(10, .msl 1 6 0 (w.length + 1)), (23, .ptr 4 0)] (HX es ++ [.mpv (.typed EB (seenM o)) z, .cells [.map 2], .mit 2 z ps, .gone, .arr 1 (.app (.map encL [] w) (.raw [[.str ⟨x.toArray⟩]]))]) (q167_2 2 (P33 es R)) := by
 refine AWP.re (ReSt.arr (id := 6) (q' := .map encL [] (w ++ [x])) rfl (by simp [Ab.Seq.toList]; rfl)) ?_
 refine AWP.shape [0, 1, 2, 3, 4, 6] _ (HM es o z ps (w ++ [x])) (selN (by decide) (by decide) (fun i h => by match i, h with | 0, _ | 1, _ => rfl) ⟨by rw [mp_ren]; rfl, rfl, by rw [mpv_ren]; rfl, rfl, rfl, rfl, trivial⟩) ?_ k
 rw [List.length_append]
 exact ⟨rfl, Le.refl _, rfl, Le.refl _, trivial⟩
theorem loopM {es : Kn} {o : List NM} (hol : o.length ≤ 1000000) (hn : o.Nodup) {z : Z2} : ∀ (m : Nat) (ps : List Nat) (w : List NM), m + ps.length = o.length → Vis o ps w →
  AWP Tryz.prog 35 2 c167_8 [(10, .msl 1 5 0 w.length), (23, .ptr 4 0)] (HM es o z ps w) (q167_2 2 (P33 es (sortL o))) := by
 have fin : ∀ (ps : List Nat) (w : List NM), Vis o ps w → (∀ i, i < (MM.typed EB (seenM o)).len → i ∈ ps) → AWP Tryz.prog 35 2 c167_11 [(10, .msl 1 5 0 w.length)] (HM es o z ps w) (q167_0 2 (P33 es (sortL o))) := by
  intro ps w hv ha
  rw [seen_len] at ha
  have hp := vis_end hv ha
  have hwl : w.length ≤ 1000000 := by rw [hp.length_eq]; exact hol
  rw [← sort_perm hp hn]
  exact AWP.shape [0, 1, 5] _ (HX es ++ [arL w]) (selN (by decide) (by decide) (fun i h => by match i, h with | 0, _ | 1, _ => rfl) ⟨by rw [mp_ren]; rfl, rfl, rfl, trivial⟩) (slotsR rfl) (end11m hwl)
 intro m
 induction m with
 | zero =>
  intro ps w hm hv
  refine v167_8m es o z ps w 2 _ (needJ rfl ⟨fun ha => fin ps w hv ha, fun i hi hni k v hk => ?_⟩)
  exfalso
  rw [seen_len] at hi
  have hv2 := vis_len (vis_next hv hi (fun h => hni h))
  simp at hv2; omega
 | succ m ih =>
  intro ps w hm hv
  have hwl := vis_row hv
  refine v167_8m es o z ps w 2 _ (needJ rfl ⟨fun ha => fin ps w hv ha, fun i hi hni k v hk => needJ ⟨rfl, hi⟩ fun k' v' hk' => needJ ⟨rfl, by omega⟩ ?_⟩)
  obtain ⟨hi', rfl⟩ := seen_get hk'
  exact shapeM (ih (i :: ps) _ (by simp; omega) (vis_next hv hi' (fun h => hni h)))
theorem loopN {es : Kn} {o : List NM} (hol : o.length ≤ 1000000) (hn : o.Nodup) {z : Z2} : AWP Tryz.prog 35 2 c167_8 [(10, NILV), (23, .ptr 4 0)] (HN es o z []) (q167_2 2 (P33 es (sortL o))) := by
 refine v167_8n es o z [] 2 _ (needJ rfl ⟨fun ha => ?_, fun i hi hni k v hk => needJ ⟨rfl, hi⟩ fun k' v' hk' => needJ (by omega) (needJ (by omega) ?_)⟩)
 ·have ho : o = [] := by
   cases o with
   | nil => rfl
   | cons x r => have := ha 0 (by rw [seen_len]; simp); simp at this
  subst ho
  rw [show sortL ([] : List NM) = [] from by simp [sortL]]
  exact AWP.shape [0, 1] _ (HX es) (Rc.sel2 [_, _, _]) (slotsR rfl) end11n
 ·obtain ⟨hi', rfl⟩ := seen_get hk'
  have hv : Vis o [i] ([] ++ [o.getD i []]) := vis_next ⟨by simp, by simp, rfl⟩ hi' (by simp)
  refine AWP.re (ReSt.arr (id := 5) (q' := .map encL [] [o.getD i []]) rfl (by simp [Ab.Seq.toList]; rfl)) ?_
  exact loopM hol hn (o.length - 1) [i] [o.getD i []] (by simp; omega) hv
def unionU (es : Kn) (root : List Need) (l : List Pk) : List NM := root.map (·.1) ++ l.flatMap fun p => (relOf es p).1.2.map (·.1)
def neededM (es : Kn) (root : List Need) (l : List Pk) : List NM := sortL (visitF (gF es l) ((unionU es root l).length + 1) (root.map (·.1)) [])
theorem getP_mem {l : List Pk} {x : NM} (h : (getP l x).2 = true) : (x, (getP l x).1) ∈ l := by
 unfold getP at h ⊢
 split at h
 ·rename_i hc
  rw [if_pos hc]
  have hm := memD l noPk _ hc.1
  have e : (x, (l.getD (Pc.placeM l x) noPk).2) = l.getD (Pc.placeM l x) noPk := Prod.ext hc.2.symm rfl
  show (x, (l.getD (Pc.placeM l x) noPk).2) ∈ l
  rw [e]; exact hm
 ·cases h
theorem gF_U (es : Kn) (root : List Need) (l : List Pk) (x : NM) : ∀ y ∈ gF es l x, y ∈ unionU es root l := by
 intro y hy
 unfold gF at hy
 split at hy
 ·rename_i hp
  exact List.mem_append_right _ (List.mem_flatMap.2 ⟨_, getP_mem hp, hy⟩)
 ·cases hy
theorem flat_le {α β : Type} {f : α → List β} {b : Nat} : ∀ (l : List α), (∀ x ∈ l, (f x).length ≤ b) → (l.flatMap f).length ≤ l.length * b
 | [], _ => by simp
 | x :: r, h => by
  have h1 := h x (by simp)
  have h2 := flat_le r fun y hy => h y (by simp [hy])
  rw [List.flatMap_cons, List.length_append, List.length_cons, Nat.succ_mul]; omega
theorem U_len {es : Kn} (hg : OkG es) (root : List Need) (l : List Pk) (hr : root.length ≤ 1000) (hl : l.length ≤ 1000) : (unionU es root l).length ≤ 7000 := by
 have := flat_le (f := fun p => (relOf es p).1.2.map (·.1)) (b := 6) l fun p _ => by rw [List.length_map]; exact (rel_needs hg p).2
 unfold unionU
 rw [List.length_append, List.length_map]
 have := Nat.mul_le_mul_right 6 hl
 omega
section
variable {es : Kn} (hx : OkX es) (hg : OkG es) {root : List Need} {l : List Pk} (hl : l.length ≤ 1000) (hr : root.length ≤ 1000)
include hx hg hl hr
theorem seen_facts : (visitF (gF es l) ((unionU es root l).length + 1) (root.map (·.1)) []).Nodup ∧ (∀ x, x ∈ visitF (gF es l) ((unionU es root l).length + 1) (root.map (·.1)) [] ↔ RS (gF es l) (root.map (·.1)) x) ∧
  (visitF (gF es l) ((unionU es root l).length + 1) (root.map (·.1)) []).length ≤ 7000 := by
 have h := visit_spec (gF es l) (U := unionU es root l) (root := root.map (·.1)) (fun x hx => List.mem_append_left _ hx) (gF_U es root l) (f := (unionU es root l).length + 1) (by omega)
 refine ⟨h.1, h.2, ?_⟩
 have h1 := Rc.rs_len (gF es l) (U := unionU es root l) (root := root.map (·.1)) (fun x hx => List.mem_append_left _ hx) (gF_U es root l) h.1 (fun x hx => (h.2 x).1 hx)
 have := U_len hg root l hr hl
 omega
theorem needed0 : ASpec Tryz.prog 167 [.ptr 1 0, slN root, slK l] (HX es) (fun r H' => r = slL (neededM es root l) ∧ H' = HX es) := by
 obtain ⟨f1, f2, f3⟩ := seen_facts hx hg hl hr (root := root) (l := l)
 have hUl := U_len hg root l hr hl
 have hv := visit0 hx hg (root := root) (l := l) (by omega) (U := unionU es root l) (fun x hx => List.mem_append_left _ hx) (gF_U es root l) (by omega) ((unionU es root l).length + 1) root [] (by omega) List.nodup_nil (by simp)
  (fun n hn => .base (List.mem_map_of_mem hn)) (by simp)
 have k : ASpec Tryz.prog 167 [.ptr 1 0, slN root, slK l] (HX es) (P33 es (neededM es root l)) := by
  refine s167 es root l _ (ASpec.inMap 5 (.typed EB (seenM [])) rfl mle_nil (ASpec.call hv (Les.refl _) ⟨_, rfl, rfl, ?_⟩))
  unfold neededM
  generalize visitF (gF es l) ((unionU es root l).length + 1) (root.map (·.1)) [] = o at f1 f2 f3 ⊢
  refine AWP.shape [0, 1, 5, 6] [(8, .ptr 3 0)] [.mp (.typed EK es), .cells [.map 0], .mp (.typed EB (seenM o)), .cells [.map 2]] (selN (by decide) (by decide) (fun i h => by match i, h with | 0, _ | 1, _ => rfl) ⟨by rw [mp_ren]; rfl, rfl, by rw [ren_mp]; rfl, rfl, trivial⟩)
   (slotsR rfl) (v167_6 es o 2 _ fun z hz => loopN (by omega) f1)
 refine ASpec.sel (ASpec.reEnd ((ASpec.sel k).mono fun r H' hh => ?_))
 rcases hh with ⟨e1, e2, e3⟩ | ⟨e1, e2⟩
 ·subst e1 e2
  rw [e3]
  exact ⟨_, _, ReSt.refl _ _, [0, 1], HX es, slL [], Rc.sel2 [], nilLle _, rfl, rfl⟩
 ·subst e1 e2
  exact ⟨_, _, ReSt.freeze1 (id := 2) (q' := .map encL [] (neededM es root l)) rfl (by show 2 ≤ 3; omega) (by simp [Seq.toList]) (by simp only [Seq.toList]; rw [List.take_of_length_le (by simp)]), [0, 1], HX es, slL (neededM es root l), Rc.sel2 [_], slLle _ _ _, rfl, rfl⟩
end
end Ft
end

noncomputable section
open Go Go.Ab Go.Proofs V S T C
namespace Ft
open W (sl1 slS slN slR leNone renN renS)
open X (hasI getM putI OkX mp_ren optI)
open Pc (slK slKLe UpK dropM)
open Dk (chkF chk_spec getP get_spec chk_up)
open E (PA pa)
open Rc (RS slL slLle nilLle ren_mp slotsR selN sort_strict sort_one sub_len arL More more_get)
open So (sortL)
open Pl (Up)
open Sp (hasS)
def wrongM (es : Kn) (root : List Need) (l : List Pk) : Int × NM :=
 if chkF none l = false then (1, []) else if (unmetF l root).2 = true then (2, (unmetF l root).1)
 else if (firstK (fun p => !(relOf es p).2) l).2 = true then (3, (firstK (fun p => !(relOf es p).2) l).1)
 else if (firstK (lackB es l) l).2 = true then (4, (firstK (lackB es l) l).1)
 else if (firstK (fun p => !decide (p.1 ∈ neededM es root l)) l).2 = true then (5, (firstK (fun p => !decide (p.1 ∈ neededM es root l)) l).1) else (0, [])
def solB (es : Kn) (root : List Need) (l : List Pk) : Bool := decide ((wrongM es root l).1 = 0)
abbrev RUL : AV := .agg [.bfn 132 [.ptr 2 0], .bfn 133 [.ptr 2 0], .bfn 134 [.ptr 2 0], .bfn 135 [.ptr 2 0], .bfn 136 [.ptr 2 0]]
section
variable {es : Kn} (hx : OkX es) (hg : OkG es) {root : List Need} {l : List Pk} (hl : l.length ≤ 1000) (hr : root.length ≤ 1000) (hp : ∀ p ∈ l, p.1.length ≤ 1000) (hns : NsOk root)
include hx hg hl hr
theorem needed_len : (neededM es root l).length ≤ 7000 := by
 unfold neededM
 rw [Pl.sort_len]
 exact (seen_facts hx hg hl hr).2.2
theorem rule5 : ASpec Tryz.prog 136 [.ptr 2 0] (HF es root l) (fun r H' => r = .tup [.str (B (firstK (fun p => !decide (p.1 ∈ neededM es root l)) l).1), .bool (firstK (fun p => !decide (p.1 ∈ neededM es root l)) l).2] ∧ H' = HF es root l) := by
 have hq := needed_len hx hg hl hr (root := root) (l := l)
 have hk : ASpec Tryz.prog 167 [.ptr 1 0, slN root, slK l] (HF es root l) (fun r H' => r = slL (neededM es root l) ∧ H' = HF es root l) :=
  same [0, 1] _ (needed0 hx hg hl hr) (by decide) rfl rfl rfl (fun i hi => by
   match i, hi with
   | 0, _ => show some _ = some (AObj.ren _ (.mp (.typed EK es))); rw [mp_ren]
   | 1, _ => rfl)
 refine ASpec.sel (s136 es root l (PF es root l _) (ASpec.call hk (Les.refl _) ⟨neededM es root l, rfl, rfl, ?_⟩))
 repeat refine ⟨⟨rfl, rfl⟩, ?_⟩
 refine ASpec.call (firsti hx hg (by omega) (neededM es root l) _ (fun p _ => idle0 hx hg (by omega) (neededM es root l) (by omega) p)) (Les.refl _) ⟨(B (firstK (fun p => !decide (p.1 ∈ neededM es root l)) l).1, _), rfl, rfl, ?_⟩
 exact pf (es := es) (root := root) (l := l) [_] fun ρ => Le.refl _
include hp hns
theorem wrong0 : ASpec Tryz.prog 89 [.ptr 1 0, slN root, slK l] (HX es) (fun r H' => r = .tup [.int .i64 (wrongM es root l).1, .str (B (wrongM es root l).2)] ∧ H' = HX es) := by
 have px : ∀ {k : Int} {n : NM}, wrongM es root l = (k, n) → X.PX es (.tup [.int .i64 (wrongM es root l).1, .str (B (wrongM es root l).2)]) (.tup [.int .i64 k, .str (B n)]) (HF es root l) := fun e => by
  rw [e]; exact X.px (es := es) [_] (Le.refl _)
 refine ASpec.sel (s89 es root l (X.PX es (.tup [.int .i64 (wrongM es root l).1, .str (B (wrongM es root l).2)])) ?_)
 refine AWP.shape [0, 1, 2] [(30, RUL), (31, .int .i64 0)] (HF es root l) (selN (by decide) (by decide) (fun i h => by match i, h with | 0, _ | 1, _ => rfl) ⟨by rw [mp_ren]; rfl, rfl, rfl, trivial⟩) (slotsR rfl) ?_
 refine v89_4a es root l 2 _ (needJ ⟨by omega, by omega⟩ (ASpec.call (rule1 hx hg (by omega) hp) (Les.refl _) ⟨(B [], !chkF none l), rfl, rfl, condBn (fun h1 => ?_) fun h1 => ?_⟩))
 ·exact px (by unfold wrongM; rw [if_pos h1])
 have h1' : ¬ chkF none l = false := by rw [h1]; simp
 refine v89_4b es root l 2 _ (needJ ⟨by omega, by omega⟩ (ASpec.call (rule2 hx hg (by omega) hns (by unfold lim; omega)) (Les.refl _) ⟨(B (unmetF l root).1, (unmetF l root).2), rfl, rfl, condB (fun h2 => px ?_) fun h2 => ?_⟩))
 ·unfold wrongM; rw [if_neg h1', if_pos h2]
 have h2' : ¬ (unmetF l root).2 = true := by rw [show (unmetF l root).2 = false from h2]; simp
 refine v89_4c es root l 2 _ (needJ ⟨by omega, by omega⟩ (ASpec.call (rule3 hx hg (by omega)) (Les.refl _) ⟨(B (firstK (fun p => !(relOf es p).2) l).1, (firstK (fun p => !(relOf es p).2) l).2), rfl, rfl, condB (fun h3 => px ?_) fun h3 => ?_⟩))
 ·unfold wrongM; rw [if_neg h1', if_neg h2', if_pos h3]
 have h3' : ¬ (firstK (fun p => !(relOf es p).2) l).2 = true := by rw [show (firstK (fun p => !(relOf es p).2) l).2 = false from h3]; simp
 refine v89_4d es root l 2 _ (needJ ⟨by omega, by omega⟩ (ASpec.call (rule4 hx hg (by omega)) (Les.refl _) ⟨(B (firstK (lackB es l) l).1, (firstK (lackB es l) l).2), rfl, rfl, condB (fun h4 => px ?_) fun h4 => ?_⟩))
 ·unfold wrongM; rw [if_neg h1', if_neg h2', if_neg h3', if_pos h4]
 have h4' : ¬ (firstK (lackB es l) l).2 = true := by rw [show (firstK (lackB es l) l).2 = false from h4]; simp
 refine v89_4e es root l 2 _ (needJ ⟨by omega, by omega⟩ (ASpec.call (rule5 hx hg hl hr) (Les.refl _) ⟨(B (firstK (fun p => !decide (p.1 ∈ neededM es root l)) l).1, (firstK (fun p => !decide (p.1 ∈ neededM es root l)) l).2), rfl, rfl, condB (fun h5 => px ?_) fun h5 => v89_4f es root l 2 _ (px ?_)⟩))
 ·unfold wrongM; rw [if_neg h1', if_neg h2', if_neg h3', if_neg h4', if_pos h5]
 ·have h5' : ¬ (firstK (fun p => !decide (p.1 ∈ neededM es root l)) l).2 = true := by rw [show (firstK (fun p => !decide (p.1 ∈ neededM es root l)) l).2 = false from h5]; simp
  unfold wrongM; rw [if_neg h1', if_neg h2', if_neg h3', if_neg h4', if_neg h5']
theorem sol0 : ASpec Tryz.prog 39 [.ptr 1 0, slN root, slK l] (HX es) (fun r H' => r = .bool (solB es root l) ∧ H' = HX es) := by
 refine s39 es root l _ (ASpec.call (wrong0 hx hg hl hr hp hns) (Les.refl _) ⟨((wrongM es root l).1, B (wrongM es root l).2), rfl, rfl, ?_, rfl⟩)
 congr 1
theorem sol_at (H : List AObj) (q p : Nat) (hqp : q ≠ p) (hq : H[q]? = some (.mp (.typed EK es))) (hp2 : H[p]? = some (.cells [.map q])) :
  ASpec Tryz.prog 39 [.ptr p 0, slN root, slK l] H (fun r H' => r = .bool (solB es root l) ∧ H' = H) := by
 have := X.liftX H q p hqp hq hp2 (sol0 hx hg hl hr hp hns) (args' := [.ptr p 0, slN root, slK l]) (r' := .bool (solB es root l)) rfl rfl
 rwa [set_same hq] at this
end
structure Sol (es : Kn) (root : List Need) (l : List Pk) : Prop where
 ck : chkF none l = true
 met : ∀ n ∈ root, metB l n = true
 rel : ∀ p ∈ l, (relOf es p).2 = true
 lack : ∀ p ∈ l, lackB es l p = false
 need : ∀ p ∈ l, p.1 ∈ neededM es root l
theorem unmet_none {l : List Pk} : ∀ {root : List Need}, (unmetF l root).2 = false ↔ ∀ n ∈ root, metB l n = true
 | [] => by simp [unmetF]
 | n :: r => by
  simp only [unmetF, List.forall_mem_cons]
  by_cases h : metB l n = false
  ·rw [if_pos h]; simp [h]
  ·rw [if_neg h, unmet_none (root := r)]; simp [h]
theorem first_none {f : Pk → Bool} {l : List Pk} : (firstK f l).2 = false ↔ ∀ p ∈ l, f p = false := by
 unfold firstK
 cases h : l.find? f with
 | none =>
  rw [List.find?_eq_none] at h
  exact ⟨fun _ p hp => by simpa using h p hp, fun _ => rfl⟩
 | some p =>
  have h1 := List.find?_some h
  have h2 := List.mem_of_find?_eq_some h
  exact ⟨fun h => by simp at h, fun h => by rw [h p h2] at h1; cases h1⟩
theorem sol_iff {es : Kn} {root : List Need} {l : List Pk} : solB es root l = true ↔ Sol es root l := by
 unfold solB wrongM
 rw [decide_eq_true_eq]
 by_cases h1 : chkF none l = false
 ·rw [if_pos h1]; exact ⟨fun h => by simp at h, fun h => by rw [h.ck] at h1; cases h1⟩
 rw [if_neg h1]
 by_cases h2 : (unmetF l root).2 = true
 ·rw [if_pos h2]; exact ⟨fun h => by simp at h, fun h => by rw [unmet_none.2 h.met] at h2; cases h2⟩
 rw [if_neg h2]
 by_cases h3 : (firstK (fun p => !(relOf es p).2) l).2 = true
 ·rw [if_pos h3]; exact ⟨fun h => by simp at h, fun h => by rw [first_none.2 (fun p hp => by simp [h.rel p hp])] at h3; cases h3⟩
 rw [if_neg h3]
 by_cases h4 : (firstK (lackB es l) l).2 = true
 ·rw [if_pos h4]; exact ⟨fun h => by simp at h, fun h => by rw [first_none.2 h.lack] at h4; cases h4⟩
 rw [if_neg h4]
 by_cases h5 : (firstK (fun p => !decide (p.1 ∈ neededM es root l)) l).2 = true
 ·rw [if_pos h5]; exact ⟨fun h => by simp at h, fun h => by rw [first_none.2 (fun p hp => by simp [h.need p hp])] at h5; cases h5⟩
 rw [if_neg h5]
 refine ⟨fun _ => ⟨by simpa using h1, unmet_none.1 (by simpa using h2), fun p hp => ?_, first_none.1 (by simpa using h4), fun p hp => ?_⟩, fun _ => rfl⟩
 ·have := first_none.1 (show (firstK (fun p => !(relOf es p).2) l).2 = false by simpa using h3) p hp
  simpa using this
 ·have := first_none.1 (show (firstK (fun p => !decide (p.1 ∈ neededM es root l)) l).2 = false by simpa using h5) p hp
  simpa using this
theorem getM_mem : ∀ {l : List Pk}, UpK l → ∀ {p : Pk}, p ∈ l → Pc.getM l p.1 = (p.2, true)
 | [], _, p, h => by simp at h
 | y :: r, hu, p, h => by
  have hu := List.pairwise_cons.1 hu
  rcases List.mem_cons.1 h with rfl | h
  ·simp [Pc.getM]
  ·have := hu.1 p h
   have hne : ¬ y.1 = p.1 := fun e => by rw [e] at this; exact absurd (Dp.less_iff.1 this) (Pl.ltI)
   simp only [Pc.getM, if_neg hne]
   exact getM_mem hu.2 h
theorem getP_in {l : List Pk} (hc : chkF none l = true) {p : Pk} (hp : p ∈ l) : getP l p.1 = (p.2, true) := by
 rw [Dk.get_one (chk_up hc), getM_mem (chk_up hc) hp]
theorem met_in {l : List Pk} {n : Need} (h : metB l n = true) : ∃ v, (n.1, v) ∈ l := by
 unfold metB at h
 rw [Bool.and_eq_true] at h
 exact ⟨_, getP_mem h.1⟩
theorem lack_met {es : Kn} {l : List Pk} {p : Pk} (h : lackB es l p = false) : ∀ n ∈ (relOf es p).1.2, metB l n = true := by
 intro n hn
 unfold lackB at h
 rw [List.any_eq_false] at h
 simpa using h n hn
theorem needed_iff {es : Kn} {root : List Need} {l : List Pk} (x : NM) : x ∈ neededM es root l ↔ RS (gF es l) (root.map (·.1)) x := by
 unfold neededM
 rw [Pl.sort_mem]
 exact (visit_spec (gF es l) (U := unionU es root l) (root := root.map (·.1)) (fun x hx => List.mem_append_left _ hx) (gF_U es root l) (f := (unionU es root l).length + 1) (by omega)).2 x
end Ft
end

noncomputable section
open Go Go.Ab Go.Proofs V S T C
namespace Pn
open W (sl1 slS slN slR leNone renN renS)
open X (hasI getM OkX mp_ren)
open Xd (getKd ofI ofKd RelX)
open Pc (slK slKLe UpK)
open Dk (chkF getP chk_up)
open E (PA pa)
open Rc (Nm slL slLle nilLle slotsR selN)
open Pl (Up addM addAll addAll_up addAll_mem addM_up)
open Sp (hasS)
open Sg (ok meetS meet_ok)
open Ft (Rise relM relOf lowR lowR_le metB NsOk OkG get_rise get_okN rel_needs getP_mem leRel0 leRl rel_spec)
def relL (m : Mani) (v : Int) : Rel × Bool := match m.2.find? (fun r => r.1 == v) with
 | some r => (r, true)
 | none => ((0, []), false)
theorem relL_low (v : Int) : ∀ {l : List Rel}, l.Pairwise (fun a b => a.1 < b.1) → (match l.find? (fun r => r.1 == v) with | some r => (r, true) | none => ((0, []), false)) = (if lowR v l < l.length ∧ (l.getD (lowR v l) (0, [])).1 = v then (l.getD (lowR v l) (0, []), true) else ((0, []), false))
 | [], _ => by simp [lowR]
 | x :: r, hu => by
  have hu := List.pairwise_cons.1 hu
  rw [List.find?_cons]
  by_cases h1 : x.1 < v
  ·have e : (x.1 == v) = false := beq_eq_false_iff_ne.2 (by omega)
   rw [e]
   simp only [lowR, if_pos h1]
   rw [relL_low v hu.2, Nat.add_comm 1, List.getD_cons_succ, List.length_cons]
   by_cases h2 : lowR v r < r.length ∧ (r.getD (lowR v r) (0, [])).1 = v
   ·rw [if_pos h2, if_pos ⟨by omega, h2.2⟩]
   ·rw [if_neg h2, if_neg fun h3 => h2 ⟨by omega, h3.2⟩]
  ·simp only [lowR, if_neg h1, List.getD_cons_zero, List.length_cons]
   by_cases h2 : x.1 = v
   ·rw [show (x.1 == v) = true from beq_iff_eq.2 h2, if_pos ⟨by omega, h2⟩]
   ·rw [show (x.1 == v) = false from beq_eq_false_iff_ne.2 h2, if_neg fun h => h2 h.2]
    have hn : r.find? (fun r => r.1 == v) = none := by
     rw [List.find?_eq_none]
     intro y hy
     have := hu.1 y hy
     have : ¬ y.1 = v := by omega
     simpa using this
    rw [hn]
theorem relL_eq {m : Mani} (h : Rise m.2) (v : Int) : relL m v = relM m v := by
 unfold relL relM
 by_cases hv : v < 0 ∨ 1000000000 ≤ v
 ·rw [if_pos hv]
  have hn : m.2.find? (fun r => r.1 == v) = none := by
   rw [List.find?_eq_none]
   intro y hy
   have := h.low y hy
   have : ¬ y.1 = v := by omega
   simpa using this
  rw [hn]
 ·rw [if_neg hv]; exact relL_low v h.up
section
variable {es : Kn} (hx : OkX es) (hg : OkG es)
include hx hg
theorem needs0 (p : Pk) : ASpec Tryz.prog 77 [.ptr 1 0, .agg (encPk p)] (HX es) (fun r H' => r = slN (relOf es p).1.2 ∧ H' = HX es) := by
 have hr := get_rise hg p.1
 have hn := get_okN hx p.1
 refine ASpec.sel (s77 es p (X.PX es (slN (relOf es p).1.2)) (ASpec.call (X.get_spec es p.1 hx _ 0 1 (by omega) rfl rfl) (Les.refl _) ⟨getM es p.1, rfl, rfl, ?_⟩))
 refine ASpec.call (rel_spec (getM es p.1).1 p.2 hr.1 hn.1 hn.2 _) (Les.refl _) ⟨relOf es p, rfl, rfl, ?_⟩
 exact X.px (es := es) [_, _, _] (leNone renN)
theorem needs_at (p : Pk) (H : List AObj) (q k : Nat) (hqk : q ≠ k) (hq : H[q]? = some (.mp (.typed EK es))) (hk : H[k]? = some (.cells [.map q])) :
  ASpec Tryz.prog 77 [.ptr k 0, .agg (encPk p)] H (fun r H' => r = slN (relOf es p).1.2 ∧ H' = H) := by
 have := X.liftX H q k hqk hq hk (needs0 hx hg p) (args' := [.ptr k 0, .agg (encPk p)]) (r' := slN (relOf es p).1.2) rfl rfl
 rwa [set_same hq] at this
end
def findN (s : Nm) : List Need → List Span × Bool
 | [] => ([], false)
 | n :: r => if n.1 = s then (n.2, true) else findN s r
def ixF (s : Nm) : List Need → Nat → Int
 | [], _ => -1
 | n :: r, i => if n.1 = s then (i : Int) else ixF s r (i + 1)
theorem ixF_find (s : Nm) : ∀ (r : List Need) (i : Nat), (ixF s r i < 0 ∧ findN s r = ([], false)) ∨ ∃ j : Nat, ixF s r i = ((i + j : Nat) : Int) ∧ j < r.length ∧ findN s r = ((r.getD j ([], [])).2, true)
 | [], i => .inl ⟨by simp [ixF], rfl⟩
 | n :: r, i => by
  simp only [ixF, findN]
  by_cases h : n.1 = s
  ·rw [if_pos h, if_pos h]; exact .inr ⟨0, by simp, by simp, rfl⟩
  ·rw [if_neg h, if_neg h]
   rcases ixF_find s r (i + 1) with h1 | ⟨j, h1, h2, h3⟩
   ·exact .inl h1
   ·exact .inr ⟨j + 1, by rw [h1]; congr 1; omega, by simpa using h2, by rw [h3]; rfl⟩
theorem sel1 {a : AObj} {q : List AObj} (h : AObj.ren (selR [0] (a :: q).length) a = a := by rfl) : Sel 1 [0] (a :: q) [a] :=
 selN (by decide) (by decide) (fun i h => by match i, h with | 0, _ => rfl) ⟨by rw [h]; rfl, trivial⟩
theorem clo_spec (x : Need) (s : Nm) : ASpec Tryz.prog 127 [.agg (encN x), .ptr 0 0] [.cells [.str (B s)]] (fun r H' => r = .bool (decide (x.1 = s)) ∧ H' = [.cells [.str (B s)]]) := by
 refine ASpec.sel (s127 x s _ ⟨[0], [.cells [.str (B s)]], .bool (decide (x.1 = s)), sel1, ?_, rfl, rfl⟩)
 rw [show (ByteArray.toList ⟨x.1.toArray⟩ == ByteArray.toList ⟨s.toArray⟩) = decide (x.1 = s) from Dk.nameEq x.1 s]
 exact Le.refl _
theorem ix2 {ns : List Need} {s : Nm} (hl : ns.length ≤ 1000000) {R : Int} : ∀ (m i : Nat), m + i = ns.length → ixF s (ns.drop i) i = R →
  AWP Tryz.prog 19 1 c126_2 [(0, slN ns), (1, .fn 127 [.ptr 0 0]), (7, .int .i64 ns.length), (8, .int .i64 i)] [.cells [.str (B s)]] (q126_2 1 (fun r H' => r = .int .i64 R ∧ H' = [.cells [.str (B s)]])) := by
 intro m
 induction m with
 | zero =>
  intro i hm h
  rw [List.drop_eq_nil_of_le (by omega)] at h
  have h : -1 = R := h
  subst h
  exact v126_2 _ _ _ _ _ _ (condD (fun h => by omega) fun _ => ⟨rfl, rfl⟩)
 | succ m ih =>
  intro i hm h
  rw [dropD ns ([], []) i (by omega)] at h
  simp only [ixF] at h
  refine v126_2 _ _ _ _ _ _ (condD (fun _ => needJ ⟨by omega, by omega⟩ ?_) fun h => by omega)
  rw [Int.toNat_natCast, succ64 (by omega)]
  generalize ns.getD i ([], []) = y at h ⊢
  refine ASpec.call (clo_spec y s) (Les.refl _) ⟨_, rfl, rfl, condB (fun e => ⟨?_, rfl⟩) fun e => ih (i + 1) (by omega) ?_⟩
  ·rw [if_pos (of_decide_eq_true e)] at h; rw [h]
  ·rw [if_neg (of_decide_eq_false e)] at h; exact h
theorem idx_spec (ns : List Need) (s : Nm) (hl : ns.length ≤ 1000000) : ASpec Tryz.prog 126 [slN ns, .fn 127 [.ptr 0 0]] [.cells [.str (B s)]] (fun r H' => r = .int .i64 (ixF s ns 0) ∧ H' = [.cells [.str (B s)]]) :=
 s126 ns s _ (ix2 hl ns.length 0 (by omega) rfl)
theorem find_spec (ns : List Need) (s : Nm) (hl : ns.length ≤ 1000000) (hns : okN ns) (H : List AObj) : ASpec Tryz.prog 84 [slN ns, .str (B s)] H (fun r H' => r = .tup [slS (findN s ns).1, .bool (findN s ns).2] ∧ H' = H) := by
 have k : ASpec Tryz.prog 84 [slN ns, .str (B s)] [] (fun r H' => r = .tup [slS (findN s ns).1, .bool (findN s ns).2] ∧ H' = []) := by
  refine ASpec.sel (s84 ns s _ (ASpec.call (idx_spec ns s hl) (Les.refl _) ⟨_, rfl, rfl, ?_⟩))
  rcases ixF_find s ns 0 with ⟨h1, h2⟩ | ⟨j, h1, h2, h3⟩
  ·refine condD (fun _ => ?_) fun h => (h h1).elim
   rw [h2]
   exact pa (Le.tup ⟨Le.sl rfl (.inr ⟨rfl, fun _ h => by cases h⟩) (.inr rfl), Le.refl _, trivial⟩)
  ·refine condD (fun h => by rw [h1] at h; omega) fun _ => ?_
   rw [h1, Nat.zero_add, Int.toNat_natCast]
   refine needJ ⟨by omega, by omega⟩ ?_
   have hy := hns.2 _ (memD ns ([], []) j h2)
   rw [h3]
   generalize ns.getD j ([], []) = y at hy ⊢
   exact ASpec.call (X.cloneS_spec y.2 hy.2 _) (Les.refl _) ⟨_, rfl, rfl, pa (Le.tup ⟨leNone renS, Le.refl _, trivial⟩)⟩
 exact ASpec.pureH H k _ _ rfl rfl
abbrev allS : List Span := [(0, 1000000000)]
theorem all_ok : ok allS := by unfold ok; decide
theorem all_spec (H : List AObj) : ASpec Tryz.prog 82 [] H (fun r H' => r = slS allS ∧ H' = H) :=
 ASpec.pureH (r0 := slS allS) H (ASpec.sel (s82 _ (pa (Le.sl (s' := .map encS (0, 0) allS) rfl (.inl rfl) (.inr rfl))))) _ _ rfl rfl
def askN (s : Nm) (ns : List Need) (u : List Span) : List Span := if (findN s ns).2 = true then meetS u (findN s ns).1 else u
def askF (s : Nm) : List (List Need) → List Span → List Span
 | [], u => u
 | ns :: r, u => askF s r (askN s ns u)
def needsK (es : Kn) (l : List Pk) : List (List Need) := l.map fun p => (relOf es p).1.2
def askedM (es : Kn) (root : List Need) (l : List Pk) (s : Nm) : List Span := askF s (root :: needsK es l) allS
theorem find_ok {ns : List Need} (h : NsOk ns) (s : Nm) : ok (findN s ns).1 := by
 induction ns with
 | nil => exact rfl
 | cons n r ih =>
  simp only [findN]
  split
  ·exact (h n (by simp)).2
  ·exact ih fun x hx => h x (by simp [hx])
theorem askN_ok {ns : List Need} (h : NsOk ns) {s : Nm} {u : List Span} (hu : ok u) : ok (askN s ns u) := by
 unfold askN
 split
 ·exact meet_ok hu (find_ok h s)
 ·exact hu
theorem askF_ok {s : Nm} : ∀ {L : List (List Need)} {u : List Span}, (∀ ns ∈ L, NsOk ns) → ok u → ok (askF s L u)
 | [], _, _, hu => hu
 | ns :: r, u, h, hu => askF_ok (L := r) (fun x hx => h x (by simp [hx])) (askN_ok (h ns (by simp)) hu)
theorem needsK_ok {es : Kn} (hg : OkG es) (l : List Pk) : ∀ ns ∈ needsK es l, NsOk ns := by
 intro ns h
 obtain ⟨p, _, rfl⟩ := List.mem_map.1 h
 exact (rel_needs hg p).1
theorem asked_ok {es : Kn} (hg : OkG es) {root : List Need} (hr : NsOk root) (l : List Pk) (s : Nm) : ok (askedM es root l s) :=
 askF_ok (fun ns h => by
  rcases List.mem_cons.1 h with rfl | h
  ·exact hr
  ·exact needsK_ok hg l ns h) all_ok
abbrev HA (es : Kn) (s : Nm) (u : List Span) : List AObj := HX es ++ [.cells [.str (B s)], .cells [slS u]]
theorem selA (es : Kn) (s : Nm) (u : List Span) (q : List AObj) : Sel 4 [0, 1, 2, 3] (HA es s u ++ q) (HA es s u) :=
 selN (by decide) (by decide) (fun i h => by match i, h with | 0, _ | 1, _ | 2, _ | 3, _ => rfl) ⟨by rw [mp_ren]; rfl, rfl, rfl, rfl, trivial⟩
end Pn
end

noncomputable section
open Go Go.Ab Go.Proofs V S T C
namespace Pn
open W (sl1 slS slN slR leNone renN renS)
open X (hasI getM OkX mp_ren)
open Xd (getKd ofI ofKd RelX)
open Pc (slK slKLe UpK)
open Dk (chkF getP chk_up)
open E (PA pa)
open Rc (Nm slL slLle nilLle slotsR selN)
open Pl (Up addM addAll addAll_up addAll_mem addM_up)
open Sp (hasS)
open Sg (ok meetS meet_ok)
open Ft (Rise relM relOf lowR lowR_le metB NsOk OkG get_rise get_okN rel_needs getP_mem same sameSet)
theorem rel_okN {es : Kn} (hx : OkX es) (p : Pk) : okN (relOf es p).1.2 := by
 have h := (get_okN hx p.1).2
 unfold relOf
 rcases Ft.relM_mem (m := (getM es p.1).1) (v := p.2) with h1 | h1
 ·exact h _ h1
 ·rw [h1]; exact ⟨Nat.zero_le _, fun n hn => by cases hn⟩
abbrev PQ (es : Kn) (s : Nm) (u : List Span) : AV → List AObj → Prop := fun r H' => ∃ l H2 r2, Sel 4 l H' H2 ∧ Le r (AV.ren (selR l H'.length) r2) ∧ (r2 = .tup [] ∧ H2 = (HA es s []).set 3 (.cells [slS u]))
theorem pq {es : Kn} {s : Nm} {u : List Span} (q : List AObj) : PQ es s u (.tup []) (HA es s u ++ q) := ⟨_, _, _, selA es s u q, Le.refl _, rfl, rfl⟩
theorem ask0 (es : Kn) (ns : List Need) (hns : okN ns) (hnk : NsOk ns) (s : Nm) (u : List Span) (hu : ok u) : ASpec Tryz.prog 83 [slN ns, .ptr 2 0, .ptr 3 0] (HA es s u) (fun r H' => r = .tup [] ∧ H' = (HA es s u).set 3 (.cells [slS (askN s ns u)])) := by
 have e : (HA es s u).set 3 (.cells [slS (askN s ns u)]) = (HA es s []).set 3 (.cells [slS (askN s ns u)]) := rfl
 rw [e]
 have hl : ns.length ≤ 1000000 := hns.1
 refine ASpec.sel (s83 es ns s u (PQ es s (askN s ns u)) (ASpec.call (find_spec ns s hl hns _) (Les.refl _) ⟨findN s ns, rfl, rfl, condB (fun h => ?_) fun h => ?_⟩))
 ·refine ASpec.call (Sg.meet_spec hu (find_ok hnk s) _) (Les.refl _) ⟨_, rfl, rfl, ?_⟩
  have e2 : askN s ns u = meetS u (findN s ns).1 := if_pos h
  rw [e2]
  exact pq []
 ·have e2 : askN s ns u = u := if_neg (by rw [h]; simp)
  rw [e2]
  exact pq []
theorem ask_at (es : Kn) (ns : List Need) (hns : okN ns) (hnk : NsOk ns) (s : Nm) (u : List Span) (hu : ok u) (q : List AObj) : ASpec Tryz.prog 83 [slN ns, .ptr 2 0, .ptr 3 0] (HA es s u ++ q) (fun r H' => r = .tup [] ∧ H' = HA es s (askN s ns u) ++ q) :=
 sameSet [0, 1, 2, 3] (HA es s u ++ q) 3 _ (ask0 es ns hns hnk s u hu) (by decide) rfl (by decide) rfl rfl (fun i hi => by
  match i, hi with
  | 0, _ => show some _ = some (AObj.ren _ (.mp (.typed EK es))); rw [mp_ren]
  | 1, _ => rfl
  | 2, _ => rfl
  | 3, _ => rfl)
section
variable {es : Kn} (hx : OkX es) (hg : OkG es) {root : List Need} {l : List Pk} (hl : l.length ≤ 100000) (hr : okN root) (hns : NsOk root)
include hx hg hl
theorem as5 {s : Nm} {R : List Span} : ∀ (m i : Nat) (u : List Span), m + i = l.length → ok u → askF s (needsK es (l.drop i)) u = R →
  AWP Tryz.prog 31 2 c35_5 [(0, .ptr 1 0), (9, .ptr 3 0), (10, .fn 83 [.ptr 2 0, .ptr 3 0]), (18, slK l), (19, .int .i64 l.length), (20, .int .i64 i)] (HA es s u) (q35_2 2 (X.PX es (slS R))) := by
 intro m
 induction m with
 | zero =>
  intro i u hm hu h
  rw [List.drop_eq_nil_of_le (by omega)] at h
  have h : u = R := h
  subst h
  exact v35_5 _ _ _ _ _ _ _ _ (condD (fun hc => by omega) fun _ => X.px (es := es) [_, _] (leNone renS))
 | succ m ih =>
  intro i u hm hu h
  rw [dropD l noPk i (by omega)] at h
  simp only [needsK, List.map_cons, askF] at h
  refine v35_5 _ _ _ _ _ _ _ _ (condD (fun hc => needJ ⟨by omega, by omega⟩ ?_) fun hc => by omega)
  rw [Int.toNat_natCast, succ64 (by omega)]
  generalize l.getD i noPk = y at h ⊢
  refine ASpec.call (needs_at hx hg y _ 0 1 (by omega) rfl rfl) (Les.refl _) ⟨_, rfl, rfl, ?_⟩
  refine ASpec.call (ask_at es _ (rel_okN hx y) (rel_needs hg y).1 s u hu [_]) (Les.refl _) ⟨askN s (relOf es y).1.2 u, rfl, rfl, ?_⟩
  exact AWP.shape [0, 1, 2, 3] _ (HA es s (askN s (relOf es y).1.2 u)) (selN (by decide) (by decide) (fun i h => by match i, h with | 0, _ | 1, _ => rfl) ⟨by rw [mp_ren]; rfl, rfl, rfl, rfl, trivial⟩) (by exact slotsR rfl)
   (ih (i + 1) _ (by omega) (askN_ok (rel_needs hg y).1 hu) h)
include hr hns
theorem asked0 (s : Nm) : ASpec Tryz.prog 35 [.ptr 1 0, slN root, slK l, .str (B s)] (HX es) (fun r H' => r = slS (askedM es root l s) ∧ H' = HX es) := by
 refine ASpec.sel (s35 es root l s (X.PX es (slS (askedM es root l s))) (ASpec.call (all_spec _) (Les.refl _) ⟨allS, rfl, rfl, ?_⟩))
 refine ASpec.call (ask_at es root hr hns s allS all_ok []) (Les.refl _) ⟨askN s root allS, rfl, rfl, ?_⟩
 exact as5 hx hg hl l.length 0 _ (by omega) (askN_ok hns all_ok) rfl
theorem asked_at (s : Nm) (H : List AObj) (q k : Nat) (hqk : q ≠ k) (hq : H[q]? = some (.mp (.typed EK es))) (hk : H[k]? = some (.cells [.map q])) :
  ASpec Tryz.prog 35 [.ptr k 0, slN root, slK l, .str (B s)] H (fun r H' => r = slS (askedM es root l s) ∧ H' = H) := by
 have := X.liftX H q k hqk hq hk (asked0 hx hg hl hr hns s) (args' := [.ptr k 0, slN root, slK l, .str (B s)]) (r' := slS (askedM es root l s)) rfl rfl
 rwa [set_same hq] at this
omit hr hns
variable {d : List Kd} (hd : RelX es d) (hdl : d.length ≤ 1000)
include hd hdl
include hr hns
end
end Pn
end

noncomputable section
open Go Go.Ab Go.Proofs V S T C
namespace Pn
open W (sl1 slS slN slR leNone renN renS)
open X (hasI getM OkX mp_ren)
open Xd (getKd ofI ofKd RelX)
open Pc (slK slKLe UpK)
open Dk (chkF getP chk_up)
open E (PA pa)
open Rc (Nm slL slLle nilLle slotsR selN)
open Pl (Up addM addAll addAll_up addAll_mem addM_up)
open Ft (Rise relM relOf NsOk OkG rel_needs same sameSet)
def minF (s : Nm) : List Nm → Nm
 | [] => s
 | x :: r => minF (if s < x ∨ s = x then s else x) r
theorem min_mem : ∀ (r : List Nm) (s : Nm), minF s r ∈ s :: r
 | [], s => by simp [minF]
 | x :: r, s => by
  have h := min_mem r (if s < x ∨ s = x then s else x)
  simp only [minF]
  rcases List.mem_cons.1 h with h | h
  ·rw [h]; split <;> simp
  ·simp [h]
theorem min_le : ∀ (r : List Nm) (s : Nm), ∀ y ∈ s :: r, ¬ y < minF s r
 | [], s, y, hy => by
  simp at hy; subst hy
  exact fun h => Pl.ltI h
 | x :: r, s, y, hy => by
  simp only [minF]
  have h := min_le r (if s < x ∨ s = x then s else x)
  have h0 := h (if s < x ∨ s = x then s else x) (List.mem_cons_self ..)
  rcases List.mem_cons.1 hy with rfl | hy
  ·by_cases hc : y < x ∨ y = x
   ·rw [if_pos hc] at h0 ⊢; exact h0
   ·rw [if_neg hc] at h0 ⊢
    rcases Pl.tri y x with ht | ht | ht
    ·exact (hc (.inl ht)).elim
    ·exact (hc (.inr ht)).elim
    ·exact fun hl => h0 (Pl.ltT ht hl)
  ·rcases List.mem_cons.1 hy with rfl | hy
   ·by_cases hc : s < y ∨ s = y
    ·rw [if_pos hc] at h0 ⊢
     rcases hc with hc | rfl
     ·exact fun hl => h0 (Pl.ltT hc hl)
     ·exact h0
    ·rw [if_neg hc] at h0 ⊢; exact h0
   ·exact h y (List.mem_cons_of_mem _ hy)
theorem next_none {A : List Nm} {np : Nm → Bool} (h : ∀ x, ¬ (x ∈ A ∧ np x = true)) : A.find? np = none := by
 rw [List.find?_eq_none]
 intro x hx hn
 exact h x ⟨hx, hn⟩
theorem next_min {A : List Nm} {np : Nm → Bool} (hu : Up A) {s : Nm} {r : List Nm} (h : ∀ x, x ∈ s :: r ↔ x ∈ A ∧ np x = true) : A.find? np = some (minF s r) := by
 have hm := (h _).1 (min_mem r s)
 have hl := min_le r s
 generalize minF s r = z at hm hl
 induction A with
 | nil => cases hm.1
 | cons a A ih =>
  have hu := List.pairwise_cons.1 hu
  rw [List.find?_cons]
  cases hn : np a with
  | true =>
   have ha := (h a).2 ⟨by simp, hn⟩
   rcases List.mem_cons.1 hm.1 with e | hz
   ·rw [e]
   ·exact (hl a ha (hu.1 z hz)).elim
  | false =>
   simp only
   refine ih hu.2 (fun x => ?_) ⟨?_, hm.2⟩
   ·rw [h x]
    constructor
    ·rintro ⟨hx, hnx⟩
     rcases List.mem_cons.1 hx with rfl | hx
     ·rw [hn] at hnx; cases hnx
     ·exact ⟨hx, hnx⟩
    ·rintro ⟨hx, hnx⟩
     exact ⟨List.mem_cons_of_mem _ hx, hnx⟩
   ·rcases List.mem_cons.1 hm.1 with e | hz
    ·rw [e, hn] at hm; cases hm.2
    ·exact hz
theorem min5 {o : List Nm} (hl : o.length ≤ 1000000000000) {R : Nm} : ∀ (m i : Nat) (s : Nm), m + i = o.length → minF s (o.drop i) = R →
  AWP Tryz.prog 25 0 c78_5 [(0, slL o), (3, .str (B s)), (4, .int .i64 i)] [] (q78_2 0 (PA (.str (B R))) (fun _ _ => False)) := by
 intro m
 induction m with
 | zero =>
  intro i s hm h
  rw [List.drop_eq_nil_of_le (by omega)] at h
  have h : s = R := h
  subst h
  exact v78_5 _ _ _ _ _ _ (condD (fun hc => by omega) fun _ => pa (Le.refl _))
 | succ m ih =>
  intro i s hm h
  rw [dropD o [] i (by omega)] at h
  simp only [minF] at h
  refine v78_5 _ _ _ _ _ _ (condD (fun hc => needJ ⟨by omega, by omega⟩ ?_) fun hc => by omega)
  rw [Int.toNat_natCast, wrap64 (by omega) (by omega)]
  generalize o.getD i [] = y at h ⊢
  have e : (Op.bytesLess (ByteArray.toList ⟨s.toArray⟩) (ByteArray.toList ⟨y.toArray⟩) || ByteArray.toList ⟨s.toArray⟩ == ByteArray.toList ⟨y.toArray⟩) = decide (s < y ∨ s = y) := by
   rw [show (ByteArray.toList ⟨s.toArray⟩ == ByteArray.toList ⟨y.toArray⟩) = decide (s = y) from Dk.nameEq s y]
   have h1 : Op.bytesLess (ByteArray.toList ⟨s.toArray⟩) (ByteArray.toList ⟨y.toArray⟩) = decide (s < y) := by
    rw [show ByteArray.toList ⟨s.toArray⟩ = s from B_toList s, show ByteArray.toList ⟨y.toArray⟩ = y from B_toList y]
    by_cases hlt : s < y
    ·rw [decide_eq_true hlt]; exact Dp.less_iff.2 hlt
    ·rw [decide_eq_false hlt]
     cases hb : Op.bytesLess s y with
     | false => rfl
     | true => exact (hlt (Dp.less_iff.1 hb)).elim
   rw [h1]
   by_cases h2 : s < y <;> by_cases h3 : s = y <;> simp [h2, h3]
  rw [e]
  refine condD (fun hc => ?_) fun hc => ?_
  ·rw [if_pos hc] at h
   exact ih (i + 1) s (by omega) h
  ·rw [if_neg hc] at h
   exact ih (i + 1) y (by omega) h
theorem min_spec (x : Nm) (r : List Nm) (tip : Tip) (hl : (x :: r).length ≤ 1000000000000) (H : List AObj) : ASpec Tryz.prog 78 [.sl 1 (.map encL [] (x :: r)) tip] H (fun r' H' => r' = .str (B (minF x r)) ∧ H' = H) := by
 have k : ASpecX Tryz.prog 78 [slL (x :: r)] [] (PA (.str (B (minF x r)))) (fun _ _ => False) := by
  refine s78 _ _ _ (condD (fun h => by simp at h; omega) fun _ => needJ ⟨by omega, by simp⟩ ?_)
  exact min5 hl r.length 1 x (by simp) rfl
 have k2 : ASpec Tryz.prog 78 [slL (x :: r)] [] (fun r' H' => r' = .str (B (minF x r)) ∧ H' = []) := ASpec.sel (k.e.r)
 exact (ASpec.pureH H k2 _ _ rfl rfl).le ⟨Le.sl rfl (.inl rfl) (.inr rfl), trivial⟩
def opN (l : List Pk) (ns : List Need) : List Nm := (ns.filter fun n => !(getP l n.1).2).map (·.1)
theorem opN_len (l : List Pk) (ns : List Need) : (opN l ns).length ≤ ns.length := by
 unfold opN; rw [List.length_map]; exact List.length_filter_le _ _
theorem opN_cons (l : List Pk) (n : Need) (r : List Need) : opN l (n :: r) = (if (getP l n.1).2 = true then opN l r else n.1 :: opN l r) := by
 unfold opN
 rw [List.filter_cons]
 by_cases h : (getP l n.1).2 = true
 ·rw [if_pos h, if_neg (by rw [h]; simp)]
 ·rw [if_neg h, if_pos (by simpa using h)]; rfl
abbrev tokN (o : List Nm) (k : Nat) : AV := .sl 1 (.map encL [] o) (.tok k)
abbrev HNx (es : Kn) (l : List Pk) (o : List Nm) : List AObj := HX es ++ [.cells [slK l], .cells [tokN o 4], .tok]
abbrev HOx (es : Kn) (l : List Pk) (o : List Nm) : List AObj := HX es ++ [.cells [slK l], .cells [tokN o 5], .gone, .tok]
theorem op1 {es : Kn} {ns : List Need} {l : List Pk} (hl : l.length ≤ 100000) (hnl : ns.length ≤ 1000000) {R : List Nm} : ∀ (m i : Nat) (o : List Nm), m + i = ns.length → o.length + m ≤ 1000000000000 → o ++ opN l (ns.drop i) = R →
  AWP Tryz.prog 29 5 c75_1 [(1, .ptr 2 0), (2, .ptr 3 0), (8, slN ns), (9, .int .i64 ns.length), (10, .int .i64 i)] (HOx es l o) (q75_1 5 (fun r H' => r = .tup [] ∧ H' = HOx es l R)) := by
 intro m
 induction m with
 | zero =>
  intro i o hm ho h
  rw [List.drop_eq_nil_of_le (by omega)] at h
  have h : o ++ [] = R := h
  rw [List.append_nil] at h
  subst h
  exact v75_1 _ _ _ _ _ _ _ _ (condD (fun hc => by omega) fun _ => ⟨rfl, rfl⟩)
 | succ m ih =>
  intro i o hm ho h
  rw [dropD ns ([], []) i (by omega), opN_cons] at h
  refine v75_1 _ _ _ _ _ _ _ _ (condD (fun hc => needJ ⟨by omega, by omega⟩ ?_) fun hc => by omega)
  rw [Int.toNat_natCast, succ64 (by omega)]
  generalize ns.getD i ([], []) = y at h ⊢
  refine ASpec.call (Dk.get_spec l y.1 hl _) (Les.refl _) ⟨getP l y.1, rfl, rfl, condBn (fun hn => needJ (by omega) ?_) fun hn => ?_⟩
  ·rw [if_neg (by rw [hn]; simp)] at h
   have h2 : (o ++ [y.1]) ++ opN l (ns.drop (i + 1)) = R := by rw [← h]; simp
   refine AWP.re (ReSt.leCell (id := 3) (cs' := [tokN (o ++ [y.1]) 7]) rfl ⟨leAppE (Les.refl _), trivial⟩) ?_
   exact AWP.shape [0, 1, 2, 3, 4, 7] _ (HOx es l (o ++ [y.1])) (selN (by decide) (by decide) (fun i h => by match i, h with | 0, _ | 1, _ | 2, _ | 3, _ | 4, _ => rfl) ⟨by rw [mp_ren]; rfl, rfl, rfl, rfl, rfl, rfl, trivial⟩) (by exact slotsR rfl)
    (ih (i + 1) _ (by omega) (by simp; omega) h2)
  ·rw [if_pos hn] at h
   exact AWP.shape [0, 1, 2, 3, 4, 5] _ (HOx es l o) (selN (by decide) (by decide) (fun i h => by match i, h with | 0, _ | 1, _ | 2, _ | 3, _ | 4, _ => rfl) ⟨by rw [mp_ren]; rfl, rfl, rfl, rfl, rfl, rfl, trivial⟩) (by exact slotsR rfl)
    (ih (i + 1) o (by omega) (by omega) h)
theorem look0 (es : Kn) (ns : List Need) (l : List Pk) (o : List Nm) (hl : l.length ≤ 100000) (hnl : ns.length ≤ 1000000) (ho : o.length ≤ 100000000) :
  ASpec Tryz.prog 75 [slN ns, .ptr 2 0, .ptr 3 0] (HNx es l o) (fun r H' => r = .tup [] ∧ H' = HOx es l (o ++ opN l ns)) := by
 refine s75 es ns l o _ ?_
 refine AWP.shapeM [0, 1, 2, 3, 4, 4] [false, false, false, false, true, false] _ (HOx es l o) ⟨by decide, rfl, rfl, by decide, fun i h => by match i, h with | 0, _ | 1, _ | 2, _ | 3, _ | 4, _ => rfl, fun i hi => ?_⟩ (by exact slotsR rfl)
  (op1 hl hnl ns.length 0 o (by omega) (by omega) rfl)
 match i, hi with
 | 0, _ => left; show some _ = some (AObj.ren _ (.mp (.typed EK es))); rw [mp_ren]
 | 1, _ => exact .inl rfl
 | 2, _ => exact .inl rfl
 | 3, _ => exact .inl rfl
 | 4, _ => exact .inr rfl
 | 5, _ => exact .inl rfl
theorem look_at (es : Kn) (ns : List Need) (l : List Pk) (o : List Nm) (hl : l.length ≤ 100000) (hnl : ns.length ≤ 1000000) (ho : o.length ≤ 100000000) (c : List AV) :
  ASpec Tryz.prog 75 [slN ns, .ptr 2 0, .ptr 3 0] (HNx es l o ++ [.cells c]) (fun r H' => r = .tup [] ∧ H' = HX es ++ [.cells [slK l], .cells [tokN (o ++ opN l ns) 6], .gone, .cells c, .tok]) := by
 refine ASpec.subH [0, 1, 2, 3, 4] (HNx es l o ++ [.cells c]) _ (look0 es ns l o hl hnl ho) _ _ (by decide) rfl rfl rfl (fun i hi => ?_) ?_
 ·match i, hi with
  | 0, _ => show some _ = some (AObj.ren _ (.mp (.typed EK es))); rw [mp_ren]
  | 1, _ | 2, _ | 3, _ | 4, _ => rfl
 ·have e : ∀ ρ, AObj.ren ρ (.mp (.typed EK es)) = .mp (.typed EK es) := fun ρ => mp_ren ρ es
  show (([AObj.ren _ (.mp (.typed EK es)), _, _, _, _, _] : List AObj) ++ _) = _
  rw [e]; rfl
end Pn
end

noncomputable section
open Go Go.Ab Go.Proofs V S T C
namespace Pn
open W (sl1 slS slN slR leNone renN renS)
open X (hasI getM OkX mp_ren)
open Xd (getKd ofI ofKd RelX)
open Pc (slK slKLe UpK)
open Dk (chkF getP chk_up)
open E (PA pa)
open Rc (Nm slL slLle nilLle slotsR selN)
open Pl (Up addM addAll addAll_up addAll_mem addM_up)
open Ft (Rise relM relOf NsOk OkG rel_needs same sameSet)
def opF (es : Kn) : List Pk → List Pk → List Nm → List Nm
 | _, [], o => o
 | l, p :: r, o => opF es l r (o ++ opN l (relOf es p).1.2)
def openM (es : Kn) (root : List Need) (l : List Pk) : List Nm := opF es l l (opN l root)
def nextA (es : Kn) (root : List Need) (l : List Pk) : List Nm := addAll ((root :: needsK es l).flatMap fun ns => ns.map (·.1)) []
def nextM (es : Kn) (root : List Need) (l : List Pk) : Nm × Bool := match (nextA es root l).find? (fun x => !(getP l x).2) with
 | some x => (x, true)
 | none => ([], false)
theorem opN_mem {l : List Pk} {ns : List Need} {x : Nm} : x ∈ opN l ns ↔ x ∈ ns.map (·.1) ∧ (!(getP l x).2) = true := by
 unfold opN
 simp only [List.mem_map, List.mem_filter]
 constructor
 ·rintro ⟨n, ⟨h1, h2⟩, rfl⟩; exact ⟨⟨n, h1, rfl⟩, h2⟩
 ·rintro ⟨⟨n, h1, rfl⟩, h2⟩; exact ⟨n, ⟨h1, h2⟩, rfl⟩
theorem opF_mem {es : Kn} {l : List Pk} {x : Nm} : ∀ {r : List Pk} {o : List Nm}, x ∈ opF es l r o ↔ x ∈ o ∨ (x ∈ (needsK es r).flatMap (fun ns => ns.map (·.1)) ∧ (!(getP l x).2) = true)
 | [], o => by simp [opF, needsK]
 | p :: r, o => by
  simp only [opF]
  rw [opF_mem (r := r), List.mem_append, opN_mem]
  simp only [needsK, List.map_cons, List.flatMap_cons, List.mem_append]
  constructor
  ·rintro ((h | ⟨h1, h2⟩) | ⟨h1, h2⟩)
   ·exact .inl h
   ·exact .inr ⟨.inl h1, h2⟩
   ·exact .inr ⟨.inr h1, h2⟩
  ·rintro (h | ⟨h1 | h1, h2⟩)
   ·exact .inl (.inl h)
   ·exact .inl (.inr ⟨h1, h2⟩)
   ·exact .inr ⟨h1, h2⟩
theorem open_mem {es : Kn} {root : List Need} {l : List Pk} (x : Nm) : x ∈ openM es root l ↔ x ∈ nextA es root l ∧ (!(getP l x).2) = true := by
 unfold openM nextA
 rw [opF_mem, opN_mem, addAll_mem]
 simp only [List.flatMap_cons, List.mem_append, List.not_mem_nil, or_false]
 constructor
 ·rintro (⟨h1, h2⟩ | ⟨h1, h2⟩)
  ·exact ⟨.inl h1, h2⟩
  ·exact ⟨.inr h1, h2⟩
 ·rintro ⟨h1 | h1, h2⟩
  ·exact .inl ⟨h1, h2⟩
  ·exact .inr ⟨h1, h2⟩
theorem next_eq (es : Kn) (root : List Need) (l : List Pk) : nextM es root l = match openM es root l with
  | [] => ([], false)
  | x :: r => (minF x r, true) := by
 have hm := open_mem (es := es) (root := root) (l := l)
 have hu : Up (nextA es root l) := addAll_up _ List.Pairwise.nil
 unfold nextM
 generalize openM es root l = o at hm
 cases o with
 | nil => rw [next_none (fun x hx => by have := (hm x).2 hx; cases this)]
 | cons x r => rw [next_min hu hm]
section
variable {es : Kn} (hx : OkX es) (hg : OkG es) {root : List Need} {l : List Pk} (hl : l.length ≤ 100000) (hr : root.length ≤ 1000000)
include hx hg hl
theorem nx9 {o : List Nm} (ho : o.length ≤ 10000000) (he : openM es root l = o) : AWP Tryz.prog 33 2 c32_9 [(8, .ptr 3 0)] (HNx es l o) (q32_0 2 (X.PX es (.tup [.str (B (nextM es root l).1), .bool (nextM es root l).2]))) := by
 have hn := next_eq es root l
 rw [he] at hn
 refine v32_9 es l o 2 _ (condE (fun h => ?_) fun h => ?_)
 ·cases o with
  | nil => rw [hn]; exact X.px (es := es) [_, _, _] (Le.refl _)
  | cons x r => simp at h; omega
 ·cases o with
  | nil => exact (h rfl).elim
  | cons x r =>
   rw [hn]
   exact ASpec.call (min_spec x r _ (by omega) _) (Les.refl _) ⟨_, rfl, rfl, X.px (es := es) [_, _, _] (Le.refl _)⟩
theorem nx5 : ∀ (m i : Nat) (o : List Nm), m + i = l.length → o.length ≤ 1000000 + 6 * i → opF es l (l.drop i) o = openM es root l →
  AWP Tryz.prog 33 2 c32_5 [(0, .ptr 1 0), (8, .ptr 3 0), (9, .fn 75 [.ptr 2 0, .ptr 3 0]), (16, slK l), (17, .int .i64 l.length), (18, .int .i64 i)] (HNx es l o) (q32_2 2 (X.PX es (.tup [.str (B (nextM es root l).1), .bool (nextM es root l).2]))) := by
 intro m
 induction m with
 | zero =>
  intro i o hm ho h
  rw [List.drop_eq_nil_of_le (by omega)] at h
  exact v32_5 _ _ _ _ _ _ _ (condD (fun hc => by omega) fun _ => nx9 hx hg hl (by omega) h.symm)
 | succ m ih =>
  intro i o hm ho h
  rw [dropD l noPk i (by omega)] at h
  simp only [opF] at h
  refine v32_5 _ _ _ _ _ _ _ (condD (fun hc => needJ ⟨by omega, by omega⟩ ?_) fun hc => by omega)
  rw [Int.toNat_natCast, succ64 (by omega)]
  generalize l.getD i noPk = y at h ⊢
  have h6 := (rel_needs hg y).2
  have ho6 := opN_len l (relOf es y).1.2
  refine ASpec.call (needs_at hx hg y _ 0 1 (by omega) rfl rfl) (Les.refl _) ⟨_, rfl, rfl, ?_⟩
  refine ASpec.call (look_at es _ l o hl (by omega) (by omega) _) (Les.refl _) ⟨o ++ opN l (relOf es y).1.2, rfl, rfl, ?_⟩
  exact AWP.shape [0, 1, 2, 3, 6] _ (HNx es l (o ++ opN l (relOf es y).1.2)) (selN (by decide) (by decide) (fun i h => by match i, h with | 0, _ | 1, _ => rfl) ⟨by rw [mp_ren]; rfl, rfl, rfl, rfl, rfl, trivial⟩) (by exact slotsR rfl)
   (ih (i + 1) _ (by omega) (by rw [List.length_append]; omega) h)
include hr
theorem next0 : ASpec Tryz.prog 32 [.ptr 1 0, slN root, slK l] (HX es) (fun r H' => r = .tup [.str (B (nextM es root l).1), .bool (nextM es root l).2] ∧ H' = HX es) := by
 refine ASpec.sel (s32 es root l (X.PX es (.tup [.str (B (nextM es root l).1), .bool (nextM es root l).2])) ?_)
 refine AWP.re (ReSt.tokCell (id := 3) (j := 0) (q' := .map encL [] []) (sz' := 1) rfl rfl (.inl rfl) rfl (.inr rfl)) ?_
 have ho := opN_len l root
 refine v32_3 es root l [] 2 _ (ASpec.call (look0 es root l [] hl hr (by simp)) (Les.refl _) ⟨opN l root, rfl, rfl, ?_⟩)
 exact AWP.shape [0, 1, 2, 3, 5] _ (HNx es l (opN l root)) (selN (by decide) (by decide) (fun i h => by match i, h with | 0, _ | 1, _ => rfl) ⟨by rw [mp_ren]; rfl, rfl, rfl, rfl, rfl, trivial⟩) (by exact slotsR rfl)
  (nx5 hx hg hl l.length 0 _ (by omega) (by omega) rfl)
theorem next_at (H : List AObj) (q k : Nat) (hqk : q ≠ k) (hq : H[q]? = some (.mp (.typed EK es))) (hk : H[k]? = some (.cells [.map q])) :
  ASpec Tryz.prog 32 [.ptr k 0, slN root, slK l] H (fun r H' => r = .tup [.str (B (nextM es root l).1), .bool (nextM es root l).2] ∧ H' = H) := by
 have := X.liftX H q k hqk hq hk (next0 hx hg hl hr) (args' := [.ptr k 0, slN root, slK l]) (r' := .tup [.str (B (nextM es root l).1), .bool (nextM es root l).2]) rfl rfl
 rwa [set_same hq] at this
omit hr
variable {d : List Kd} (hd : RelX es d) (hdl : d.length ≤ 1000) (hu : UpK l)
include hd hdl
include hu
end
end Pn
end

noncomputable section
open Go Go.Ab Go.Proofs V S T C
namespace Pn
open W (sl1 slS slN slR leNone renN renS)
open E (PA pa)
open Rc (Nm slL slLle nilLle slotsR selN)
open Sp (hasS)
open Sg (ok)
def downF (q : List Span) : List Rel → List Int → List Int
 | [], w => w
 | x :: r, w => downF q r (if hasS q x.1 = true then w ++ [x.1] else w)
def downM (m : Mani) (q : List Span) : List Int := downF q m.2.reverse []
theorem downF_mem {q : List Span} {v : Int} : ∀ {rs : List Rel} {w : List Int}, v ∈ downF q rs w → v ∈ w ∨ (hasS q v = true ∧ ∃ x ∈ rs, x.1 = v)
 | [], w, h => .inl h
 | x :: r, w, h => by
  simp only [downF] at h
  rcases downF_mem h with h | ⟨h1, y, hy, h2⟩
  ·by_cases hq : hasS q x.1 = true
   ·rw [if_pos hq] at h
    rcases List.mem_append.1 h with h | h
    ·exact .inl h
    ·simp at h; subst h; exact .inr ⟨hq, x, by simp, rfl⟩
   ·rw [if_neg hq] at h; exact .inl h
  ·exact .inr ⟨h1, y, by simp [hy], h2⟩
theorem downF_len {q : List Span} : ∀ (rs : List Rel) (w : List Int), (downF q rs w).length ≤ rs.length + w.length
 | [], w => by simp [downF]
 | x :: r, w => by
  simp only [downF]
  have := downF_len (q := q) r (if hasS q x.1 = true then w ++ [x.1] else w)
  have h2 : (if hasS q x.1 = true then w ++ [x.1] else w).length ≤ w.length + 1 := by split <;> simp
  simp only [List.length_cons]; omega
abbrev tokI (w : List Int) (k : Nat) : AV := .sl 1 (.map Ab.encI 0 w) (.tok k)
abbrev slJ (w : List Int) : AV := .sl 1 (.map Ab.encI 0 w) .none
theorem renJ (ρ : Nat → Nat) (x : Int) : renL ρ (Ab.encI x) = Ab.encI x := rfl
abbrev LPd (st : LpSt) : AObj := .lp 23 [(3, .ptr 1 0), (5, .ptr 2 0), (12, .bad)] [11, 12] c64_4a c64_4 st
abbrev HBd (m : Mani) (q : List Span) (rs : List Rel) (w : List Int) : List AObj := [.cells (encM m), .cells [slS q], .cells [tokI w 6], .gone, .cells [slR rs], LPd .ready, .tok]
theorem dround {m : Mani} {q : List Span} {rs : List Rel} {w : List Int} {x : Rel} {i : Int} (hq : ok q) (hw : w.length ≤ 1000000) {Post : AV → List AObj → Prop}
  (h1 : hasS q x.1 = true → Post (.bool true) [.cells (encM m), .cells [slS q], .cells [tokI (w ++ [x.1]) 7], .gone, .cells [slR rs], LPd .ready, .gone, .tok])
  (h2 : hasS q x.1 = false → Post (.bool true) (HBd m q rs w)) : AYield Tryz.prog 5 [.int .i64 i, .agg (T.encR x)] (HBd m q rs w) Post := by
 refine AYield.sel (AYield.reEnd (AYield.of (N := 23) [3, 5, 12] rfl rfl rfl ?_))
 refine v64_4 m q rs w x (LPd .ready) (LPd .busy) 7 (fun _ _ => True) _ (needJ rfl (ASpec.call (Sg.has_spec q x.1 hq _) (Les.refl _) ⟨hasS q x.1, rfl, rfl, condB (fun h => needJ (by omega) ⟨rfl, ?_⟩) fun h => ⟨rfl, ?_⟩⟩))
 ·refine ⟨.bool true, _, ReSt.leCell (id := 2) (cs' := [tokI (w ++ [x.1]) 8]) rfl ⟨leAppE (Les.refl _), trivial⟩, [0, 1, 2, 3, 4, 5, 6, 8], _, .bool true, ?_, Le.refl _, h1 h⟩
  exact selN (by decide) (by show 7 ≤ 8; omega) (fun i h => by match i, h with | 0, _ | 1, _ | 2, _ | 3, _ | 4, _ | 5, _ | 6, _ => rfl) ⟨rfl, rfl, rfl, rfl, rfl, rfl, rfl, rfl, trivial⟩
 ·refine ⟨.bool true, _, ReSt.refl _ _, [0, 1, 2, 3, 4, 5, 6], _, .bool true, ?_, Le.refl _, h2 h⟩
  exact selN (by decide) (by show 7 ≤ 7; omega) (fun i h => by match i, h with | 0, _ | 1, _ | 2, _ | 3, _ | 4, _ | 5, _ | 6, _ => rfl) ⟨rfl, rfl, rfl, rfl, rfl, rfl, rfl, trivial⟩
theorem loop149 {m : Mani} {q : List Span} (hq : ok q) {rs : List Rel} (hl : rs.length ≤ 1000000) {R : List Int} {Post : AV → List AObj → Prop} (hp : Post (.tup []) (HBd m q rs R)) :
  ∀ (i : Nat) (w : List Int), i ≤ rs.length → w.length + i ≤ 1000000 → downF q (rs.take i).reverse w = R →
  AWP Tryz.prog 19 6 c149_1 [(0, .yld 5), (1, .ptr 4 0), (3, .int .i64 ((i : Int) - 1))] (HBd m q rs w) (q149_1 6 Post) := by
 intro i
 induction i with
 | zero =>
  intro w hi hw hR
  have hR : w = R := hR
  subst hR
  exact v149_1 _ _ _ _ _ _ _ _ (condD (fun h => by omega) fun _ => hp)
 | succ i ih =>
  intro w hi hw hR
  rw [show (((i + 1 : Nat) : Int) - 1) = (i : Int) by omega]
  refine v149_1 _ _ _ _ _ _ _ _ (condD (fun _ => needJ ⟨by omega, by omega⟩ ?_) fun h => by omega)
  rw [Int.toNat_natCast, wrap64 (by omega) (by omega)]
  have ht : rs.take (i + 1) = rs.take i ++ [rs.getD i (0, [])] := by
   rw [List.take_add_one, List.getD_eq_getElem?_getD, List.getElem?_eq_getElem (by omega)]; rfl
  rw [ht, List.reverse_append] at hR
  simp only [List.reverse_cons, List.reverse_nil, List.nil_append, List.cons_append, downF] at hR
  generalize rs.getD i (0, []) = x at hR ⊢
  refine dround hq (by omega) (fun h => .inr ⟨w ++ [x.1], rfl, rfl, ?_⟩) fun h => .inl ⟨(), rfl, rfl, ?_⟩
  ·rw [if_pos h] at hR
   exact AWP.shape [0, 1, 2, 3, 4, 5, 7] _ (HBd m q rs (w ++ [x.1])) (selN (by decide) (by decide) (fun i h => by match i, h with | 0, _ | 1, _ | 2, _ | 3, _ | 4, _ | 5, _ => rfl) ⟨rfl, rfl, rfl, rfl, rfl, rfl, rfl, trivial⟩) (by exact slotsR rfl)
    (ih _ (by omega) (by simp; omega) hR)
  ·rw [if_neg (by rw [h]; simp)] at hR
   exact ih w (by omega) (by omega) hR
theorem down_spec (m : Mani) (q : List Span) (hq : ok q) (hl : m.2.length ≤ 1000000) (H : List AObj) : ASpec Tryz.prog 64 [.agg (encM m), slS q] H (fun r H' => r = slJ (downM m q) ∧ H' = H) := by
 have k : ASpec Tryz.prog 64 [.agg (encM m), slS q] [] (fun r H' => r = slJ (downM m q) ∧ H' = []) := by
  refine ASpec.sel (s64 m q (PA (slJ (downM m q))) ?_)
  refine AWP.re (ReSt.tokCell (id := 2) (j := 0) (q' := .map Ab.encI 0 []) (sz' := 1) rfl rfl (.inl rfl) rfl (.inr rfl)) ?_
  have s2 : ∀ H, ASpec Tryz.prog 116 [slR m.2] H (fun r H' => r = .fn 149 [.ptr H.length 0] ∧ H' = H ++ [.cells [slR m.2]]) := fun H => by
   have k0 : ASpec Tryz.prog 116 [slR m.2] [] (fun r H' => r = .fn 149 [.ptr 0 0] ∧ H' = [.cells [slR m.2]]) := s116 _ _ ⟨rfl, rfl⟩
   exact ASpec.subH [] H _ k0 _ _ (by simp) rfl rfl rfl (fun i h => by simp at h) rfl
  refine v64_2 m q [] 0 _ (ASpec.call (s2 _) (Les.refl _) ⟨(), rfl, rfl, ?_⟩)
  refine s149 m q m.2 [] (LPd .ready) _ ?_
  rw [wrap64 (by omega) (by omega)]
  refine AWP.shapeM [0, 1, 2, 3, 4, 5, 3] [false, false, false, true, false, false, false] _ (HBd m q m.2 []) ⟨by decide, rfl, rfl, by decide, fun i h => by match i, h with | 0, _ | 1, _ | 2, _ | 3, _ | 4, _ | 5, _ => rfl, fun i hi => ?_⟩ (by exact slotsR rfl)
   (loop149 hq (by omega) (R := downM m q) ?_ m.2.length [] (Nat.le_refl _) (by simp; omega) (by rw [List.take_length]; rfl))
  ·match i, hi with
   | 0, _ => exact .inl rfl
   | 1, _ => exact .inl rfl
   | 2, _ => exact .inl rfl
   | 3, _ => exact .inr rfl
   | 4, _ => exact .inl rfl
   | 5, _ => exact .inl rfl
   | 6, _ => exact .inl rfl
  ·refine ⟨_, _, _, _, _, .ready, rfl, ?_⟩
   exact pa (leNone renJ)
 exact ASpec.pureH H k _ _ rfl rfl
end Pn
end

noncomputable section
open Go Go.Ab Go.Proofs V S T C
namespace Pn
open W (sl1 slS slN slR leNone renN renS)
open X (hasI getM OkX mp_ren)
open Xd (getKd ofI ofKd RelX hasD rel_has)
open Pc (slK slKLe UpK putM putD putM_putD put_up put_len)
open Dk (chkF getP chk_up)
open E (PA pa)
open Rc (Nm slL slLle nilLle slotsR selN)
open Sp (hasS)
open Sg (ok)
open Ft (Rise relM relOf NsOk OkG rel_needs same sameSet ixK ixK_first get_okN)
def badP (es : Kn) (root : List Need) (l : List Pk) (p : Pk) : Bool := !hasS (askedM es root l p.1) p.2
def deadM (es : Kn) (root : List Need) (l : List Pk) : Bool := l.any (badP es root l)
abbrev HS (es : Kn) (root : List Need) (f : Int) : List AObj := HX es ++ [.cells [.ptr 1 0, slN root, .int .i64 f]]
abbrev HB (es : Kn) (root : List Need) (l : List Pk) (f : Int) : List AObj := HS es root f ++ [.cells [.ptr 2 0], .cells [slK l]]
theorem selS (es : Kn) (root : List Need) (f : Int) (q : List AObj) : Sel 3 [0, 1, 2] (HS es root f ++ q) (HS es root f) :=
 selN (by decide) (by decide) (fun i h => by match i, h with | 0, _ | 1, _ | 2, _ => rfl) ⟨by rw [mp_ren]; rfl, rfl, rfl, trivial⟩
theorem selB (es : Kn) (root : List Need) (l : List Pk) (f : Int) (q : List AObj) : Sel 5 [0, 1, 2, 3, 4] (HB es root l f ++ q) (HB es root l f) :=
 selN (by decide) (by decide) (fun i h => by match i, h with | 0, _ | 1, _ | 2, _ | 3, _ | 4, _ => rfl) ⟨by rw [mp_ren]; rfl, rfl, rfl, rfl, rfl, trivial⟩
section
variable {es : Kn} (hx : OkX es) (hg : OkG es) {root : List Need} {l : List Pk} (hl : l.length ≤ 100000) (hr : okN root) (hns : NsOk root)
include hx hg hl hr hns
theorem bad0 (p : Pk) (f : Int) : ASpec Tryz.prog 155 [.agg (encPk p), .ptr 3 0, .ptr 4 0] (HB es root l f) (fun r H' => r = .bool (badP es root l p) ∧ H' = HB es root l f) := by
 refine ASpec.sel (s155 es root l p f _ (ASpec.call (asked_at hx hg hl hr hns p.1 _ 0 1 (by omega) rfl rfl) (Les.refl _) ⟨askedM es root l p.1, rfl, rfl, ?_⟩))
 repeat refine ⟨⟨rfl, rfl⟩, ?_⟩
 refine ASpec.call (Sg.has_spec _ p.2 (asked_ok hg hns l p.1) _) (Les.refl _) ⟨_, rfl, rfl, ?_⟩
 exact ⟨[0, 1, 2, 3, 4], HB es root l f, .bool (badP es root l p), selB es root l f [_], Le.refl _, rfl, rfl⟩
theorem ixb {f : Int} {R : Int} : ∀ (m i : Nat), m + i = l.length → ixK (badP es root l) (l.drop i) i = R →
  AWP Tryz.prog 19 5 c193_2 [(0, slK l), (1, .fn 155 [.ptr 3 0, .ptr 4 0]), (7, .int .i64 l.length), (8, .int .i64 i)] (HB es root l f) (q193_2 5 (fun r H' => r = .int .i64 R ∧ H' = HB es root l f)) := by
 intro m
 induction m with
 | zero =>
  intro i hm h
  rw [List.drop_eq_nil_of_le (by omega)] at h
  have h : -1 = R := h
  subst h
  exact v193_2 _ _ _ _ _ _ _ _ (condD (fun h => by omega) fun _ => ⟨rfl, rfl⟩)
 | succ m ih =>
  intro i hm h
  rw [dropD l noPk i (by omega)] at h
  simp only [ixK] at h
  refine v193_2 _ _ _ _ _ _ _ _ (condD (fun _ => needJ ⟨by omega, by omega⟩ ?_) fun h => by omega)
  rw [Int.toNat_natCast, succ64 (by omega)]
  generalize l.getD i noPk = y at h ⊢
  refine ASpec.call (bad0 hx hg hl hr hns y f) (Les.refl _) ⟨_, rfl, rfl, condB (fun e => ⟨?_, rfl⟩) fun e => ih (i + 1) (by omega) ?_⟩
  ·rw [if_pos e] at h; rw [h]
  ·rw [if_neg (by rw [e]; simp)] at h; exact h
theorem dead0 (f : Int) : ASpec Tryz.prog 122 [.ptr 2 0, slK l] (HS es root f) (fun r H' => r = .bool (deadM es root l) ∧ H' = HS es root f) := by
 have h1 : ASpec Tryz.prog 193 [slK l, .fn 155 [.ptr 3 0, .ptr 4 0]] (HB es root l f) (fun r H' => r = .int .i64 (ixK (badP es root l) l 0) ∧ H' = HB es root l f) :=
  s193 es root l f _ (ixb hx hg hl hr hns l.length 0 (by omega) rfl)
 have h2 : ASpec Tryz.prog 154 [slK l, .fn 155 [.ptr 3 0, .ptr 4 0]] (HB es root l f) (fun r H' => r = .bool (deadM es root l) ∧ H' = HB es root l f) := by
  refine s154 es root l f _ (ASpec.call h1 (Les.refl _) ⟨_, rfl, rfl, ?_, rfl⟩)
  congr 1
  unfold deadM
  rcases ixK_first (badP es root l) l 0 with ⟨h1, h2⟩ | ⟨j, h1, h2, h3⟩
  ·rw [decide_eq_false (by omega), eq_comm, List.any_eq_false]
   intro x hx; exact List.find?_eq_none.1 h2 x hx
  ·rw [decide_eq_true (by omega), eq_comm, List.any_eq_true]
   exact ⟨_, List.mem_of_find?_eq_some h3, List.find?_some h3⟩
 refine ASpec.sel (s122 es root l f _ (ASpec.call h2 (Les.refl _) ⟨_, rfl, rfl, ?_⟩))
 exact ⟨[0, 1, 2], HS es root f, .bool (deadM es root l), selS es root f [_, _], Le.refl _, rfl, rfl⟩
variable {d : List Kd} (hd : RelX es d) (hdl : d.length ≤ 1000)
include hd hdl
end
abbrev Out := (List Pk × Int × Nm) × Int
def tryF (rec : List Pk → Int → Out) (name : Nm) (l : List Pk) : List Int → Int → Out
 | [], f => (([], 2, []), f)
 | v :: r, f => if f ≤ 0 then (([], 5, []), f) else if (rec (putM l (name, v)) (f - 1)).1.2.1 = 2 then tryF rec name l r (rec (putM l (name, v)) (f - 1)).2 else rec (putM l (name, v)) (f - 1)
def stepF (es : Kn) (root : List Need) (rec : List Pk → Int → Out) (l : List Pk) (f : Int) : Out :=
 if deadM es root l = true then (([], 2, []), f) else if (nextM es root l).2 = false then ((l, 1, []), f) else if hasI es (nextM es root l).1 = false then (([], 3, (nextM es root l).1), f) else
  tryF rec (nextM es root l).1 l (downM (getM es (nextM es root l).1).1 (askedM es root l (nextM es root l).1)) f
def onF (es : Kn) (root : List Need) : Nat → List Pk → Int → Out
 | 0 => stepF es root fun _ f => (([], 2, []), f)
 | d + 1 => stepF es root (onF es root d)
theorem tryF_le {rec : List Pk → Int → Out} {name : Nm} {l : List Pk} (h : ∀ l f, (rec l f).2 ≤ f) : ∀ (w : List Int) (f : Int), (tryF rec name l w f).2 ≤ f
 | [], f => by simp [tryF]
 | v :: r, f => by
  simp only [tryF]
  split
  ·exact Int.le_refl _
  ·have h1 := h (putM l (name, v)) (f - 1)
   split
   ·have h2 := tryF_le h (name := name) (l := l) r (rec (putM l (name, v)) (f - 1)).2
    omega
   ·omega
theorem stepF_le {es : Kn} {root : List Need} {rec : List Pk → Int → Out} (h : ∀ l f, (rec l f).2 ≤ f) (l : List Pk) (f : Int) : (stepF es root rec l f).2 ≤ f := by
 unfold stepF
 split
 ·exact Int.le_refl _
 ·split
  ·exact Int.le_refl _
  ·split
   ·exact Int.le_refl _
   ·exact tryF_le h _ _
theorem onF_le (es : Kn) (root : List Need) : ∀ (d : Nat) (l : List Pk) (f : Int), (onF es root d l f).2 ≤ f
 | 0, l, f => stepF_le (fun _ _ => Int.le_refl _) l f
 | d + 1, l, f => stepF_le (onF_le es root d) l f
theorem down_len {m : Mani} {q : List Span} : (downM m q).length ≤ m.2.length := by
 unfold downM
 have := downF_len (q := q) m.2.reverse []
 simpa using this
abbrev endV (x : List Pk × Int × Nm) : AV := .iface 140 (.agg [slK x.1, .int .i64 x.2.1, .str (B x.2.2)])
abbrev PR (es : Kn) (root : List Need) (x : Out) : AV → List AObj → Prop := fun r H' => ∃ l H2 r2, Sel 3 l H' H2 ∧ Le r (AV.ren (selR l H'.length) r2) ∧ (r2 = .tup [] ∧ x.1.2.1 = 2 ∧ H2 = HS es root x.2)
abbrev PE (es : Kn) (root : List Need) (x : Out) : AV → List AObj → Prop := fun r H' => ∃ l H2 r2, Sel 3 l H' H2 ∧ Le r (AV.ren (selR l H'.length) r2) ∧ (r2 = endV x.1 ∧ x.1.2.1 ≠ 2 ∧ H2 = HS es root x.2)
end Pn
end

noncomputable section
open Go Go.Ab Go.Proofs V S T C
namespace Pn
open W (sl1 slS slN slR leNone renN renS)
open X (hasI getM OkX mp_ren)
open Xd (getKd ofI ofKd RelX hasD rel_has)
open Pc (slK slKLe UpK putM putD putM_putD put_up put_len)
open Dk (chkF getP chk_up)
open E (PA pa)
open Rc (Nm slL slLle nilLle slotsR selN)
open Sp (hasS)
open Sg (ok)
open Ft (Rise relM relOf NsOk OkG rel_needs same sameSet get_okN)
theorem leIf {t : TypeId} {a b : AV} (h : Le a b) : Le (.iface t a) (.iface t b) := fun M w loc v hv => by
 cases hv with
 | iface _ _ u hu => exact .iface t b u (h M w loc u hu)
theorem pr {es : Kn} {root : List Need} {x : Out} (h : x.1.2.1 = 2) (q : List AObj) : PR es root x (.tup []) (HS es root x.2 ++ q) := ⟨_, _, _, selS es root x.2 q, Le.refl _, rfl, h, rfl⟩
theorem pe {es : Kn} {root : List Need} {x : Out} {r : AV} (h : x.1.2.1 ≠ 2) (hr : ∀ ρ, Le r (AV.ren ρ (endV x.1))) (q : List AObj) : PE es root x r (HS es root x.2 ++ q) := ⟨_, _, _, selS es root x.2 q, hr _, rfl, h, rfl⟩
theorem nilE {k : Int} {n : Nm} (ρ : Nat → Nat) : Le (.iface 140 (.agg [.sl 0 (.raw []) .nil, .int .i64 k, .str (B n)])) (AV.ren ρ (endV ([], k, n))) :=
 leIf (Le.agg ⟨Le.sl (s' := Seq.ren ρ (.map encPk noPk [])) rfl (.inr ⟨rfl, fun _ h => by cases h⟩) (.inr rfl), Le.refl _, Le.refl _, trivial⟩)
abbrev OnS (es : Kn) (root : List Need) (l : List Pk) (f : Int) (x : Out) : Prop := ASpecX Tryz.prog 72 [.ptr 2 0, slK l] (HS es root f) (fun r H' => r = .tup [] ∧ x.1.2.1 = 2 ∧ H' = HS es root x.2) (fun r H' => r = endV x.1 ∧ x.1.2.1 ≠ 2 ∧ H' = HS es root x.2)
section
variable {es : Kn} (hx : OkX es) (hg : OkG es) {root : List Need} (hr : okN root) (hns : NsOk root)
theorem on8 {rec : List Pk → Int → Out} {name : Nm} {l : List Pk} (hl : l.length ≤ 100000) (hle : ∀ l f, (rec l f).2 ≤ f) {D : Nat} (hD : D ≤ 1000000) {w : List Int} (hw : w.length ≤ 1000000)
  (hrec : ∀ v f, 0 < f → f.toNat ≤ D → OnS es root (putM l (name, v)) (f - 1) (rec (putM l (name, v)) (f - 1))) {x : Out} : ∀ (m i : Nat) (f : Int), m + i = w.length → f.toNat ≤ D → tryF rec name l (w.drop i) f = x →
  AWP Tryz.prog 92 3 c72_8 [(0, .ptr 2 0), (1, slK l), (4, .str (B name)), (64, slJ w), (65, .int .i64 w.length), (66, .int .i64 i)] (HS es root f) (q72_1 3 (PR es root x) (PE es root x)) := by
 intro m
 induction m with
 | zero =>
  intro i f hm hf h
  rw [List.drop_eq_nil_of_le (by omega)] at h
  have h : (([], 2, []), f) = x := h
  subst h
  exact v72_8 _ _ _ _ _ _ _ _ _ _ _ (condD (fun hc => by omega) fun _ => pr rfl [])
 | succ m ih =>
  intro i f hm hf h
  rw [dropD w 0 i (by omega)] at h
  simp only [tryF] at h
  refine v72_8 _ _ _ _ _ _ _ _ _ _ _ (condD (fun hc => needJ ⟨by omega, by omega⟩ (condD (fun h0 => ?_) fun h0 => ?_)) fun hc => by omega)
  ·rw [if_pos h0] at h
   subst h
   exact pe (x := (([], 5, []), f)) (by show (5 : Int) ≠ 2; decide) nilE []
  rw [if_neg h0] at h
  rw [Int.toNat_natCast, succ64 (by omega), wrap64 (by omega) (by omega)]
  generalize w.getD i 0 = v at h ⊢
  refine ASpec.call (Pc.put_spec l (name, v) (by omega) _) (Les.refl _) ⟨putM l (name, v), rfl, rfl, ?_⟩
  have h1 := hle (putM l (name, v)) (f - 1)
  refine (hrec v f (by omega) hf).mono (fun r H' ⟨e1, e2, e3⟩ => ?_) fun r H' ⟨e1, e2, e3⟩ => ?_
  ·subst e1 e3
   rw [if_pos e2] at h
   exact ⟨_, rfl, rfl, ih (i + 1) _ (by omega) (by omega) h⟩
  ·subst e1 e3
   rw [if_neg e2] at h
   subst h
   exact pe e2 (fun ρ => Le.refl _) []
include hx hg hr hns
theorem onS {rec : List Pk → Int → Out} {l : List Pk} (hl : l.length ≤ 100000) (hle : ∀ l f, (rec l f).2 ≤ f) {f : Int} (hf : f.toNat ≤ 1000000)
  (hrec : ∀ name v f', 0 < f' → f' ≤ f → OnS es root (putM l (name, v)) (f' - 1) (rec (putM l (name, v)) (f' - 1))) : OnS es root l f (stepF es root rec l f) := by
 refine ASpecX.sel (s72 es root l f (PR es root (stepF es root rec l f)) (PE es root (stepF es root rec l f)) (ASpec.call (dead0 hx hg hl hr hns f) (Les.refl _) ⟨deadM es root l, rfl, rfl, condB (fun h1 => ?_) fun h1 => ?_⟩))
 ·rw [show stepF es root rec l f = (([], 2, []), f) from if_pos h1]
  exact pr rfl []
 have h1' : ¬ deadM es root l = true := by rw [h1]; simp
 have hrl := hr.1
 unfold lim at hrl
 refine ASpec.call (next_at hx hg hl hrl _ 0 1 (by omega) rfl rfl) (Les.refl _) ⟨(B (nextM es root l).1, (nextM es root l).2), rfl, rfl, condBn (fun h2 => ?_) fun h2 => ?_⟩
 ·rw [show stepF es root rec l f = ((l, 1, []), f) from by unfold stepF; rw [if_neg h1', if_pos h2]]
  exact pe (x := ((l, 1, []), f)) (by show (1 : Int) ≠ 2; decide) (fun ρ => Le.refl _) []
 have h2' : ¬ (nextM es root l).2 = false := by rw [show (nextM es root l).2 = true from h2]; simp
 refine ASpec.call (X.has_spec es (nextM es root l).1 _ 0 1 (by omega) rfl rfl) (Les.refl _) ⟨_, rfl, rfl, condBn (fun h3 => ?_) fun h3 => ?_⟩
 ·rw [show stepF es root rec l f = (([], 3, (nextM es root l).1), f) from by unfold stepF; rw [if_neg h1', if_neg h2', if_pos h3]]
  exact pe (x := (([], 3, (nextM es root l).1), f)) (by show (3 : Int) ≠ 2; decide) nilE []
 have h3' : ¬ hasI es (nextM es root l).1 = false := by rw [h3]; simp
 refine ASpec.call (X.get_spec es (nextM es root l).1 hx _ 0 1 (by omega) rfl rfl) (Les.refl _) ⟨getM es (nextM es root l).1, rfl, rfl, ?_⟩
 refine ASpec.call (asked_at hx hg hl hr hns (nextM es root l).1 _ 0 1 (by omega) rfl rfl) (Les.refl _) ⟨askedM es root l (nextM es root l).1, rfl, rfl, ?_⟩
 repeat refine ⟨⟨rfl, rfl⟩, ?_⟩
 have hm := (get_okN hx (nextM es root l).1).1
 unfold lim at hm
 have hdl := down_len (m := (getM es (nextM es root l).1).1) (q := askedM es root l (nextM es root l).1)
 refine ASpec.call (down_spec (getM es (nextM es root l).1).1 (askedM es root l (nextM es root l).1) (asked_ok hg hns l _) hm _) (Les.refl _) ⟨_, rfl, rfl, ?_⟩
 refine AWP.shape [0, 1, 2] _ (HS es root f) (selN (by decide) (by decide) (fun i h => by match i, h with | 0, _ | 1, _ | 2, _ => rfl) ⟨by rw [mp_ren]; rfl, rfl, rfl, trivial⟩) (by exact slotsR rfl)
  (on8 (rec := rec) hl hle (D := f.toNat) hf (by omega) (fun v f' h0 hf' => hrec _ v f' h0 (by omega)) (downM (getM es (nextM es root l).1).1 (askedM es root l (nextM es root l).1)).length 0 f (by omega) (Nat.le_refl _) ?_)
 unfold stepF
 rw [if_neg h1', if_neg h2', if_neg h3']; rfl
theorem on_spec : ∀ (d : Nat) (l : List Pk) (f : Int), l.length + d ≤ 90000 → f.toNat ≤ d → OnS es root l f (onF es root d l f)
  | 0, l, f, hl, hf => onS hx hg hr hns (by omega) (fun _ _ => Int.le_refl _) (by omega) (fun name v f' h0 hf' => by omega)
  | d + 1, l, f, hl, hf => onS hx hg hr hns (by omega) (onF_le es root d) (by omega) (fun name v f' h0 hf' => by
    have h1 := put_len l (name, v)
    exact on_spec d (putM l (name, v)) (f' - 1) (by omega) (by omega))
end
abbrev outV (x : List Pk × Int × Nm) : AV := .tup [slK x.1, .int .i64 x.2.1, .str (B x.2.2)]
theorem nilO {k : Int} {n : Nm} (ρ : Nat → Nat) : Le (.tup [.sl 0 (.raw []) .nil, .int .i64 k, .str (B n)]) (AV.ren ρ (outV ([], k, n))) :=
 Le.tup ⟨Le.sl (s' := Seq.ren ρ (.map encPk noPk [])) rfl (.inr ⟨rfl, fun _ h => by cases h⟩) (.inr rfl), Le.refl _, Le.refl _, trivial⟩
section
variable {es : Kn} (hx : OkX es) (hg : OkG es) {root : List Need} (hr : okN root) (hns : NsOk root) {d : List Kd} (hd : RelX es d) (hdl : d.length ≤ 1000)
include hx hg hr hns hd hdl
end
end Pn
end

noncomputable section
open Go Go.Ab Go.Proofs V S T C
namespace Pn
open W (sl1 slS slN slR leNone renN renS)
open X (hasI getM OkX mp_ren)
open Pc (slK slKLe UpK)
open E (PA pa)
open Rc (Nm slL slLle nilLle slotsR selN)
def c71 : Code := bodyOf Tryz.f71
def g71 : Cfg := { N := 16, live := fun _ => [], cut := fun _ => false, mu := fun _ => false, ret := rets }
theorem b71 : Tryz.f71.body = some c71 := by kernel_rfl
theorem e71 : c71 = .seq (.region 0 (opsOf (codeFst c71)) false) (.seq (.seq (.region 1 (opsOf (codeFst (codeFst (codeSnd c71)))) false) (.cond (.tmp 7) .ret .skip)) (.seq (codeFst (codeSnd (codeSnd c71))) (codeSnd (codeSnd (codeSnd c71))))) := by kernel_rfl
theorem op71_0 : (opsOf (codeFst c71))[0]? = some ⟨some 5, .call { callee := .builtin .recover, args := #[], argTypes := #[] }, 20, "plain.go:120", #[], none⟩ := by kernel_rfl
theorem op71_1 : (opsOf (codeFst c71))[1]? = some ⟨some 3, .assign (.tmp 5), 20, "plain.go:120", #[{ on := 0, ground := .data }, { on := 0, ground := .chain }, { on := 0, ground := .phase }], none⟩ := by kernel_rfl
theorem op71_2 : (opsOf (codeFst (codeFst (codeSnd c71))))[0]? = some ⟨some 6, .move (.tmp 3), 20, "plain.go:121", #[], none⟩ := by kernel_rfl
theorem op71_3 : (opsOf (codeFst (codeFst (codeSnd c71))))[1]? = some ⟨some 7, .binOp .eql 20 (.tmp 6) (.const .nilIface) 20, 4, "plain.go:121", #[{ on := 0, ground := .data }], none⟩ := by kernel_rfl
theorem u20 : Tryz.prog.underlying 20 = some (.interface #[]) := by kernel_rfl
theorem r71_0 : List.range (opsOf (codeFst c71)).size = [0, 1] := by kernel_rfl
theorem r71_1 : List.range (opsOf (codeFst (codeFst (codeSnd c71)))).size = [0, 1] := by kernel_rfl
theorem eqIn_inn (d : Nat) {w : World} : (Op.equalIn (d + 1) 20 .nilIface .nilIface).run Tryz.prog w = .ok true w := by
 simp only [Op.equalIn, Sem.run_bind, run_underlying' u20, Result.andThen_ok, Sem.run_pure]
theorem eqIn_ivn (d : Nat) {w : World} {t : TypeId} {u : Value} : (Op.equalIn (d + 1) 20 (.iface t u) .nilIface).run Tryz.prog w = .ok false w := by
 simp only [Op.equalIn, Sem.run_bind, run_underlying' u20, Result.andThen_ok, Sem.run_pure]
theorem eq_nn {w : World} : (Op.equal 20 .nilIface .nilIface).run Tryz.prog w = .ok true w := eqIn_inn 9999
theorem eq_vn {w : World} {t : TypeId} {u : Value} : (Op.equal 20 (.iface t u) .nilIface).run Tryz.prog w = .ok false w := eqIn_ivn 9999
theorem test_nil {a : Act} {w : World} {b : Bool} {v : Value} (hv : a.eval (.tmp 6) = v) (hb : (v = .nilIface ∧ b = true) ∨ (∃ t u, v = .iface t u ∧ b = false)) :
  (execOp a.eval ⟨some 7, .binOp .eql 20 (.tmp 6) (.const .nilIface) 20, 4, "plain.go:121", #[{ on := 0, ground := .data }], none⟩).run Tryz.prog w = .ok (.value (.bool b)) w := by
 have hc : a.eval (.const .nilIface) = .nilIface := rfl
 rcases hb with ⟨rfl, rfl⟩ | ⟨t, u, rfl, rfl⟩
 ·simp only [execOp, hv, hc, eqGuard, binOp, Sem.run_bind, Sem.run_pure, Result.andThen_ok, Sem.run_map, eq_nn]
  simp [eq_nn]
 ·simp only [execOp, hv, hc, eqGuard, binOp, Sem.run_bind, Sem.run_pure, Result.andThen_ok, Sem.run_map, eq_vn]
  simp [eq_vn]
theorem srel_args {M : Mem} {w : World} {loc : Locs} {args : List AV} {vs : Array Value} (k : Nat) (h : VRels M w loc args vs) : SRel M w loc (slotsOf 0 args) (vs ++ Array.replicate k undef) := by
 obtain ⟨hvs, hv⟩ := h
 intro d
 rw [get_slotsOf]
 simp only [Nat.zero_le, if_true, Nat.sub_zero]
 by_cases hd : d < args.length
 ·rw [getD_lt _ _ _ hd]
  have := hv d hd
  have e : (vs ++ Array.replicate k undef).getD d undef = vs[d]'(by omega) := by
   simp only [Array.getD_eq_getD_getElem?]
   rw [Array.getElem?_append_left (by omega), Array.getElem?_eq_getElem (by omega)]; rfl
  simp only [e]; exact this
 ·have : args.getD d .bad = .bad := by simp [List.getD, List.getElem?_eq_none (Nat.le_of_not_lt hd)]
  rw [this]; exact .bad _
theorem put_size (a : Act) (d : Option Tmp) (v : Value) : (a.put d v).tmps.size = a.tmps.size := by
 cases d <;> simp [Act.put]
theorem put_defers (a : Act) (d : Option Tmp) (v : Value) : (a.put d v).defers = a.defers := by
 cases d <;> rfl
theorem put_eval (a : Act) (d : Nat) (v : Value) (h : d < a.tmps.size) : (a.put (some d) v).eval (.tmp d) = v := by
 simp [Act.put, Act.eval, Array.getD, h]
theorem SRel.act {M : Mem} {w : World} {loc : Locs} {s : Slots} {a : Act} (h : SRel M w loc s a.tmps) {d : Nat} {av : AV} {v : Value} (hd : d < a.tmps.size) (hv : VRel M w loc av v) : SRel M w loc ((d, av) :: s) (a.put (some d) v).tmps := SRel.put h hd hv
theorem f71_has : Tryz.prog.funcs[71]? = some Tryz.f71 := by kernel_rfl
abbrev H1 (es : Kn) (root : List Need) (f : Int) (x : List Pk × Int × Nm) : List AObj := HX es ++ [.cells [slK x.1], .cells [.int .i64 x.2.1], .cells [.str (B x.2.2)], .cells [.ptr 1 0, slN root, .int .i64 f]]
abbrev H1z (es : Kn) (root : List Need) (f : Int) : List AObj := HX es ++ [.cells [.sl 0 (.raw []) .nil], .cells [.int .i64 0], .cells [.str ⟨#[]⟩], .cells [.ptr 1 0, slN root, .int .i64 f]]
theorem reg2 (es : Kn) (root : List Need) (f : Int) (x : List Pk × Int × Nm) (s : Slots) (K : Slots → List AObj → Prop) : K ([(4, .ptr 6 0), (9, .agg [slK x.1, .int .i64 x.2.1, .str (B x.2.2)]), (8, endV x), (7, .bool false), (6, endV x), (3, endV x), (5, endV x), (0, .ptr 2 0), (1, .ptr 3 0), (2, .ptr 4 0)]) (H1z es root f ++ [.cells [slK x.1, .int .i64 x.2.1, .str (B x.2.2)]]) =
  areg Tryz.prog g71 (codeFst (codeSnd (codeSnd c71))) [(7, .bool false), (6, endV x), (3, endV x), (5, endV x), (0, .ptr 2 0), (1, .ptr 3 0), (2, .ptr 4 0)] (H1z es root f) K := by kernel_rfl
abbrev tE (x : List Pk × Int × Nm) : List AObj := [.cells [slK x.1, .int .i64 x.2.1, .str (B x.2.2)]]
abbrev Ha (es : Kn) (root : List Need) (f : Int) (x : List Pk × Int × Nm) : List AObj := HX es ++ [.cells [slK x.1], .cells [.int .i64 0], .cells [.str ⟨#[]⟩], .cells [.ptr 1 0, slN root, .int .i64 f]] ++ tE x
abbrev Hb (es : Kn) (root : List Need) (f : Int) (x : List Pk × Int × Nm) : List AObj := HX es ++ [.cells [slK x.1], .cells [.int .i64 x.2.1], .cells [.str ⟨#[]⟩], .cells [.ptr 1 0, slN root, .int .i64 f]] ++ tE x
theorem reg3 (es : Kn) (root : List Need) (f : Int) (x : List Pk × Int × Nm) (s : Slots) (K : Slots → List AObj → Prop) (h : ∀ s, K s (H1 es root f x ++ tE x)) :
  areg Tryz.prog g71 (codeSnd (codeSnd (codeSnd c71))) [(4, .ptr 6 0), (9, .agg [slK x.1, .int .i64 x.2.1, .str (B x.2.2)]), (8, endV x), (7, .bool false), (6, endV x), (3, endV x), (5, endV x), (0, .ptr 2 0), (1, .ptr 3 0), (2, .ptr 4 0)] (H1z es root f ++ tE x) K :=
 kc (A := ((AV.str (B x.2.2) = AV.str (B x.2.2) ∧ Ha es root f x = Ha es root f x) ∧ (AV.int .i64 x.2.1 = AV.int .i64 x.2.1 ∧ Ha es root f x = Ha es root f x) ∧ (AV.str (B x.2.2) = AV.str (B x.2.2) ∧ Hb es root f x = Hb es root f x) ∧
  K ([(15, .str (B x.2.2)), (14, .ptr 6 2), (13, .int .i64 x.2.1), (12, .ptr 6 1), (11, slK x.1), (10, .ptr 6 0), (4, .ptr 6 0), (9, .agg [slK x.1, .int .i64 x.2.1, .str (B x.2.2)]), (8, endV x), (7, .bool false), (6, endV x), (3, endV x), (5, endV x), (0, .ptr 2 0), (1, .ptr 3 0), (2, .ptr 4 0)]) (H1 es root f x ++ tE x))) (by kernel_rfl) ⟨⟨rfl, rfl⟩, ⟨rfl, rfl⟩, ⟨rfl, rfl⟩, h _⟩
theorem res71 (tmps : Array Value) (w : World) : ∃ v, (results Tryz.f71 tmps).run Tryz.prog w = .ok v w := ⟨.tuple #[], by
 have h : Tryz.f71.results = #[] := by kernel_rfl
 simp only [results, h]
 simp⟩
variable {M : Mem} {loc : Locs} {w : World}
theorem d71n (vs : Array Value) (hv : vs.size = 3) : CallsDIn (FW none) 0 Tryz.prog 71 vs .returning w (fun e u' w' => (∃ v, e = .returned v) ∧ u' = .returning ∧ w' = w) := by
 refine callsDIn_of_wpSIn f71_has b71 trivial fun c₀ cs hu => ?_
 have hN : Tryz.f71.ntmps = 16 := by kernel_rfl
 generalize hT : vs ++ Array.replicate (Tryz.f71.ntmps - vs.size) undef = T
 have hTs : T.size = 16 := by rw [← hT]; simp [hN, hv]
 rw [e71]
 refine wpSIn_seq (wpSIn_region ?_)
 rw [r71_0]
 refine wpOpsSIn_recover op71_0 rfl rfl ?_
 rw [show recV c₀.mode = .nilIface from by rw [hu]; rfl, show recU c₀.mode = .returning from by rw [hu]; rfl]
 refine wpOpsSIn_value op71_1 rfl (v := .nilIface) ?_ ?_
 ·simp only [execOp, Sem.run_pure]
  rw [put_eval _ _ _ (by show 5 < T.size; omega)]
 show Exit.thenS _ _ .normal _ _ _
 refine wpSIn_of_wpIn rfl ?_
 refine wpIn_seq (wpIn_seq (wpIn_region ?_))
 rw [r71_1]
 refine wpOpsIn_value op71_2 rfl (v := .nilIface) ?_ (wpOpsIn_value op71_3 rfl (v := .bool true) (test_nil (v := .nilIface) ?_ (.inl ⟨rfl, rfl⟩)) ?_)
 ·simp only [execOp, Sem.run_pure]
  rw [put_eval _ _ _ (by rw [put_size]; show 3 < T.size; omega)]
 ·exact put_eval _ _ _ (by rw [put_size, put_size]; show 6 < T.size; omega)
 show Exit.then _ _ .normal _ _
 refine wpIn_cond_true (put_eval _ _ _ (by rw [put_size, put_size, put_size]; show 7 < T.size; omega)) (wpIn_ret ?_)
 obtain ⟨v, hr⟩ := res71 (((((({ tmps := T, defers := [] } : Act).put (some 5) .nilIface).put (some 3) .nilIface).put (some 6) .nilIface).put (some 7) (.bool true)).tmps) w
 exact ⟨rfl, _, rfl, v, hr, ⟨v, rfl⟩, rfl, rfl⟩
theorem d71p {es : Kn} {root : List Need} {f : Int} {x : List Pk × Int × Nm} {vs : Array Value} {v : Value} (ht : Tabs Tryz.prog M w) (hr : Ab.Rel M loc (H1z es root f) w) (hvs : VRels M w loc [.ptr 2 0, .ptr 3 0, .ptr 4 0] vs) (hv : VRel M w loc (endV x) v) :
  CallsDIn (FW none) 0 Tryz.prog 71 vs (.panicking [{ v, recovered := false }]) w (fun e u' w' => (∃ r, e = .returned r) ∧ settle u' = .returning ∧ ∃ M' loc', Ab.Rel M' loc' (H1 es root f x ++ tE x) w' ∧ Step M loc (H1z es root f) w M' loc' (H1 es root f x ++ tE x) w') := by
 refine callsDIn_of_wpSIn f71_has b71 trivial fun c₀ cs hu => ?_
 have hN : Tryz.f71.ntmps = 16 := by kernel_rfl
 have hs0 : SRel M w loc [(0, .ptr 2 0), (1, .ptr 3 0), (2, .ptr 4 0)] (vs ++ Array.replicate (Tryz.f71.ntmps - vs.size) undef) := srel_args _ hvs
 have hv3 : vs.size = 3 := hvs.1
 generalize hT : vs ++ Array.replicate (Tryz.f71.ntmps - vs.size) undef = T at hs0
 have hTs : T.size = 16 := by rw [← hT]; simp [hN, hv3]
 rw [e71]
 refine wpSIn_seq (wpSIn_region ?_)
 rw [r71_0]
 refine wpOpsSIn_recover op71_0 rfl rfl ?_
 rw [show recV c₀.mode = v from by rw [hu]; rfl, show recU c₀.mode = .panicking [{ v, recovered := true }] from by rw [hu]; rfl]
 refine wpOpsSIn_value op71_1 rfl (v := v) ?_ ?_
 ·simp only [execOp, Sem.run_pure]
  rw [put_eval _ _ _ (by show 5 < T.size; omega)]
 show Exit.thenS _ _ .normal _ _ _
 refine wpSIn_of_wpIn rfl ?_
 refine wpIn_seq (wpIn_seq (wpIn_region ?_))
 rw [r71_1]
 have hif : ∃ t u, v = .iface t u := by cases hv with | iface _ _ u hu => exact ⟨_, _, rfl⟩
 refine wpOpsIn_value op71_2 rfl (v := v) ?_ (wpOpsIn_value op71_3 rfl (v := .bool false) (test_nil (v := v) ?_ (.inr (by obtain ⟨t, u, e⟩ := hif; exact ⟨t, u, e, rfl⟩))) ?_)
 ·simp only [execOp, Sem.run_pure]
  rw [put_eval _ _ _ (by rw [put_size]; show 3 < T.size; omega)]
 ·exact put_eval _ _ _ (by rw [put_size, put_size]; show 6 < T.size; omega)
 show Exit.then _ _ .normal _ _
 refine wpIn_cond_false (put_eval _ _ _ (by rw [put_size, put_size, put_size]; show 7 < T.size; omega)) (wpIn_skip ?_)
 show Code.wpIn _ _ _ _ _ _ _
 refine wpIn_seq ?_
 have hs : SRel M w loc [(7, .bool false), (6, endV x), (3, endV x), (5, endV x), (0, .ptr 2 0), (1, .ptr 3 0), (2, .ptr 4 0)] (((((({ tmps := T, defers := [] } : Act).put (some 5) v).put (some 3) v).put (some 6) v).put (some 7) (.bool false)).tmps) := by
  refine SRel.act (SRel.act (SRel.act (SRel.act hs0 ?_ hv) ?_ hv) ?_ hv) ?_ (.bool _)
  ·show 5 < T.size; omega
  ·rw [put_size]; show 3 < T.size; omega
  ·rw [put_size, put_size]; show 6 < T.size; omega
  ·rw [put_size, put_size, put_size]; show 7 < T.size; omega
 refine areg_sound (cfg := g71) (kc (reg2 es root f x [] fun s H => s = [(4, .ptr 6 0), (9, .agg [slK x.1, .int .i64 x.2.1, .str (B x.2.2)]), (8, endV x), (7, .bool false), (6, endV x), (3, endV x), (5, endV x), (0, .ptr 2 0), (1, .ptr 3 0), (2, .ptr 4 0)] ∧ H = H1z es root f ++ tE x) ⟨rfl, rfl⟩) ht hr hs (by rw [put_size, put_size, put_size, put_size]; exact hTs) fun a1 w1 s1 K1 M1 loc1 ⟨e1, e2⟩ k1 => ?_
 subst e1 e2
 show Code.wpIn _ _ _ _ _ _ _
 refine areg_sound (cfg := g71) (reg3 es root f x [] (fun s H => H = H1 es root f x ++ tE x) fun s => rfl) (ht.step hr k1.step) k1.rel k1.srel k1.size fun a2 w2 s2 K2 M2 loc2 e2 k2 => ?_
 subst e2
 obtain ⟨r, hr2⟩ := res71 a2.tmps w2
 exact ⟨by rw [k2.defers, k1.defers]; rfl, _, rfl, r, hr2, ⟨r, rfl⟩, rfl, M2, loc2, k2.rel, k1.step.trans k2.step⟩
end Pn
end

noncomputable section
open Go Go.Ab Go.Proofs V S T C
namespace Pn
open W (sl1 slS slN slR leNone renN renS)
open X (hasI getM OkX mp_ren)
open Xd (getKd ofI ofKd RelX hasD rel_has)
open Pc (slK slKLe UpK putM putD)
open E (PA pa)
open Rc (Nm slL slLle nilLle slotsR selN)
open Ft (Rise relM relOf NsOk OkG rel_needs same sameSet get_okN)
def brkF (es : Kn) (l : List Need) : Int × Nm := match l.find? fun n => !(getM es n.1).2 with
 | some n => (4, n.1)
 | none => (0, [])
def lckF (es : Kn) (root l : List Need) : Int × Nm := match l.find? fun n => !hasI es n.1 with
 | some n => (3, n.1)
 | none => brkF es root
def firstM (es : Kn) (root : List Need) : Int × Nm := lckF es root root
def solveM (es : Kn) (root : List Need) (f : Int) : List Pk × Int × Nm :=
 if (firstM es root).1 ≠ 0 then ([], (firstM es root).1, (firstM es root).2) else (onF es root f.toNat [] f).1
abbrev PF (es : Kn) (root : List Need) (f : Int) (x : Int × Nm) : AV → List AObj → Prop := fun r H' => ∃ l H2 r2, Sel 3 l H' H2 ∧ Le r (AV.ren (selR l H'.length) r2) ∧ (r2 = .tup [.int .i64 x.1, .str (B x.2)] ∧ H2 = HS es root f)
theorem pf (es : Kn) (root : List Need) (f : Int) (x : Int × Nm) (q : List AObj) : PF es root f x (.tup [.int .i64 x.1, .str (B x.2)]) (HS es root f ++ q) := ⟨_, _, _, selS es root f q, Le.refl _, rfl, rfl⟩
theorem brk_cons (es : Kn) (n : Need) (l : List Need) : brkF es (n :: l) = if (getM es n.1).2 = true then brkF es l else (4, n.1) := by
 unfold brkF
 rw [List.find?_cons]
 cases h : (getM es n.1).2 <;> simp
theorem lck_cons (es : Kn) (root : List Need) (n : Need) (l : List Need) : lckF es root (n :: l) = if hasI es n.1 = true then lckF es root l else (3, n.1) := by
 unfold lckF
 rw [List.find?_cons]
 cases h : hasI es n.1 <;> simp
section
variable {es : Kn} (hx : OkX es) {root : List Need} (hrl : root.length ≤ 400000)
include hx hrl
theorem first8 {f : Int} {x : Int × Nm} : ∀ (m i : Nat), m + i = root.length → brkF es (root.drop i) = x →
  AWP Tryz.prog 54 3 c70_8 [(0, .ptr 2 0), (33, slN root), (34, .int .i64 root.length), (35, .int .i64 i)] (HS es root f) (q70_4 3 (PF es root f x)) := by
 intro m
 induction m with
 | zero =>
  intro i hm h
  rw [List.drop_eq_nil_of_le (by omega)] at h
  have h : ((0, []) : Int × Nm) = x := h
  subst h
  exact v70_8 _ _ _ _ _ _ _ (condD (fun hc => by omega) fun _ => pf es root f (0, []) [])
 | succ m ih =>
  intro i hm h
  rw [dropD root ([], []) i (by omega), brk_cons] at h
  refine v70_8 _ _ _ _ _ _ _ (condD (fun hc => needJ ⟨by omega, by omega⟩ ?_) fun hc => by omega)
  rw [Int.toNat_natCast, succ64 (by omega)]
  generalize root.getD i ([], []) = y at h ⊢
  refine ASpec.call (X.get_spec es y.1 hx _ 0 1 (by omega) rfl rfl) (Les.refl _) ⟨getM es y.1, rfl, rfl, ?_⟩
  repeat refine ⟨⟨rfl, rfl⟩, ?_⟩
  refine condBn (fun e => ?_) fun e => ?_
  ·rw [if_neg (by rw [e]; simp)] at h
   subst h
   repeat refine ⟨⟨rfl, rfl⟩, ?_⟩
   exact pf es root f (4, y.1) [_, _]
  ·rw [if_pos e] at h
   exact AWP.shape [0, 1, 2] _ (HS es root f) (selN (by decide) (by decide) (fun i h => by match i, h with | 0, _ | 1, _ | 2, _ => rfl) ⟨by rw [mp_ren]; rfl, rfl, rfl, trivial⟩) (by exact slotsR rfl) (ih (i + 1) (by omega) h)
theorem first2 {f : Int} {x : Int × Nm} : ∀ (m i : Nat), m + i = root.length → lckF es root (root.drop i) = x →
  AWP Tryz.prog 54 3 c70_2 [(0, .ptr 2 0), (13, slN root), (14, .int .i64 root.length), (15, .int .i64 i)] (HS es root f) (q70_2 3 (PF es root f x)) := by
 intro m
 induction m with
 | zero =>
  intro i hm h
  rw [List.drop_eq_nil_of_le (by omega)] at h
  have h : brkF es root = x := h
  exact v70_2 _ _ _ _ _ _ _ (condD (fun hc => by omega) fun _ => first8 hx hrl root.length 0 (by omega) h)
 | succ m ih =>
  intro i hm h
  rw [dropD root ([], []) i (by omega), lck_cons] at h
  refine v70_2 _ _ _ _ _ _ _ (condD (fun hc => needJ ⟨by omega, by omega⟩ ?_) fun hc => by omega)
  rw [Int.toNat_natCast, succ64 (by omega)]
  generalize root.getD i ([], []) = y at h ⊢
  refine ASpec.call (X.has_spec es y.1 _ 0 1 (by omega) rfl rfl) (Les.refl _) ⟨_, rfl, rfl, condBn (fun e => ?_) fun e => ?_⟩
  ·rw [if_neg (by rw [e]; simp)] at h
   subst h
   repeat refine ⟨⟨rfl, rfl⟩, ?_⟩
   exact pf es root f (3, y.1) [_]
  ·rw [if_pos e] at h
   exact AWP.shape [0, 1, 2] _ (HS es root f) (selN (by decide) (by decide) (fun i h => by match i, h with | 0, _ | 1, _ | 2, _ => rfl) ⟨by rw [mp_ren]; rfl, rfl, rfl, trivial⟩) (by exact slotsR rfl) (ih (i + 1) (by omega) h)
theorem first0 (f : Int) : ASpec Tryz.prog 70 [.ptr 2 0] (HS es root f) (fun r H' => r = .tup [.int .i64 (firstM es root).1, .str (B (firstM es root).2)] ∧ H' = HS es root f) :=
 ASpec.sel (s70 es root f _ (first2 hx hrl root.length 0 (by omega) rfl))
end
theorem slK_nil : Les [.ptr 0 0, .sl 0 (.raw []) .nil] [.ptr 0 0, slK []] := ⟨Le.refl _, Le.sl (s' := .map encPk noPk []) rfl (.inr ⟨rfl, fun _ h => by cases h⟩) (.inr rfl), trivial⟩
section
variable {es : Kn} (hx : OkX es) (hg : OkG es) {root : List Need} (hr : okN root) (hns : NsOk root) {d : List Kd} (hd : RelX es d) (hdl : d.length ≤ 1000) (hrl : root.length ≤ 400000)
include hx hg hr hns hd hdl hrl
end
end Pn
end

noncomputable section
open Go Go.Ab Go.Proofs V S T C
namespace Pn
open W (sl1 slS slN slR leNone renN renS)
open X (hasI getM OkX mp_ren)
open Pc (slK slKLe UpK)
open E (PA pa)
open Rc (Nm slL slLle nilLle slotsR selN)
open Ft (Rise relM relOf NsOk OkG rel_needs same sameSet get_okN)
def c27 : Code := bodyOf Tryz.f27
def g27 : Cfg := { N := 29, live := fun _ => [], cut := fun _ => false, mu := fun _ => false, ret := rets }
theorem b27 : Tryz.f27.body = some c27 := by kernel_rfl
theorem f27_has : Tryz.prog.funcs[27]? = some Tryz.f27 := by kernel_rfl
abbrev cA : Code := codeFst (codeSnd (codeSnd c27))
abbrev cB : Code := codeSnd (codeSnd (codeSnd c27))
theorem e27 : c27 = .seq (codeFst c27) (.seq (codeFst (codeSnd c27)) (.seq (.seq (codeFst cA) (.seq (codeFst (codeSnd cA)) (.cond (.tmp 23) (.seq (codeFst (codeFst (codeSnd (codeSnd cA)))) .ret) .skip)))
  (.seq (.region 5 (opsOf (codeFst cB)) false) (.seq (.region 6 (opsOf (codeFst (codeSnd cB))) false) (.seq (codeFst (codeSnd (codeSnd cB))) .ret))))) := by kernel_rfl
theorem op27_0 : (opsOf (codeFst cB))[1]? = some ⟨none, .defer { callee := .value (.tmp 26), args := #[], argTypes := #[] }, 0, "plain.go:119", (((opsOf (codeFst cB))[1]?).map (·.after)).getD #[], none⟩ := by kernel_rfl
theorem op27_1 : (opsOf (codeFst (codeSnd cB)))[1]? = some ⟨some 28, .call ⟨.value (.func 72), #[.tmp 27, .const (.slice none 0 0)], #[134, 70]⟩, 0, "plain.go:128", (((opsOf (codeFst (codeSnd cB)))[1]?).map (·.after)).getD #[], none⟩ := by kernel_rfl
theorem r27_0 : List.range (opsOf (codeFst cB)).size = [0] ++ [1] := by kernel_rfl
theorem r27_1 : List.range (opsOf (codeFst (codeSnd cB))).size = [0] ++ [1] := by kernel_rfl
abbrev H0z (es : Kn) : List AObj := HX es ++ [.cells [.sl 0 (.raw []) .nil], .cells [.int .i64 0], .cells [.str ⟨#[]⟩]]
abbrev H2z (es : Kn) (root : List Need) (f : Int) (k : Int) (s : ByteArray) : List AObj := HX es ++ [.cells [.sl 0 (.raw []) .nil], .cells [.int .i64 k], .cells [.str s], .cells [.ptr 1 0, slN root, .int .i64 f]]
abbrev s0 (root : List Need) (f : Int) : Slots := [(8, .ptr 4 0), (7, .ptr 3 0), (6, .ptr 2 0), (0, .ptr 1 0), (1, slN root), (2, .int .i64 f)]
abbrev s1 (root : List Need) (f : Int) : Slots := (9, .ptr 5 0) :: (16, .ptr 5 0) :: (15, .agg [.ptr 1 0, slN root, .int .i64 f]) :: (14, .int .i64 f) :: (13, slN root) :: (12, .ptr 1 0) :: s0 root f
abbrev s2 (root : List Need) (f : Int) (k : Int) (s : ByteArray) : Slots := (11, .str s) :: (10, .int .i64 k) :: (21, .str s) :: (20, .int .i64 k) :: (17, .tup [.int .i64 k, .str s]) :: (19, .tup [.int .i64 k, .str s]) :: (18, .ptr 5 0) :: s1 root f
abbrev s3 (root : List Need) (f : Int) (k : Int) (s : ByteArray) : Slots := (23, .bool (k != 0)) :: (22, .int .i64 k) :: s2 root f k s
abbrev s4 (root : List Need) (f : Int) (k : Int) (s : ByteArray) : Slots := (25, .str s) :: (24, .int .i64 k) :: s3 root f k s
abbrev s5 (root : List Need) (f : Int) (k : Int) (s : ByteArray) : Slots := (26, .fn 71 [.ptr 2 0, .ptr 3 0, .ptr 4 0]) :: s3 root f k s
abbrev s6 (root : List Need) (f : Int) (k : Int) (s : ByteArray) : Slots := (27, .ptr 5 0) :: s5 root f k s
section
variable (es : Kn) (root : List Need) (f : Int) (k : Int) (s : ByteArray) (K : Slots → List AObj → Prop)
theorem g0 : K (s0 root f) (H0z es) = areg Tryz.prog g27 (codeFst c27) (slotsOf 0 [.ptr 1 0, slN root, .int .i64 f]) (HX es) K := by kernel_rfl
theorem g1 : K (s1 root f) (H1z es root f) = areg Tryz.prog g27 (codeFst (codeSnd c27)) (s0 root f) (H0z es) K := by kernel_rfl
theorem g2 : ASpec Tryz.prog 70 [.ptr 5 0] (H1z es root f) (fun r H' => ∃ x : Int × ByteArray, r = .tup [.int .i64 x.1, .str x.2] ∧ H' = H1z es root f ∧ K (s2 root f x.1 x.2) (H1z es root f)) = areg Tryz.prog g27 (codeFst cA) (s1 root f) (H1z es root f) K := by kernel_rfl
theorem g3 : K (s3 root f k s) (H1z es root f) = areg Tryz.prog g27 (codeFst (codeSnd cA)) (s2 root f k s) (H1z es root f) K := by kernel_rfl
theorem g4 : K (s4 root f k s) (H2z es root f k s) = areg Tryz.prog g27 (codeFst (codeFst (codeSnd (codeSnd cA)))) (s3 root f k s) (H1z es root f) K := by kernel_rfl
theorem g5 : K (s5 root f k s) (H1z es root f) = aops Tryz.prog g27 (opsOf (codeFst cB)) [0] (s3 root f k s) (H1z es root f) K := by kernel_rfl
theorem g6 : K (s6 root f k s) (H1z es root f) = aops Tryz.prog g27 (opsOf (codeFst (codeSnd cB))) [0] (s5 root f k s) (H1z es root f) K := by kernel_rfl
theorem g7 (f' : Int) : K ((28, .tup []) :: s6 root f k s) (H2z es root f' 2 ⟨#[]⟩) = areg Tryz.prog g27 (codeFst (codeSnd (codeSnd cB))) ((28, .tup []) :: s6 root f k s) (H1z es root f') K := by kernel_rfl
theorem z4 (Post : AV → Prop) : Post (.tup [.sl 0 (.raw []) .nil, .int .i64 k, .str s]) = aresults Tryz.prog (s4 root f k s) (H2z es root f k s) Tryz.f27.results.toList (fun vs => Post (tupled vs)) := by kernel_rfl
theorem z7 (f' : Int) (Post : AV → Prop) : Post (.tup [.sl 0 (.raw []) .nil, .int .i64 2, .str ⟨#[]⟩]) = aresults Tryz.prog ((28, .tup []) :: s6 root f k s) (H2z es root f' 2 ⟨#[]⟩) Tryz.f27.results.toList (fun vs => Post (tupled vs)) := by kernel_rfl
theorem zp (f' : Int) (x : List Pk × Int × Nm) (Post : AV → Prop) : Post (outV x) = aresults Tryz.prog (s6 root f k s) (H1 es root f' x ++ tE x) Tryz.f27.results.toList (fun vs => Post (tupled vs)) := by kernel_rfl
end
theorem tryF_two {rec : List Pk → Int → Out} {name : Nm} {l : List Pk} : ∀ (w : List Int) (f : Int), (∀ l f, (rec l f).1.2.1 = 2 → (rec l f).1 = ([], 2, [])) → (tryF rec name l w f).1.2.1 = 2 → (tryF rec name l w f).1 = ([], 2, [])
 | [], f, _, _ => rfl
 | v :: r, f, h, hk => by
  simp only [tryF] at hk ⊢
  split at hk
  ·rename_i h1; rw [if_pos h1]; cases hk
  ·rename_i h1
   rw [if_neg h1]
   split at hk
   ·rename_i h2; rw [if_pos h2]; exact tryF_two r _ h hk
   ·rename_i h2; exact (h2 hk).elim
theorem stepF_two {es : Kn} {root : List Need} {rec : List Pk → Int → Out} (h : ∀ l f, (rec l f).1.2.1 = 2 → (rec l f).1 = ([], 2, [])) (l : List Pk) (f : Int) (hk : (stepF es root rec l f).1.2.1 = 2) : (stepF es root rec l f).1 = ([], 2, []) := by
 unfold stepF at hk ⊢
 split at hk
 ·rename_i h1; rw [if_pos h1]
 ·rename_i h1
  rw [if_neg h1]
  split at hk
  ·rename_i h2; rw [if_pos h2]; cases hk
  ·rename_i h2
   rw [if_neg h2]
   split at hk
   ·rename_i h3; rw [if_pos h3]; cases hk
   ·rename_i h3; rw [if_neg h3]; exact tryF_two _ _ h hk
theorem onF_two (es : Kn) (root : List Need) : ∀ (d : Nat) (l : List Pk) (f : Int), (onF es root d l f).1.2.1 = 2 → (onF es root d l f).1 = ([], 2, [])
 | 0, l, f, hk => stepF_two (fun _ _ _ => rfl) l f hk
 | d + 1, l, f, hk => stepF_two (onF_two es root d) l f hk
theorem gr (es : Kn) (root : List Need) (f f' : Int) : graftH (callR [0, 1, 5] (H1z es root f).length) [0, 1, 5] (H1z es root f) (HS es root f') = H1z es root f' := by
 have h : graftH (callR [0, 1, 5] (H1z es root f).length) [0, 1, 5] (H1z es root f) (HS es root f') = (((H1z es root f).set 0 (AObj.ren (callR [0, 1, 5] (H1z es root f).length) (.mp (.typed EK es)))).set 1 (AObj.ren (callR [0, 1, 5] (H1z es root f).length) (.cells [.map 0]))).set 5 (AObj.ren (callR [0, 1, 5] (H1z es root f).length) (.cells [.ptr 1 0, slN root, .int .i64 f'])) := by
  simp [graftH, grafted, HX, HS, H1z]
 rw [h, mp_ren]; rfl
theorem objs5 (es : Kn) (root : List Need) (f : Int) : ∀ i (h : i < (HS es root f).length), (H1z es root f)[[0, 1, 5].getD i 0]? = some (AObj.ren (callR [0, 1, 5] (H1z es root f).length) (HS es root f)[i]) := fun i hi => by
 match i, hi with
 | 0, _ => show _ = some (AObj.ren _ (.mp (.typed EK es))); rw [mp_ren]; rfl
 | 1, _ => rfl
 | 2, _ => rfl
section
variable {es : Kn} (hx : OkX es) (hg : OkG es) {root : List Need} (hr : okN root) (hns : NsOk root) (hrl : root.length ≤ 400000)
include hx hrl in
theorem first5 (f : Int) : ASpec Tryz.prog 70 [.ptr 5 0] (H1z es root f) (fun r H' => r = .tup [.int .i64 (firstM es root).1, .str (B (firstM es root).2)] ∧ H' = H1z es root f) :=
 ASpec.subH [0, 1, 5] _ _ (first0 hx hrl f) [.ptr 5 0] (.tup [.int .i64 (firstM es root).1, .str (B (firstM es root).2)]) (by decide) rfl rfl rfl (objs5 es root f) (gr es root f f)
include hx hg hr hns in
theorem on5 (f : Int) (hf : f.toNat ≤ 80000) : ASpecX Tryz.prog 72 [.ptr 5 0, .sl 0 (.raw []) .nil] (H1z es root f) (fun r H' => r = .tup [] ∧ (onF es root f.toNat [] f).1.2.1 = 2 ∧ H' = H1z es root (onF es root f.toNat [] f).2)
  (fun r H' => r = endV (onF es root f.toNat [] f).1 ∧ (onF es root f.toNat [] f).1.2.1 ≠ 2 ∧ H' = H1z es root (onF es root f.toNat [] f).2) := by
 have k := on_spec hx hg hr hns f.toNat [] f (by simp; omega) (Nat.le_refl _)
 unfold OnS at k
 generalize onF es root f.toNat [] f = y at k ⊢
 have k1 := (ASpecX.graft (H := H1z es root f) (args := [.ptr 5 0, slK []]) [0, 1, 5] k (by decide) rfl rfl (objs5 es root f)).mono (Post' := fun r H' => r = .tup [] ∧ y.1.2.1 = 2 ∧ H' = H1z es root y.2)
  (PX' := fun r H' => r = endV y.1 ∧ y.1.2.1 ≠ 2 ∧ H' = H1z es root y.2) (fun r H' ⟨rl, Hl', ⟨e1, e2, e3⟩, _, e4, e5⟩ => by subst e1 e3 e4 e5; exact ⟨rfl, e2, gr es root f y.2⟩) (fun r H' ⟨rl, Hl', ⟨e1, e2, e3⟩, _, e4, e5⟩ => by subst e1 e3 e4 e5; exact ⟨rfl, e2, gr es root f y.2⟩)
 intro M loc w vs ht hr hv
 obtain ⟨h1, h2⟩ := hv
 have hle : Les [.ptr 5 0, .sl 0 (.raw []) .nil] [.ptr 5 0, slK []] := ⟨Le.refl _, slK_nil.2.1, trivial⟩
 have hl := hle.len
 exact k1 M loc w vs ht hr ⟨by omega, fun i hi => hle.get i (by omega) hi M w loc _ (h2 i (by omega))⟩
end
theorem callsDIn_mono {f : FuncId} {args : Array Value} {u : FrameMode} {w : World} {R R2 : Ending → FrameMode → World → Prop} (h : CallsDIn (FW none) 0 Tryz.prog f args u w R) (hi : ∀ e u w, R e u w → R2 e u w) : CallsDIn (FW none) 0 Tryz.prog f args u w R2 :=
 ⟨h.1, fun c cs hu hroom => let ⟨e, u2, w2, fr, hR, rest⟩ := h.2 c cs hu hroom; ⟨e, u2, w2, fr, hi _ _ _ hR, rest⟩⟩
theorem inv71 (vs : Array Value) (w : World) : (invoke (.fn (.func 71) vs) (#[] ++ #[])).run Tryz.prog w = .ok (.enter 71 vs) w := by
 have hname : (Tryz.f71.name == "runtime.NumGoroutine") = false := by kernel_rfl
 have hbody : Tryz.f71.body.isNone = false := by kernel_rfl
 simp only [invoke, callFunc, Sem.run_bind, run_program, Result.andThen_ok, f71_has, hname, hbody, Bool.false_eq_true, if_false, Sem.run_pure, Array.empty_append, Array.append_empty]
section
variable {es : Kn} (hx : OkX es) (hg : OkG es) {root : List Need} (hrt : okN root) (hns : NsOk root) (hrl : root.length ≤ 400000)
include hx hg hrt hns hrl
theorem solve0 (f : Int) (hf : f.toNat ≤ 80000) : ASpec Tryz.prog 27 [.ptr 1 0, slN root, .int .i64 f] (HX es) (fun r H' => r = outV (solveM es root f) ∧ H' = HX es) := by
 refine ASpec.sel ?_
 show ASpec _ _ _ _ (X.PX es (outV (solveM es root f)))
 intro M loc w vs ht hr hv
 have hN : Tryz.f27.ntmps = 29 := by kernel_rfl
 have hs0 := srel_args (Tryz.f27.ntmps - vs.size) hv
 have hv3 : vs.size = 3 := hv.1
 refine callsOfW (ro := none) (k := 0) (callsIn_of_wp_marks (F := FW none) (n := 0) f27_has b27 trivial ?_)
 generalize hT : vs ++ Array.replicate (Tryz.f27.ntmps - vs.size) undef = T at hs0 ⊢
 have hTs : T.size = 29 := by rw [← hT]; simp [hN, hv3]
 rw [e27]
 refine wpIn_seq (areg_sound (cfg := g27) (kc (g0 es root f fun s H => s = s0 root f ∧ H = H0z es) ⟨rfl, rfl⟩) ht hr hs0 hTs fun a1 w1 t1 K1 M1 loc1 ⟨e1, e2⟩ k1 => ?_)
 subst e1 e2
 show Code.wpIn _ _ _ _ _ _ _
 refine wpIn_seq (areg_sound (cfg := g27) (kc (g1 es root f fun s H => s = s1 root f ∧ H = H1z es root f) ⟨rfl, rfl⟩) (ht.step hr k1.step) k1.rel k1.srel k1.size fun a2 w2 t2 K2 M2 loc2 ⟨e1, e2⟩ k2 => ?_)
 subst e1 e2
 have st2 := k1.step.trans k2.step
 have ht2 := ht.step hr st2
 show Code.wpIn _ _ _ _ _ _ _
 refine wpIn_seq (wpIn_seq (areg_sound (cfg := g27) (kc (g2 es root f fun s H => s = s2 root f (firstM es root).1 (B (firstM es root).2) ∧ H = H1z es root f) (ASpec.call (first5 hx hrl f) (Les.refl _) ⟨((firstM es root).1, B (firstM es root).2), rfl, rfl, rfl, rfl⟩)) ht2 k2.rel k2.srel k2.size fun a3 w3 t3 K3 M3 loc3 ⟨e1, e2⟩ k3 => ?_))
 subst e1 e2
 show Code.wpIn _ _ _ _ _ _ _
 have st3 := st2.trans k3.step
 have ht3 := ht.step hr st3
 generalize hk : (firstM es root).1 = k at k3
 generalize hs : B (firstM es root).2 = s at k3
 refine wpIn_seq (areg_sound (cfg := g27) (kc (g3 es root f k s fun s' H => s' = s3 root f k s ∧ H = H1z es root f) ⟨rfl, rfl⟩) ht3 k3.rel k3.srel k3.size fun a4 w4 t4 K4 M4 loc4 ⟨e1, e2⟩ k4 => ?_)
 subst e1 e2
 show Code.wpIn _ _ _ _ _ _ _
 have st4 := st3.trans k4.step
 have ht4 := ht.step hr st4
 have d4 : a4.defers = [] := by rw [k4.defers, k3.defers, k2.defers, k1.defers]
 have h23 : a4.eval (.tmp 23) = .bool (k != 0) := by
  have := vrel_ev k4.srel (.tmp 23)
  generalize a4.eval (.tmp 23) = q at this
  cases this; rfl
 refine wpIn_cond_split h23 (fun hk0 => ?_) fun hk0 => ?_
 ·-- a name is lacked, or broken
  refine wpIn_seq (areg_sound (cfg := g27) (kc (g4 es root f k s fun s' H => s' = s4 root f k s ∧ H = H2z es root f k s) ⟨rfl, rfl⟩) ht4 k4.rel k4.srel k4.size fun a5 w5 t5 K5 M5 loc5 ⟨e1, e2⟩ k5 => ?_)
  subst e1 e2
  show Code.wpIn _ _ _ _ _ _ _
  refine wpIn_ret ?_
  show LeavesInM _ _ _ _ _ _ a5.defers .returning w5
  rw [k5.defers, d4]
  have hP : X.PX es (outV (solveM es root f)) (.tup [.sl 0 (.raw []) .nil, .int .i64 k, .str s]) (H2z es root f k s) := by
   have e : solveM es root f = ([], k, (firstM es root).2) := by
    unfold solveM
    rw [if_pos (by rw [hk]; simpa using hk0), hk]
   rw [e, ← hs]
   exact X.px (es := es) [_, _, _, _] (nilO _)
  obtain ⟨v, av, h1, h2, h3⟩ := results_run (P := Tryz.prog) (fn := Tryz.f27) (Post := fun r => X.PX es (outV (solveM es root f)) r (H2z es root f k s)) k5.srel k5.rel (kc (z4 es root f k s fun r => X.PX es (outV (solveM es root f)) r (H2z es root f k s)) hP)
  exact ⟨v, h1, v, av, _, M5, loc5, rfl, h3, k5.rel, h2, st4.trans k5.step⟩
 ·have hk0 : k = 0 := by simpa using hk0
  refine wpIn_skip ?_
  show Code.wpIn _ _ _ _ _ _ _
  have e : solveM es root f = (onF es root f.toNat [] f).1 := by
   unfold solveM
   rw [if_neg (by rw [hk, hk0]; simp)]
  rw [e]
  refine wpIn_seq (wpIn_region ?_)
  rw [r27_0]
  refine aops_app (cfg := g27) [0] _ _ (fun s' H => s' = s5 root f k s ∧ H = H1z es root f) (kc (g5 es root f k s _) ⟨rfl, rfl⟩) ht4 k4.rel k4.srel k4.size fun a5 t5 K5 M5 loc5 w5 ⟨e1, e2⟩ r5 sr5 n5 d5 p5 => ?_
  subst e1 e2
  have st5 := st4.trans p5
  have ht5 := ht.step hr st5
  rw [d4] at d5
  have hf26 := vrel_ev sr5 (.tmp 26)
  generalize hq : a5.eval (.tmp 26) = q at hf26
  have hf26 : VRel M5 w5 loc5 (.fn 71 [.ptr 2 0, .ptr 3 0, .ptr 4 0]) q := hf26
  cases hf26 with
  | fn _ _ cvs hcs hcr =>
  refine wpOpsIn_defer (d := { target := .fn (.func 71) cvs, args := #[] ++ #[] }) op27_0 rfl ?_ ?_
  ·simp only [execOp, resolve, hq, Deferred.ofValue, Sem.run_bind, Sem.run_pure, Result.andThen_ok]
   first | rfl | simp
  show Code.wpIn _ _ _ _ _ _ _
  refine wpIn_seq (wpIn_region ?_)
  rw [r27_1]
  refine aops_app (cfg := g27) [0] _ _ (fun s' H => s' = s6 root f k s ∧ H = H1z es root f) (kc (g6 es root f k s _) ⟨rfl, rfl⟩) ht5 r5 sr5 n5 fun a6 t6 K6 M6 loc6 w6 ⟨e1, e2⟩ r6 sr6 n6 d6 p6 => ?_
  subst e1 e2
  have st6 := st5.trans p6
  have ht6 := ht.step hr st6
  have d6 : a6.defers = [{ target := .fn (.func 71) cvs, args := #[] ++ #[] }] := by rw [d6]; show _ :: a5.defers = _; rw [d5]
  have hcr6 : VRels M6 w6 loc6 [.ptr 2 0, .ptr 3 0, .ptr 4 0] cvs := ⟨hcs, fun i hi => (hcr i hi).keeps (p6.keeps r5)⟩
  refine wpOpsIn_callX (s := s6 root f k s) (cap := []) (H := H1z es root f) op27_1 rfl (by kernel_rfl) (on5 hx hg hrt hns f hf) ht6 r6 sr6 (fun v r H' M7 loc7 w7 hP r7 v7 p7 => ?_) fun v r H' M7 loc7 w7 hP r7 v7 p7 => ?_
  ·obtain ⟨e1, e2, e3⟩ := hP
   subst e1 e3
   have e := onF_two es root _ _ _ e2
   rw [e]
   generalize (onF es root f.toNat [] f).2 = f' at r7 v7 p7
   have st7 := st6.trans p7
   have ht7 := ht.step hr st7
   have sr7 : SRel M7 w7 loc7 ((28, .tup []) :: s6 root f k s) (a6.put (some 28) v).tmps := SRel.act (sr6.keeps (p7.keeps r6)) (by rw [n6]; decide) v7
   show Code.wpIn _ _ _ _ _ _ _
   refine wpIn_seq (areg_sound (cfg := g27) (kc (g7 es root f k s (fun s' H => s' = (28, .tup []) :: s6 root f k s ∧ H = H2z es root f' 2 ⟨#[]⟩) f') ⟨rfl, rfl⟩) ht7 r7 sr7 (by rw [put_size]; exact n6) fun a8 w8 t8 K8 M8 loc8 ⟨e1, e2⟩ k8 => ?_)
   subst e1 e2
   show Code.wpIn _ _ _ _ _ _ _
   refine wpIn_ret ?_
   show LeavesInM _ _ _ _ _ _ a8.defers .returning w8
   rw [k8.defers, put_defers, d6]
   refine ⟨by simp, .inr ⟨fun h => by simp [FW] at h, _, cvs, 71, cvs, rfl, inv71 cvs w8, fun _ _ => trivial, ?_⟩⟩
   refine callsDIn_mono (d71n cvs hcs) fun e u' w' hh => ?_
   obtain ⟨⟨v, rfl⟩, rfl, rfl⟩ := hh
   show LeavesInM _ _ _ _ _ _ [] .returning _
   have hP : X.PX es (outV ([], 2, [])) (.tup [.sl 0 (.raw []) .nil, .int .i64 2, .str ⟨#[]⟩]) (H2z es root f' 2 ⟨#[]⟩) := X.px (es := es) [_, _, _, _] (nilO _)
   obtain ⟨v, av, h1, h2, h3⟩ := results_run (P := Tryz.prog) (fn := Tryz.f27) (Post := fun r => X.PX es (outV ([], 2, [])) r (H2z es root f' 2 ⟨#[]⟩)) k8.srel k8.rel (kc (z7 es root f k s f' fun r => X.PX es (outV ([], 2, [])) r (H2z es root f' 2 ⟨#[]⟩)) hP)
   exact ⟨v, h1, v, av, _, M8, loc8, rfl, h3, k8.rel, h2, st7.trans k8.step⟩
  ·obtain ⟨e1, e2, e3⟩ := hP
   subst e1 e3
   generalize onF es root f.toNat [] f = y at r7 v7 p7 e2
   have st7 := st6.trans p7
   have ht7 := ht.step hr st7
   show LeavesInM _ _ _ _ _ _ a6.defers (.panicking _) w7
   rw [d6]
   refine ⟨by simp, .inr ⟨fun h => by simp [FW] at h, _, cvs, 71, cvs, rfl, inv71 cvs w7, fun _ _ => trivial, ?_⟩⟩
   have hcr7 : VRels M7 w7 loc7 [.ptr 2 0, .ptr 3 0, .ptr 4 0] cvs := ⟨hcs, fun i hi => (hcr6.2 i hi).keeps (p7.keeps r6)⟩
   refine callsDIn_mono (d71p (x := y.1) ht7 r7 hcr7 v7) fun e u' w' hh => ?_
   obtain ⟨⟨v, rfl⟩, hset, M8, loc8, r8, p8⟩ := hh
   show LeavesInM _ _ _ _ _ _ [] (settle u') w'
   rw [hset]
   have hP : X.PX es (outV y.1) (outV y.1) (H1 es root y.2 y.1 ++ tE y.1) := X.px (es := es) [_, _, _, _, _] (Le.refl _)
   obtain ⟨v, av, h1, h2, h3⟩ := results_run (P := Tryz.prog) (fn := Tryz.f27) (Post := fun r => X.PX es (outV y.1) r (H1 es root y.2 y.1 ++ tE y.1)) ((sr6.keeps (p7.keeps r6)).keeps (p8.keeps r7)) r8 (kc (zp es root f k s y.2 y.1 fun r => X.PX es (outV y.1) r (H1 es root y.2 y.1 ++ tE y.1)) hP)
   exact ⟨v, h1, v, av, _, M8, loc8, rfl, h3, r8, h2, st7.trans p8⟩
theorem solve_at (f : Int) (hf : f.toNat ≤ 80000) (H : List AObj) (q p : Nat) (hqp : q ≠ p) (hq : H[q]? = some (.mp (.typed EK es))) (hp2 : H[p]? = some (.cells [.map q])) :
  ASpec Tryz.prog 27 [.ptr p 0, slN root, .int .i64 f] H (fun r H' => r = outV (solveM es root f) ∧ H' = H) := by
 have := X.liftX H q p hqp hq hp2 (solve0 hx hg hrt hns hrl f hf) (args' := [.ptr p 0, slN root, .int .i64 f]) (r' := outV (solveM es root f)) rfl rfl
 rwa [set_same hq] at this
end
end Pn
end

noncomputable section
open Go Go.Ab Go.Proofs V S T C
namespace Pn
open X (hasI getM OkX)
open Pc (UpK putM)
open Rc (Nm More more_get)
open Ft (relOf)
theorem more_has {es es2 : Kn} (h : More es es2) {x : Nm} (hx : hasI es x = true) : hasI es2 x = true := by
 unfold hasI at hx ⊢
 cases hf : findM es (B x) with
 | none => rw [hf] at hx; cases hx
 | some v => rw [h _ _ hf]; rfl
theorem more_rel {es es2 : Kn} (h : More es es2) {p : Pk} (hp : hasI es p.1 = true) : relOf es2 p = relOf es p := by
 unfold relOf
 rw [more_get h hp]
theorem more_needs {es es2 : Kn} (h : More es es2) {l : List Pk} (hl : ∀ p ∈ l, hasI es p.1 = true) : needsK es2 l = needsK es l := by
 unfold needsK
 exact List.map_congr_left fun p hp => by rw [more_rel h (hl p hp)]
theorem more_asked {es es2 : Kn} (h : More es es2) (root : List Need) {l : List Pk} (hl : ∀ p ∈ l, hasI es p.1 = true) (s : Nm) : askedM es2 root l s = askedM es root l s := by
 unfold askedM
 rw [more_needs h hl]
theorem more_dead {es es2 : Kn} (h : More es es2) (root : List Need) {l : List Pk} (hl : ∀ p ∈ l, hasI es p.1 = true) : deadM es2 root l = deadM es root l := by
 unfold deadM
 congr 1
 funext p
 unfold badP
 rw [more_asked h root hl]
theorem more_next {es es2 : Kn} (h : More es es2) (root : List Need) {l : List Pk} (hl : ∀ p ∈ l, hasI es p.1 = true) : nextM es2 root l = nextM es root l := by
 unfold nextM nextA
 rw [more_needs h hl]
theorem tryF_more {rec rec2 : List Pk → Int → Out} {name : Nm} {l : List Pk} (h : ∀ v f, (rec (putM l (name, v)) f).1.2.1 ≠ 3 → rec2 (putM l (name, v)) f = rec (putM l (name, v)) f) :
  ∀ (w : List Int) (f : Int), (tryF rec name l w f).1.2.1 ≠ 3 → tryF rec2 name l w f = tryF rec name l w f
 | [], f, _ => rfl
 | v :: r, f, hk => by
  simp only [tryF] at hk ⊢
  by_cases h0 : f ≤ 0
  ·rw [if_pos h0, if_pos h0]
  ·rw [if_neg h0] at hk
   rw [if_neg h0, if_neg h0]
   by_cases h2 : (rec (putM l (name, v)) (f - 1)).1.2.1 = 2
   ·rw [if_pos h2] at hk
    have e := h v (f - 1) (by rw [h2]; decide)
    rw [e, if_pos h2, if_pos h2]
    exact tryF_more h r _ hk
   ·rw [if_neg h2] at hk
    have e := h v (f - 1) hk
    rw [e, if_neg h2, if_neg h2]
theorem putM_mem : ∀ {l : List Pk} {q p : Pk}, p ∈ putM l q → p ∈ l ∨ p = q := by
 intro l q p hp
 unfold Pc.putM at hp
 split at hp
 ·exact List.mem_or_eq_of_mem_set hp
 ·unfold Pc.insM at hp
  rcases List.mem_append.1 hp with hp | hp
  ·exact .inl (List.mem_of_mem_take hp)
  ·rcases List.mem_cons.1 hp with hp | hp
   ·exact .inr hp
   ·exact .inl (List.mem_of_mem_drop hp)
theorem stepF_more {es es2 : Kn} (h : More es es2) {root : List Need} {rec rec2 : List Pk → Int → Out} {l : List Pk} (hl : ∀ p ∈ l, hasI es p.1 = true)
  (hr : ∀ l2 f, (∀ p ∈ l2, hasI es p.1 = true) → (rec l2 f).1.2.1 ≠ 3 → rec2 l2 f = rec l2 f) (f : Int) (hk : (stepF es root rec l f).1.2.1 ≠ 3) : stepF es2 root rec2 l f = stepF es root rec l f := by
 unfold stepF at hk ⊢
 rw [more_dead h root hl, more_next h root hl]
 by_cases h1 : deadM es root l = true
 ·rw [if_pos h1, if_pos h1]
 rw [if_neg h1] at hk
 rw [if_neg h1, if_neg h1]
 by_cases h2 : (nextM es root l).2 = false
 ·rw [if_pos h2, if_pos h2]
 rw [if_neg h2] at hk
 rw [if_neg h2, if_neg h2]
 by_cases h3 : hasI es (nextM es root l).1 = false
 ·rw [if_pos h3] at hk; exact (hk rfl).elim
 rw [if_neg h3] at hk
 have h3' : hasI es (nextM es root l).1 = true := by simpa using h3
 rw [if_neg (by rw [more_has h h3']; simp), if_neg h3, more_get h h3', more_asked h root hl]
 refine tryF_more (fun v f hv => hr _ f (fun p hp => ?_) hv) _ f hk
 rcases putM_mem hp with hp | rfl
 ·exact hl p hp
 ·exact h3'
theorem onF_more {es es2 : Kn} (h : More es es2) (root : List Need) : ∀ (d : Nat) (l : List Pk) (f : Int), (∀ p ∈ l, hasI es p.1 = true) → (onF es root d l f).1.2.1 ≠ 3 → onF es2 root d l f = onF es root d l f
 | 0, l, f, hl, hk => stepF_more h hl (fun _ _ _ _ => rfl) f hk
 | d + 1, l, f, hl, hk => stepF_more h hl (fun l2 f2 hl2 hk2 => onF_more h root d l2 f2 hl2 hk2) f hk
theorem lck_more {es es2 : Kn} (h : More es es2) {root : List Need} (hb : brkF es2 root = brkF es root) : ∀ (l : List Need), (lckF es root l).1 ≠ 3 → lckF es2 root l = lckF es root l
 | [], _ => hb
 | n :: l, hk => by
  rw [lck_cons] at hk
  rw [lck_cons, lck_cons]
  by_cases h1 : hasI es n.1 = true
  ·rw [if_pos h1] at hk
   rw [if_pos h1, if_pos (more_has h h1)]
   exact lck_more h hb l hk
  ·rw [if_neg h1] at hk; exact (hk rfl).elim
theorem lck_all {es : Kn} {root : List Need} : ∀ (l : List Need), (lckF es root l).1 ≠ 3 → ∀ n ∈ l, hasI es n.1 = true
 | [], _ => fun n hn => by cases hn
 | n :: l, hk => by
  rw [lck_cons] at hk
  by_cases h1 : hasI es n.1 = true
  ·rw [if_pos h1] at hk
   intro x hx
   rcases List.mem_cons.1 hx with rfl | hx
   ·exact h1
   ·exact lck_all l hk x hx
  ·rw [if_neg h1] at hk; exact (hk rfl).elim
theorem brk_more {es es2 : Kn} (h : More es es2) : ∀ (l : List Need), (∀ n ∈ l, hasI es n.1 = true) → brkF es2 l = brkF es l
 | [], _ => rfl
 | n :: l, hl => by
  rw [brk_cons, brk_cons, more_get h (hl n (by simp)), brk_more h l fun x hx => hl x (by simp [hx])]
theorem first_more {es es2 : Kn} (h : More es es2) {root : List Need} (hk : (firstM es root).1 ≠ 3) : firstM es2 root = firstM es root :=
 lck_more h (brk_more h root (lck_all root hk)) root hk
theorem solve_more {es es2 : Kn} (h : More es es2) {root : List Need} {f : Int} (hk : (solveM es root f).2.1 ≠ 3) : solveM es2 root f = solveM es root f := by
 have h1 : (firstM es root).1 ≠ 3 := by
  intro e
  apply hk
  unfold solveM
  rw [if_pos (by rw [e]; decide), e]
 unfold solveM at hk ⊢
 rw [first_more h h1]
 split
 ·rfl
 ·rename_i h2
  rw [if_neg h2] at hk
  rw [onF_more h root _ [] f (fun p hp => by cases hp) hk]
end Pn
end

noncomputable section
open Go Go.Ab Go.Proofs V S T C
namespace Pn
open X (hasI getM OkX)
open Pc (UpK)
open Rc (Nm)
open Ft (relM relOf NsOk OkG rel_needs Sol metB getP_in met_in lack_met)
open Dk (chkF fitP getP chk_up)
open Sp (hasS)
open Sg (ok meetS meet_kept meet_ok)
open Pl (addAll addAll_mem)
theorem chk_fit : ∀ {s : List Pk} {o : Option Nm}, chkF o s = true → ∀ p ∈ s, fitP p = true
 | [], _, _ => fun p hp => by cases hp
 | q :: r, o, h => by
  have hf : fitP q = true := by
   cases hq : fitP q with
   | true => rfl
   | false => simp only [chkF, hq, if_true] at h; cases h
  have hr : chkF (some q.1) r = true := by
   simp only [chkF, hf, Bool.true_eq_false, if_false] at h
   cases o with
   | none => exact h
   | some x =>
    simp only at h
    split at h
    ·cases h
    ·exact h
  intro p hp
  rcases List.mem_cons.1 hp with rfl | hp
  ·exact hf
  ·exact chk_fit hr p hp
theorem fit_rng {p : Pk} (h : fitP p = true) : 0 ≤ p.2 ∧ p.2 < 1000000000 := by
 unfold fitP at h
 rw [Bool.and_eq_true] at h
 simpa using h.2
theorem find_in {s : Nm} : ∀ {ns : List Need}, (findN s ns).2 = true → (s, (findN s ns).1) ∈ ns
 | [], h => by cases h
 | n :: r, h => by
  simp only [findN] at h ⊢
  by_cases e : n.1 = s
  ·rw [if_pos e]; subst e; simp
  ·rw [if_neg e] at h
   rw [if_neg e]
   exact List.mem_cons_of_mem _ (find_in h)
theorem askF_has {s : Nm} {v : Int} (hv : 0 ≤ v ∧ v < 1000000000) : ∀ {L : List (List Need)} {u : List Span}, ok u → hasS u v = true → (∀ ns ∈ L, NsOk ns ∧ ((findN s ns).2 = true → hasS (findN s ns).1 v = true)) → hasS (askF s L u) v = true
 | [], _, _, hu, _ => hu
 | ns :: r, u, ho, hu, h => by
  obtain ⟨h1, h2⟩ := h ns (by simp)
  refine askF_has (L := r) hv (askN_ok h1 ho) ?_ fun x hx => h x (by simp [hx])
  unfold askN
  split
  ·rename_i e
   rw [(meet_kept ho (find_ok h1 s)).2.2 v, decide_eq_true hv, Bool.true_and]
   show (hasS u v && hasS _ v) = true
   rw [hu, h2 e]; rfl
  ·exact hu
theorem downF_in {q : List Span} {v : Int} (hq : hasS q v = true) : ∀ {rs : List Rel} {w : List Int}, (v ∈ w ∨ ∃ x ∈ rs, x.1 = v) → v ∈ downF q rs w
 | [], w, h => by
  rcases h with h | ⟨x, hx, _⟩
  ·exact h
  ·cases hx
 | y :: r, w, h => by
  simp only [downF]
  refine downF_in hq ?_
  rcases h with h | ⟨x, hx, e⟩
  ·left; split
   ·exact List.mem_append_left _ h
   ·exact h
  ·rcases List.mem_cons.1 hx with rfl | hx
   ·left; rw [e, if_pos hq]; simp
   ·exact .inr ⟨x, hx, e⟩
theorem rel_in {es : Kn} {p : Pk} (h : (relOf es p).2 = true) : ∃ x ∈ (getM es p.1).1.2, x.1 = p.2 ∧ (relOf es p).1 = x := by
 unfold relOf relM at h ⊢
 split at h
 ·cases h
 ·split at h
  ·rename_i h1 h2
   rw [if_neg h1, if_pos h2]
   exact ⟨_, memD _ _ _ h2.1, h2.2, rfl⟩
  ·cases h
theorem tryF_nil {rec : List Pk → Int → Out} {name : Nm} {l : List Pk} (hle : ∀ l f, (rec l f).2 ≤ f) : ∀ (w : List Int) (f : Int), (tryF rec name l w f).1.2.1 = 2 → ∀ v ∈ w, ∃ f', 0 < f' ∧ f' ≤ f ∧ (rec (Pc.putM l (name, v)) (f' - 1)).1.2.1 = 2
 | [], _, _ => fun v hv => by cases hv
 | u :: r, f, hk => by
  simp only [tryF] at hk
  split at hk
  ·cases hk
  ·rename_i h0
   split at hk
   ·rename_i h2
    intro v hv
    rcases List.mem_cons.1 hv with rfl | hv
    ·exact ⟨f, by omega, Int.le_refl _, h2⟩
    ·obtain ⟨f', a, b, c⟩ := tryF_nil hle r _ hk v hv
     have := hle (Pc.putM l (name, u)) (f - 1)
     exact ⟨f', a, by omega, c⟩
   ·rename_i h2; exact (h2 hk).elim
theorem next_in {es : Kn} {root : List Need} {l : List Pk} (h : (nextM es root l).2 = true) : (∃ ns ∈ root :: needsK es l, ∃ n ∈ ns, n.1 = (nextM es root l).1) ∧ (getP l (nextM es root l).1).2 = false := by
 unfold nextM at h ⊢
 split at h
 ·rename_i x hx
  have h1 := List.find?_some hx
  have h2 := List.mem_of_find?_eq_some hx
  unfold nextA at h2
  rcases (addAll_mem _).1 h2 with h2 | h2
  ·obtain ⟨ns, hns, h3⟩ := List.mem_flatMap.1 h2
   obtain ⟨n, hn, e⟩ := List.mem_map.1 h3
   exact ⟨⟨ns, hns, n, hn, e⟩, by simpa using h1⟩
  ·cases h2
 ·cases h
section
variable {es : Kn} (hg : OkG es) {root : List Need} (hns : NsOk root) {S : List Pk} (hS : Sol es root S) {l : List Pk} (hl : ∀ p ∈ l, p ∈ S)
include hS hl in
theorem sol_meets : ∀ ns ∈ root :: needsK es l, ∀ n ∈ ns, metB S n = true := by
 intro ns h n hn
 rcases List.mem_cons.1 h with rfl | h
 ·exact hS.met n hn
 ·obtain ⟨p, hp, rfl⟩ := List.mem_map.1 h
  exact lack_met (hS.lack p (hl p hp)) n hn
include hg hns hS hl
theorem asked_sol {p : Pk} (hp : p ∈ S) : hasS (askedM es root l p.1) p.2 = true := by
 have hr := fit_rng (chk_fit hS.ck p hp)
 refine askF_has hr all_ok (by simp [hasS, Sp.inS_iff]; omega) fun ns h => ⟨?_, fun e => ?_⟩
 ·rcases List.mem_cons.1 h with rfl | h
  ·exact hns
  ·exact needsK_ok hg l ns h
 ·have hm := sol_meets hS hl ns h _ (find_in e)
  unfold metB at hm
  rw [getP_in hS.ck hp, Bool.and_eq_true] at hm
  exact hm.2
theorem stepF_none {rec : List Pk → Int → Out} (hle : ∀ l f, (rec l f).2 ≤ f) {f : Int} (hrec : ∀ l2 f', 0 < f' → f' ≤ f → (∀ p ∈ l2, p ∈ S) → (rec l2 (f' - 1)).1.2.1 ≠ 2) : (stepF es root rec l f).1.2.1 ≠ 2 := by
 intro hk
 unfold stepF at hk
 split at hk
 ·rename_i h1
  unfold deadM at h1
  obtain ⟨p, hp, h2⟩ := List.any_eq_true.1 h1
  unfold badP at h2
  rw [asked_sol hg hns hS hl (hl p hp)] at h2
  cases h2
 ·split at hk
  ·cases hk
  ·rename_i h2
   split at hk
   ·cases hk
   ·obtain ⟨⟨ns, hn1, n, hn2, e⟩, h3⟩ := next_in (by simpa using h2)
    obtain ⟨v, hv⟩ := met_in (sol_meets hS hl ns hn1 n hn2)
    rw [e] at hv
    obtain ⟨x, hx, ex, _⟩ := rel_in (hS.rel _ hv)
    have hd : v ∈ downM (getM es (nextM es root l).1).1 (askedM es root l (nextM es root l).1) :=
     downF_in (asked_sol hg hns hS hl hv) (.inr ⟨x, List.mem_reverse.2 hx, ex⟩)
    obtain ⟨f', a, b, c⟩ := tryF_nil hle _ _ hk v hd
    refine hrec _ f' a b (fun p hp => ?_) c
    rcases putM_mem hp with hp | rfl
    ·exact hl p hp
    ·exact hv
end
theorem onF_none {es : Kn} (hg : OkG es) {root : List Need} (hns : NsOk root) {S : List Pk} (hS : Sol es root S) : ∀ (d : Nat) (l : List Pk) (f : Int), f.toNat ≤ d → (∀ p ∈ l, p ∈ S) → (onF es root d l f).1.2.1 ≠ 2
 | 0, l, f, hf, hl => stepF_none hg hns hS hl (fun _ _ => Int.le_refl _) fun l2 f' a b => by omega
 | d + 1, l, f, hf, hl => stepF_none hg hns hS hl (onF_le es root d) fun l2 f' a b h2 => onF_none hg hns hS d l2 (f' - 1) (by omega) h2
theorem solve_none {es : Kn} (hg : OkG es) {root : List Need} (hns : NsOk root) {f : Int} (h : (solveM es root f).2.1 = 2) (S : List Pk) : ¬ Sol es root S := by
 intro hS
 unfold solveM at h
 split at h
 ·have h : (firstM es root).1 = 2 := h
  unfold firstM lckF brkF at h
  split at h
  ·cases h
  ·split at h <;> cases h
 ·exact onF_none hg hns hS _ [] f (Nat.le_refl _) (fun p hp => by cases hp) h
end Pn
end

noncomputable section
open Go Go.Ab Go.Proofs V S T C
namespace Pn
open X (hasI getM OkX)
open Pc (UpK insD dropM putM_putD put_up split3 ltn_ne insD_less insD_head dropM_ne putD)
open Rc (Nm RS gX getX mnM allN)
open Ft (relM relOf NsOk OkG rel_needs Sol metB getP_in met_in lack_met lackB neededM needed_iff gF get_rise get_cases Rise rel_low sol_iff solB)
open Dk (chkF fitP getP chk_up get_one)
open Sp (hasS)
open Sg (ok meetS meet_kept meet_ok)
open Pl (addAll addAll_mem Up)
theorem ins_keep {q p : Pk} : ∀ {m : List Pk}, p ∈ m → p ∈ insD q m
 | y :: r, h => by
  simp only [insD]
  split
  ·exact List.mem_cons_of_mem _ h
  ·rcases List.mem_cons.1 h with rfl | h
   ·simp
   ·exact List.mem_cons_of_mem _ (ins_keep h)
theorem put_keep {l : List Pk} (hu : UpK l) {q p : Pk} (hp : p ∈ l) (hne : p.1 ≠ q.1) : p ∈ Pc.putM l q := by
 rw [putM_putD hu]
 refine ins_keep ?_
 unfold dropM
 rw [List.mem_filter]
 exact ⟨hp, by simpa using hne⟩
theorem getP_up {l : List Pk} (hu : UpK l) {p : Pk} (hp : p ∈ l) : getP l p.1 = (p.2, true) := by
 rw [get_one hu, Ft.getM_mem hu hp]
theorem chk_of : ∀ {l : List Pk} {o : Option Nm}, UpK l → (∀ p ∈ l, fitP p = true) → (∀ x, o = some x → ∀ p ∈ l, Pc.lessN x p.1) → chkF o l = true
 | [], _, _, _, _ => rfl
 | p :: r, o, hu, hf, ho => by
  have hu' := List.pairwise_cons.1 hu
  have hr := chk_of (l := r) (o := some p.1) hu'.2 (fun q hq => hf q (by simp [hq])) fun x hx q hq => by cases hx; exact hu'.1 q hq
  simp only [chkF, hf p (by simp), Bool.true_eq_false, if_false]
  cases o with
  | none => exact hr
  | some x =>
   have h1 := ho x rfl p (by simp)
   simp only
   rw [if_neg, hr]
   intro h
   rw [Bool.or_eq_true] at h
   have h2 : x < p.1 := Dp.less_iff.1 h1
   rcases h with h | h
   ·exact absurd (Pl.ltT h2 (Dp.less_iff.1 h)) Pl.ltI
   ·rw [beq_iff_eq] at h; rw [h] at h2; exact absurd h2 Pl.ltI
theorem hasS_rng {l : List Span} {e : Int} (h : chkS e l = true) {p : Int} (hp : hasS l p = true) : e < p ∧ p < 1000000000 := by
 induction l generalizing e with
 | nil => cases hp
 | cons x r ih =>
  obtain ⟨a1, a2, a3, a4⟩ := Sp.chkS_cons h
  rw [Sp.hasS_cons, Bool.or_eq_true] at hp
  rcases hp with hp | hp
  ·rw [Sp.inS_iff] at hp; omega
  ·have := ih a4 hp; omega
theorem rel_of_mem {es : Kn} (hg : OkG es) {n : Nm} {x : T.Rel} (hx : x ∈ (getM es n).1.2) : (relOf es (n, x.1)).2 = true := by
 have hr := (get_rise hg n).1
 unfold relOf
 rw [← relL_eq hr]
 unfold relL
 cases h : (getM es n).1.2.find? (fun r => r.1 == x.1) with
 | some r => rfl
 | none =>
  rw [List.find?_eq_none] at h
  exact (h x hx (by simp)).elim
theorem need_ok {es : Kn} (hg : OkG es) (p : Pk) : needOk (relOf es p).1.2 = true := by
 rcases Ft.relM_mem (m := (getM es p.1).1) (v := p.2) with h | h
 ·rcases get_cases hg p.1 with e | e
  ·rw [e] at h; cases h
  ·unfold manOk at e
   rw [Bool.and_eq_true] at e
   exact ((rel_low e.1 (by omega)).1 _ h).2.2
 ·unfold relOf; rw [h]; rfl
theorem find_one {n : Need} : ∀ {ns : List Need}, Up (ns.map (·.1)) → n ∈ ns → findN n.1 ns = (n.2, true)
 | m :: r, hu, h => by
  have hu := List.pairwise_cons.1 hu
  simp only [findN]
  rcases List.mem_cons.1 h with rfl | h
  ·rw [if_pos rfl]
  ·have h1 := hu.1 n.1 (List.mem_map.2 ⟨n, h, rfl⟩)
   have hne : ¬ m.1 = n.1 := fun e => by
    have h2 : m.1 < n.1 := h1
    rw [e] at h2; exact absurd h2 Pl.ltI
   rw [if_neg hne]
   exact find_one hu.2 h
structure Inv (es : Kn) (root : List Need) (l : List Pk) : Prop where
 up : UpK l
 fit : ∀ p ∈ l, fitP p = true
 rel : ∀ p ∈ l, (relOf es p).2 = true
 rs : ∀ p ∈ l, RS (gF es l) (root.map (·.1)) p.1
 rx : ∀ p ∈ l, RS (gX true es) (root.map (·.1)) p.1
theorem inv_nil (es : Kn) (root : List Need) : Inv es root [] := ⟨List.Pairwise.nil, (fun p h => by cases h), (fun p h => by cases h), (fun p h => by cases h), (fun p h => by cases h)⟩
theorem next_name {es : Kn} {root : List Need} {l : List Pk} {ns : List Need} (hn : ns ∈ root :: needsK es l) {n : Need} (h : n ∈ ns) : n ∈ root ∨ ∃ p ∈ l, n ∈ (relOf es p).1.2 := by
 rcases List.mem_cons.1 hn with rfl | hn
 ·exact .inl h
 ·obtain ⟨p, hp, rfl⟩ := List.mem_map.1 hn
  exact .inr ⟨p, hp, h⟩
theorem next_rx {es : Kn} {root : List Need} {l : List Pk} (hi : Inv es root l) (h : (nextM es root l).2 = true) : RS (gX true es) (root.map (·.1)) (nextM es root l).1 := by
 obtain ⟨⟨ns, hn1, n, hn2, e⟩, _⟩ := next_in h
 rw [← e]
 rcases next_name hn1 hn2 with h1 | ⟨p, hp, h1⟩
 ·exact .base (List.mem_map.2 ⟨n, h1, rfl⟩)
 ·refine .step (hi.rx p hp) ?_
  obtain ⟨x, hx, _, ex⟩ := rel_in (hi.rel p hp)
  rw [ex] at h1
  unfold gX mnM
  rw [addAll_mem]
  refine .inl (List.mem_flatMap.2 ⟨x, ?_, List.mem_map.2 ⟨n, h1, rfl⟩⟩)
  simpa [getX] using hx
theorem inv_put {es : Kn} (hg : OkG es) {root : List Need} (hns : NsOk root) {l : List Pk} (hi : Inv es root l) (h : (nextM es root l).2 = true) {v : Int} (hv : v ∈ downM (getM es (nextM es root l).1).1 (askedM es root l (nextM es root l).1)) :
  Inv es root (Pc.putM l ((nextM es root l).1, v)) := by
 have hrx := next_rx hi h
 obtain ⟨⟨ns, hn1, n, hn2, e⟩, hno⟩ := next_in h
 generalize nextM es root l = q at *
 obtain ⟨nm, sm⟩ := q
 simp only at *
 have hne : ∀ p ∈ l, p.1 ≠ nm := fun p hp e => by
  have := getP_up hi.up hp
  rw [e] at this
  rw [this] at hno
  cases hno
 rcases downF_mem hv with hv | ⟨hq, x, hx, ex⟩
 ·cases hv
 have hrel : (relOf es (nm, v)).2 = true := by rw [← ex]; exact rel_of_mem hg (List.mem_reverse.1 hx)
 have hfit : fitP (nm, v) = true := by
  have h1 : fitM n.1 = true := by
   rcases next_name hn1 hn2 with h1 | ⟨p, hp, h1⟩
   ·exact (hns n h1).1
   ·exact ((rel_needs hg p).1 n h1).1
  have h2 := hasS_rng (asked_ok hg hns l nm) hq
  unfold fitP
  rw [← e, h1, Bool.true_and, decide_eq_true_eq]
  exact ⟨by omega, h2.2⟩
 have hup := put_up hi.up (nm, v)
 have hall : ∀ {A : Pk → Prop}, (∀ p ∈ l, A p) → A (nm, v) → ∀ p ∈ Pc.putM l (nm, v), A p := fun {A} h1 h2 p hp => by
  rcases putM_mem hp with hp | rfl
  ·exact h1 p hp
  ·exact h2
 have hgf : ∀ x, ∀ y ∈ gF es l x, y ∈ gF es (Pc.putM l (nm, v)) x := fun x y hy => by
  unfold gF at hy ⊢
  split at hy
  ·rename_i hp
   have hm := Ft.getP_mem hp
   have hk := put_keep hi.up (q := (nm, v)) hm (hne _ hm)
   have hg2 := getP_up hup hk
   simp only at hg2
   rw [hg2]
   simpa using hy
  ·cases hy
 have hnew : RS (gF es (Pc.putM l (nm, v))) (root.map (·.1)) n.1 := by
  rcases next_name hn1 hn2 with h1 | ⟨p, hp, h1⟩
  ·exact .base (List.mem_map.2 ⟨n, h1, rfl⟩)
  ·refine .step (Rc.rs_mono hgf (hi.rs p hp)) ?_
   unfold gF
   rw [getP_up hup (put_keep hi.up hp (hne p hp)), if_pos rfl]
   exact List.mem_map.2 ⟨n, h1, rfl⟩
 rw [e] at hnew
 exact ⟨hup, hall hi.fit hfit, hall hi.rel hrel, hall (fun p hp => Rc.rs_mono hgf (hi.rs p hp)) hnew, hall hi.rx hrx⟩
end Pn
end

noncomputable section
open Go Go.Ab Go.Proofs V S T C
namespace Pn
open X (hasI getM OkX)
open Pc (UpK)
open Rc (Nm RS gX need_up)
open Ft (relM relOf NsOk OkG rel_needs Sol metB lackB neededM needed_iff gF sol_iff solB ns_of)
open Dk (chkF fitP getP)
open Sp (hasS)
open Sg (ok meetS meet_kept meet_ok)
open Pl (addAll addAll_mem Up)
theorem tryF_end {rec : List Pk → Int → Out} {name : Nm} {l : List Pk} : ∀ (w : List Int) (f : Int), (tryF rec name l w f).1.2.1 ≠ 2 → (tryF rec name l w f).1.2.1 ≠ 5 → ∃ v ∈ w, ∃ f', tryF rec name l w f = rec (Pc.putM l (name, v)) f'
 | [], f, h, _ => (h rfl).elim
 | u :: r, f, h, h5 => by
  simp only [tryF] at h h5 ⊢
  by_cases h0 : f ≤ 0
  ·rw [if_pos h0] at h5; exact (h5 rfl).elim
  ·rw [if_neg h0] at h h5
   rw [if_neg h0]
   by_cases h2 : (rec (Pc.putM l (name, u)) (f - 1)).1.2.1 = 2
   ·rw [if_pos h2] at h h5
    rw [if_pos h2]
    obtain ⟨v, hv, f', e⟩ := tryF_end r _ h h5
    exact ⟨v, List.mem_cons_of_mem _ hv, f', e⟩
   ·rw [if_neg h2]
    exact ⟨u, by simp, _, rfl⟩
structure Ends (es : Kn) (root : List Need) (x : Out) : Prop where
 found : x.1.2.1 = 1 → ∃ l, Inv es root l ∧ deadM es root l = false ∧ (nextM es root l).2 = false ∧ x.1.1 = l
 lack : x.1.2.1 = 3 → ∃ l, Inv es root l ∧ (nextM es root l).2 = true ∧ hasI es (nextM es root l).1 = false ∧ x.1.2.2 = (nextM es root l).1
theorem ends_not {es : Kn} {root : List Need} {x : Out} (h1 : x.1.2.1 ≠ 1) (h3 : x.1.2.1 ≠ 3) : Ends es root x := ⟨fun h => (h1 h).elim, fun h => (h3 h).elim⟩
theorem stepF_end {es : Kn} (hg : OkG es) {root : List Need} (hns : NsOk root) {rec : List Pk → Int → Out} {l : List Pk} (hi : Inv es root l) (hrec : ∀ l2 f, Inv es root l2 → Ends es root (rec l2 f)) (f : Int) : Ends es root (stepF es root rec l f) := by
 unfold stepF
 split
 ·exact ends_not (by show (2 : Int) ≠ 1; decide) (by show (2 : Int) ≠ 3; decide)
 ·rename_i h1
  split
  ·rename_i h2
   exact ⟨fun _ => ⟨l, hi, by simpa using h1, h2, rfl⟩, (fun h => by cases h)⟩
  ·rename_i h2
   have h2 : (nextM es root l).2 = true := by simpa using h2
   split
   ·rename_i h3
    exact ⟨(fun h => by cases h), fun _ => ⟨l, hi, h2, h3, rfl⟩⟩
   ·generalize hx : tryF rec (nextM es root l).1 l _ f = x
    by_cases k2 : x.1.2.1 = 2
    ·exact ends_not (by rw [k2]; decide) (by rw [k2]; decide)
    by_cases k5 : x.1.2.1 = 5
    ·exact ends_not (by rw [k5]; decide) (by rw [k5]; decide)
    obtain ⟨v, hv, f', e⟩ := tryF_end _ f (by rw [hx]; exact k2) (by rw [hx]; exact k5)
    rw [← hx, e]
    exact hrec _ f' (inv_put hg hns hi h2 hv)
theorem onF_end {es : Kn} (hg : OkG es) {root : List Need} (hns : NsOk root) : ∀ (d : Nat) (l : List Pk) (f : Int), Inv es root l → Ends es root (onF es root d l f)
 | 0, l, f, hi => stepF_end hg hns hi (fun _ _ _ => ends_not (by show (2 : Int) ≠ 1; decide) (by show (2 : Int) ≠ 3; decide)) f
 | d + 1, l, f, hi => stepF_end hg hns hi (fun l2 f2 h2 => onF_end hg hns d l2 f2 h2) f
theorem askF_all {s : Nm} {v : Int} : ∀ {L : List (List Need)} {u : List Span}, ok u → (∀ ns ∈ L, NsOk ns) → hasS (askF s L u) v = true → hasS u v = true ∧ ∀ ns ∈ L, (findN s ns).2 = true → hasS (findN s ns).1 v = true
 | [], u, _, _, h => ⟨h, fun ns hn => by cases hn⟩
 | ns :: r, u, ho, hL, h => by
  have h1 := hL ns (by simp)
  obtain ⟨h2, h3⟩ := askF_all (L := r) (askN_ok h1 ho) (fun x hx => hL x (by simp [hx])) h
  unfold askN at h2
  by_cases e : (findN s ns).2 = true
  ·rw [if_pos e, (meet_kept ho (find_ok h1 s)).2.2 v, Bool.and_eq_true] at h2
   have h4 : (hasS u v && hasS (findN s ns).1 v) = true := h2.2
   rw [Bool.and_eq_true] at h4
   refine ⟨h4.1, fun x hx ex => ?_⟩
   rcases List.mem_cons.1 hx with rfl | hx
   ·exact h4.2
   ·exact h3 x hx ex
  ·rw [if_neg e] at h2
   refine ⟨h2, fun x hx ex => ?_⟩
   rcases List.mem_cons.1 hx with rfl | hx
   ·exact (e ex).elim
   ·exact h3 x hx ex
section
variable {es : Kn} (hg : OkG es) {root : List Need} (hok : needOk root = true)
include hg hok
theorem found_sol {l : List Pk} (hi : Inv es root l) (hd : deadM es root l = false) (hn : (nextM es root l).2 = false) : Sol es root l := by
 have hns := (ns_of hok).1
 have hall : ∀ ns ∈ root :: needsK es l, NsOk ns ∧ needOk ns = true := fun ns h => by
  rcases List.mem_cons.1 h with rfl | h
  ·exact ⟨hns, hok⟩
  ·obtain ⟨p, hp, rfl⟩ := List.mem_map.1 h
   exact ⟨(rel_needs hg p).1, need_ok hg p⟩
 have hmet : ∀ ns ∈ root :: needsK es l, ∀ n ∈ ns, metB l n = true := fun ns h n hm => by
  have h1 : (getP l n.1).2 = true := by
   unfold nextM at hn
   split at hn
   ·cases hn
   ·rename_i hf
    rw [List.find?_eq_none] at hf
    have := hf n.1 (by unfold nextA; exact (addAll_mem _).2 (.inl (List.mem_flatMap.2 ⟨ns, h, List.mem_map.2 ⟨n, hm, rfl⟩⟩)))
    simpa using this
  have h2 := Ft.getP_mem h1
  have h3 : hasS (askedM es root l n.1) (getP l n.1).1 = true := by
   unfold deadM at hd
   rw [List.any_eq_false] at hd
   have := hd _ h2
   unfold badP at this
   simpa using this
  have h4 := (askF_all all_ok (fun x hx => (hall x hx).1) h3).2 ns h
  have hok2 := (hall ns h).2
  unfold needOk at hok2
  rw [Bool.and_eq_true] at hok2
  rw [find_one (need_up hok2.1).1 hm] at h4
  unfold metB
  rw [h1, h4 rfl]; rfl
 refine ⟨chk_of hi.up hi.fit (fun x h => by cases h), fun n h => hmet root (by simp) n h, hi.rel, fun p hp => ?_, fun p hp => (needed_iff _).2 (hi.rs p hp)⟩
 unfold lackB
 rw [List.any_eq_false]
 intro n h
 rw [hmet _ (List.mem_cons_of_mem _ (List.mem_map.2 ⟨p, hp, rfl⟩)) n h]; simp
theorem solve_found {f : Int} (h : (solveM es root f).2.1 = 1) : Sol es root (solveM es root f).1 := by
 unfold solveM at h ⊢
 split
 ·rename_i h1
  rw [if_pos h1] at h
  have h : (firstM es root).1 = 1 := h
  unfold firstM lckF brkF at h
  split at h
  ·cases h
  ·split at h <;> cases h
 ·rename_i h1
  rw [if_neg h1] at h
  obtain ⟨l, h2, h3, h4, h5⟩ := (onF_end hg (ns_of hok).1 f.toNat [] f (inv_nil es root)).found h
  rw [h5]
  exact found_sol hg hok h2 h3 h4
theorem solve_lack {f : Int} (h : (solveM es root f).2.1 = 3) : RS (gX true es) (root.map (·.1)) (solveM es root f).2.2 ∧ hasI es (solveM es root f).2.2 = false := by
 unfold solveM at h ⊢
 split
 ·rename_i h1
  rw [if_pos h1] at h
  have h : (firstM es root).1 = 3 := h
  show RS _ _ (firstM es root).2 ∧ hasI es (firstM es root).2 = false
  unfold firstM lckF at h ⊢
  split at h
  ·rename_i n hn
   have e1 := List.find?_some hn
   have e2 := List.mem_of_find?_eq_some hn
   exact ⟨.base (List.mem_map.2 ⟨n, e2, rfl⟩), by simpa using e1⟩
  ·unfold brkF at h
   split at h <;> cases h
 ·rename_i h1
  rw [if_neg h1] at h
  obtain ⟨l, h2, h3, h4, h5⟩ := (onF_end hg (ns_of hok).1 f.toNat [] f (inv_nil es root)).lack h
  rw [h5]
  exact ⟨next_rx h2 h3, h4⟩
end
end Pn
end

noncomputable section
open Go Go.Ab Go.Proofs V S T C
namespace Ps
open W (sl1 slS slN slR leNone renN renS)
open X (hasI getM putI OkX okX_nil okX_put mp_ren)
open Xd (ofI slE smE)
open Pc (slK slKLe UpK putM)
open E (PA pa)
open Sp (hasS Kept)
open Sg (ok meetS meet_eq andF lastS_top)
open Ft (NsOk OkG okG_nil okG_put relOf)
open Rc (Nm)
open Pn (allS askedM askF askN needsK nextM deadM badP downM onF stepF tryF solveM firstM outV all_ok)
theorem okG_of : ∀ (e : List Ent) (es : Kn), OkG es → OkG (ofI e es)
 | [], _, h => h
 | x :: e, es, h => okG_of e _ (okG_put h)
theorem hasS_in {l : List Span} {e : Int} (h : chkS e l = true) {p : Int} (hp : hasS l p = true) : e < p ∧ p < 1000000000 := by
 induction l generalizing e with
 | nil => cases hp
 | cons x r ih =>
  obtain ⟨a1, a2, a3, a4⟩ := Sp.chkS_cons h
  rw [Sp.hasS_cons, Bool.or_eq_true] at hp
  rcases hp with hp | hp
  ·rw [Sp.inS_iff] at hp; omega
  ·have := ih a4 hp; omega
theorem meet_all {b : List Span} (hb : ok b) : meetS allS b = b := by
 refine meet_eq ⟨hb, lastS_top hb (by omega), fun p => ?_⟩
 by_cases hp : hasS b p = true
 ·have := hasS_in hb hp
  have h1 : hasS allS p = true := by simp [hasS, Sp.inS_iff]; omega
  rw [hp, decide_eq_true (by omega)]
  simp [andF, h1, hp]
 ·have hp : hasS b p = false := by simpa using hp
  rw [hp]
  simp [andF, hp]
abbrev rootA : List Need := [([97], allS), ([98], allS)]
abbrev bodyA : List UInt8 := [1, 97, 2, 4, 0, 8, 1, 1, 98, 1, 0, 8]
abbrev bodyB : List UInt8 := [1, 98, 1, 8, 0]
abbrev esA1 : Kn := [(B [97], some ([97], [(4, []), (8, [([98], [(0, 8)])])]))]
abbrev esA : Kn := [(B [97], some ([97], [(4, []), (8, [([98], [(0, 8)])])])), (B [98], some ([98], [(8, [])]))]
theorem readA : X.readK [97] bodyA = some ([97], [(4, []), (8, [([98], [(0, 8)])])]) := by
 have e : W.readM bodyA = (([97], [(4, []), (8, [([98], [(0, 8)])])]), 0) := by kernel_rfl
 unfold X.readK
 rw [e]; simp
theorem readB : X.readK [98] bodyB = some ([98], [(8, [])]) := by
 have e : W.readM bodyB = (([98], [(8, [])]), 0) := by kernel_rfl
 unfold X.readK
 rw [e]; simp
theorem put1 : putI [] [97] bodyA = (0, esA1) := by
 have h1 : fitM [97] = true := by decide +kernel
 rw [putI, if_neg (by rw [h1]; simp), if_neg (by simp [hasI, findM]), readA]; rfl
theorem put2 : putI esA1 [98] bodyB = (0, esA) := by
 have h1 : fitM [98] = true := by decide +kernel
 have h2 : hasI esA1 [98] = false := by decide +kernel
 rw [putI, if_neg (by rw [h1]; simp), if_neg (by rw [h2]; simp), readB]
 rfl
theorem okA1 : OkX esA1 := by rw [show esA1 = (putI [] [97] bodyA).2 from by rw [put1]]; exact okX_put okX_nil
theorem okGA1 : OkG esA1 := by rw [show esA1 = (putI [] [97] bodyA).2 from by rw [put1]]; exact okG_put okG_nil
theorem okA : OkX esA := by rw [show esA = (putI esA1 [98] bodyB).2 from by rw [put2]]; exact okX_put okA1
theorem okGA : OkG esA := by rw [show esA = (putI esA1 [98] bodyB).2 from by rw [put2]]; exact okG_put okGA1
theorem nsA : NsOk rootA := fun n hn => by
 simp at hn
 rcases hn with rfl | rfl
 ·exact ⟨by decide +kernel, by show chkS (-1) [(0, 1000000000)] = true; decide⟩
 ·exact ⟨by decide +kernel, by show chkS (-1) [(0, 1000000000)] = true; decide⟩
theorem okNA : okN rootA := ⟨by unfold lim; simp, fun n hn => by
  simp at hn
  rcases hn with rfl | rfl <;> exact ⟨by unfold lim; simp, by unfold lim; simp⟩⟩
theorem okS8 : ok [(0, 8)] := by show chkS (-1) [(0, 8)] = true; decide
theorem needA4 : relOf esA ([97], 4) = ((4, []), true) := by kernel_rfl
theorem needA8 : relOf esA ([97], 8) = ((8, [([98], [(0, 8)])]), true) := by kernel_rfl
theorem needB8 : relOf esA ([98], 8) = ((8, []), true) := by kernel_rfl
theorem root_a (f : List (List Need)) : askF [97] (rootA :: f) allS = askF [97] f allS := by
 have h : Pn.findN [97] rootA = (allS, true) := by decide +kernel
 rw [askF, askN, h, if_pos rfl, meet_all all_ok]
theorem root_b (f : List (List Need)) : askF [98] (rootA :: f) allS = askF [98] f allS := by
 have h : Pn.findN [98] rootA = (allS, true) := by decide +kernel
 rw [askF, askN, h, if_pos rfl, meet_all all_ok]
theorem skip_n (s : Nm) (f : List (List Need)) (u : List Span) : askF s ([] :: f) u = askF s f u := by
 have h : (Pn.findN s []).2 = false := rfl
 rw [askF, askN, h, if_neg (by simp)]
theorem ask0 : askedM esA rootA [] [97] = allS := by rw [askedM, root_a]; rfl
theorem ask8a : askedM esA rootA [([97], 8)] [97] = allS := by
 rw [askedM, root_a]
 show askF [97] [(relOf esA ([97], 8)).1.2] allS = _
 have h : (Pn.findN [97] [([98], [(0, 8)])]).2 = false := by decide +kernel
 rw [needA8, askF, askN, h, if_neg (by simp)]; rfl
theorem ask8b : askedM esA rootA [([97], 8)] [98] = [(0, 8)] := by
 rw [askedM, root_b]
 show askF [98] [(relOf esA ([97], 8)).1.2] allS = _
 have h : Pn.findN [98] [([98], [(0, 8)])] = ([(0, 8)], true) := by decide +kernel
 rw [needA8, askF, askN, h, if_pos rfl, meet_all okS8]; rfl
theorem ask4a : askedM esA rootA [([97], 4)] [97] = allS := by
 rw [askedM, root_a]
 show askF [97] [(relOf esA ([97], 4)).1.2] allS = _
 rw [needA4, skip_n]; rfl
theorem ask4b : askedM esA rootA [([97], 4)] [98] = allS := by
 rw [askedM, root_b]
 show askF [98] [(relOf esA ([97], 4)).1.2] allS = _
 rw [needA4, skip_n]; rfl
theorem askFa : askedM esA rootA [([97], 4), ([98], 8)] [97] = allS := by
 rw [askedM, root_a]
 show askF [97] [(relOf esA ([97], 4)).1.2, (relOf esA ([98], 8)).1.2] allS = _
 rw [needA4, needB8, skip_n, skip_n]; rfl
theorem askFb : askedM esA rootA [([97], 4), ([98], 8)] [98] = allS := by
 rw [askedM, root_b]
 show askF [98] [(relOf esA ([97], 4)).1.2, (relOf esA ([98], 8)).1.2] allS = _
 rw [needA4, needB8, skip_n, skip_n]; rfl
theorem dead8 : deadM esA rootA [([97], 8)] = false := by
 show (badP esA rootA [([97], 8)] ([97], 8) || false) = false
 rw [badP, ask8a]; decide
theorem dead4 : deadM esA rootA [([97], 4)] = false := by
 show (badP esA rootA [([97], 4)] ([97], 4) || false) = false
 rw [badP, ask4a]; decide
theorem deadF : deadM esA rootA [([97], 4), ([98], 8)] = false := by
 show (badP esA rootA [([97], 4), ([98], 8)] ([97], 4) || (badP esA rootA [([97], 4), ([98], 8)] ([98], 8) || false)) = false
 rw [badP, badP, askFa, askFb]; decide
theorem dead0 : deadM esA rootA [] = false := rfl
theorem next0 : nextM esA rootA [] = ([97], true) := by decide +kernel
theorem next8 : nextM esA rootA [([97], 8)] = ([98], true) := by decide +kernel
theorem next4 : nextM esA rootA [([97], 4)] = ([98], true) := by decide +kernel
theorem nextF : (nextM esA rootA [([97], 4), ([98], 8)]).2 = false := by decide +kernel
theorem hasA : hasI esA [97] = true := by decide +kernel
theorem hasB : hasI esA [98] = true := by decide +kernel
theorem downA : downM (getM esA [97]).1 allS = [8, 4] := by decide +kernel
theorem downB : downM (getM esA [98]).1 allS = [8] := by decide +kernel
theorem downB8 : downM (getM esA [98]).1 [(0, 8)] = [] := by decide +kernel
theorem step8 (rec : List Pk → Int → Pn.Out) (f : Int) : stepF esA rootA rec [([97], 8)] f = (([], 2, []), f) := by
 unfold stepF
 rw [dead8, next8, ask8b, hasB, downB8]; rfl
theorem stepE (rec : List Pk → Int → Pn.Out) (f : Int) : stepF esA rootA rec [([97], 4), ([98], 8)] f = (([([97], 4), ([98], 8)], 1, []), f) := by
 unfold stepF
 rw [deadF, nextF]; rfl
theorem solveA : solveM esA rootA 9 = ([([97], 4), ([98], 8)], 1, []) := by
 have hf : firstM esA rootA = (0, []) := by decide +kernel
 have p1 : putM [] ([97], 8) = [([97], 8)] := by decide +kernel
 have p2 : putM [] ([97], 4) = [([97], 4)] := by decide +kernel
 have p3 : putM [([97], 4)] ([98], 8) = [([97], 4), ([98], 8)] := by decide +kernel
 have h4 : ∀ d, onF esA rootA (d + 2) [([97], 4)] 7 = (([([97], 4), ([98], 8)], 1, []), 6) := fun d => by
  rw [onF, stepF, dead4, next4, ask4b, hasB, downB]
  simp only [tryF, p3]
  rw [onF, stepE]
  simp
 rw [solveM, hf, if_neg (by simp)]
 show (onF esA rootA (8 + 1) [] 9).1 = _
 rw [onF, stepF, dead0, next0, ask0, hasA, downA]
 simp only [tryF, p1, p2]
 rw [show onF esA rootA 8 = stepF esA rootA (onF esA rootA 7) from rfl, step8]
 rw [← show onF esA rootA 8 = stepF esA rootA (onF esA rootA 7) from rfl]
 simp only []
 rw [show (9 : Int) - 1 = 8 from rfl, show (8 : Int) - 1 = 7 from rfl, h4 6]
 simp
end Ps
end

noncomputable section
open Go Go.Ab Go.Proofs V S T C
namespace Ps
open W (sl1 slS slN slR leNone renN renS)
open X (hasI getM putI OkX okX_nil okX_put mp_ren largeD_spec largeD_ok)
open Xd (getKd ofI ofKd RelX rel0 slE smE)
open Pc (slK slKLe UpK putM)
open Dk (chkF getP chk_up largeK_ok)
open E (PA pa)
open Sg (ok)
open Rr (okX_of rel_of ofKd_len)
open Ft (NsOk OkG okG_nil okG_put relOf ns_of)
open Rc (Nm)
open Pn (allS askedM nextM solveM outV solve_at next_at asked_at asked_ok)
theorem tryF_len {rec : List Pk → Int → Pn.Out} {name : Nm} {l : List Pk} {D : Nat} (h : ∀ l f, (rec l f).1.1.length ≤ l.length + D) : ∀ (w : List Int) (f : Int), (Pn.tryF rec name l w f).1.1.length ≤ l.length + 1 + D
 | [], f => by simp [Pn.tryF]
 | v :: r, f => by
  simp only [Pn.tryF]
  split
  ·simp
  ·split
   ·exact tryF_len h r _
   ·have h1 := h (putM l (name, v)) (f - 1)
    have h2 := Pc.put_len l (name, v)
    omega
theorem stepF_len {es : Kn} {root : List Need} {rec : List Pk → Int → Pn.Out} {D : Nat} (h : ∀ l f, (rec l f).1.1.length ≤ l.length + D) (l : List Pk) (f : Int) : (Pn.stepF es root rec l f).1.1.length ≤ l.length + 1 + D := by
 unfold Pn.stepF
 split
 ·simp
 ·split
  ·show l.length ≤ _; omega
  ·split
   ·simp
   ·exact tryF_len h _ _
theorem onF_len (es : Kn) (root : List Need) : ∀ (d : Nat) (l : List Pk) (f : Int), (Pn.onF es root d l f).1.1.length ≤ l.length + (d + 1)
 | 0, l, f => by
  have := stepF_len (es := es) (root := root) (rec := fun _ f => (([], 2, []), f)) (D := 0) (fun l f => by simp) l f
  show (Pn.stepF _ _ _ l f).1.1.length ≤ _
  omega
 | d + 1, l, f => by
  have := stepF_len (es := es) (root := root) (onF_len es root d) l f
  show (Pn.stepF _ _ _ l f).1.1.length ≤ _
  omega
theorem solve_len (es : Kn) (root : List Need) (f : Int) (hf : f.toNat ≤ 80000) : (solveM es root f).1.length ≤ 100000 := by
 unfold solveM
 split
 ·simp
 ·have := onF_len es root f.toNat [] f
  simp only [List.length_nil] at this
  omega
theorem awake_spec (H : List AObj) : ASpec Tryz.prog 26 [] H (fun r H' => r = .bool true ∧ H' = H) := by
 have k : ASpec Tryz.prog 26 [] [] (fun r H' => r = .bool true ∧ H' = []) := by
  refine ASpec.sel (s26 _ (ASpec.call (X.new_spec []) (Les.refl _) ⟨(), rfl, rfl, ?_⟩))
  refine ASpec.call (X.put_spec [] [97] bodyA (by unfold lim; simp) _ 0 1 (by omega) rfl rfl) ⟨Le.refl _, Le.refl _, Le.sl rfl (.inl rfl) (.inl rfl), trivial⟩ ⟨putI [] [97] bodyA, rfl, rfl, ?_⟩
  rw [put1]
  refine ASpec.call (X.put_spec esA1 [98] bodyB (by unfold lim; simp) _ 0 1 (by omega) rfl rfl) ⟨Le.refl _, Le.refl _, Le.sl rfl (.inl rfl) (.inl rfl), trivial⟩ ⟨putI esA1 [98] bodyB, rfl, rfl, ?_⟩
  rw [put2]
  have hroot : Le (.sl 2 (.raw [[.str (B [97]), .sl 2 (.raw [[.int .i64 0, .int .i64 1000000000]]) .full], [.str (B [98]), .sl 2 (.raw [[.int .i64 0, .int .i64 1000000000]]) .full]]) .full) (slN rootA) :=
   Le.slE rfl (fun i h h' => by
    match i, h with
    | 0, _ => exact ⟨Le.refl _, Le.sl rfl (.inl rfl) (.inr rfl), trivial⟩
    | 1, _ => exact ⟨Le.refl _, Le.sl rfl (.inl rfl) (.inr rfl), trivial⟩) (.inr rfl)
  refine ASpec.call (solve_at okA okGA okNA nsA (by simp) 9 (by decide) _ 0 1 (by omega) rfl rfl) ⟨Le.refl _, hroot, Le.refl _, trivial⟩ ⟨((solveM esA rootA 9).1, (solveM esA rootA 9).2.1, B (solveM esA rootA 9).2.2), rfl, rfl, ?_⟩
  rw [solveA]
  refine condE (fun _ => ?_) fun h => (h rfl).elim
  refine condS (a := []) (b := []) (fun _ => ?_) fun h => (h rfl).elim
  refine condE (fun _ => ?_) fun h => (h rfl).elim
  refine needJ ⟨by decide, by decide⟩ (condB (fun _ => needJ ⟨by decide, by decide⟩ (pa ?_)) fun h => ?_)
  ·show Le (AV.bool ((B [98]).toList == (B [98]).toList && ((8 : Int) == 8 && true))) _
   rw [B_toList]; exact Le.refl _
  ·have h : ((B [97]).toList == (B [97]).toList && ((4 : Int) == 4 && true)) = false := h
   rw [B_toList] at h
   cases h
 exact ASpec.pureH H k _ _ rfl rfl
end Ps
end
