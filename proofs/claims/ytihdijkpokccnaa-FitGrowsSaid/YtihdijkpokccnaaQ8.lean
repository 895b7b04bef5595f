/- Q8: several of this proof's own texts, one behind the other: what each proves stands at its head. -/
import Derived.Shelf.SortM.Plain
import Derived.Shelf.SortM.SortNone
import Derived.Ground.SlgmProg
import Derived.Test.YtihdijkpokccnaaProg
import Derived.Test.YtihdijkpokccnaaA4
import Derived.Test.YtihdijkpokccnaaQ5
import Derived.Test.YtihdijkpokccnaaA3
import Derived.Test.YtihdijkpokccnaaQ6
import Derived.Test.YtihdijkpokccnaaQ7
import Derived.Shelf.Lays
import Derived.Shelf.Small.Strs
section
/- The library's sort of strings and of ints at this program's numbers: laid by the kit's own tool. -/

namespace Go.Proofs
open Go.Shelf
def Try.mSort_ren : Go.Shelf.Ren := ⟨fun | 6 => 43 | 8 => 61 | 9 => 60 | 19 => 86 | 20 => 87 | 21 => 77 | 22 => 78 | 23 => 79 | 24 => 80 | 25 => 81 | 26 => 82 | 27 => 83 | 28 => 84 | 29 => 85 | 36 => 116 | 31 => 117 | 32 => 118 | 37 => 119 | 38 => 120 | 39 => 121 | 41 => 134 | n => n, fun | 27 => 33 | 29 => 9 | 3 => 3 | 32 => 120 | 26 => 33 | 0 => 0 | 44 => 146 | 46 => 148 | 4 => 4 | 36 => 139 | 35 => 138 | 41 => 101 | 5 => 5 | 9 => 9 | 53 => 172 | 57 => 176 | 63 => 190 | 64 => 133 | n => n, fun | n => n⟩
theorem Try.mSort : Go.Proofs.SlLaysM.n6 Try.prog Try.mSort_ren := {
  mixed := by kernel_rfl
  f6 := ⟨Try.f43.name, by decide, Try.func43.trans (congrArg some (by kernel_rfl))⟩
  f8 := Try.func61.trans (congrArg some (by kernel_rfl))
  f9 := ⟨Try.f60.name, by decide, Try.func60.trans (congrArg some (by kernel_rfl))⟩
  f19 := Try.func86.trans (congrArg some (by kernel_rfl))
  f20 := Try.func87.trans (congrArg some (by kernel_rfl))
  f21 := ⟨Try.f77.name, by decide, Try.func77.trans (congrArg some (by kernel_rfl))⟩
  f22 := ⟨Try.f78.name, by decide, Try.func78.trans (congrArg some (by kernel_rfl))⟩
  f23 := ⟨Try.f79.name, by decide, Try.func79.trans (congrArg some (by kernel_rfl))⟩
  f24 := ⟨Try.f80.name, by decide, Try.func80.trans (congrArg some (by kernel_rfl))⟩
  f25 := ⟨Try.f81.name, by decide, Try.func81.trans (congrArg some (by kernel_rfl))⟩
  f26 := ⟨Try.f82.name, by decide, Try.func82.trans (congrArg some (by kernel_rfl))⟩
  f27 := ⟨Try.f83.name, by decide, Try.func83.trans (congrArg some (by kernel_rfl))⟩
  f28 := ⟨Try.f84.name, by decide, Try.func84.trans (congrArg some (by kernel_rfl))⟩
  f29 := ⟨Try.f85.name, by decide, Try.func85.trans (congrArg some (by kernel_rfl))⟩
  f31 := Try.func117.trans (congrArg some (by kernel_rfl))
  f32 := Try.func118.trans (congrArg some (by kernel_rfl))
  f36 := ⟨Try.f116.name, by decide, Try.func116.trans (congrArg some (by kernel_rfl))⟩
  f37 := ⟨Try.f119.name, by decide, Try.func119.trans (congrArg some (by kernel_rfl))⟩
  f38 := ⟨Try.f120.name, by decide, Try.func120.trans (congrArg some (by kernel_rfl))⟩
  f39 := ⟨Try.f121.name, by decide, Try.func121.trans (congrArg some (by kernel_rfl))⟩
  f41 := ⟨Try.f134.name, by decide, Try.func134.trans (congrArg some (by kernel_rfl))⟩
  t0 := Try.underlying0
  a0 := Try.isAgg0
  z0 := Try.sizeOf0
  v0 := Try.zeroValue0
  t3 := Try.underlying3
  a3 := Try.isAgg3
  z3 := Try.sizeOf3
  v3 := Try.zeroValue3
  t4 := Try.underlying4
  a4 := Try.isAgg4
  z4 := Try.sizeOf4
  v4 := Try.zeroValue4
  t5 := Try.underlying5
  a5 := Try.isAgg5
  z5 := Try.sizeOf5
  v5 := Try.zeroValue5
  t9 := Try.underlying9
  a9 := Try.isAgg9
  z9 := Try.sizeOf9
  v9 := Try.zeroValue9
  t26 := Try.underlying33
  a26 := Try.isAgg33
  z26 := Try.sizeOf33
  v26 := Try.zeroValue33
  t27 := Try.underlying33
  a27 := Try.isAgg33
  z27 := Try.sizeOf33
  v27 := Try.zeroValue33
  t29 := Try.underlying9
  a29 := Try.isAgg9
  z29 := Try.sizeOf9
  v29 := Try.zeroValue9
  t32 := Try.underlying120
  a32 := Try.isAgg120
  z32 := Try.sizeOf120
  v32 := Try.zeroValue120
  t35 := Try.underlying138
  a35 := Try.isAgg138
  z35 := Try.sizeOf138
  v35 := Try.zeroValue138
  t36 := Try.underlying139
  a36 := Try.isAgg139
  z36 := Try.sizeOf139
  v36 := Try.zeroValue139
  t41 := Try.underlying101
  a41 := Try.isAgg101
  z41 := Try.sizeOf101
  v41 := Try.zeroValue101
  t44 := Try.underlying146
  a44 := Try.isAgg146
  z44 := Try.sizeOf146
  v44 := Try.zeroValue146
  t46 := Try.underlying148
  a46 := Try.isAgg148
  z46 := Try.sizeOf148
  v46 := Try.zeroValue148
  t53 := Try.underlying172
  a53 := Try.isAgg172
  z53 := Try.sizeOf172
  v53 := Try.zeroValue172
  t57 := Try.underlying176
  a57 := Try.isAgg176
  z57 := Try.sizeOf176
  v57 := Try.zeroValue176
  t63 := Try.underlying190
  a63 := Try.isAgg190
  z63 := Try.sizeOf190
  v63 := Try.zeroValue190
  t64 := Try.underlying133
  a64 := Try.isAgg133
  z64 := Try.sizeOf133
  v64 := Try.zeroValue133 }

end Go.Proofs
end

section
/- The library's sort of names and of ints, as specifications. -/

set_option linter.unusedVariables false
set_option linter.unusedSimpArgs false
open Go Go.Ab Go.Proofs Go.Sort T
namespace So

def sortL (l : List (List UInt8)) : List (List UInt8) := l.mergeSort fun x y => decide (x ≤ y)
theorem sort_spec {H : List AObj} {id : Nat} {q : Seq} {l : List (List UInt8)} (hid : H[id]? = some (.arr 1 q)) (hq : q.toList = l.map encL) (hl : l.length < 4611686018427387904) :
    ASpec Try.prog 43 [.msl 1 id 0 l.length] H (fun r H' => r = .tup [] ∧ H' = H.set id (.arr 1 (.map encL [] (sortL l)))) := by
  refine ASpec.sorts (enc := encStr) (e1 := fun x => .str ⟨x.toArray⟩) (srt := sortL) (fun _ => rfl) (fun M w loc x v => ?_) (fun l => by simp [sortL]) (fun blk off cap ss w h1 h2 h3 => ?_) hid hq hl
  · constructor
    · intro h; cases h; rfl
    · rintro rfl; exact .str _
  · exact AnyM.slices_Sort_string Try.mSort blk off cap ss w h1 h2 h3

/-- of nothing: nothing -/
theorem sort_nil {H : List AObj} {z : Nat} {tip : Tip} : ASpec Try.prog 43 [.sl z (.raw []) tip] H (fun r H' => r = .tup [] ∧ H' = H) := by
  refine ASpec.of_calls fun M loc w vs ht hv => ?_
  obtain ⟨hs, hv⟩ := hv
  have hv0 := hv 0 (by simp)
  simp only [List.getElem_cons_zero] at hv0
  have hvs : vs = #[vs[0]'(by simp at hs; omega)] := by
    apply Array.ext
    · simpa using hs
    · intro i h1 h2
      have : i = 0 := by simp at h2; omega
      subst this; rfl
  generalize vs[0]'(by simp at hs; omega) = v0 at hv0 hvs
  subst hvs
  have key : ∀ p cap, Calls Try.prog 43 #[.slice p 0 cap] w fun e w' => ∃ v, e = .returned v ∧ VRel M w' loc (.tup []) v ∧ Grown w w' := fun p cap =>
    (AnyM.slices_Sort_string_none Try.mSort p cap w).mono fun e w' ⟨h1, h2⟩ => by
      subst h2
      exact ⟨_, h1, .tup _ _ rfl (fun i h => by simp at h), ⟨Nat.le_refl _, fun _ _ => rfl, rfl, rfl, rfl⟩⟩
  cases hv0 with
  | slnil => exact key none 0
  | slz => exact key _ 0
  | sl _ _ _ b o cap => exact key _ _

end So
end

section
/- Names that are sorted and lie once each: the two ways to come by them are one. -/

set_option linter.unusedVariables false
set_option linter.unusedSimpArgs false
open Go Go.Ab Go.Proofs
namespace Pl
open Dp (less_iff less_trans less_irrefl less_tri)
abbrev Nm := List UInt8

/-- a name to names that rise, once -/
def addM (x : Nm) : List Nm → List Nm
  | [] => [x]
  | y :: r => if (Op.bytesLess x y || x == y) = true then (if x = y then x :: r else x :: y :: r) else y :: addM x r

abbrev Up (l : List Nm) : Prop := l.Pairwise fun a b => a < b

theorem tri (a b : Nm) : a < b ∨ a = b ∨ b < a := by
  by_cases h : a = b
  · exact .inr (.inl h)
  · cases hx : Op.bytesLess a b with
    | true => exact .inl (less_iff.1 hx)
    | false => exact .inr (.inr (less_iff.1 (less_tri hx h)))
theorem ltT {a b c : Nm} (h : a < b) (k : b < c) : a < c := List.lt_trans h k
theorem ltI {a : Nm} (h : a < a) : False := List.lt_irrefl a h

theorem up_one : ∀ {a b : List Nm}, Up a → Up b → (∀ x, x ∈ a ↔ x ∈ b) → a = b
  | [], [], _, _, _ => rfl
  | [], y :: b, _, _, h => by have := (h y).2 (by simp); simp at this
  | x :: a, [], _, _, h => by have := (h x).1 (by simp); simp at this
  | x :: a, y :: b, ha, hb, h => by
    have ha' := List.pairwise_cons.1 ha
    have hb' := List.pairwise_cons.1 hb
    have e : x = y := by
      rcases List.mem_cons.1 ((h x).1 (by simp)) with e | m
      · exact e
      · rcases List.mem_cons.1 ((h y).2 (by simp)) with e | m2
        · exact e.symm
        · exact (ltI (ltT (hb'.1 x m) (ha'.1 y m2))).elim
    subst e
    rw [up_one ha'.2 hb'.2]
    intro z
    constructor
    · intro hz
      rcases List.mem_cons.1 ((h z).1 (by simp [hz])) with e | m
      · subst e; exact (ltI (ha'.1 z hz)).elim
      · exact m
    · intro hz
      rcases List.mem_cons.1 ((h z).2 (by simp [hz])) with e | m
      · subst e; exact (ltI (hb'.1 z hz)).elim
      · exact m

def addAll (l : List Nm) (o : List Nm) : List Nm := l.foldl (fun o x => addM x o) o
theorem sort_up (l : List Nm) : (So.sortL l).Pairwise fun a b => a ≤ b := by
  have h := List.pairwise_mergeSort (le := fun x y : Nm => decide (x ≤ y)) (fun a b c h1 h2 => ?_) (fun a b => ?_) l
  · exact h.imp (fun h => of_decide_eq_true h)
  · simp only [decide_eq_true_eq] at *
    intro h3
    rcases tri b c with h4 | h4 | h4
    · exact h1 (ltT h4 h3)
    · subst h4; exact h1 h3
    · exact h2 h4
  · simp only [Bool.or_eq_true, decide_eq_true_eq]
    rcases tri a b with h | h | h
    · exact .inl (fun k => ltI (ltT h k))
    · subst h; exact .inl (fun k => ltI k)
    · exact .inr (fun k => ltI (ltT h k))

theorem sort_mem (l : List Nm) (x : Nm) : x ∈ So.sortL l ↔ x ∈ l := by simp [So.sortL]
theorem sort_len (l : List Nm) : (So.sortL l).length = l.length := by simp [So.sortL]

end Pl
end

section
/- What may be needed: two ways to come by the names are one. Plain laws. -/

set_option linter.unusedVariables false
set_option linter.unusedSimpArgs false
open Go Go.Ab Go.Proofs
namespace Rc
open Pl (Up up_one tri ltT ltI sort_up sort_mem sort_len addM addAll)
open So (sortL)
abbrev Nm := List UInt8

theorem sort_strict {a : List Nm} (hn : a.Nodup) : Up (sortL a) := by
  have h1 := sort_up a
  have h2 : (sortL a).Nodup := (List.mergeSort_perm _ _).nodup_iff.2 hn
  refine (List.Pairwise.and h1 h2).imp fun {a b} hab => ?_
  rcases tri a b with ht | ht | ht
  · exact ht
  · exact (hab.2 ht).elim
  · exact (hab.1 ht).elim
theorem sort_one {a b : List Nm} (hn : a.Nodup) (hu : Up b) (h : ∀ x, x ∈ a ↔ x ∈ b) : sortL a = b :=
  up_one (sort_strict hn) hu fun x => by rw [sort_mem]; exact h x

/-! ### each once -/
def noteM (s : Nm) (o : List Nm) : List Nm := if s ∈ o then o else o ++ [s]
theorem note_nd {s : Nm} {o : List Nm} (h : o.Nodup) : (noteM s o).Nodup := by
  unfold noteM
  split
  · exact h
  · rename_i hs
    rw [List.nodup_append]
    refine ⟨h, by simp, fun a ha b hb => ?_⟩
    simp at hb; subst hb
    rintro rfl
    exact hs ha
/-- the names that a manifest's releases need -/
def allN (m : T.Mani) : List Nm := m.2.flatMap fun r => r.2.map (·.1)
def mnM (m : T.Mani) : List Nm := addAll (allN m) []
/-! ### lists within lists -/
theorem sub_len : ∀ {a b : List Nm}, a.Nodup → (∀ x ∈ a, x ∈ b) → a.length ≤ b.length
  | [], b, _, _ => Nat.zero_le _
  | x :: r, b, hn, h => by
    have hn' := List.nodup_cons.1 hn
    have hx := h x (by simp)
    have h1 := sub_len (a := r) (b := b.erase x) hn'.2 fun y hy => (List.mem_erase_of_ne (fun e => by subst e; exact hn'.1 hy)).2 (h y (by simp [hy]))
    have h2 := List.length_erase_of_mem hx
    have h3 := List.length_pos_of_mem hx
    simp only [List.length_cons]; omega
/-! ### what may be needed -/
section
variable (g : Nm → List Nm)
inductive RS (root : List Nm) : Nm → Prop
  | base {x : Nm} : x ∈ root → RS root x
  | step {x y : Nm} : RS root x → y ∈ g x → RS root y
theorem rs_least {root : List Nm} {o : List Nm} (h1 : ∀ x ∈ root, x ∈ o) (h2 : ∀ x ∈ o, ∀ y ∈ g x, y ∈ o) {x : Nm} (h : RS g root x) : x ∈ o := by
  induction h with
  | base h => exact h1 _ h
  | step _ hy ih => exact h2 _ ih _ hy
theorem rs_bound {root U : List Nm} (h1 : ∀ x ∈ root, x ∈ U) (h2 : ∀ x, ∀ y ∈ g x, y ∈ U) {x : Nm} (h : RS g root x) : x ∈ U := by
  cases h with
  | base h => exact h1 _ h
  | step _ hy => exact h2 _ _ hy

variable {root U : List Nm} (hU1 : ∀ x ∈ root, x ∈ U) (hU2 : ∀ x, ∀ y ∈ g x, y ∈ U)
include hU1 hU2
theorem rs_len {o : List Nm} (hn : o.Nodup) (h : ∀ x ∈ o, RS g root x) : o.length ≤ U.length :=
  sub_len hn fun x hx => rs_bound g hU1 hU2 (h x hx)
end

section
variable (g : Nm → List Nm) {root U : List Nm} (hU1 : ∀ x ∈ root, x ∈ U) (hU2 : ∀ x, ∀ y ∈ g x, y ∈ U)
include hU1 hU2
end
end Rc
end

section
/- Names that a manifest's releases need, by the program (mani.Names): sorted, each once. -/

set_option linter.unusedVariables false
set_option linter.unusedSimpArgs false
set_option maxRecDepth 100000
open Go Go.Ab Go.Proofs V S T C
namespace Rc
open Pl (Up)
open W (sl1 slS slN slR)
open So (sortL sort_spec sort_nil)
noncomputable abbrev slL (l : List Nm) : AV := .sl 1 (.map encL [] l) .none
noncomputable abbrev arL (o : List Nm) : AObj := .arr 1 (.map encL [] o)
theorem B_inj {a b : Nm} : (⟨a.toArray⟩ : ByteArray) = ⟨b.toArray⟩ ↔ a = b := by
  constructor
  · intro h
    have := congrArg (fun x : ByteArray => x.data.toList) h
    simpa using this
  · rintro rfl; rfl
theorem find_seen (x : Nm) : ∀ o : List Nm, findM (seenM o) ⟨x.toArray⟩ = if x ∈ o then some true else none
  | [] => rfl
  | y :: r => by
    show (if _ then _ else _) = _
    by_cases h : y = x
    · subst h; simp
    · have h3 : ¬ x = y := fun e => h e.symm
      have h2 : ¬ ((⟨x.toArray⟩ : ByteArray) = ⟨y.toArray⟩) := fun e => h3 (B_inj.1 e)
      have ih := find_seen x r
      unfold seenM at ih
      dsimp only
      rw [if_neg h2, ih]
      simp [h3]
theorem set_seen (x : Nm) : ∀ o : List Nm, x ∉ o → setM (seenM o) ⟨x.toArray⟩ true = seenM (o ++ [x])
  | [], _ => rfl
  | y :: r, h => by
    have h2 : ¬ ((⟨x.toArray⟩ : ByteArray) = ⟨y.toArray⟩) := fun e => h (by simp [B_inj.1 e])
    have ih := set_seen x r (fun hx => h (by simp [hx]))
    show (if _ then _ else _) = _
    unfold seenM at ih ⊢
    dsimp only
    rw [if_neg h2, ih]
    rfl
theorem put_seen {x : Nm} {o : List Nm} (h : x ∉ o) : MLe (MM.put (.typed EB (seenM o)) ⟨x.toArray⟩ (.bool true)).toList (MM.typed EB (seenM (o ++ [x]))).toList := by
  rw [← set_seen x o h]
  exact mle_put rfl
theorem ren_mp {ρ : Nat → Nat} {es : List (ByteArray × Bool)} : AObj.ren ρ (.mp (.typed EB es)) = .mp (.typed EB es) := by
  show AObj.mp (.typed (Enc.ren ρ EB) es) = _
  congr 2

theorem selN {n : Nat} {l : List Nat} {H H2 : List AObj} (h1 : l.Nodup) (h0 : n ≤ l.length) (h2 : ∀ i, i < n → l[i]? = some i) (h3 : SelL H (selR l H.length) l H2) : Sel n l H H2 := by
  obtain ⟨a, b⟩ := SelL.at h3
  exact ⟨h1, a, h0, h2, fun i hi => .inl (b _ i hi)⟩

theorem slotsR {ρ : Nat → Nat} : ∀ {s s2 : Slots}, s = s2.map (fun p => (p.1, AV.ren ρ p.2)) → Slots2 (fun a b => Le a (AV.ren ρ b)) s s2
  | _, [], h => by subst h; trivial
  | _, p :: r, h => by subst h; exact ⟨rfl, Le.refl _, slotsR rfl⟩
section
variable {rs : List Rel} {nn i0 : Int} {Post : AV → List AObj → Prop}
end

theorem slLle (ρ : Nat → Nat) (l : List Nm) (t : Tip) : Le (.sl 1 (.map encL [] l) t) (AV.ren ρ (slL l)) := Le.sl (s' := Seq.ren ρ (.map encL [] l)) (by simp [Ab.Seq.toList, Seq.ren]; exact fun a _ => rfl) (.inl rfl) (.inr rfl)
theorem nilLle (ρ : Nat → Nat) : Le (.sl 0 (.raw []) .nil) (AV.ren ρ (slL [])) := Le.sl (s' := Seq.ren ρ (.map encL [] [])) rfl (.inr ⟨rfl, fun _ h => by cases h⟩) (.inr rfl)
end Rc
end

section
/- The names that may be needed, by the program (reach.Names): a row of its own, sorted. -/

set_option linter.unusedVariables false
set_option linter.unusedSimpArgs false
set_option linter.unusedSectionVars false
set_option maxRecDepth 100000
open Go Go.Ab Go.Proofs V S T C
namespace Rc
open Pl (Up)
open W (sl1 slS slN slR)
open So (sortL)
open X (hasI getM OkX mp_ren)
noncomputable abbrev xM (es : Kn) : AObj := .mp (.typed EK es)

/-! ### the closure -/
section
variable {es : Kn} {x : Nm} {t o : List Nm}
end

/-! ### what is known -/
def getX (b : Bool) (es : Kn) (k : Nm) : Mani × Bool := if b = true then getM es k else ((k, []), false)
def gX (b : Bool) (es : Kn) (k : Nm) : List Nm := mnM (getX b es k).1
theorem sel2 {es : Kn} (q : List AObj) : Sel 2 [0, 1] (xM es :: .cells [.map 0] :: q) (HX es) :=
  selN (by decide) (by decide) (fun i h => by match i, h with | 0, _ | 1, _ => rfl) ⟨by rw [mp_ren]; rfl, rfl, trivial⟩

section
variable {b : Bool} {es : Kn} (hes : OkX es) {root : List Need} {U : List Nm} (hU : ∀ x, ∀ y ∈ gX b es x, y ∈ U) (hUl : U.length ≤ 1000000)
include hes

variable (hr : ∀ n ∈ root, n.1 ∈ U) (hrl : root.length ≤ 1000000)
include hr hrl
end
end Rc
end

section
/- The names that are missing, by the program (reach.Missing: slices.DeleteFunc with a method's value). -/

set_option linter.unusedVariables false
set_option linter.unusedSimpArgs false
set_option linter.unusedSectionVars false
set_option maxRecDepth 100000
open Go Go.Ab Go.Proofs V S T C
namespace Rc
open W (sl1 slS slN slR)
open So (sortL)
open X (hasI getM OkX mp_ren)
section
variable (p : Nm → Bool)
end
section
variable {b : Bool} {es : Kn}
variable (hes : OkX es) {root : List Need} {U : List Nm} (hU : ∀ x, ∀ y ∈ gX b es x, y ∈ U) (hUl : U.length ≤ 1000000) (hr : ∀ n ∈ root, n.1 ∈ U) (hrl : root.length ≤ 1000000)
include hes hU hUl hr hrl
end
end Rc
end

section
/- The index and the document's: plain laws. -/

set_option linter.unusedVariables false
set_option linter.unusedSimpArgs false
open Go Go.Ab Go.Proofs V S T C
namespace Xd
open X (hasI getM readK putI OkX find_none)
open Pl (Up up_one tri ltT ltI sort_up sort_mem)
open Dp (less_iff less_trans less_irrefl less_tri)
open So (sortL)
abbrev Nm := List UInt8
def kdOf (k : Nm) : Known → Kd
  | some m => (m, true)
  | none => ((k, []), false)
def insK (x : Kd) : List Kd → List Kd
  | [] => [x]
  | y :: r => if Op.bytesLess x.1.1 y.1.1 = true then x :: y :: r else y :: insK x r
def atF (s : Nm) : List Kd → Option Kd
  | [] => none
  | y :: r => if y.1.1 = s then some y else atF s r
def hasD (l : List Kd) (s : Nm) : Bool := (atF s l).isSome
def getKd (l : List Kd) (s : Nm) : Mani × Bool := match atF s l with
  | some y => (y.1, y.2)
  | none => ((s, []), false)
def putKd (l : List Kd) (s b : Nm) : Int × List Kd :=
  if fitM s = false ∨ 8192 < b.length then (1, l) else if hasD l s = true then (6, l) else (0, insK (kdOf s (readK s b)) l)

theorem insK_len (x : Kd) : ∀ l : List Kd, (insK x l).length = l.length + 1
  | [] => rfl
  | y :: r => by
    simp only [insK]
    split
    · rfl
    · simp [insK_len x r]
abbrev UpD (l : List Kd) : Prop := l.Pairwise fun a b => Op.bytesLess a.1.1 b.1.1 = true
/-- the index and the document's know the same -/
structure RelX (es : Kn) (l : List Kd) : Prop where
  up : UpD l
  look : ∀ s, atF s l = (findM es (B s)).map (kdOf s)
  len : l.length = es.length
  nd : (es.map (·.1)).Nodup
theorem kdOf_name (k b : Nm) : (kdOf k (readK k b)).1.1 = k := by
  unfold readK
  split
  · rfl
  · rename_i h
    show (W.readM b).1.1 = k
    exact Classical.byContradiction fun hn => h (.inr hn)
/-! ### names -/
end Xd
end

section
/- strings.Compare, by the library's contract at this program (the laying was written by the kit's lay-plain tool). -/

set_option linter.unusedVariables false
set_option linter.unusedSimpArgs false
namespace Go.Proofs
open Go.Shelf
end Go.Proofs
open Go Go.Ab Go.Proofs V S T C
namespace Dp
end Dp
end

section
/- Depots: what the code and the document's code compute. -/

set_option linter.unusedVariables false
set_option linter.unusedSimpArgs false
set_option maxRecDepth 100000
open Go Go.Ab Go.Proofs V S T C
open W (sl1 slS slN slR leNone readM)
namespace Dp

abbrev PA (r0 : AV) : AV → List AObj → Prop := fun r H' => ∃ l H2 r2, Sel 0 l H' H2 ∧ Le r (AV.ren (selR l H'.length) r2) ∧ (r2 = r0 ∧ H2 = [])
theorem pa {r r0 : AV} {H' : List AObj} (h : Le r (AV.ren (selR [] H'.length) r0)) : PA r0 r H' := ⟨[], [], r0, Sel.none, h, rfl, rfl⟩
/-! ### large -/

/-! ### which may be -/

/-! ### looking for a name -/

/-! ### bodies and manifests -/

def readB (s b : List UInt8) : Mani × Bool := if (readM b).2 ≠ 0 ∨ (readM b).1.1 ≠ s then ((s, []), false) else ((readM b).1, true)
abbrev PMB (v : Mani × Bool) : AV → List AObj → Prop := PA (.tup [.agg (encM v.1), .bool v.2])
theorem pmNone {v : Mani × Bool} {s : List UInt8} {H' : List AObj} (h : v = ((s, []), false)) : PMB v (.tup [.agg [.str (B s), .sl 0 (.raw []) .nil], .bool false]) H' := by
  subst h
  exact pa (Le.tup ⟨Le.agg ⟨Le.refl _, Le.sl (s' := Seq.ren _ (.map T.encR (0, []) [])) rfl (.inr ⟨rfl, fun _ h => by cases h⟩) (.inr rfl), trivial⟩, Le.refl _, trivial⟩)
theorem pmSome {v : Mani × Bool} {m : Mani} {H' : List AObj} (h : v = (m, true)) : PMB v (.tup [.agg (encM m), .bool true]) H' := by
  subst h
  exact pa (Le.refl _)

/-! ### the document's -/

theorem rread_spec (s b : List UInt8) (hb : b.length ≤ 1000000) (H : List AObj) : ASpec Try.prog 57 [.str (B s), .str (B b)] H (fun r H' => r = .tup [.agg (encM (readB s b).1), .bool (readB s b).2] ∧ H' = H) := by
  have k : ASpec Try.prog 57 [.str (B s), .str (B b)] [] (fun r H' => r = .tup [.agg (encM (readB s b).1), .bool (readB s b).2] ∧ H' = []) := by
    refine ASpec.sel (s57 _ _ _ (ASpec.call (W.rread_spec b hb _) (Les.refl _) ⟨((readM b).1, (readM b).2), rfl, rfl, condNe (fun h => pmNone ?_) fun h => condSn (fun h2 => pmNone ?_) fun h2 => pmSome ?_⟩))
    · rw [readB, if_pos (.inl h)]
    · rw [readB, if_pos (.inr h2)]
    · rw [readB, if_neg (by rintro (h3 | h3); exact h3 h; exact h3 h2)]
  exact ASpec.pureH H k _ _ rfl rfl

/-! ### the examples -/

/-! ### the law -/

end Dp
end

section
/- The document's index: has, get, put, of; the index's of, and its copy. -/

set_option linter.unusedVariables false
set_option linter.unusedSimpArgs false
set_option maxRecDepth 100000
open Go Go.Ab Go.Proofs V S T C
open W (sl1 slS slN slR)
namespace Xd
open X (hasI getM readK putI OkX find_none PA pa mp_ren selX)
/-- at the end of a call -/
theorem cellEnd {H : List AObj} {P : Program} {f : FuncId} {args : List AV} {Post : AV → List AObj → Prop}
    (h : ASpec P f args H (fun r H' => ∃ id cs cs', H'[id]? = some (.cells cs) ∧ Les cs cs' ∧ Post r (H'.set id (.cells cs')))) : ASpec P f args H Post := by
  intro M loc w vs ht hr hv
  refine (h M loc w vs ht hr hv).mono fun e w' hh => ?_
  obtain ⟨v, r, H', M', loc', he, ⟨id, cs, cs', ho, hq, hP⟩, r1, r2, r3⟩ := hh
  have hl := hq.len
  obtain ⟨k1, k2⟩ := r1.respell id (.cells cs) (.cells cs') ho (by intro h; cases h) (by intro h; cases h) (fun hO => by
    obtain ⟨b, vs, T, fr, e1, e2, e3, e4, e5, hs, e6⟩ := hO
    exact ⟨b, vs, T, fr, e1, e2, e3, e4, e5, by omega, fun i hi => hq.get i (by omega) hi _ _ _ _ (e6 i (by omega))⟩)
  exact ⟨v, r, _, M', loc', he, hP, k1, r2.keeps (k2.keeps r1), StepN.trans r3 k2 r3.len⟩

noncomputable abbrev agK (l : List Kd) : AV := .agg (encXd l)
theorem liftK {H : List AObj} {p : Nat} {x x' : List Kd} {f : FuncId} {args args' : List AV} {r0 r' : AV} (hp : H[p]? = some (.cells (encXd x))) (k : ASpec Try.prog f args [.cells (encXd x)] (fun r H' => r = r0 ∧ H' = [.cells (encXd x')]))
    (ha : args.map (AV.ren (callR [p] H.length)) = args') (hr : AV.ren (callR [p] H.length) r0 = r') :
    ASpec Try.prog f args' H (fun r H' => r = r' ∧ H' = H.set p (.cells (encXd x'))) := by
  refine ASpec.subH [p] H _ k args' r' (by simp) rfl ha hr (fun i hi => ?_) ?_
  · match i, hi with
    | 0, _ => exact hp
  · have e : graftH (callR [p] H.length) [p] H [.cells (encXd x')] = H.set p (.cells (encXd x')) ++ [] := rfl
    rw [e, List.append_nil]

/-! ### where a name lies -/
def ixD (s : Nm) : List Kd → Nat → Int
  | [], _ => -1
  | y :: r, i => if y.1.1 = s then i else ixD s r (i + 1)
theorem ix_none {s : Nm} : ∀ {l : List Kd} {i : Nat}, atF s l = none → ixD s l i = -1
  | [], _, _ => rfl
  | y :: r, i, h => by
    simp only [atF] at h
    split at h
    · cases h
    · rename_i hy; simp only [ixD, if_neg hy]; exact ix_none h
theorem ix_some {s : Nm} : ∀ {l : List Kd} {i : Nat} {y : Kd}, atF s l = some y → ∃ j : Nat, ixD s l i = ((i + j : Nat) : Int) ∧ j < l.length ∧ l.getD j noKd = y
  | [], _, _, h => by cases h
  | z :: r, i, y, h => by
    simp only [atF] at h
    split at h
    · rename_i hz; cases h; exact ⟨0, by simp [ixD, hz], by simp, rfl⟩
    · rename_i hz
      obtain ⟨j, h1, h2, h3⟩ := ix_some (i := i + 1) h
      exact ⟨j + 1, by simp only [ixD, if_neg hz]; rw [h1]; congr 1; omega, by simp; omega, by simpa using h3⟩
theorem ix_has (s : Nm) (l : List Kd) : decide (ixD s l 0 ≥ 0) = hasD l s := by
  unfold hasD
  cases h : atF s l with
  | none => rw [ix_none h]; rfl
  | some y => obtain ⟨j, h1, _, _⟩ := ix_some (i := 0) h; rw [h1]; simp

theorem at2 {l : List Kd} {s : Nm} (hl : l.length ≤ lim) {R : Int} : ∀ (m i : Nat), m + i = l.length → ixD s (l.drop i) i = R →
    AWP Try.prog 23 0 c58_2 [(1, .str (B s)), (2, .ptr 0 0), (5, .int .i64 i)] [.cells (encXd l)] (q58_2 0 (PA (.int .i64 R))) := by
  unfold lim at hl
  intro m
  induction m with
  | zero =>
    intro i hm h
    refine v58_2 _ _ _ _ _ (condD (fun hc => by omega) fun _ => ?_)
    rw [List.drop_eq_nil_of_le (by omega)] at h
    subst h
    exact pa (Le.refl _)
  | succ m ih =>
    intro i hm h
    rw [dropD l noKd i (by omega)] at h
    simp only [ixD] at h
    refine v58_2 _ _ _ _ _ (condD (fun hc => needJ ⟨by omega, by omega⟩ ?_) fun hc => by omega)
    rw [Int.toNat_natCast, succ64 (by omega)]
    generalize l.getD i noKd = y at h ⊢
    refine condS (fun h1 => pa ?_) fun h1 => ?_
    · rw [if_pos h1] at h; subst h; exact Le.refl _
    · rw [if_neg h1] at h; exact ih (i + 1) (by omega) h
theorem at_spec (l : List Kd) (s : Nm) (hl : l.length ≤ lim) (H : List AObj) : ASpec Try.prog 58 [agK l, .str (B s)] H (fun r H' => r = .int .i64 (ixD s l 0) ∧ H' = H) := by
  have k : ASpec Try.prog 58 [agK l, .str (B s)] [] (fun r H' => r = .int .i64 (ixD s l 0) ∧ H' = []) :=
    ASpec.sel (s58 _ _ _ (at2 hl l.length 0 (by omega) rfl))
  exact ASpec.pureH H k _ _ rfl rfl
theorem has_spec (l : List Kd) (s : Nm) (hl : l.length ≤ lim) (H : List AObj) : ASpec Try.prog 39 [agK l, .str (B s)] H (fun r H' => r = .bool (hasD l s) ∧ H' = H) := by
  have k : ASpec Try.prog 39 [agK l, .str (B s)] [] (fun r H' => r = .bool (hasD l s) ∧ H' = []) := by
    refine ASpec.sel (s39 _ _ _ (ASpec.call (at_spec l s hl _) (Les.refl _) ⟨_, rfl, rfl, pa ?_⟩))
    rw [ix_has]; exact Le.refl _
  exact ASpec.pureH H k _ _ rfl rfl
/-! ### does it hold? -/
/-! ### names -/
/-! ### Put -/
theorem kdOf_read (s b : Nm) : kdOf s (readK s b) = Dp.readB s b := by
  unfold readK Dp.readB
  split <;> rfl
abbrev P1 (r0 : AV) (x' : List Kd) : AV → List AObj → Prop := fun r H' => ∃ q H2 r2, Sel 1 q H' H2 ∧ Le r (AV.ren (selR q H'.length) r2) ∧ (r2 = r0 ∧ H2 = [.cells (encXd x')])
theorem p1 {x' : List Kd} {r r0 : AV} (q : List AObj) (h : ∀ ρ, Le r (AV.ren ρ r0)) : P1 r0 x' r (.cells (encXd x') :: q) := by
  refine ⟨[0], [.cells (encXd x')], r0, ⟨by decide, rfl, Nat.le_refl _, fun j hj => ?_, fun j hj => ?_⟩, h _, rfl, rfl⟩
  · match j, hj with
    | 0, _ => rfl
  · match j, hj with
    | 0, _ => exact .inl rfl
abbrev PC (r0 : AV) (x' : List Kd) : AV → List AObj → Prop := fun r H' => ∃ id cs cs', H'[id]? = some (.cells cs) ∧ Les cs cs' ∧ P1 r0 x' r (H'.set id (.cells cs'))
theorem pc {x' : List Kd} {r r0 : AV} {cs : List AV} (q : List AObj) (h : Les cs (encXd x')) (h2 : ∀ ρ, Le r (AV.ren ρ r0)) : PC r0 x' r (.cells cs :: q) :=
  ⟨0, cs, encXd x', rfl, h, p1 q h2⟩
theorem put15 {l o R : List Kd} {x : Kd} {b : Bool} (ho : o.length ≤ 10000000) (h : o ++ (if b = true then [] else [x]) = R) :
    AWP Try.prog 83 1 c38_15 [(0, .ptr 0 0), (7, .ptr 1 0), (8, .bool x.2), (9, .sl 3 (.map encKd noKd o) (.tok 2)), (10, .bool b)] [.cells (encXd l), .cells (encM x.1), .tok] (q38_0 1 (PC (.int .i64 0) R)) := by
  refine v38_15 _ _ _ _ _ _ _ (condBn (fun hb => needJ (by omega) ?_) fun hb => ?_)
  · rw [if_neg (by rw [hb]; simp)] at h
    subst h
    exact pc _ ⟨Le.sl (s' := .map encKd noKd (o ++ [x])) (by simp [Ab.Seq.toList]; rfl) (.inl rfl) (.inr rfl), trivial⟩ fun ρ => Le.refl _
  · rw [if_pos hb, List.append_nil] at h
    subst h
    exact pc _ ⟨Le.sl (s' := .map encKd noKd o) rfl (.inl rfl) (.inr rfl), trivial⟩ fun ρ => Le.refl _
theorem put9 {l : List Kd} {x : Kd} (hl : l.length ≤ lim) {R : List Kd} : ∀ (m i : Nat) (o : List Kd) (b : Bool), m + i = l.length → o.length ≤ i + b.toNat → o ++ (if b = true then l.drop i else insK x (l.drop i)) = R →
    AWP Try.prog 83 1 c38_9 [(0, .ptr 0 0), (1, .str (B x.1.1)), (7, .ptr 1 0), (8, .bool x.2), (9, .sl 3 (.map encKd noKd o) (.tok 2)), (10, .bool b), (11, .int .i64 i)] [.cells (encXd l), .cells (encM x.1), .tok] (q38_2 1 (PC (.int .i64 0) R)) := by
  unfold lim at hl
  intro m
  induction m with
  | zero =>
    intro i o b hm ho h
    have hb1 : b.toNat ≤ 1 := by cases b <;> decide
    rw [List.drop_eq_nil_of_le (by omega)] at h
    exact v38_9 _ _ _ _ _ _ _ _ _ (condD (fun hc => by omega) fun _ => put15 (by omega) h)
  | succ m ih =>
    intro i o b hm ho h
    have hb1 : b.toNat ≤ 1 := by cases b <;> decide
    rw [dropD l noKd i (by omega)] at h
    refine v38_9 _ _ _ _ _ _ _ _ _ (condD (fun hc => ?_) fun hc => by omega)
    rw [Int.toNat_natCast, succ64 (by omega)]
    generalize l.getD i noKd = y at h ⊢
    have one : o ++ y :: (if b = true then l.drop (i + 1) else insK x (l.drop (i + 1))) = R →
        AWP Try.prog 83 1 c38_9 [(0, .ptr 0 0), (1, .str (B x.1.1)), (7, .ptr 1 0), (8, .bool x.2), (9, .sl 3 (.app (.map encKd noKd o) (.raw [encKd y])) (.tok 3)), (10, .bool b), (11, .int .i64 (i + 1 : Nat))] [.cells (encXd l), .cells (encM x.1), .gone, .tok] (q38_2 1 (PC (.int .i64 0) R)) := by
      intro h
      refine AWP.shape [0, 1, 3] [(0, .ptr 0 0), (1, .str (B x.1.1)), (7, .ptr 1 0), (8, .bool x.2), (9, .sl 3 (.map encKd noKd (o ++ [y])) (.tok 2)), (10, .bool b), (11, .int .i64 (i + 1 : Nat))] [.cells (encXd l), .cells (encM x.1), .tok] ⟨by decide, rfl, by decide, fun j hj => ?_, fun j hj => ?_⟩
        ⟨rfl, Le.refl _, rfl, Le.refl _, rfl, Le.refl _, rfl, Le.refl _, rfl, leAppE (Les.refl _), rfl, Le.refl _, rfl, Le.refl _, trivial⟩ (ih (i + 1) (o ++ [y]) b (by omega) (by simp; omega) (by rw [← h]; simp))
      · match j, hj with
        | 0, _ => rfl
      · match j, hj with
        | 0, _ | 1, _ | 2, _ => exact .inl rfl
    refine condBn (fun hb => needJ ⟨by omega, by omega⟩ ?_) fun hb => needJ ⟨by omega, by omega⟩ (needJ (by omega) (one (by rw [← h, if_pos hb, if_pos hb])))
    rw [if_neg (by rw [hb]; simp)] at h
    simp only [insK] at h
    rw [B_toList, B_toList]
    refine condB (fun h1 => needJ (by omega) (needJ ⟨by omega, by omega⟩ (needJ (by omega) ?_))) fun h1 => needJ ⟨by omega, by omega⟩ (needJ (by omega) (one (by rw [← h, if_neg (show ¬ Op.bytesLess x.1.1 y.1.1 = true by rw [h1]; simp), if_neg (show ¬ b = true by rw [hb]; simp)])))
    rw [if_pos h1] at h
    refine AWP.shape [0, 1, 4] [(0, .ptr 0 0), (1, .str (B x.1.1)), (7, .ptr 1 0), (8, .bool x.2), (9, .sl 3 (.map encKd noKd ((o ++ [x]) ++ [y])) (.tok 2)), (10, .bool true), (11, .int .i64 (i + 1 : Nat))] [.cells (encXd l), .cells (encM x.1), .tok] ⟨by decide, rfl, by decide, fun j hj => ?_, fun j hj => ?_⟩
        ⟨rfl, Le.refl _, rfl, Le.refl _, rfl, Le.refl _, rfl, Le.refl _, rfl, ?_, rfl, Le.refl _, rfl, Le.refl _, trivial⟩ (ih (i + 1) ((o ++ [x]) ++ [y]) true (by omega) (by rw [hb] at ho; simp at ho ⊢; omega) (by rw [← h, if_pos rfl]; simp))
    · match j, hj with
      | 0, _ => rfl
    · match j, hj with
      | 0, _ | 1, _ | 2, _ => exact .inl rfl
    · have ren : ∀ (ρ : Nat → Nat) (z : Kd), renL ρ (encKd z) = encKd z := fun ρ z => rfl
      exact Le.sl (s' := Seq.ren _ (.map encKd noKd ((o ++ [x]) ++ [y]))) (by simp [Ab.Seq.toList, Seq.ren, ren]; exact ⟨rfl, rfl⟩) (.inl rfl) (.inl rfl)
theorem put0 (l : List Kd) (s b : Nm) (hl : l.length ≤ lim) (hs : s.length ≤ lim) (hb : b.length ≤ 1000000) : ASpec Try.prog 38 [.ptr 0 0, .str (B s), .str (B b)] [.cells (encXd l)] (fun r H' => r = .int .i64 (putKd l s b).1 ∧ H' = [.cells (encXd (putKd l s b).2)]) := by
  have same : ∀ (e : Int), putKd l s b = (e, l) → PC (.int .i64 (putKd l s b).1) (putKd l s b).2 (.int .i64 e) [.cells (encXd l)] := by
    intro e h
    rw [h]
    exact pc [] (Les.refl _) fun ρ => Le.refl _
  refine ASpec.sel (cellEnd (s38 _ _ _ _ ?_))
  refine ASpec.call (rfit_spec (l := s) (by unfold big; unfold lim at hs; omega) _) (Les.refl _) ⟨_, rfl, rfl, condBn (fun h1 => same 1 ?_) fun h1 => ?_⟩
  · rw [putKd, if_pos (.inl h1)]
  rw [B_size]
  refine condD (fun h2 => same 1 ?_) fun h2 => ?_
  · rw [putKd, if_pos (.inr (by omega))]
  refine ASpec.call (has_spec l s hl _) (Les.refl _) ⟨_, rfl, rfl, condB (fun h3 => same 6 ?_) fun h3 => ?_⟩
  · rw [putKd, if_neg (by rw [h1]; simp; omega), if_pos h3]
  have hp : putKd l s b = (0, insK (kdOf s (readK s b)) l) := by rw [putKd, if_neg (by rw [h1]; simp; omega), if_neg (by rw [h3]; simp)]
  rw [hp, kdOf_read]
  have hn : (Dp.readB s b).1.1 = s := by rw [← kdOf_read]; exact kdOf_name s b
  refine ASpec.call (Dp.rread_spec s b hb _) (Les.refl _) ⟨_, rfl, rfl, ?_⟩
  generalize Dp.readB s b = x at hn ⊢
  subst hn
  refine AWP.re (ReSt.tok (k := 9) (q' := .map encKd noKd []) (sz' := 3) (s2 := [(0, .ptr 0 0), (1, .str (B x.1.1)), (7, .ptr 1 0), (8, .bool x.2), (9, .sl 3 (.map encKd noKd []) (.tok 2)), (10, .bool false), (11, .int .i64 (0 : Nat))]) rfl (.inl rfl) rfl (.inr rfl) (fun d hd => ?_) rfl) ?_
  · simp only [Ab.get]
    have e : Nat.beq 9 d = false := by
      cases hx : Nat.beq 9 d with
      | false => rfl
      | true => exact absurd (Nat.eq_of_beq_eq_true hx).symm hd
    rw [e]; rfl
  · exact put9 hl l.length 0 [] false (by omega) (by simp) (by simp)
theorem put_spec {H : List AObj} {p : Nat} (l : List Kd) (hp : H[p]? = some (.cells (encXd l))) (s b : Nm) (hl : l.length ≤ lim) (hs : s.length ≤ lim) (hb : b.length ≤ 1000000) :
    ASpec Try.prog 38 [.ptr p 0, .str (B s), .str (B b)] H (fun r H' => r = .int .i64 (putKd l s b).1 ∧ H' = H.set p (.cells (encXd (putKd l s b).2))) :=
  liftK hp (put0 l s b hl hs hb) rfl rfl

/-! ### Of -/
def ofKd : List Ent → List Kd → List Kd
  | [], l => l
  | e :: r, l => ofKd r (putKd l e.1 e.2).2
def ofI : List Ent → Kn → Kn
  | [], es => es
  | e :: r, es => ofI r (putI es e.1 e.2).2
theorem putKd_len (l : List Kd) (s b : Nm) : (putKd l s b).2.length ≤ l.length + 1 := by
  unfold putKd
  split
  · simp
  · split
    · simp
    · simp [insK_len]
abbrev smE (e : List Ent) : Prop := e.length ≤ 60 ∧ ∀ x ∈ e, x.1.length ≤ 200 ∧ x.2.length ≤ 9000
noncomputable abbrev slE (e : List Ent) : AV := .sl 2 (.map encEn ([], []) e) .none
theorem of3 {e : List Ent} (he : smE e) {R : List Kd} : ∀ (m i : Nat) (l : List Kd), m + i = e.length → l.length ≤ i → ofKd (e.drop i) l = R →
    AWP Try.prog 25 0 c13_3 [(0, slE e), (2, .ptr 0 0), (3, .ptr 1 0), (4, .int .i64 i)] [.cells [.sl 0 (.raw []) .nil], .cells (encXd l)] (q13_2 0 (PA (agK R))) := by
  intro m
  induction m with
  | zero =>
    intro i l hm hl h
    refine v13_3 _ _ _ _ _ (condD (fun hc => by omega) fun _ => pa ?_)
    rw [List.drop_eq_nil_of_le (by omega)] at h
    have h' : l = R := h
    subst h'
    exact Le.refl _
  | succ m ih =>
    intro i l hm hl h
    have h30 := he.1
    have hx := he.2 _ (memD e ([], []) i (by omega))
    rw [dropD e ([], []) i (by omega)] at h
    refine v13_3 _ _ _ _ _ (condD (fun hc => needJ ⟨by omega, by omega⟩ (needJ ⟨by omega, by omega⟩ (needJ (allBytes_map _) ?_))) fun hc => by omega)
    rw [bytesOf_map, Int.toNat_natCast, succ64 (by omega)]
    generalize e.getD i ([], []) = x at h hx ⊢
    simp only [ofKd] at h
    have hlen := putKd_len l x.1 x.2
    exact ASpec.call (put_spec l rfl x.1 x.2 (by unfold lim; omega) (by unfold lim; omega) (by omega)) (Les.refl _) ⟨putKd l x.1 x.2, rfl, rfl, ih (i + 1) _ (by omega) (by omega) h⟩
theorem of_spec (e : List Ent) (he : smE e) (H : List AObj) : ASpec Try.prog 13 [slE e] H (fun r H' => r = agK (ofKd e []) ∧ H' = H) := by
  have k : ASpec Try.prog 13 [slE e] [] (fun r H' => r = agK (ofKd e []) ∧ H' = []) := by
    refine ASpec.sel (s13 _ _ ?_)
    refine AWP.re (ReSt.leCell (id := 1) (cs' := encXd []) rfl ⟨Le.sl rfl (.inr ⟨rfl, fun _ h => by cases h⟩) (.inr rfl), trivial⟩) ?_
    exact of3 he e.length 0 [] (by omega) (by simp) rfl
  exact ASpec.pureH H k _ _ rfl rfl

abbrev PX0 (es : Kn) (r0 : AV) : AV → List AObj → Prop := fun r H' => ∃ l H2 r2, Sel 0 l H' H2 ∧ Le r (AV.ren (selR l H'.length) r2) ∧ (r2 = r0 ∧ H2 = HX es)
theorem selX0 (es : Kn) (q : List AObj) : Sel 0 [0, 1] (HX es ++ q) (HX es) := by
  obtain ⟨h1, h2, h3, h4, h5⟩ := selX es q
  exact ⟨h1, h2, Nat.zero_le _, fun i hi => by omega, h5⟩
theorem xof3 {e : List Ent} (he : smE e) {R : Kn} : ∀ (m i : Nat) (es : Kn), m + i = e.length → ofI (e.drop i) es = R →
    AWP Try.prog 21 0 c12_3 [(3, .ptr 1 0), (7, slE e), (8, .int .i64 e.length), (9, .int .i64 i)] (HX es) (q12_2 0 (PX0 R (.ptr 1 0))) := by
  intro m
  induction m with
  | zero =>
    intro i es hm h
    refine v12_3 _ _ _ _ _ _ (condD (fun hc => by omega) fun _ => ?_)
    rw [List.drop_eq_nil_of_le (by omega)] at h
    have h' : es = R := h
    subst h'
    exact ⟨_, _, _, selX0 es [], Le.refl _, rfl, rfl⟩
  | succ m ih =>
    intro i es hm h
    have h30 := he.1
    have hx := he.2 _ (memD e ([], []) i (by omega))
    rw [dropD e ([], []) i (by omega)] at h
    refine v12_3 _ _ _ _ _ _ (condD (fun hc => needJ ⟨by omega, by omega⟩ ?_) fun hc => by omega)
    rw [Int.toNat_natCast, succ64 (by omega)]
    generalize e.getD i ([], []) = x at h hx ⊢
    simp only [ofI] at h
    refine ASpec.call (X.put_spec es x.1 x.2 (by unfold lim; omega) _ 0 1 (by omega) rfl rfl) (Les.refl _) ⟨putI es x.1 x.2, rfl, rfl, ?_⟩
    refine AWP.shape [0, 1] [(3, .ptr 1 0), (7, slE e), (8, .int .i64 e.length), (9, .int .i64 (i + 1 : Nat))] (HX (putI es x.1 x.2).2) (selX0 _ [_])
      ⟨rfl, Le.refl _, rfl, Le.refl _, rfl, Le.refl _, rfl, Le.refl _, trivial⟩ (ih (i + 1) _ (by omega) h)
theorem xof0 (e : List Ent) (he : smE e) : ASpec Try.prog 12 [slE e] [] (fun r H' => r = .ptr 1 0 ∧ H' = HX (ofI e [])) := by
  refine ASpec.sel (s12 _ _ (ASpec.call (X.new_spec []) (Les.refl _) ⟨(), rfl, rfl, ?_⟩))
  exact xof3 he e.length 0 [] (by omega) rfl
theorem xof_spec (e : List Ent) (he : smE e) (H : List AObj) : ASpec Try.prog 12 [slE e] H (fun r H' => r = .ptr (H.length + 1) 0 ∧ H' = H ++ [.mp (.typed EK (ofI e [])), .cells [.map H.length]]) := by
  refine (ASpec.subH [] H (H ++ [.mp (.typed EK (ofI e [])), .cells [.map H.length]]) (xof0 e he) [slE e] (.ptr (H.length + 1) 0) (by simp) rfl rfl (by simp [AV.ren, callR]) (fun i hi => by cases hi) ?_)
  simp [graftH, grafted, HX, mp_ren]
  simp [AObj.ren, renL, AV.ren, callR]

/-! ### the copy -/
end Xd
end

section
/- What may be needed, of an index: plain laws for reach's statements. -/

set_option linter.unusedVariables false
set_option linter.unusedSimpArgs false
set_option linter.unusedSectionVars false
set_option maxRecDepth 100000
open Go Go.Ab Go.Proofs V S T C
namespace Rc
open Pl (Up up_one tri ltT ltI sort_mem sort_len addM addAll)
open So (sortL)
open X (hasI getM readK putI OkX okX_put okX_nil find_none)
open W (readM)
open Xd (ofI ofKd RelX)
/-- few releases, of few needs -/
def small (m : Mani) : Prop := m.2.length ≤ 8 ∧ ∀ r ∈ m.2, r.2.length ≤ 6
def OkS (es : Kn) : Prop := ∀ p ∈ es, ∀ m, p.2 = some m → small m
theorem set_mem {α : Type} {k : ByteArray} {v : α} : ∀ {l : List (ByteArray × α)} {p : ByteArray × α}, p ∈ setM l k v → p ∈ l ∨ p = (k, v)
  | [], p, h => by simp [setM] at h; exact .inr h
  | q :: l, p, h => by
    simp only [setM] at h
    split at h
    · rcases List.mem_cons.1 h with h | h
      · exact .inr h
      · exact .inl (by simp [h])
    · rcases List.mem_cons.1 h with h | h
      · exact .inl (by simp [h])
      · rcases set_mem h with h | h
        · exact .inl (by simp [h])
        · exact .inr h
theorem find_mem {α : Type} {k : ByteArray} {v : α} : ∀ {l : List (ByteArray × α)}, findM l k = some v → ∃ p ∈ l, p.2 = v
  | [], h => by cases h
  | q :: l, h => by
    simp only [findM] at h
    split at h
    · cases h; exact ⟨q, by simp, rfl⟩
    · obtain ⟨p, h1, h2⟩ := find_mem h; exact ⟨p, by simp [h1], h2⟩

/-! ### all names -/
/-! ### more is known -/
def More (es es2 : Kn) : Prop := ∀ k v, findM es k = some v → findM es2 k = some v
theorem More.refl (es : Kn) : More es es := fun _ _ h => h
theorem More.trans {a b c : Kn} (h : More a b) (k : More b c) : More a c := fun x v e => k x v (h x v e)
theorem more_put (es : Kn) (k bs : Nm) : More es (putI es k bs).2 := by
  unfold putI
  split
  · exact .refl _
  · split
    · exact .refl _
    · rename_i h
      intro x v e
      rw [findM_set]
      split
      · rename_i hx
        subst hx
        rw [find_none (by simpa using h)] at e
        cases e
      · exact e
theorem more_of : ∀ (l : List Ent) (es : Kn), More es (ofI l es)
  | [], es => .refl _
  | e :: l, es => (more_put es e.1 e.2).trans (more_of l _)
theorem more_get {es es2 : Kn} (h : More es es2) {x : Nm} (hx : hasI es x = true) : getM es2 x = getM es x := by
  unfold hasI at hx
  cases hf : findM es (B x) with
  | none => rw [hf] at hx; cases hx
  | some v => unfold getM; rw [hf, h _ _ hf]
/-! ### nothing is known -/
/-! ### one more name -/
end Rc
end

section
/- What may be needed, by the document: Add, Names, reach's Names and Missing, and the law's own look. -/

set_option linter.unusedVariables false
set_option linter.unusedSimpArgs false
set_option linter.unusedSectionVars false
set_option maxRecDepth 100000
open Go Go.Ab Go.Proofs V S T C
namespace Rr
open Pl (Up up_one addM addAll)
open W (sl1 slS slN slR)
open X (hasI getM OkX mp_ren PA pa)
open Xd (hasD getKd agK)
open Rc (Nm slL slLle nilLle slotsR selN small mnM allN sub_len)
/-! ### Add -/
/-! ### a manifest's names -/
section
variable {m : Mani}
end
/-! ### again and again -/
section
variable {l : List Kd} (hl : l.length ≤ lim) (hsm : ∀ x, small (getKd l x).1) {U : List Nm} (hU : ∀ x, ∀ y ∈ mnM (getKd l x).1, y ∈ U) (hUl : U.length ≤ 100000)
end

/-! ### what is missing -/
/-! ### is it asked? -/
section
variable {es : Kn} (hes : OkX es) (hsm : ∀ x, small (getM es x).1) {k : Nm}
end
end Rr
end

section
/- The laws ReachTells and ReachGrows: each returns true. -/

set_option linter.unusedVariables false
set_option linter.unusedSimpArgs false
set_option linter.unusedSectionVars false
set_option maxRecDepth 100000
open Go Go.Ab Go.Proofs V S T C
namespace Rr
open Pl (Up up_one addM addAll)
open W (sl1 slS slN slR)
open X (hasI getM putI OkX mp_ren PA pa okX_nil okX_put largeD_spec largeD_ok largeD)
open Xd (hasD getKd agK ofI ofKd RelX putKd putKd_len slE smE)
open Rc (Nm slL slLle nilLle slotsR selN small mnM allN sub_len OkS gX sel2 More)
/-! ### the index of entries -/
theorem okX_of : ∀ (e : List Ent) (es : Kn), OkX es → OkX (ofI e es)
  | [], _, h => h
  | x :: e, es, h => okX_of e _ (okX_put h)
/-! ### values, at any place -/
section
variable {es : Kn} (hes : OkX es) (hS : OkS es) (hl : es.length ≤ 100) {root : List Need} (hr : root.length ≤ 1000)
include hes hS hl hr
end

/-! ### the example -/
/-! ### ReachTells -/
section
variable {e : List Ent} {root : List Need} (he : e.length ≤ 30 ∧ ∀ x ∈ e, x.1.length ≤ 200 ∧ x.2.length ≤ 9000) (hr : root.length ≤ 40) (hc : needOk root = true)
include he hr hc
end
end Rr
end

section
/- Names of lists, by their places: the program's way (a range over a function), and the document's. -/

set_option linter.unusedVariables false
set_option linter.unusedSimpArgs false
set_option linter.unusedSectionVars false
set_option maxRecDepth 100000
open Go Go.Ab Go.Proofs V S T C
namespace Wn
open W (sl1 slS slN slR)
open X (PA pa)
open Rc (Nm slL slLle nilLle slotsR selN noteM)
noncomputable abbrev slV (v : List (List Nm)) : AV := .sl 1 (.map encLs [] v) .none
noncomputable abbrev tkC (t : List Nm) (k : Nat) : AObj := .cells [.sl 1 (.map encL [] t) (.tok k)]
/-! ### plain -/
/-! ### is it there? -/
theorem ix2 {o : List Nm} {s : Nm} (hl : o.length ≤ 1000000) {Post : AV → List AObj → Prop} (hp : ∀ x : Int, (decide (x ≥ 0) = decide (s ∈ o)) → Post (.int .i64 x) []) : ∀ (m i : Nat), m + i = o.length → (s ∈ o ↔ s ∈ o.drop i) →
    AWP Try.prog 19 0 c66_2 [(0, slL o), (1, .str (B s)), (7, .int .i64 o.length), (8, .int .i64 i)] [] (q66_2 0 Post) := by
  intro m
  induction m with
  | zero =>
    intro i hm h
    rw [List.drop_eq_nil_of_le (by omega)] at h
    have h2 : ¬ s ∈ o := fun hs => by have := h.1 hs; cases this
    refine v66_2 _ _ _ _ _ _ (condD (fun hc => by omega) fun _ => hp _ ?_)
    rw [decide_eq_false h2]; rfl
  | succ m ih =>
    intro i hm h
    have hmem := memD o [] i (by omega)
    rw [dropD o [] i (by omega)] at h
    refine v66_2 _ _ _ _ _ _ (condD (fun hc => needJ ⟨by omega, by omega⟩ ?_) fun hc => by omega)
    rw [Int.toNat_natCast, succ64 (by omega)]
    generalize o.getD i [] = y at h hmem ⊢
    rw [B_toList, B_toList]
    refine condB (fun he => hp _ ?_) fun he => ih (i + 1) (by omega) ?_
    · have : s = y := beq_iff_eq.1 he
      subst this
      rw [decide_eq_true hmem]
      exact decide_eq_true (by omega)
    · have hne : ¬ s = y := beq_eq_false_iff_ne.1 he
      rw [h]; simp [hne]
theorem in_spec (o : List Nm) (s : Nm) (hl : o.length ≤ 1000000) (H : List AObj) : ASpec Try.prog 50 [slL o, .str (B s)] H (fun r H' => r = .bool (decide (s ∈ o)) ∧ H' = H) := by
  have k : ASpec Try.prog 50 [slL o, .str (B s)] [] (fun r H' => r = .bool (decide (s ∈ o)) ∧ H' = []) := by
    refine s50 _ _ _ (s66 _ _ _ (ix2 hl (fun x hx => ?_) o.length 0 (by omega) (by simp)))
    refine ⟨x, rfl, rfl, ?_, rfl⟩
    rw [hx]
  exact ASpec.pureH H k _ _ rfl rfl

/-! ### the round -/
theorem yCellEnd {P : Program} {H : List AObj} {id : Nat} {args : List AV} {Post : AV → List AObj → Prop}
    (h : AYield P id args H (fun r H' => ∃ id cs cs', H'[id]? = some (.cells cs) ∧ Les cs cs' ∧ Post r (H'.set id (.cells cs')))) : AYield P id args H Post := by
  intro M loc w vs b ht hr hv hl
  obtain ⟨f, tmps, asg, body, h1, h2⟩ := h M loc w vs b ht hr hv hl
  refine ⟨f, tmps, asg, body, h1, h2.mono fun e w' hh => ?_⟩
  obtain ⟨v, r, H', M', loc', he, ⟨id, cs, cs', ho, hq, hP⟩, r1, r2, r3⟩ := hh
  have hl := hq.len
  obtain ⟨k1, k2⟩ := r1.respell id (.cells cs) (.cells cs') ho (by intro h; cases h) (by intro h; cases h) (fun hO => by
    obtain ⟨b, vs, T, fr, e1, e2, e3, e4, e5, hs, e6⟩ := hO
    exact ⟨b, vs, T, fr, e1, e2, e3, e4, e5, by omega, fun i hi => hq.get i (by omega) hi _ _ _ _ (e6 i (by omega))⟩)
  exact ⟨v, r, _, M', loc', he, hP, k1, r2.keeps (k2.keeps r1), StepN.trans r3 k2 r3.len⟩
noncomputable abbrev LP : AObj := .lp 17 [(3, .ptr 0 0), (7, .bad)] [7] c27_4a c27_4 .ready
noncomputable abbrev LPB : AObj := .lp 17 [(3, .ptr 0 0), (7, .bad)] [7] c27_4a c27_4 .busy
noncomputable abbrev HV (v : List (List Nm)) (o : List Nm) : List AObj := [tkC o 3, .cells [slV v], LP, .tok]
noncomputable abbrev HV4 (v : List (List Nm)) (o : List Nm) : List AObj := [tkC o 4, .cells [slV v], LP, .gone, .tok]
theorem round {v : List (List Nm)} {o : List Nm} {s : Nm} (ho : o.length ≤ 1000000) {Post : AV → List AObj → Prop} (h1 : s ∈ o → Post (.bool true) (HV v o)) (h2 : s ∉ o → Post (.bool true) (HV4 v (o ++ [s]))) :
    AYield Try.prog 2 [.str (B s)] (HV v o) Post := by
  refine yCellEnd (AYield.of (N := 17) [3, 7] rfl rfl rfl ?_)
  refine v27_4 v o s LP LPB 4 (fun _ _ => True) _ (needJ rfl ?_)
  refine ASpec.call (in_spec o s ho _) ⟨slLle id _ _, Le.refl _, trivial⟩ ⟨_, rfl, rfl, condBn (fun h => needJ (by omega) ⟨rfl, ?_⟩) fun h => ⟨rfl, ?_⟩⟩
  · exact ⟨0, _, [.sl 1 (.map encL [] (o ++ [s])) (.tok 4)], rfl, ⟨leAppE (Les.refl _), trivial⟩, h2 (of_decide_eq_false h)⟩
  · exact ⟨0, _, [.sl 1 (.map encL [] o) (.tok 3)], rfl, Les.refl _, h1 (of_decide_eq_true h)⟩

/-! ### the columns -/
/-! ### the document's -/
end Wn
end

section
/- What picks need: names visited one by one, and names by rounds. Plain laws. -/

set_option linter.unusedVariables false
set_option linter.unusedSectionVars false
set_option linter.unusedSimpArgs false
open Go Go.Ab Go.Proofs
namespace Ft
open Pl (Up up_one sort_mem addAll)
open Rc (RS rs_least rs_bound rs_len sort_one)
open So (sortL)
abbrev Nm := List UInt8

def visL (g : Nm → List Nm) (v : List Nm → List Nm → List Nm) : List Nm → List Nm → List Nm
  | [], o => o
  | n :: r, o => visL g v r (if n ∈ o then o else v (g n) (o ++ [n]))
/-- a name, then what it needs, each once -/
def visitF (g : Nm → List Nm) : Nat → List Nm → List Nm → List Nm
  | 0, _, o => o
  | f + 1, l, o => visL g (visitF g f) l o
section
variable (g : Nm → List Nm)
theorem rs_mono {a b : List Nm} (h : ∀ x ∈ a, RS g b x) {x : Nm} (hx : RS g a x) : RS g b x := by
  induction hx with
  | base hx => exact h _ hx
  | step _ hy ih => exact .step ih hy

/-- what a visit does -/
structure Did (l o o' : List Nm) : Prop where
  nd : o'.Nodup
  sub : ∀ x ∈ o, x ∈ o'
  all : ∀ x ∈ l, x ∈ o'
  mem : ∀ x ∈ o', x ∈ o ∨ RS g l x
  cl : ∀ x ∈ o', x ∈ o ∨ ∀ y ∈ g x, y ∈ o'
theorem did_nil {o : List Nm} (h : o.Nodup) : Did g [] o o := ⟨h, fun _ h => h, by simp, fun _ h => .inl h, fun _ h => .inl h⟩
theorem did_cons {n : Nm} {r o o1 o' : List Nm} (h1 : Did g [n] o o1) (h2 : Did g r o1 o') : Did g (n :: r) o o' := by
  refine ⟨h2.nd, fun x hx => h2.sub x (h1.sub x hx), fun x hx => ?_, fun x hx => ?_, fun x hx => ?_⟩
  · rcases List.mem_cons.1 hx with rfl | hx
    · exact h2.sub _ (h1.all _ (by simp))
    · exact h2.all x hx
  · rcases h2.mem x hx with hx | hx
    · rcases h1.mem x hx with hx | hx
      · exact .inl hx
      · exact .inr (rs_mono g (fun z hz => .base (by simp at hz; simp [hz])) hx)
    · exact .inr (rs_mono g (fun z hz => .base (by simp [hz])) hx)
  · rcases h2.cl x hx with hx | hx
    · rcases h1.cl x hx with hx | hx
      · exact .inl hx
      · exact .inr fun y hy => h2.sub y (hx y hy)
    · exact .inr hx
theorem did_had {n : Nm} {o : List Nm} (ho : o.Nodup) (h : n ∈ o) : Did g [n] o o :=
  ⟨ho, fun _ h => h, fun x hx => by simp at hx; subst hx; exact h, fun _ h => .inl h, fun _ h => .inl h⟩
theorem did_new {n : Nm} {o o1 : List Nm} (h : Did g (g n) (o ++ [n]) o1) : Did g [n] o o1 := by
  have hn : n ∈ o1 := h.sub n (by simp)
  refine ⟨h.nd, fun x hx => h.sub x (by simp [hx]), fun x hx => by simp at hx; subst hx; exact hn, fun x hx => ?_, fun x hx => ?_⟩
  · rcases h.mem x hx with hx | hx
    · rcases List.mem_append.1 hx with hx | hx
      · exact .inl hx
      · simp at hx; subst hx; exact .inr (.base (by simp))
    · exact .inr (rs_mono g (fun z hz => .step (.base (by simp)) hz) hx)
  · rcases h.cl x hx with hx | hx
    · rcases List.mem_append.1 hx with hx | hx
      · exact .inl hx
      · simp at hx; subst hx; exact .inr fun y hy => h.all y hy
    · exact .inr hx

variable {root U : List Nm} (hU1 : ∀ x ∈ root, x ∈ U) (hU2 : ∀ x, ∀ y ∈ g x, y ∈ U)
include hU1 hU2
theorem nd_add {n : Nm} {o : List Nm} (ho : o.Nodup) (h : n ∉ o) : (o ++ [n]).Nodup := by
  rw [List.nodup_append]
  refine ⟨ho, by simp, fun a ha b hb => ?_⟩
  simp at hb; subst hb
  rintro rfl
  exact h ha
theorem visL_did {f : Nat} (ih : ∀ l o, o.Nodup → (∀ x ∈ o, RS g root x) → (∀ x ∈ l, RS g root x) → U.length < o.length + f → Did g l o (visitF g f l o)) :
    ∀ (l o : List Nm), o.Nodup → (∀ x ∈ o, RS g root x) → (∀ x ∈ l, RS g root x) → U.length < o.length + f + 1 → Did g l o (visL g (visitF g f) l o)
  | [], o, hn, ho, hl, hf => did_nil g hn
  | n :: r, o, hn, ho, hl, hf => by
    simp only [visL]
    have h1 : Did g [n] o (if n ∈ o then o else visitF g f (g n) (o ++ [n])) := by
      split
      · rename_i h; exact did_had g hn h
      · rename_i h
        refine did_new g (ih _ _ (nd_add g hU1 hU2 hn h) (fun x hx => ?_) (fun x hx => .step (hl n (by simp)) hx) (by simp; omega))
        rcases List.mem_append.1 hx with hx | hx
        · exact ho x hx
        · simp at hx; subst hx; exact hl _ (by simp)
    generalize (if n ∈ o then o else visitF g f (g n) (o ++ [n])) = o1 at h1
    have hlen := Rc.sub_len hn h1.sub
    refine did_cons g h1 (visL_did ih r o1 h1.nd (fun x hx => ?_) (fun x hx => hl x (by simp [hx])) (by omega))
    rcases h1.mem x hx with hx | hx
    · exact ho x hx
    · exact rs_mono g (fun z hz => by simp at hz; subst hz; exact hl _ (by simp)) hx
theorem visit_did : ∀ (f : Nat) (l o : List Nm), o.Nodup → (∀ x ∈ o, RS g root x) → (∀ x ∈ l, RS g root x) → U.length < o.length + f → Did g l o (visitF g f l o)
  | 0, l, o, hn, ho, hl, hf => by
    have := rs_len g hU1 hU2 hn ho
    omega
  | f + 1, l, o, hn, ho, hl, hf => visL_did g hU1 hU2 (visit_did f) l o hn ho hl (by omega)
theorem visit_spec {f : Nat} (hf : U.length < f) : (visitF g f root []).Nodup ∧ ∀ x, x ∈ visitF g f root [] ↔ RS g root x := by
  have h := visit_did g hU1 hU2 f root [] List.nodup_nil (by simp) (fun x hx => .base hx) (by simpa using hf)
  refine ⟨h.nd, fun x => ⟨fun hx => ?_, fun hx => rs_least g h.all (fun z hz y hy => ?_) hx⟩⟩
  · rcases h.mem x hx with hx | hx
    · simp at hx
    · exact hx
  · rcases h.cl z hz with hz | hz
    · simp at hz
    · exact hz y hy
end

/-! ### by rounds -/
section
variable (g : Nm → List Nm)
variable {root P : List Nm} (hP : ∀ x, x ∉ P → g x = [])
include hP
end
end Ft
end

section
/- fit: what each rule asks, by the program. -/

set_option linter.unusedVariables false
set_option linter.unusedSimpArgs false
set_option linter.unusedSectionVars false
set_option maxRecDepth 100000
open Go Go.Ab Go.Proofs V S T C
namespace Ft
open W (sl1 slS slN slR)
open X (hasI getM OkX mp_ren)
open Pc (slK slKLe)
open Dk (Nm chkF chk_spec getP get_spec)
open E (PA pa)
/-! ### a heap that stays as it is -/
theorem grafted_same {ρ : Nat → Nat} : ∀ (l : List Nat) (Hl H : List AObj), l.length = Hl.length → (∀ i (h : i < Hl.length), H[l.getD i 0]? = some (AObj.ren ρ Hl[i])) → grafted ρ l Hl H = H
  | [], [], H, _, _ => rfl
  | i :: l, o :: Hl, H, hl, h => by
    have h0 := h 0 (by simp)
    simp only [List.getD_cons_zero, List.getElem_cons_zero] at h0
    have e : H.set i (AObj.ren ρ o) = H := set_same h0
    simp only [grafted]
    rw [e]
    exact grafted_same l Hl H (by simpa using hl) fun k hk => by
      have := h (k + 1) (by simp; omega)
      simpa using this
theorem same {f : FuncId} {args args' : List AV} {r0 r' : AV} {Hl : List AObj} (l : List Nat) (H : List AObj) (k : ASpec Try.prog f args Hl (fun r H' => r = r0 ∧ H' = Hl))
    (hnd : l.Nodup) (hlen : l.length = Hl.length) (ha : args.map (AV.ren (callR l H.length)) = args') (hr : AV.ren (callR l H.length) r0 = r')
    (hobj : ∀ i (h : i < Hl.length), H[l.getD i 0]? = some (AObj.ren (callR l H.length) Hl[i])) : ASpec Try.prog f args' H (fun r H' => r = r' ∧ H' = H) :=
  ASpec.subH l H H k args' r' hnd hlen ha hr hobj (by
    unfold graftH
    rw [hlen, List.drop_length, List.map_nil, List.append_nil]
    exact grafted_same l Hl H hlen hobj)

/-! ### a release of a manifest -/
def lowR (v : Int) : List Rel → Nat
  | [] => 0
  | x :: r => if x.1 < v then 1 + lowR v r else 0
def relM (m : Mani) (v : Int) : Rel × Bool :=
  if v < 0 ∨ 1000000000 ≤ v then ((0, []), false) else if lowR v m.2 < m.2.length ∧ (m.2.getD (lowR v m.2) (0, [])).1 = v then (m.2.getD (lowR v m.2) (0, []), true) else ((0, []), false)
theorem lowR_le (v : Int) : ∀ l : List Rel, lowR v l ≤ l.length
  | [] => Nat.le_refl _
  | x :: r => by
    have := lowR_le v r
    simp only [lowR]
    split <;> simp <;> omega
theorem lowR_lt (v : Int) : ∀ (l : List Rel) (i : Nat), i < lowR v l → (l.getD i (0, [])).1 < v
  | [], i, h => by simp [lowR] at h
  | x :: r, i, h => by
    simp only [lowR] at h
    split at h
    · cases i with
      | zero => simpa
      | succ i => simpa using lowR_lt v r i (by omega)
    · omega
/-- releases that rise -/
structure Rise (l : List Rel) : Prop where
  low : ∀ r ∈ l, 0 ≤ r.1 ∧ r.1 < 1000000000
  up : l.Pairwise fun a b => a.1 < b.1
theorem lowR_ge (v : Int) : ∀ (l : List Rel), l.Pairwise (fun a b => a.1 < b.1) → ∀ i, lowR v l ≤ i → i < l.length → v ≤ (l.getD i (0, [])).1
  | [], _, i, _, hi => by simp at hi
  | x :: r, hu, i, h, hi => by
    rw [List.pairwise_cons] at hu
    simp only [lowR] at h
    split at h
    · cases i with
      | zero => omega
      | succ i => simpa using lowR_ge v r hu.2 i (by omega) (by simpa using hi)
    · rename_i hx
      cases i with
      | zero => simpa using (by omega : v ≤ x.1)
      | succ i =>
        have hm := hu.1 _ (memD r (0, []) i (by simpa using hi))
        simp only [List.getD_cons_succ]
        omega
theorem cmp_spec (x : Rel) (v : Int) (h1 : 0 ≤ x.1 ∧ x.1 < 1000000000) (h2 : 0 ≤ v ∧ v < 1000000000) (H : List AObj) : ASpec Try.prog 131 [.agg (T.encR x), .int .i64 v] H (fun r H' => r = .int .i64 (x.1 - v) ∧ H' = H) := by
  have k : ASpec Try.prog 131 [.agg (T.encR x), .int .i64 v] [] (fun r H' => r = .int .i64 (x.1 - v) ∧ H' = []) := by
    refine ASpec.sel (s131 _ _ _ (pa ?_))
    rw [wrap64 (by omega) (by omega)]; exact Le.refl _
  exact ASpec.pureH H k _ _ rfl rfl
theorem bsr3 {l : List Rel} {v : Int} (hs : Rise l) (hl : l.length ≤ lim) (hv : 0 ≤ v ∧ v < 1000000000) : ∀ (m i j : Nat), j - i ≤ m → i ≤ lowR v l → lowR v l ≤ j → j ≤ l.length →
    AWP Try.prog 49 0 c130_3 [(0, slR l), (1, .int .i64 v), (2, .fn 131 []), (8, .int .i64 l.length), (9, .int .i64 i), (10, .int .i64 j)] []
      (q130_2 0 (PA (.tup [.int .i64 (lowR v l : Nat), .bool (decide (lowR v l < l.length ∧ (l.getD (lowR v l) (0, [])).1 = v))]))) := by
  unfold lim at hl
  have hel : ∀ i, i < l.length → 0 ≤ (l.getD i (0, [])).1 ∧ (l.getD i (0, [])).1 < 1000000000 := fun i hi => hs.low _ (memD l (0, []) i hi)
  have done : ∀ i : Nat, i = lowR v l → condP (decide ((i : Int) < (l.length : Int))) (needP (0 ≤ (i : Int) ∧ (i : Int) < (l.length : Int)) (ASpec Try.prog 131 [.agg (T.encR (l.getD (i : Int).toNat (0, []))), .int .i64 v] []
      (fun r H' => ∃ x : Int, r = .int .i64 x ∧ H' = [] ∧ PA (.tup [.int .i64 (lowR v l : Nat), .bool (decide (lowR v l < l.length ∧ (l.getD (lowR v l) (0, [])).1 = v))]) (.tup [.int .i64 i, .bool (x == 0)]) [])))
      (PA (.tup [.int .i64 (lowR v l : Nat), .bool (decide (lowR v l < l.length ∧ (l.getD (lowR v l) (0, [])).1 = v))]) (.tup [.int .i64 i, .bool false]) []) := by
    rintro i rfl
    refine condD (fun h => needJ ⟨by omega, h⟩ ?_) fun h => pa ?_
    · rw [Int.toNat_natCast]
      refine ASpec.call (cmp_spec _ v (hel _ (by omega)) hv _) (Les.refl _) ⟨_, rfl, rfl, pa ?_⟩
      have e : ((l.getD (lowR v l) (0, [])).1 - v == 0) = decide (lowR v l < l.length ∧ (l.getD (lowR v l) (0, [])).1 = v) := by
        rw [Bool.eq_iff_iff, beq_iff_eq, decide_eq_true_eq]
        constructor
        · intro h2; exact ⟨by omega, by omega⟩
        · intro h2; omega
      rw [e]; exact Le.refl _
    · rw [decide_eq_false (show ¬ (lowR v l < l.length ∧ (l.getD (lowR v l) (0, [])).1 = v) from fun h2 => h (by omega))]; exact Le.refl _
  intro m
  induction m with
  | zero =>
    intro i j h1 h2 h3 h4
    exact v130_3 _ _ _ _ _ _ _ (condD (fun hc => by omega) fun _ => done i (by omega))
  | succ m ih =>
    intro i j h1 h2 h3 h4
    refine v130_3 _ _ _ _ _ _ _ (condD (fun hc => needJ (by omega) ?_) fun _ => done i (by omega))
    rw [Sg.mid64 (by omega)]
    have hm1 : i ≤ (i + j) / 2 := by omega
    have hm2 : (i + j) / 2 < j := by omega
    refine needJ ⟨by omega, by omega⟩ ?_
    generalize (i + j) / 2 = h at hm1 hm2 ⊢
    rw [Int.toNat_natCast]
    refine ASpec.call (cmp_spec _ v (hel h (by omega)) hv _) (Les.refl _) ⟨_, rfl, rfl, condD (fun hc => ?_) fun hc => ?_⟩
    · rw [Sg.suc64 (by omega)]
      refine ih (h + 1) j (by omega) ?_ h3 h4
      rcases Nat.lt_or_ge h (lowR v l) with hk | hk
      · omega
      · have := lowR_ge v l hs.up h hk (by omega); omega
    · refine ih i h (by omega) h2 ?_ (by omega)
      rcases Nat.lt_or_ge h (lowR v l) with hk | hk
      · have := lowR_lt v l h hk; omega
      · exact hk
theorem leRel0 : Le (.agg [.int .i64 0, .sl 0 (.raw []) .nil]) (.agg (T.encR (0, []))) := Le.agg ⟨Le.refl _, Le.sl rfl (.inr ⟨rfl, fun _ h => by cases h⟩) (.inr rfl), trivial⟩
theorem rel_spec (m : Mani) (v : Int) (hs : Rise m.2) (hl : m.2.length ≤ lim) (hn : ∀ r ∈ m.2, okN r.2) (H : List AObj) :
    ASpec Try.prog 73 [.agg (encM m), .int .i64 v] H (fun r H' => r = .tup [.agg (T.encR (relM m v).1), .bool (relM m v).2] ∧ H' = H) := by
  have k : ASpec Try.prog 73 [.agg (encM m), .int .i64 v] [] (fun r H' => r = .tup [.agg (T.encR (relM m v).1), .bool (relM m v).2] ∧ H' = []) := by
    have z : ∀ {H'}, relM m v = ((0, []), false) → PA (.tup [.agg (T.encR (relM m v).1), .bool (relM m v).2]) (.tup [.agg [.int .i64 0, .sl 0 (.raw []) .nil], .bool false]) H' := fun e => by
      rw [e]; exact pa (Le.tup ⟨leRel0, Le.refl _, trivial⟩)
    refine ASpec.sel (s73 m v (PA (.tup [.agg (T.encR (relM m v).1), .bool (relM m v).2])) (condD (fun h => z ?_) fun h => condD (fun h2 => z ?_) fun h2 => ?_))
    · unfold relM; rw [if_pos (by omega)]
    · unfold relM; rw [if_pos (by omega)]
    · have hv : 0 ≤ v ∧ v < 1000000000 := by omega
      have k3 : ASpec Try.prog 130 [slR m.2, .int .i64 v, .fn 131 []] [] (fun r H' => r = .tup [.int .i64 (lowR v m.2 : Nat), .bool (decide (lowR v m.2 < m.2.length ∧ (m.2.getD (lowR v m.2) (0, [])).1 = v))] ∧ H' = []) :=
        ASpec.sel (s130 _ _ _ (bsr3 hs hl hv m.2.length 0 m.2.length (by omega) (by omega) (lowR_le v m.2) (by omega)))
      have k2 : ASpec Try.prog 108 [.agg (encM m), .int .i64 v] [] (fun r H' => r = .tup [.int .i64 (lowR v m.2 : Nat), .bool (decide (lowR v m.2 < m.2.length ∧ (m.2.getD (lowR v m.2) (0, [])).1 = v))] ∧ H' = []) :=
        ASpec.sel (s108 m v _ (ASpec.call (ASpec.pureH _ k3 _ _ rfl rfl) (Les.refl _) ⟨(((lowR v m.2 : Nat) : Int), _), rfl, rfl, pa (Le.refl _)⟩))
      refine ASpec.call (ASpec.pureH _ k2 _ _ rfl rfl) (Les.refl _) ⟨(((lowR v m.2 : Nat) : Int), _), rfl, rfl, condBn (fun hf => z ?_) fun hf => ?_⟩
      · have hf := of_decide_eq_false hf
        unfold relM; rw [if_neg (by omega), if_neg hf]
      · have hf := of_decide_eq_true hf
        refine needJ ⟨by omega, by show ((lowR v m.2 : Nat) : Int) < _; omega⟩ ?_
        show ASpec Try.prog 76 [.agg (T.encR (m.2.getD ((lowR v m.2 : Nat) : Int).toNat (0, [])))] _ _
        rw [Int.toNat_natCast]
        refine ASpec.call (X.cloneR_spec _ (hn _ (memD m.2 (0, []) _ hf.1)) _) (Les.refl _) ⟨m.2.getD (lowR v m.2) (0, []), rfl, rfl, ?_⟩
        have e : relM m v = (m.2.getD (lowR v m.2) (0, []), true) := by unfold relM; rw [if_neg (by omega), if_pos hf]
        rw [e]; exact pa (Le.refl _)
  exact ASpec.pureH H k _ _ rfl rfl
end Ft
end

section
/- fit: the rules of a solution, by the program. -/

set_option linter.unusedVariables false
set_option linter.unusedSimpArgs false
set_option linter.unusedSectionVars false
set_option maxRecDepth 100000
open Go Go.Ab Go.Proofs V S T C
namespace Ft
open W (sl1 slS slN slR leNone renN renS readM)
open X (hasI getM putI OkX mp_ren)
open Pc (slK slKLe)
open Dk (Nm chkF chk_spec getP get_spec)
open E (PA pa)
open Sp (hasS)
/-! ### manifests that may be -/
def OkG (es : Kn) : Prop := ∀ p ∈ es, ∀ m, p.2 = some m → manOk m = true
theorem read_man {bs : Nm} (h : (readM bs).2 = 0) : manOk (readM bs).1 = true := by
  unfold readM at h ⊢
  split at h
  · cases h
  · rename_i hb
    rw [if_neg hb]
    unfold W.endM at h ⊢
    split at h
    · rename_i hc; exact (hc h).elim
    · rename_i hc
      split at h
      · rename_i hm
        rw [if_neg hc, if_pos hm]
        exact hm
      · cases h
theorem okG_nil : OkG [] := fun p h => by cases h
theorem okG_put {es : Kn} {k bs : Nm} (h : OkG es) : OkG (putI es k bs).2 := by
  unfold putI
  split
  · exact h
  · split
    · exact h
    · intro p hp m hm
      rcases Rc.set_mem hp with hp | rfl
      · exact h p hp m hm
      · unfold X.readK at hm
        split at hm
        · cases hm
        · rename_i hc
          simp only [Option.some.injEq] at hm
          subst hm
          exact read_man (by
            by_cases h0 : (readM bs).2 = 0
            · exact h0
            · exact (hc (.inl h0)).elim)
theorem rel_low : ∀ {l : List Rel} {e : Int}, relF e l = true → -1 ≤ e → (∀ r ∈ l, e < r.1 ∧ r.1 < 1000000000 ∧ needOk r.2 = true) ∧ l.Pairwise fun a b => a.1 < b.1
  | [], _, _, _ => ⟨by simp, List.Pairwise.nil⟩
  | x :: l, e, h, he => by
    simp only [relF] at h
    split at h
    · cases h
    · rename_i hn
      have h1 : e < x.1 := by omega
      have h2 : x.1 < 1000000000 := by omega
      have h3 : needOk x.2 = true := by
        cases hb : needOk x.2 with
        | true => rfl
        | false => exact (hn (.inr (.inr hb))).elim
      obtain ⟨r1, r2⟩ := rel_low h (by omega)
      refine ⟨fun r hr => ?_, List.pairwise_cons.2 ⟨fun y hy => (r1 y hy).1, r2⟩⟩
      rcases List.mem_cons.1 hr with rfl | hr
      · exact ⟨h1, h2, h3⟩
      · have := r1 r hr
        exact ⟨by omega, this.2⟩
theorem needs_ok : ∀ {l : List Need} {last : Nm}, needsF last l = true → ∀ n ∈ l, fitM n.1 = true ∧ Sg.ok n.2
  | [], _, _, n, hn => by simp at hn
  | x :: l, last, h, n, hn => by
    simp only [needsF] at h
    split at h
    · cases h
    · rename_i hx
      rcases List.mem_cons.1 hn with rfl | hn
      · refine ⟨?_, ?_⟩
        · cases hb : fitM n.1 with
          | true => rfl
          | false => exact (hx (.inl hb)).elim
        · show chkS (-1) n.2 = true
          cases hb : chkS (-1) n.2 with
          | true => rfl
          | false => exact (hx (.inr (.inr (.inr hb)))).elim
      · exact needs_ok h n hn
/-- needs that may be -/
def NsOk (l : List Need) : Prop := ∀ n ∈ l, fitM n.1 = true ∧ Sg.ok n.2
theorem ns_of {l : List Need} (h : needOk l = true) : NsOk l ∧ l.length ≤ 6 := by
  unfold needOk at h
  rw [Bool.and_eq_true] at h
  exact ⟨needs_ok h.1, of_decide_eq_true h.2⟩
theorem man_rise {m : Mani} (h : manOk m = true) : Rise m.2 ∧ ∀ r ∈ m.2, NsOk r.2 ∧ r.2.length ≤ 6 := by
  unfold manOk at h
  rw [Bool.and_eq_true] at h
  obtain ⟨h1, h2⟩ := rel_low h.1 (by omega)
  exact ⟨⟨fun r hr => by have := h1 r hr; omega, h2⟩, fun r hr => ns_of (h1 r hr).2.2⟩
theorem get_cases {es : Kn} (hg : OkG es) (k : Nm) : (getM es k).1.2 = [] ∨ manOk (getM es k).1 = true := by
  unfold getM
  split
  · rename_i m hm
    obtain ⟨p, hp, e⟩ := Rc.find_mem hm
    exact .inr (hg p hp _ e)
  · exact .inl rfl
theorem get_rise {es : Kn} (hg : OkG es) (k : Nm) : Rise (getM es k).1.2 ∧ ∀ r ∈ (getM es k).1.2, NsOk r.2 ∧ r.2.length ≤ 6 := by
  rcases get_cases hg k with h | h
  · rw [h]; exact ⟨⟨by simp, List.Pairwise.nil⟩, by simp⟩
  · exact man_rise h
theorem get_okN {es : Kn} (hx : OkX es) (k : Nm) : (getM es k).1.2.length ≤ lim ∧ ∀ r ∈ (getM es k).1.2, okN r.2 := by
  unfold getM
  split
  · rename_i m hm
    exact ⟨(hx _ _ hm).2.1, (hx _ _ hm).2.2⟩
  · exact ⟨by simp, by simp⟩
def relOf (es : Kn) (p : Pk) : Rel × Bool := relM (getM es p.1).1 p.2
theorem relM_mem {m : Mani} {v : Int} : (relM m v).1 ∈ m.2 ∨ (relM m v).1 = (0, []) := by
  unfold relM
  split
  · exact .inr rfl
  · split
    · rename_i h; exact .inl (memD m.2 (0, []) _ h.1)
    · exact .inr rfl
theorem rel_needs {es : Kn} (hg : OkG es) (p : Pk) : NsOk (relOf es p).1.2 ∧ (relOf es p).1.2.length ≤ 6 := by
  unfold relOf
  rcases relM_mem (m := (getM es p.1).1) (v := p.2) with h | h
  · exact (get_rise hg p.1).2 _ h
  · rw [h]; exact ⟨fun n hn => by simp at hn, by simp⟩
def metB (l : List Pk) (n : Need) : Bool := (getP l n.1).2 && hasS n.2 (getP l n.1).1

/-! ### in a heap with what is asked -/
theorem selF (es : Kn) (root : List Need) (l : List Pk) (q : List AObj) : Sel 3 [0, 1, 2] (HF es root l ++ q) (HF es root l) := by
  refine ⟨by decide, rfl, by decide, fun i hi => ?_, fun i hi => .inl ?_⟩
  · match i, hi with
    | 0, _ | 1, _ | 2, _ => rfl
  · match i, hi with
    | 0, _ => show some _ = some (AObj.ren _ (.mp (.typed EK es))); rw [mp_ren]
    | 1, _ | 2, _ => rfl
abbrev PF (es : Kn) (root : List Need) (l : List Pk) (r0 : AV) : AV → List AObj → Prop := fun r H' => ∃ s H2 r2, Sel 3 s H' H2 ∧ Le r (AV.ren (selR s H'.length) r2) ∧ (r2 = r0 ∧ H2 = HF es root l)
theorem pf {es : Kn} {root : List Need} {l : List Pk} {r r0 : AV} (q : List AObj) (h : ∀ ρ, Le r (AV.ren ρ r0)) : PF es root l r0 r (HF es root l ++ q) := ⟨_, _, _, selF es root l q, h _, rfl, rfl⟩
/-- .. and one more object -/
noncomputable abbrev HC (es : Kn) (root : List Need) (l : List Pk) (c : AObj) : List AObj := HF es root l ++ [c]
theorem selC (es : Kn) (root : List Need) (l : List Pk) (c : AObj) {q : List AObj} (hc : AObj.ren (selR [0, 1, 2, 3] (HF es root l ++ c :: q).length) c = c) : Sel 4 [0, 1, 2, 3] (HF es root l ++ c :: q) (HC es root l c) := by
  refine ⟨by decide, rfl, by decide, fun i hi => ?_, fun i hi => .inl ?_⟩
  · match i, hi with
    | 0, _ | 1, _ | 2, _ | 3, _ => rfl
  · match i, hi with
    | 0, _ => show some _ = some (AObj.ren _ (.mp (.typed EK es))); rw [mp_ren]
    | 1, _ | 2, _ => rfl
    | 3, _ => show some c = some (AObj.ren _ c); rw [hc]
abbrev PG (es : Kn) (root : List Need) (l : List Pk) (c : AObj) (r0 : AV) : AV → List AObj → Prop := fun r H' => ∃ s H2 r2, Sel 4 s H' H2 ∧ Le r (AV.ren (selR s H'.length) r2) ∧ (r2 = r0 ∧ H2 = HC es root l c)
noncomputable abbrev cA : AObj := .cells [.ptr 2 0]
noncomputable abbrev cQ (q : List Nm) : AObj := .cells [.sl 1 (.map encL [] q) .none]
theorem pgA {es : Kn} {root : List Need} {l : List Pk} {r r0 : AV} (q : List AObj) (h : ∀ ρ, Le r (AV.ren ρ r0)) : PG es root l cA r0 r (HF es root l ++ cA :: q) := ⟨_, _, _, selC es root l cA rfl, h _, rfl, rfl⟩
theorem pgQ {es : Kn} {root : List Need} {l : List Pk} {r r0 : AV} (w : List Nm) (q : List AObj) (h : ∀ ρ, Le r (AV.ren ρ r0)) : PG es root l (cQ w) r0 r (HF es root l ++ cQ w :: q) := ⟨_, _, _, selC es root l (cQ w) rfl, h _, rfl, rfl⟩
/-- what stands for the first three objects of a heap -/
theorem lift3 {f : FuncId} {es : Kn} {root : List Need} {l : List Pk} {args args' : List AV} {r0 r' : AV} (H : List AObj) (k : ASpec Try.prog f args (HF es root l) (fun r H' => r = r0 ∧ H' = HF es root l))
    (h0 : H[0]? = some (.mp (.typed EK es))) (h1 : H[1]? = some (.cells [.map 0])) (h2 : H[2]? = some (.cells (encAk root l)))
    (ha : args.map (AV.ren (callR [0, 1, 2] H.length)) = args') (hr : AV.ren (callR [0, 1, 2] H.length) r0 = r') : ASpec Try.prog f args' H (fun r H' => r = r' ∧ H' = H) :=
  same [0, 1, 2] H k (by decide) rfl ha hr (fun i hi => by
    match i, hi with
    | 0, _ => show H[0]? = some (AObj.ren _ (.mp (.typed EK es))); rw [mp_ren]; exact h0
    | 1, _ => exact h1
    | 2, _ => exact h2)
theorem leRl (x : Rel) (ρ : Nat → Nat) : Le (.agg (T.encR x)) (AV.ren ρ (.agg (T.encR x))) := Le.agg ⟨Le.refl _, leNone renN, trivial⟩
section
variable {es : Kn} (hx : OkX es) (hg : OkG es) {root : List Need} {l : List Pk} (hl : l.length ≤ 100000)
include hx hg hl
theorem release0 (p : Pk) : ASpec Try.prog 54 [.ptr 2 0, .agg (encPk p)] (HF es root l) (fun r H' => r = .tup [.agg (T.encR (relOf es p).1), .bool (relOf es p).2] ∧ H' = HF es root l) := by
  have hr := get_rise hg p.1
  have hn := get_okN hx p.1
  refine ASpec.sel (s54 es root l p (PF es root l (.tup [.agg (T.encR (relOf es p).1), .bool (relOf es p).2])) (ASpec.call (X.get_spec es p.1 hx _ 0 1 (by omega) rfl rfl) (Les.refl _) ⟨getM es p.1, rfl, rfl, ?_⟩))
  repeat refine ⟨⟨rfl, rfl⟩, ?_⟩
  refine ASpec.call (rel_spec (getM es p.1).1 p.2 hr.1 hn.1 hn.2 _) (Les.refl _) ⟨relOf es p, rfl, rfl, ?_⟩
  exact pf (es := es) (root := root) (l := l) [_, _, _] fun ρ => Le.tup ⟨leRl _ ρ, Le.refl _, trivial⟩
theorem met0 (n : Need) (hn : Sg.ok n.2) : ASpec Try.prog 101 [.ptr 2 0, .agg (encN n)] (HF es root l) (fun r H' => r = .bool (metB l n) ∧ H' = HF es root l) := by
  refine ASpec.sel (s101 es root l n (PF es root l (.bool (metB l n))) (ASpec.call (get_spec l n.1 hl _) (Les.refl _) ⟨getP l n.1, rfl, rfl, condB (fun h => ?_) fun h => ?_⟩))
  · refine ASpec.call (Sg.has_spec n.2 _ hn _) (Les.refl _) ⟨_, rfl, rfl, pf (es := es) (root := root) (l := l) [_] fun ρ => ?_⟩
    unfold metB; rw [h, Bool.true_and]; exact Le.refl _
  · refine pf (es := es) (root := root) (l := l) [_] fun ρ => ?_
    unfold metB; rw [h, Bool.false_and]; exact Le.refl _

/-! ### the rules, of one -/
theorem absent0 (p : Pk) : ASpec Try.prog 103 [.agg (encPk p), .ptr 3 0] (HC es root l cA) (fun r H' => r = .bool (!(relOf es p).2) ∧ H' = HC es root l cA) := by
  refine ASpec.sel (s103 es root l p (PG es root l cA (.bool (!(relOf es p).2))) (ASpec.call (lift3 _ (release0 hx hg hl (root := root) p) rfl rfl rfl rfl rfl) (Les.refl _) ⟨relOf es p, rfl, rfl, ?_⟩))
  exact pgA (es := es) (root := root) (l := l) [_, _] fun ρ => Le.refl _
theorem unmet0 (n : Need) (hn : Sg.ok n.2) : ASpec Try.prog 106 [.agg (encN n), .ptr 3 0] (HC es root l cA) (fun r H' => r = .bool (!metB l n) ∧ H' = HC es root l cA) := by
  refine ASpec.sel (s106 es root l n (PG es root l cA (.bool (!metB l n))) (ASpec.call (lift3 _ (met0 hx hg hl (root := root) n hn) rfl rfl rfl rfl rfl) (Les.refl _) ⟨metB l n, rfl, rfl, ?_⟩))
  exact pgA (es := es) (root := root) (l := l) [_] fun ρ => Le.refl _
def ixN (f : Need → Bool) : List Need → Nat → Int
  | [], _ => -1
  | n :: r, i => if f n = true then (i : Int) else ixN f r (i + 1)
omit hx hg hl in
theorem ixN_any (f : Need → Bool) : ∀ (r : List Need) (i : Nat), decide (ixN f r i ≥ 0) = r.any f
  | [], i => by simp [ixN]
  | n :: r, i => by
    simp only [ixN, List.any_cons]
    split
    · rename_i h; rw [h, decide_eq_true (by omega), Bool.true_or]
    · rename_i h; rw [show f n = false by simpa using h, Bool.false_or, ixN_any f r (i + 1)]
theorem any2 {ns : List Need} (hns : NsOk ns) (hnl : ns.length ≤ lim) {R : Int} : ∀ (m i : Nat), m + i = ns.length → ixN (fun n => !metB l n) (ns.drop i) i = R →
    AWP Try.prog 19 4 c129_2 [(0, slN ns), (1, .fn 106 [.ptr 3 0]), (7, .int .i64 ns.length), (8, .int .i64 i)] (HC es root l cA) (q129_2 4 (PG es root l cA (.int .i64 R))) := by
  unfold lim at hnl
  intro m
  induction m with
  | zero =>
    intro i hm h
    refine v129_2 _ _ _ _ _ _ _ _ (condD (fun hc => by omega) fun _ => ?_)
    rw [List.drop_eq_nil_of_le (by omega)] at h
    subst h
    exact pgA (es := es) (root := root) (l := l) [] fun ρ => Le.refl _
  | succ m ih =>
    intro i hm h
    rw [dropD ns ([], []) i (by omega)] at h
    have hn := hns _ (memD ns ([], []) i (by omega))
    refine v129_2 _ _ _ _ _ _ _ _ (condD (fun _ => needJ ⟨by omega, by omega⟩ ?_) fun hc => by omega)
    rw [Int.toNat_natCast, succ64 (by omega)]
    generalize ns.getD i ([], []) = n at h hn ⊢
    refine ASpec.call (unmet0 hx hg hl n hn.2) (Les.refl _) ⟨_, rfl, rfl, ?_⟩
    simp only [ixN] at h
    refine condB (fun hb => ?_) fun hb => ?_
    · rw [if_pos hb] at h
      subst h
      exact pgA (es := es) (root := root) (l := l) [] fun ρ => Le.refl _
    · rw [if_neg (by rw [hb]; simp)] at h
      exact ih (i + 1) (by omega) h
def lackB (es : Kn) (l : List Pk) (p : Pk) : Bool := (relOf es p).1.2.any fun n => !metB l n
theorem lacks0 {ns : List Need} (hns : NsOk ns) (hnl : ns.length ≤ lim) : ASpec Try.prog 105 [slN ns, .fn 106 [.ptr 3 0]] (HC es root l cA) (fun r H' => r = .bool (ns.any fun n => !metB l n) ∧ H' = HC es root l cA) := by
  have k1 : ASpec Try.prog 129 [slN ns, .fn 106 [.ptr 3 0]] (HC es root l cA) (fun r H' => r = .int .i64 (ixN (fun n => !metB l n) ns 0) ∧ H' = HC es root l cA) :=
    ASpec.sel (s129 es root l ns _ (any2 hx hg hl hns hnl ns.length 0 (by omega) rfl))
  refine ASpec.sel (s105 es root l ns (PG es root l cA _) (ASpec.call k1 (Les.refl _) ⟨_, rfl, rfl, ?_⟩))
  rw [ixN_any]
  exact pgA (es := es) (root := root) (l := l) [] fun ρ => Le.refl _
theorem lacking0 (p : Pk) : ASpec Try.prog 104 [.agg (encPk p), .ptr 3 0] (HC es root l cA) (fun r H' => r = .bool (lackB es l p) ∧ H' = HC es root l cA) := by
  have hr := rel_needs hg p
  refine ASpec.sel (s104 es root l p (PG es root l cA (.bool (lackB es l p))) (ASpec.call (lift3 _ (release0 hx hg hl (root := root) p) rfl rfl rfl rfl rfl) (Les.refl _) ⟨relOf es p, rfl, rfl, ?_⟩))
  refine ASpec.call (same [0, 1, 2, 3] _ (lacks0 hx hg hl (root := root) (l := l) hr.1 (by unfold lim; omega)) (by decide) rfl rfl rfl (fun i hi => ?_)) (Les.refl _) ⟨_, rfl, rfl, ?_⟩
  · match i, hi with
    | 0, _ => show some _ = some (AObj.ren _ (.mp (.typed EK es))); rw [mp_ren]
    | 1, _ | 2, _ | 3, _ => rfl
  · exact pgA (es := es) (root := root) (l := l) [_, _] fun ρ => Le.refl _
theorem idle0 (q : List Nm) (hq : q.length ≤ 1000000) (p : Pk) : ASpec Try.prog 107 [.agg (encPk p), .ptr 3 0] (HC es root l (cQ q)) (fun r H' => r = .bool (!decide (p.1 ∈ q)) ∧ H' = HC es root l (cQ q)) := by
  refine ASpec.sel (s107 es root l q p (PG es root l (cQ q) (.bool (!decide (p.1 ∈ q)))) (ASpec.call (Wn.in_spec q p.1 hq _) (Les.refl _) ⟨_, rfl, rfl, ?_⟩))
  exact pgQ (es := es) (root := root) (l := l) q [_] fun ρ => Le.refl _

/-! ### the first pick of which something is so -/
def ixK (f : Pk → Bool) : List Pk → Nat → Int
  | [], _ => -1
  | p :: r, i => if f p = true then (i : Int) else ixK f r (i + 1)
def firstK (f : Pk → Bool) (l : List Pk) : Nm × Bool := match l.find? f with
  | some p => (p.1, true)
  | none => ([], false)
omit hx hg hl in
theorem ixK_first (f : Pk → Bool) : ∀ (r : List Pk) (i : Nat), (ixK f r i < 0 ∧ r.find? f = none) ∨ ∃ j : Nat, ixK f r i = ((i + j : Nat) : Int) ∧ j < r.length ∧ r.find? f = some (r.getD j noPk)
  | [], i => .inl ⟨by simp [ixK], rfl⟩
  | p :: r, i => by
    simp only [ixK, List.find?_cons]
    split
    · rename_i h
      rw [h]
      exact .inr ⟨0, by simp, by simp, by simp⟩
    · rename_i h
      rw [show f p = false by simpa using h]
      rcases ixK_first f r (i + 1) with h1 | ⟨j, h1, h2, h3⟩
      · exact .inl h1
      · exact .inr ⟨j + 1, by rw [h1]; congr 1; omega, by simp; omega, by simpa using h3⟩

theorem ix2a (f : Pk → Bool) (hf : ∀ p ∈ l, ASpec Try.prog 103 [.agg (encPk p), .ptr 3 0] (HC es root l cA) (fun r H' => r = .bool (f p) ∧ H' = HC es root l cA)) {R : Int} : ∀ (m i : Nat), m + i = l.length → ixK f (l.drop i) i = R →
    AWP Try.prog 19 4 c128_2 [(0, slK l), (1, .fn 103 [.ptr 3 0]), (7, .int .i64 l.length), (8, .int .i64 i)] (HC es root l cA) (q128_2 4 (PG es root l cA (.int .i64 R))) := by
  intro m
  induction m with
  | zero =>
    intro i hm h
    refine v128_2a _ _ _ _ _ _ _ (condD (fun hc => by omega) fun _ => ?_)
    rw [List.drop_eq_nil_of_le (by omega)] at h
    subst h
    exact pgA (es := es) (root := root) (l := l) [] fun ρ => Le.refl _
  | succ m ih =>
    intro i hm h
    rw [dropD l noPk i (by omega)] at h
    have hp := hf _ (memD l noPk i (by omega))
    refine v128_2a _ _ _ _ _ _ _ (condD (fun _ => needJ ⟨by omega, by omega⟩ ?_) fun hc => by omega)
    rw [Int.toNat_natCast, succ64 (by omega)]
    generalize l.getD i noPk = p at h hp ⊢
    refine ASpec.call hp (Les.refl _) ⟨_, rfl, rfl, ?_⟩
    simp only [ixK] at h
    refine condB (fun hb => ?_) fun hb => ?_
    · rw [if_pos hb] at h
      subst h
      exact pgA (es := es) (root := root) (l := l) [] fun ρ => Le.refl _
    · rw [if_neg (by rw [hb]; simp)] at h
      exact ih (i + 1) (by omega) h
theorem firsta (f : Pk → Bool) (hf : ∀ p ∈ l, ASpec Try.prog 103 [.agg (encPk p), .ptr 3 0] (HC es root l cA) (fun r H' => r = .bool (f p) ∧ H' = HC es root l cA)) :
    ASpec Try.prog 102 [.ptr 2 0, .fn 103 [.ptr 3 0]] (HC es root l cA) (fun r H' => r = .tup [.str (B (firstK f l).1), .bool (firstK f l).2] ∧ H' = HC es root l cA) := by
  have k1 : ASpec Try.prog 128 [slK l, .fn 103 [.ptr 3 0]] (HC es root l cA) (fun r H' => r = .int .i64 (ixK f l 0) ∧ H' = HC es root l cA) :=
    ASpec.sel (s128a es root l _ (ix2a hx hg hl f hf l.length 0 (by omega) rfl))
  refine ASpec.sel (s102a es root l (PG es root l cA _) (ASpec.call k1 (Les.refl _) ⟨_, rfl, rfl, ?_⟩))
  unfold firstK
  rcases ixK_first f l 0 with ⟨h1, h2⟩ | ⟨j, h1, h2, h3⟩
  · rw [h2]
    refine condD (fun _ => ?_) fun h => absurd h1 h
    exact pgA (es := es) (root := root) (l := l) [] fun ρ => Le.refl _
  · rw [h3, h1, Nat.zero_add]
    refine condD (fun h => by omega) fun _ => needJ ⟨by omega, by omega⟩ ?_
    rw [Int.toNat_natCast]
    exact pgA (es := es) (root := root) (l := l) [] fun ρ => Le.refl _

theorem ix2l (f : Pk → Bool) (hf : ∀ p ∈ l, ASpec Try.prog 104 [.agg (encPk p), .ptr 3 0] (HC es root l cA) (fun r H' => r = .bool (f p) ∧ H' = HC es root l cA)) {R : Int} : ∀ (m i : Nat), m + i = l.length → ixK f (l.drop i) i = R →
    AWP Try.prog 19 4 c128_2 [(0, slK l), (1, .fn 104 [.ptr 3 0]), (7, .int .i64 l.length), (8, .int .i64 i)] (HC es root l cA) (q128_2 4 (PG es root l cA (.int .i64 R))) := by
  intro m
  induction m with
  | zero =>
    intro i hm h
    refine v128_2l _ _ _ _ _ _ _ (condD (fun hc => by omega) fun _ => ?_)
    rw [List.drop_eq_nil_of_le (by omega)] at h
    subst h
    exact pgA (es := es) (root := root) (l := l) [] fun ρ => Le.refl _
  | succ m ih =>
    intro i hm h
    rw [dropD l noPk i (by omega)] at h
    have hp := hf _ (memD l noPk i (by omega))
    refine v128_2l _ _ _ _ _ _ _ (condD (fun _ => needJ ⟨by omega, by omega⟩ ?_) fun hc => by omega)
    rw [Int.toNat_natCast, succ64 (by omega)]
    generalize l.getD i noPk = p at h hp ⊢
    refine ASpec.call hp (Les.refl _) ⟨_, rfl, rfl, ?_⟩
    simp only [ixK] at h
    refine condB (fun hb => ?_) fun hb => ?_
    · rw [if_pos hb] at h
      subst h
      exact pgA (es := es) (root := root) (l := l) [] fun ρ => Le.refl _
    · rw [if_neg (by rw [hb]; simp)] at h
      exact ih (i + 1) (by omega) h
theorem firstl (f : Pk → Bool) (hf : ∀ p ∈ l, ASpec Try.prog 104 [.agg (encPk p), .ptr 3 0] (HC es root l cA) (fun r H' => r = .bool (f p) ∧ H' = HC es root l cA)) :
    ASpec Try.prog 102 [.ptr 2 0, .fn 104 [.ptr 3 0]] (HC es root l cA) (fun r H' => r = .tup [.str (B (firstK f l).1), .bool (firstK f l).2] ∧ H' = HC es root l cA) := by
  have k1 : ASpec Try.prog 128 [slK l, .fn 104 [.ptr 3 0]] (HC es root l cA) (fun r H' => r = .int .i64 (ixK f l 0) ∧ H' = HC es root l cA) :=
    ASpec.sel (s128l es root l _ (ix2l hx hg hl f hf l.length 0 (by omega) rfl))
  refine ASpec.sel (s102l es root l (PG es root l cA _) (ASpec.call k1 (Les.refl _) ⟨_, rfl, rfl, ?_⟩))
  unfold firstK
  rcases ixK_first f l 0 with ⟨h1, h2⟩ | ⟨j, h1, h2, h3⟩
  · rw [h2]
    refine condD (fun _ => ?_) fun h => absurd h1 h
    exact pgA (es := es) (root := root) (l := l) [] fun ρ => Le.refl _
  · rw [h3, h1, Nat.zero_add]
    refine condD (fun h => by omega) fun _ => needJ ⟨by omega, by omega⟩ ?_
    rw [Int.toNat_natCast]
    exact pgA (es := es) (root := root) (l := l) [] fun ρ => Le.refl _

theorem ix2i (q : List Nm) (f : Pk → Bool) (hf : ∀ p ∈ l, ASpec Try.prog 107 [.agg (encPk p), .ptr 3 0] (HC es root l (cQ q)) (fun r H' => r = .bool (f p) ∧ H' = HC es root l (cQ q))) {R : Int} : ∀ (m i : Nat), m + i = l.length → ixK f (l.drop i) i = R →
    AWP Try.prog 19 4 c128_2 [(0, slK l), (1, .fn 107 [.ptr 3 0]), (7, .int .i64 l.length), (8, .int .i64 i)] (HC es root l (cQ q)) (q128_2 4 (PG es root l (cQ q) (.int .i64 R))) := by
  intro m
  induction m with
  | zero =>
    intro i hm h
    refine v128_2i _ _ _ _ _ _ _ _ (condD (fun hc => by omega) fun _ => ?_)
    rw [List.drop_eq_nil_of_le (by omega)] at h
    subst h
    exact pgQ (es := es) (root := root) (l := l) q [] fun ρ => Le.refl _
  | succ m ih =>
    intro i hm h
    rw [dropD l noPk i (by omega)] at h
    have hp := hf _ (memD l noPk i (by omega))
    refine v128_2i _ _ _ _ _ _ _ _ (condD (fun _ => needJ ⟨by omega, by omega⟩ ?_) fun hc => by omega)
    rw [Int.toNat_natCast, succ64 (by omega)]
    generalize l.getD i noPk = p at h hp ⊢
    refine ASpec.call hp (Les.refl _) ⟨_, rfl, rfl, ?_⟩
    simp only [ixK] at h
    refine condB (fun hb => ?_) fun hb => ?_
    · rw [if_pos hb] at h
      subst h
      exact pgQ (es := es) (root := root) (l := l) q [] fun ρ => Le.refl _
    · rw [if_neg (by rw [hb]; simp)] at h
      exact ih (i + 1) (by omega) h
theorem firsti (q : List Nm) (f : Pk → Bool) (hf : ∀ p ∈ l, ASpec Try.prog 107 [.agg (encPk p), .ptr 3 0] (HC es root l (cQ q)) (fun r H' => r = .bool (f p) ∧ H' = HC es root l (cQ q))) :
    ASpec Try.prog 102 [.ptr 2 0, .fn 107 [.ptr 3 0]] (HC es root l (cQ q)) (fun r H' => r = .tup [.str (B (firstK f l).1), .bool (firstK f l).2] ∧ H' = HC es root l (cQ q)) := by
  have k1 : ASpec Try.prog 128 [slK l, .fn 107 [.ptr 3 0]] (HC es root l (cQ q)) (fun r H' => r = .int .i64 (ixK f l 0) ∧ H' = HC es root l (cQ q)) :=
    ASpec.sel (s128i es root l q _ (ix2i hx hg hl q f hf l.length 0 (by omega) rfl))
  refine ASpec.sel (s102i es root l q (PG es root l (cQ q) _) (ASpec.call k1 (Les.refl _) ⟨_, rfl, rfl, ?_⟩))
  unfold firstK
  rcases ixK_first f l 0 with ⟨h1, h2⟩ | ⟨j, h1, h2, h3⟩
  · rw [h2]
    refine condD (fun _ => ?_) fun h => absurd h1 h
    exact pgQ (es := es) (root := root) (l := l) q [] fun ρ => Le.refl _
  · rw [h3, h1, Nat.zero_add]
    refine condD (fun h => by omega) fun _ => needJ ⟨by omega, by omega⟩ ?_
    rw [Int.toNat_natCast]
    exact pgQ (es := es) (root := root) (l := l) q [] fun ρ => Le.refl _

/-! ### the rules -/
def unmetF (l : List Pk) : List Need → Nm × Bool
  | [] => ([], false)
  | n :: r => if metB l n = false then (n.1, true) else unmetF l r
theorem unmet2 (hns : NsOk root) (hnl : root.length ≤ lim) {R : Nm × Bool} : ∀ (m i : Nat), m + i = root.length → unmetF l (root.drop i) = R →
    AWP Try.prog 22 3 c68_2 [(0, .ptr 2 0), (9, slN root), (10, .int .i64 root.length), (11, .int .i64 i)] (HF es root l) (q68_2 3 (PF es root l (.tup [.str (B R.1), .bool R.2]))) := by
  unfold lim at hnl
  intro m
  induction m with
  | zero =>
    intro i hm h
    refine v68_2 _ _ _ _ _ _ _ (condD (fun hc => by omega) fun _ => ?_)
    rw [List.drop_eq_nil_of_le (by omega)] at h
    subst h
    exact pf (es := es) (root := root) (l := l) [] fun ρ => Le.refl _
  | succ m ih =>
    intro i hm h
    rw [dropD root ([], []) i (by omega)] at h
    have hn := hns _ (memD root ([], []) i (by omega))
    refine v68_2 _ _ _ _ _ _ _ (condD (fun _ => needJ ⟨by omega, by omega⟩ ?_) fun hc => by omega)
    rw [Int.toNat_natCast, succ64 (by omega)]
    generalize root.getD i ([], []) = n at h hn ⊢
    refine ASpec.call (lift3 _ (met0 hx hg hl (root := root) n hn.2) rfl rfl rfl rfl rfl) (Les.refl _) ⟨_, rfl, rfl, ?_⟩
    simp only [unmetF] at h
    refine condBn (fun hb => ?_) fun hb => ?_
    · rw [if_pos hb] at h
      subst h
      exact pf (es := es) (root := root) (l := l) [_] fun ρ => Le.refl _
    · rw [if_neg (by rw [hb]; simp)] at h
      exact AWP.shape [0, 1, 2] _ (HF es root l) (selF es root l [_]) (Rc.slotsR rfl) (ih (i + 1) (by omega) h)
theorem rule2 (hns : NsOk root) (hnl : root.length ≤ lim) : ASpec Try.prog 68 [.ptr 2 0] (HF es root l) (fun r H' => r = .tup [.str (B (unmetF l root).1), .bool (unmetF l root).2] ∧ H' = HF es root l) :=
  ASpec.sel (s68 es root l _ (unmet2 hx hg hl hns hnl root.length 0 (by omega) rfl))
theorem rule1 (hp : ∀ p ∈ l, p.1.length ≤ 1000) : ASpec Try.prog 67 [.ptr 2 0] (HF es root l) (fun r H' => r = .tup [.str (B []), .bool (!chkF none l)] ∧ H' = HF es root l) := by
  refine ASpec.sel (s67 es root l (PF es root l _) (ASpec.call (chk_spec (s := l) hl hp _) (Les.refl _) ⟨_, rfl, rfl, ?_⟩))
  exact pf (es := es) (root := root) (l := l) [] fun ρ => Le.refl _
theorem rule3 : ASpec Try.prog 69 [.ptr 2 0] (HF es root l) (fun r H' => r = .tup [.str (B (firstK (fun p => !(relOf es p).2) l).1), .bool (firstK (fun p => !(relOf es p).2) l).2] ∧ H' = HF es root l) := by
  refine ASpec.sel (s69 es root l (PF es root l _) (ASpec.call (firsta hx hg hl _ (fun p _ => absent0 hx hg hl p)) (Les.refl _) ⟨(B (firstK (fun p => !(relOf es p).2) l).1, _), rfl, rfl, ?_⟩))
  exact pf (es := es) (root := root) (l := l) [_] fun ρ => Le.refl _
theorem rule4 : ASpec Try.prog 70 [.ptr 2 0] (HF es root l) (fun r H' => r = .tup [.str (B (firstK (lackB es l) l).1), .bool (firstK (lackB es l) l).2] ∧ H' = HF es root l) := by
  refine ASpec.sel (s70 es root l (PF es root l _) (ASpec.call (firstl hx hg hl _ (fun p _ => lacking0 hx hg hl p)) (Les.refl _) ⟨(B (firstK (lackB es l) l).1, _), rfl, rfl, ?_⟩))
  exact pf (es := es) (root := root) (l := l) [_] fun ρ => Le.refl _
end
end Ft
end

section
/- fit.Needed: the names that are needed, by the program's visits. -/

set_option linter.unusedVariables false
set_option linter.unusedSimpArgs false
set_option linter.unusedSectionVars false
set_option maxRecDepth 100000
open Go Go.Ab Go.Proofs V S T C
namespace Ft
open W (sl1 slS slN slR leNone renN renS)
open X (hasI getM putI OkX mp_ren optI)
open Pc (slK slKLe)
open Dk (chkF chk_spec getP get_spec)
open E (PA pa)
open Rc (RS slL slLle nilLle ren_mp find_seen put_seen slotsR selN sort_strict sort_one sub_len)
open So (sortL)
/-! ### one object of a part of the heap is written -/
theorem grafted_out {ρ : Nat → Nat} : ∀ (l : List Nat) (Hl H : List AObj) (i : Nat) (a : AObj), i ∉ l → grafted ρ l Hl (H.set i a) = (grafted ρ l Hl H).set i a
  | [], Hl, H, i, a, _ => by cases Hl <;> rfl
  | k :: l, [], H, i, a, _ => rfl
  | k :: l, o :: Hl, H, i, a, h => by
    simp only [List.mem_cons, not_or] at h
    simp only [grafted]
    rw [List.set_comm _ _ (fun e => h.1 e), grafted_out l Hl _ i a h.2]
theorem grafted_set {ρ : Nat → Nat} : ∀ (l : List Nat) (Hl H : List AObj) (j : Nat) (o' : AObj), l.Nodup → l.length = Hl.length → j < l.length → grafted ρ l (Hl.set j o') H = (grafted ρ l Hl H).set (l.getD j 0) (AObj.ren ρ o')
  | [], _, H, j, o', _, _, h => by simp at h
  | k :: l, [], H, j, o', _, hl, _ => by simp at hl
  | k :: l, o :: Hl, H, 0, o', hn, hl, _ => by
    rw [List.nodup_cons] at hn
    simp only [List.set_cons_zero, grafted, List.getD_cons_zero]
    rw [grafted_out l Hl H k _ hn.1, grafted_out l Hl H k _ hn.1, List.set_set]
  | k :: l, o :: Hl, H, j + 1, o', hn, hl, h => by
    rw [List.nodup_cons] at hn
    simp only [List.set_cons_succ, grafted, List.getD_cons_succ]
    exact grafted_set l Hl _ j o' hn.2 (by simpa using hl) (by simpa using h)
theorem sameSet {f : FuncId} {args args' : List AV} {r0 r' : AV} {Hl : List AObj} (l : List Nat) (H : List AObj) (j : Nat) (o' : AObj) (k : ASpec Try.prog f args Hl (fun r H' => r = r0 ∧ H' = Hl.set j o'))
    (hnd : l.Nodup) (hlen : l.length = Hl.length) (hj : j < l.length) (ha : args.map (AV.ren (callR l H.length)) = args') (hr : AV.ren (callR l H.length) r0 = r')
    (hobj : ∀ i (h : i < Hl.length), H[l.getD i 0]? = some (AObj.ren (callR l H.length) Hl[i])) :
    ASpec Try.prog f args' H (fun r H' => r = r' ∧ H' = H.set (l.getD j 0) (AObj.ren (callR l H.length) o')) :=
  ASpec.subH l H _ k args' r' hnd hlen ha hr hobj (by
    unfold graftH
    rw [List.drop_eq_nil_of_le (by rw [List.length_set]; omega), List.map_nil, List.append_nil, grafted_set l Hl H j o' hnd hlen hj, grafted_same l Hl H hlen hobj])

/-! ### visits -/
abbrev CAPS : List AV := [.ptr 6 0, .ptr 2 0, .ptr 4 0, .ptr 7 0]
def gF (es : Kn) (l : List Pk) (x : List UInt8) : List (List UInt8) := if (getP l x).2 = true then (relOf es (x, (getP l x).1)).1.2.map (·.1) else []
noncomputable abbrev seenO (o : List (List UInt8)) : AObj := .mp (.typed EB (seenM o))
theorem ren8 (es : Kn) (root : List Need) (l : List Pk) (o : List (List UInt8)) (ρ : Nat → Nat) (h : ∀ i, i < 8 → ρ i = i) : ∀ j (hj : j < 8), AObj.ren ρ ((HV es root l o)[j]'hj) = (HV es root l o)[j]'hj := by
  intro j hj
  match j, hj with
  | 0, _ => exact mp_ren ρ es
  | 1, _ => show AObj.cells [.map (ρ 0)] = _; rw [h 0 (by omega)]; rfl
  | 2, _ => rfl
  | 3, _ => show AObj.cells [.ptr (ρ 1) 0, _, _] = _; rw [h 1 (by omega)]; rfl
  | 4, _ => show AObj.cells [.ptr (ρ 3) 0] = _; rw [h 3 (by omega)]; rfl
  | 5, _ => exact ren_mp
  | 6, _ => show AObj.cells [.map (ρ 5)] = _; rw [h 5 (by omega)]; rfl
  | 7, _ =>
    show AObj.cells [.fn 52 [.ptr (ρ 6) 0, .ptr (ρ 2) 0, .ptr (ρ 4) 0, .ptr (ρ 7) 0]] = _
    rw [h 6 (by omega), h 2 (by omega), h 4 (by omega), h 7 (by omega)]; rfl
abbrev l8 : List Nat := [0, 1, 2, 3, 4, 5, 6, 7]
theorem l8_get (i : Nat) (h : i < 8) : l8[i]? = some i := by
  match i, h with
  | 0, _ | 1, _ | 2, _ | 3, _ | 4, _ | 5, _ | 6, _ | 7, _ => rfl
theorem l8_call (n i : Nat) (h : i < 8) : callR l8 n i = i := by
  match i, h with
  | 0, _ | 1, _ | 2, _ | 3, _ | 4, _ | 5, _ | 6, _ | 7, _ => rfl
theorem l8_sel (n i : Nat) (h : i < 8) : selR l8 n i = i := by
  match i, h with
  | 0, _ | 1, _ | 2, _ | 3, _ | 4, _ | 5, _ | 6, _ | 7, _ => rfl
theorem selV (es : Kn) (root : List Need) (l : List Pk) (o : List (List UInt8)) (q : List AObj) : Sel 8 l8 (HV es root l o ++ q) (HV es root l o) := by
  refine ⟨by decide, rfl, by decide, fun i hi => l8_get i hi, fun i hi => .inl ?_⟩
  have hi : i < 8 := hi
  refine Eq.trans ?_ (congrArg some (ren8 es root l o _ (fun j hj => l8_sel _ j hj) i hi).symm)
  match i, hi with
  | 0, _ | 1, _ | 2, _ | 3, _ | 4, _ | 5, _ | 6, _ | 7, _ => rfl
abbrev PV (es : Kn) (root : List Need) (l : List Pk) (R : List (List UInt8)) : AV → List AObj → Prop := fun r H' => ∃ s H2 r2, Sel 8 s H' H2 ∧ Le r (AV.ren (selR s H'.length) r2) ∧ (r2 = .tup [] ∧ H2 = (HV es root l []).set 5 (seenO R))
theorem pv {es : Kn} {root : List Need} {l : List Pk} {R : List (List UInt8)} (q : List AObj) : PV es root l R (.tup []) (HV es root l R ++ q) := ⟨_, _, _, selV es root l R q, Le.refl _, rfl, rfl⟩

section
variable {es : Kn} (hx : OkX es) (hg : OkG es) {root : List Need} {l : List Pk} (hl : l.length ≤ 100000) {U : List (List UInt8)} (hU1 : ∀ x ∈ root.map (·.1), x ∈ U) (hU2 : ∀ x, ∀ y ∈ gF es l x, y ∈ U) (hUl : U.length ≤ 1000000)
include hx hg hl hU1 hU2 hUl
theorem visit1 {f : Nat} (ih : ∀ (ns : List Need) (o : List (List UInt8)), ns.length ≤ 100000 → o.Nodup → (∀ x ∈ o, RS (gF es l) (root.map (·.1)) x) → (∀ n ∈ ns, RS (gF es l) (root.map (·.1)) n.1) → U.length < o.length + f →
      ASpec Try.prog 52 (slN ns :: CAPS) (HV es root l o) (fun r H' => r = .tup [] ∧ H' = (HV es root l o).set 5 (seenO (visitF (gF es l) f (ns.map (·.1)) o))))
    {ns : List Need} (hnl : ns.length ≤ 100000) (hns : ∀ n ∈ ns, RS (gF es l) (root.map (·.1)) n.1) {R : List (List UInt8)} : ∀ (m i : Nat) (o : List (List UInt8)), m + i = ns.length → o.Nodup → (∀ x ∈ o, RS (gF es l) (root.map (·.1)) x) → U.length < o.length + (f + 1) →
      visL (gF es l) (visitF (gF es l) f) ((ns.drop i).map (·.1)) o = R →
    AWP Try.prog 47 8 c52_1 [(1, .ptr 6 0), (2, .ptr 2 0), (3, .ptr 4 0), (4, .ptr 7 0), (12, slN ns), (13, .int .i64 ns.length), (14, .int .i64 i)] (HV es root l o) (q52_1 8 (PV es root l R)) := by
  intro m
  induction m with
  | zero =>
    intro i o hm hn ho hf h
    refine v52_1 _ _ _ _ _ _ _ _ _ (condD (fun hc => by omega) fun _ => ?_)
    rw [List.drop_eq_nil_of_le (by omega)] at h
    simp only [List.map_nil, visL] at h
    subst h
    exact pv []
  | succ m im =>
    intro i o hm hn ho hf h
    have hol := Rc.rs_len (gF es l) hU1 hU2 hn ho
    rw [dropD ns ([], []) i (by omega), List.map_cons] at h
    have hrs := hns _ (memD ns ([], []) i (by omega))
    refine v52_1 _ _ _ _ _ _ _ _ _ (condD (fun _ => needJ ⟨by omega, by omega⟩ ?_) fun hc => by omega)
    rw [Int.toNat_natCast]
    generalize ns.getD i ([], []) = n at h hrs ⊢
    rw [find_seen]
    simp only [visL] at h
    by_cases hmem : n.1 ∈ o
    · rw [if_pos hmem] at h ⊢
      rw [succ64 (by omega)]
      exact AWP.shape l8 _ (HV es root l o) (selV es root l o [_]) (slotsR rfl) (im (i + 1) o (by omega) hn ho hf h)
    · rw [if_neg hmem] at h ⊢
      refine AWP.re (ReSt.map (id := 5) rfl (put_seen hmem)) ?_
      have hn' : (o ++ [n.1]).Nodup := by
        have := Rc.note_nd (s := n.1) hn
        rwa [Rc.noteM, if_neg hmem] at this
      have ho' : ∀ x ∈ o ++ [n.1], RS (gF es l) (root.map (·.1)) x := fun x hx => by
        rcases List.mem_append.1 hx with hx | hx
        · exact ho x hx
        · simp at hx; subst hx; exact hrs
      have hol' := Rc.rs_len (gF es l) hU1 hU2 hn' ho'
      have hf' : U.length < (o ++ [n.1]).length + f := by simp; omega
      refine v52_5 es root l (o ++ [n.1]) ns n _ _ _ _ (ASpec.call (get_spec l n.1 hl _) (Les.refl _) ⟨getP l n.1, rfl, rfl, condB (fun hp => ?_) fun hp => ?_⟩)
      · have hrel := rel_needs hg (n.1, (getP l n.1).1)
        have hgx : gF es l n.1 = (relOf es (n.1, (getP l n.1).1)).1.2.map (·.1) := by unfold gF; rw [if_pos hp]
        rw [hgx] at h
        refine ASpec.call (same [0, 1, 3] _ (release0 hx hg hl (root := root) (n.1, (getP l n.1).1)) (by decide) rfl rfl rfl (fun j hj => ?_)) (Les.refl _) ⟨relOf es (n.1, (getP l n.1).1), rfl, rfl, ?_⟩
        · match j, hj with
          | 0, _ => show some _ = some (AObj.ren _ (.mp (.typed EK es))); rw [mp_ren]
          | 1, _ | 2, _ => rfl
        generalize hrr : relOf es (n.1, (getP l n.1).1) = rr at h hrel hgx ⊢
        have hns2 : ∀ y ∈ rr.1.2, RS (gF es l) (root.map (·.1)) y.1 := fun y hy => .step hrs (by rw [hgx]; exact List.mem_map_of_mem hy)
        have hdid := visit_did (gF es l) hU1 hU2 f (rr.1.2.map (·.1)) (o ++ [n.1]) hn' ho' (fun x hx => by
          obtain ⟨y, hy, rfl⟩ := List.mem_map.1 hx
          exact hns2 y hy) hf'
        have hk := ih rr.1.2 (o ++ [n.1]) (by omega) hn' ho' hns2 hf'
        generalize visitF (gF es l) f (rr.1.2.map (·.1)) (o ++ [n.1]) = o2 at h hdid hk
        have ho2 : ∀ x ∈ o2, RS (gF es l) (root.map (·.1)) x := fun x hx => by
          rcases hdid.mem x hx with hx | hx
          · exact ho' x hx
          · exact rs_mono (gF es l) (fun z hz => by
              obtain ⟨y, hy, rfl⟩ := List.mem_map.1 hz
              exact hns2 y hy) hx
        have hlen2 : (o ++ [n.1]).length ≤ o2.length := sub_len hn' hdid.sub
        refine ASpec.call (sameSet l8 _ 5 _ hk (by decide) rfl (by decide) rfl rfl (fun j hj => ?_)) (Les.refl _) ⟨o2, rfl, ?_, ?_⟩
        · have hj : j < 8 := hj
          refine Eq.trans ?_ (congrArg some (ren8 es root l (o ++ [n.1]) _ (fun k hk => l8_call _ k hk) j hj).symm)
          match j, hj with
          | 0, _ | 1, _ | 2, _ | 3, _ | 4, _ | 5, _ | 6, _ | 7, _ => rfl
        · rw [ren_mp]; rfl
        · rw [succ64 (by omega)]
          exact AWP.shape l8 _ (HV es root l o2) (selV es root l o2 [_, _]) (slotsR rfl) (im (i + 1) o2 (by omega) hdid.nd ho2 (by simp at hlen2; omega) h)
      · have hgx : gF es l n.1 = [] := by unfold gF; rw [if_neg (by rw [hp]; simp)]
        rw [hgx] at h
        have hv : visitF (gF es l) f [] (o ++ [n.1]) = o ++ [n.1] := by cases f <;> rfl
        rw [hv] at h
        rw [succ64 (by omega)]
        exact AWP.shape l8 _ (HV es root l (o ++ [n.1])) (selV es root l (o ++ [n.1]) [_]) (slotsR rfl) (im (i + 1) (o ++ [n.1]) (by omega) hn' ho' (by simp; omega) h)
theorem visit0 : ∀ (f : Nat) (ns : List Need) (o : List (List UInt8)), ns.length ≤ 100000 → o.Nodup → (∀ x ∈ o, RS (gF es l) (root.map (·.1)) x) → (∀ n ∈ ns, RS (gF es l) (root.map (·.1)) n.1) → U.length < o.length + f →
      ASpec Try.prog 52 (slN ns :: CAPS) (HV es root l o) (fun r H' => r = .tup [] ∧ H' = (HV es root l o).set 5 (seenO (visitF (gF es l) f (ns.map (·.1)) o)))
  | 0, ns, o, _, hn, ho, _, hf => by
    have := Rc.rs_len (gF es l) hU1 hU2 hn ho
    omega
  | f + 1, ns, o, hnl, hn, ho, hns, hf =>
    ASpec.sel (s52 es root l o ns _ (visit1 hx hg hl hU1 hU2 hUl (visit0 f) hnl hns ns.length 0 o (by omega) hn ho hf rfl))
end
end Ft
end

section
/- fit.Needed, fit.Wrong, fit.Solution, by the program. -/

set_option linter.unusedVariables false
set_option linter.unusedSimpArgs false
set_option linter.unusedSectionVars false
set_option maxRecDepth 100000
open Go Go.Ab Go.Proofs V S T C
namespace Ft
open W (sl1 slS slN slR leNone renN renS)
open X (hasI getM putI OkX mp_ren optI)
open Pc (slK slKLe)
open Dk (chkF chk_spec getP get_spec)
open E (PA pa)
open Rc (RS slL slLle nilLle ren_mp find_seen put_seen slotsR selN sort_strict sort_one sub_len arL)
open So (sortL)
open Pl (Up)
/-! ### a range over what was seen -/
abbrev Z2 := List Nat × Nat
abbrev NM := List UInt8
theorem mpv_ren (ρ : Nat → Nat) (o : List NM) (z : Z2) : AObj.ren ρ (.mpv (.typed EB (seenM o)) z) = .mpv (.typed EB (seenM o)) z := by
  show AObj.mpv (.typed (Enc.ren ρ EB) (seenM o)) z = _
  congr 2
theorem seen_get {o : List NM} {i : Nat} {k : ByteArray} {v : Bool} (h : (seenM o)[i]? = some (k, v)) : i < o.length ∧ k = ⟨(o.getD i []).toArray⟩ := by
  unfold seenM at h
  rw [List.getElem?_map] at h
  cases hi : o[i]? with
  | none => rw [hi] at h; cases h
  | some x =>
    rw [hi] at h
    simp only [Option.map_some, Option.some.injEq, Prod.mk.injEq] at h
    refine ⟨(List.getElem?_eq_some_iff.1 hi).1, ?_⟩
    rw [List.getD_eq_getElem?_getD, hi]
    exact h.1.symm
theorem seen_len (o : List NM) : (MM.typed EB (seenM o)).len = o.length := by simp [MM.len, seenM]
structure Vis (o : List NM) (ps : List Nat) (w : List NM) : Prop where
  nd : ps.Nodup
  lt : ∀ i ∈ ps, i < o.length
  row : w = ps.reverse.map (fun i => o.getD i [])
theorem all_range (o : List NM) : (List.range o.length).map (fun i => o.getD i []) = o := by
  apply List.ext_getElem
  · simp
  · intro i h1 h2
    simp [List.getD_eq_getElem?_getD, List.getElem?_eq_getElem h2]
theorem vis_end {o : List NM} {ps : List Nat} {w : List NM} (h : Vis o ps w) (ha : ∀ i, i < o.length → i ∈ ps) : w.Perm o := by
  rw [h.row]
  have hp : ((ps.reverse).map (fun i => o.getD i [])).Perm ((List.range o.length).map (fun i => o.getD i [])) := by
    refine List.Perm.map _ ((List.reverse_perm _).trans ?_)
    refine (List.perm_ext_iff_of_nodup h.nd List.nodup_range).2 fun i => ?_
    rw [List.mem_range]
    exact ⟨h.lt i, ha i⟩
  rwa [all_range] at hp
theorem vis_next {o : List NM} {ps : List Nat} {w : List NM} {i : Nat} (h : Vis o ps w) (hi : i < o.length) (hn : i ∉ ps) : Vis o (i :: ps) (w ++ [o.getD i []]) := by
  refine ⟨List.nodup_cons.2 ⟨hn, h.nd⟩, fun j hj => ?_, ?_⟩
  · rcases List.mem_cons.1 hj with rfl | hj
    · exact hi
    · exact h.lt j hj
  · rw [h.row, List.reverse_cons, List.map_append]; rfl
theorem nd_len : ∀ (n : Nat) (ps : List Nat), ps.Nodup → (∀ i ∈ ps, i < n) → ps.length ≤ n
  | 0, [], _, _ => Nat.le_refl _
  | 0, x :: r, _, h => absurd (h x (by simp)) (Nat.not_lt_zero _)
  | n + 1, ps, hn, h => by
    have h1 := nd_len n (ps.erase n) (hn.erase n) fun i hi => by
      have h2 := h i (List.mem_of_mem_erase hi)
      have h3 : i ≠ n := fun e => by subst e; exact hn.not_mem_erase hi
      omega
    have h2 := List.length_erase (a := n) (l := ps)
    split at h2 <;> omega
theorem vis_len {o : List NM} {ps : List Nat} {w : List NM} (h : Vis o ps w) : ps.length ≤ o.length := nd_len _ _ h.nd h.lt
theorem vis_row {o : List NM} {ps : List Nat} {w : List NM} (h : Vis o ps w) : w.length = ps.length := by rw [h.row]; simp

noncomputable abbrev HM (es : Kn) (o : List NM) (z : Z2) (ps : List Nat) (w : List NM) : List AObj := HX es ++ [.mpv (.typed EB (seenM o)) z, .cells [.map 2], .mit 2 z ps, .arr 1 (.map encL [] w)]
noncomputable abbrev HN (es : Kn) (o : List NM) (z : Z2) (ps : List Nat) : List AObj := HX es ++ [.mpv (.typed EB (seenM o)) z, .cells [.map 2], .mit 2 z ps]
abbrev NILV : AV := .sl 0 (.raw []) .nil
/-- what is handed back, ahead of its freezing -/
abbrev P33 (es : Kn) (R : List NM) : AV → List AObj → Prop := fun r H' => ∃ s H2 r2, Sel 2 s H' H2 ∧ Le r (AV.ren (selR s H'.length) r2) ∧
  ((r2 = NILV ∧ H2 = HX es ∧ R = []) ∨ (r2 = .msl 1 2 0 R.length ∧ H2 = HX es ++ [arL R]))
theorem end11m {es : Kn} {w : List NM} (hw : w.length ≤ 1000000) : AWP Try.prog 35 2 c33_11 [(10, .msl 1 2 0 w.length)] (HX es ++ [arL w]) (q33_0 2 (P33 es (sortL w))) := by
  refine v33_11m _ _ _ _ ((So.sort_spec (l := w) (id := 2) rfl rfl (by omega)).mono fun r H' hh => .inr ⟨sortL w, hh.1, hh.2, ?_⟩)
  refine ⟨[0, 1, 2], HX es ++ [arL (sortL w)], .msl 1 2 0 w.length, selN (by decide) (by decide) (fun i h => by match i, h with | 0, _ | 1, _ => rfl) ⟨by rw [mp_ren]; rfl, rfl, rfl, trivial⟩, Le.refl _, .inr ⟨?_, rfl⟩⟩
  rw [Pl.sort_len]
theorem end11n {es : Kn} : AWP Try.prog 35 2 c33_11 [(10, NILV)] (HX es) (q33_0 2 (P33 es [])) :=
  v33_11n _ _ _ (So.sort_nil.mono fun r H' hh => .inl ⟨(), hh.1, hh.2, [0, 1], HX es, NILV, Rc.sel2 [], Le.refl _, .inl ⟨rfl, rfl, rfl⟩⟩)
theorem sort_perm {a b : List NM} (h : a.Perm b) (hn : b.Nodup) : sortL a = sortL b :=
  sort_one (h.nodup_iff.2 hn) (sort_strict hn) fun x => by rw [Pl.sort_mem]; exact h.mem_iff
theorem shapeM {es : Kn} {o : List NM} {z : Z2} {ps : List Nat} {w : List NM} {x : NM} {R : List NM} (k : AWP Try.prog 35 2 c33_8 [(10, .msl 1 5 0 (w ++ [x]).length), (23, .ptr 4 0)] (HM es o z ps (w ++ [x])) (q33_2 2 (P33 es R))) :
    AWP Try.prog 35 2 c33_8 [(10, .msl 1 6 0 (w.length + 1)), (23, .ptr 4 0)] (HX es ++ [.mpv (.typed EB (seenM o)) z, .cells [.map 2], .mit 2 z ps, .gone, .arr 1 (.app (.map encL [] w) (.raw [[.str ⟨x.toArray⟩]]))]) (q33_2 2 (P33 es R)) := by
  refine AWP.re (ReSt.arr (id := 6) (q' := .map encL [] (w ++ [x])) rfl (by simp [Ab.Seq.toList]; rfl)) ?_
  refine AWP.shape [0, 1, 2, 3, 4, 6] _ (HM es o z ps (w ++ [x])) (selN (by decide) (by decide) (fun i h => by match i, h with | 0, _ | 1, _ => rfl) ⟨by rw [mp_ren]; rfl, rfl, by rw [mpv_ren]; rfl, rfl, rfl, rfl, trivial⟩) ?_ k
  rw [List.length_append]
  exact ⟨rfl, Le.refl _, rfl, Le.refl _, trivial⟩
theorem loopM {es : Kn} {o : List NM} (hol : o.length ≤ 1000000) (hn : o.Nodup) {z : Z2} : ∀ (m : Nat) (ps : List Nat) (w : List NM), m + ps.length = o.length → Vis o ps w →
    AWP Try.prog 35 2 c33_8 [(10, .msl 1 5 0 w.length), (23, .ptr 4 0)] (HM es o z ps w) (q33_2 2 (P33 es (sortL o))) := by
  have fin : ∀ (ps : List Nat) (w : List NM), Vis o ps w → (∀ i, i < (MM.typed EB (seenM o)).len → i ∈ ps) → AWP Try.prog 35 2 c33_11 [(10, .msl 1 5 0 w.length)] (HM es o z ps w) (q33_0 2 (P33 es (sortL o))) := by
    intro ps w hv ha
    rw [seen_len] at ha
    have hp := vis_end hv ha
    have hwl : w.length ≤ 1000000 := by rw [hp.length_eq]; exact hol
    rw [← sort_perm hp hn]
    exact AWP.shape [0, 1, 5] _ (HX es ++ [arL w]) (selN (by decide) (by decide) (fun i h => by match i, h with | 0, _ | 1, _ => rfl) ⟨by rw [mp_ren]; rfl, rfl, rfl, trivial⟩) (slotsR rfl) (end11m hwl)
  intro m
  induction m with
  | zero =>
    intro ps w hm hv
    refine v33_8m es o z ps w 2 _ (needJ rfl ⟨fun ha => fin ps w hv ha, fun i hi hni k v hk => ?_⟩)
    exfalso
    rw [seen_len] at hi
    have hv2 := vis_len (vis_next hv hi (fun h => hni h))
    simp at hv2; omega
  | succ m ih =>
    intro ps w hm hv
    have hwl := vis_row hv
    refine v33_8m es o z ps w 2 _ (needJ rfl ⟨fun ha => fin ps w hv ha, fun i hi hni k v hk => needJ ⟨rfl, hi⟩ fun k' v' hk' => needJ ⟨rfl, by omega⟩ ?_⟩)
    obtain ⟨hi', rfl⟩ := seen_get hk'
    exact shapeM (ih (i :: ps) _ (by simp; omega) (vis_next hv hi' (fun h => hni h)))
theorem loopN {es : Kn} {o : List NM} (hol : o.length ≤ 1000000) (hn : o.Nodup) {z : Z2} : AWP Try.prog 35 2 c33_8 [(10, NILV), (23, .ptr 4 0)] (HN es o z []) (q33_2 2 (P33 es (sortL o))) := by
  refine v33_8n es o z [] 2 _ (needJ rfl ⟨fun ha => ?_, fun i hi hni k v hk => needJ ⟨rfl, hi⟩ fun k' v' hk' => needJ (by omega) (needJ (by omega) ?_)⟩)
  · have ho : o = [] := by
      cases o with
      | nil => rfl
      | cons x r => have := ha 0 (by rw [seen_len]; simp); simp at this
    subst ho
    rw [show sortL ([] : List NM) = [] from by simp [sortL]]
    exact AWP.shape [0, 1] _ (HX es) (Rc.sel2 [_, _, _]) (slotsR rfl) end11n
  · obtain ⟨hi', rfl⟩ := seen_get hk'
    have hv : Vis o [i] ([] ++ [o.getD i []]) := vis_next ⟨by simp, by simp, rfl⟩ hi' (by simp)
    refine AWP.re (ReSt.arr (id := 5) (q' := .map encL [] [o.getD i []]) rfl (by simp [Ab.Seq.toList]; rfl)) ?_
    exact loopM hol hn (o.length - 1) [i] [o.getD i []] (by simp; omega) hv

/-! ### the names that are needed -/
def unionU (es : Kn) (root : List Need) (l : List Pk) : List NM := root.map (·.1) ++ l.flatMap fun p => (relOf es p).1.2.map (·.1)
def neededM (es : Kn) (root : List Need) (l : List Pk) : List NM := sortL (visitF (gF es l) ((unionU es root l).length + 1) (root.map (·.1)) [])
theorem getP_mem {l : List Pk} {x : NM} (h : (getP l x).2 = true) : (x, (getP l x).1) ∈ l := by
  unfold getP at h ⊢
  split at h
  · rename_i hc
    rw [if_pos hc]
    have hm := memD l noPk _ hc.1
    have e : (x, (l.getD (Pc.placeM l x) noPk).2) = l.getD (Pc.placeM l x) noPk := Prod.ext hc.2.symm rfl
    show (x, (l.getD (Pc.placeM l x) noPk).2) ∈ l
    rw [e]; exact hm
  · cases h
theorem gF_U (es : Kn) (root : List Need) (l : List Pk) (x : NM) : ∀ y ∈ gF es l x, y ∈ unionU es root l := by
  intro y hy
  unfold gF at hy
  split at hy
  · rename_i hp
    exact List.mem_append_right _ (List.mem_flatMap.2 ⟨_, getP_mem hp, hy⟩)
  · cases hy
theorem flat_le {α β : Type} {f : α → List β} {b : Nat} : ∀ (l : List α), (∀ x ∈ l, (f x).length ≤ b) → (l.flatMap f).length ≤ l.length * b
  | [], _ => by simp
  | x :: r, h => by
    have h1 := h x (by simp)
    have h2 := flat_le r fun y hy => h y (by simp [hy])
    rw [List.flatMap_cons, List.length_append, List.length_cons, Nat.succ_mul]; omega
theorem U_len {es : Kn} (hg : OkG es) (root : List Need) (l : List Pk) (hr : root.length ≤ 1000) (hl : l.length ≤ 1000) : (unionU es root l).length ≤ 7000 := by
  have := flat_le (f := fun p => (relOf es p).1.2.map (·.1)) (b := 6) l fun p _ => by rw [List.length_map]; exact (rel_needs hg p).2
  unfold unionU
  rw [List.length_append, List.length_map]
  have := Nat.mul_le_mul_right 6 hl
  omega
section
variable {es : Kn} (hx : OkX es) (hg : OkG es) {root : List Need} {l : List Pk} (hl : l.length ≤ 1000) (hr : root.length ≤ 1000)
include hx hg hl hr
theorem seen_facts : (visitF (gF es l) ((unionU es root l).length + 1) (root.map (·.1)) []).Nodup ∧ (∀ x, x ∈ visitF (gF es l) ((unionU es root l).length + 1) (root.map (·.1)) [] ↔ RS (gF es l) (root.map (·.1)) x) ∧
    (visitF (gF es l) ((unionU es root l).length + 1) (root.map (·.1)) []).length ≤ 7000 := by
  have h := visit_spec (gF es l) (U := unionU es root l) (root := root.map (·.1)) (fun x hx => List.mem_append_left _ hx) (gF_U es root l) (f := (unionU es root l).length + 1) (by omega)
  refine ⟨h.1, h.2, ?_⟩
  have h1 := Rc.rs_len (gF es l) (U := unionU es root l) (root := root.map (·.1)) (fun x hx => List.mem_append_left _ hx) (gF_U es root l) h.1 (fun x hx => (h.2 x).1 hx)
  have := U_len hg root l hr hl
  omega
theorem needed0 : ASpec Try.prog 33 [.ptr 1 0, slN root, slK l] (HX es) (fun r H' => r = slL (neededM es root l) ∧ H' = HX es) := by
  obtain ⟨f1, f2, f3⟩ := seen_facts hx hg hl hr (root := root) (l := l)
  have hUl := U_len hg root l hr hl
  have hv := visit0 hx hg (root := root) (l := l) (by omega) (U := unionU es root l) (fun x hx => List.mem_append_left _ hx) (gF_U es root l) (by omega) ((unionU es root l).length + 1) root [] (by omega) List.nodup_nil (by simp)
    (fun n hn => .base (List.mem_map_of_mem hn)) (by simp)
  have k : ASpec Try.prog 33 [.ptr 1 0, slN root, slK l] (HX es) (P33 es (neededM es root l)) := by
    refine s33 es root l _ (ASpec.inMap 5 (.typed EB (seenM [])) rfl mle_nil (ASpec.call hv (Les.refl _) ⟨_, rfl, rfl, ?_⟩))
    unfold neededM
    generalize visitF (gF es l) ((unionU es root l).length + 1) (root.map (·.1)) [] = o at f1 f2 f3 ⊢
    refine AWP.shape [0, 1, 5, 6] [(8, .ptr 3 0)] [.mp (.typed EK es), .cells [.map 0], .mp (.typed EB (seenM o)), .cells [.map 2]] (selN (by decide) (by decide) (fun i h => by match i, h with | 0, _ | 1, _ => rfl) ⟨by rw [mp_ren]; rfl, rfl, by rw [ren_mp]; rfl, rfl, trivial⟩)
      (slotsR rfl) (v33_6 es o 2 _ fun z hz => loopN (by omega) f1)
  refine ASpec.sel (ASpec.reEnd ((ASpec.sel k).mono fun r H' hh => ?_))
  rcases hh with ⟨e1, e2, e3⟩ | ⟨e1, e2⟩
  · subst e1 e2
    rw [e3]
    exact ⟨_, _, ReSt.refl _ _, [0, 1], HX es, slL [], Rc.sel2 [], nilLle _, rfl, rfl⟩
  · subst e1 e2
    exact ⟨_, _, ReSt.freeze1 (id := 2) (q' := .map encL [] (neededM es root l)) rfl (by show 2 ≤ 3; omega) (by simp [Seq.toList]) (by simp only [Seq.toList]; rw [List.take_of_length_le (by simp)]), [0, 1], HX es, slL (neededM es root l), Rc.sel2 [_], slLle _ _ _, rfl, rfl⟩
end
end Ft
end

section
/- fit.Wrong, fit.Solution, by the program; what a solution is, and that it stays one. -/

set_option linter.unusedVariables false
set_option linter.unusedSimpArgs false
set_option linter.unusedSectionVars false
set_option maxRecDepth 100000
open Go Go.Ab Go.Proofs V S T C
namespace Ft
open W (sl1 slS slN slR leNone renN renS)
open X (hasI getM putI OkX mp_ren optI)
open Pc (slK slKLe UpK dropM)
open Dk (chkF chk_spec getP get_spec chk_up)
open E (PA pa)
open Rc (RS slL slLle nilLle ren_mp slotsR selN sort_strict sort_one sub_len arL More more_get)
open So (sortL)
open Pl (Up)
open Sp (hasS)
/-! ### what is wrong -/
noncomputable def wrongM (es : Kn) (root : List Need) (l : List Pk) : Int × NM :=
  if chkF none l = false then (1, []) else if (unmetF l root).2 = true then (2, (unmetF l root).1)
  else if (firstK (fun p => !(relOf es p).2) l).2 = true then (3, (firstK (fun p => !(relOf es p).2) l).1)
  else if (firstK (lackB es l) l).2 = true then (4, (firstK (lackB es l) l).1)
  else if (firstK (fun p => !decide (p.1 ∈ neededM es root l)) l).2 = true then (5, (firstK (fun p => !decide (p.1 ∈ neededM es root l)) l).1) else (0, [])
noncomputable def solB (es : Kn) (root : List Need) (l : List Pk) : Bool := decide ((wrongM es root l).1 = 0)
noncomputable abbrev RUL : AV := .agg [.bfn 67 [.ptr 2 0], .bfn 68 [.ptr 2 0], .bfn 69 [.ptr 2 0], .bfn 70 [.ptr 2 0], .bfn 71 [.ptr 2 0]]
section
variable {es : Kn} (hx : OkX es) (hg : OkG es) {root : List Need} {l : List Pk} (hl : l.length ≤ 1000) (hr : root.length ≤ 1000) (hp : ∀ p ∈ l, p.1.length ≤ 1000) (hns : NsOk root)
include hx hg hl hr
theorem needed_len : (neededM es root l).length ≤ 7000 := by
  unfold neededM
  rw [Pl.sort_len]
  exact (seen_facts hx hg hl hr).2.2
theorem rule5 : ASpec Try.prog 71 [.ptr 2 0] (HF es root l) (fun r H' => r = .tup [.str (B (firstK (fun p => !decide (p.1 ∈ neededM es root l)) l).1), .bool (firstK (fun p => !decide (p.1 ∈ neededM es root l)) l).2] ∧ H' = HF es root l) := by
  have hq := needed_len hx hg hl hr (root := root) (l := l)
  have hk : ASpec Try.prog 33 [.ptr 1 0, slN root, slK l] (HF es root l) (fun r H' => r = slL (neededM es root l) ∧ H' = HF es root l) :=
    same [0, 1] _ (needed0 hx hg hl hr) (by decide) rfl rfl rfl (fun i hi => by
      match i, hi with
      | 0, _ => show some _ = some (AObj.ren _ (.mp (.typed EK es))); rw [mp_ren]
      | 1, _ => rfl)
  refine ASpec.sel (s71 es root l (PF es root l _) (ASpec.call hk (Les.refl _) ⟨neededM es root l, rfl, rfl, ?_⟩))
  repeat refine ⟨⟨rfl, rfl⟩, ?_⟩
  refine ASpec.call (firsti hx hg (by omega) (neededM es root l) _ (fun p _ => idle0 hx hg (by omega) (neededM es root l) (by omega) p)) (Les.refl _) ⟨(B (firstK (fun p => !decide (p.1 ∈ neededM es root l)) l).1, _), rfl, rfl, ?_⟩
  exact pf (es := es) (root := root) (l := l) [_] fun ρ => Le.refl _
include hp hns
theorem wrong0 : ASpec Try.prog 51 [.ptr 1 0, slN root, slK l] (HX es) (fun r H' => r = .tup [.int .i64 (wrongM es root l).1, .str (B (wrongM es root l).2)] ∧ H' = HX es) := by
  have px : ∀ {k : Int} {n : NM}, wrongM es root l = (k, n) → X.PX es (.tup [.int .i64 (wrongM es root l).1, .str (B (wrongM es root l).2)]) (.tup [.int .i64 k, .str (B n)]) (HF es root l) := fun e => by
    rw [e]; exact X.px (es := es) [_] (Le.refl _)
  refine ASpec.sel (s51 es root l (X.PX es (.tup [.int .i64 (wrongM es root l).1, .str (B (wrongM es root l).2)])) ?_)
  refine AWP.shape [0, 1, 2] [(30, RUL), (31, .int .i64 0)] (HF es root l) (selN (by decide) (by decide) (fun i h => by match i, h with | 0, _ | 1, _ => rfl) ⟨by rw [mp_ren]; rfl, rfl, rfl, trivial⟩) (slotsR rfl) ?_
  refine v51_4a es root l 2 _ (needJ ⟨by omega, by omega⟩ (ASpec.call (rule1 hx hg (by omega) hp) (Les.refl _) ⟨(B [], !chkF none l), rfl, rfl, condBn (fun h1 => ?_) fun h1 => ?_⟩))
  · exact px (by unfold wrongM; rw [if_pos h1])
  have h1' : ¬ chkF none l = false := by rw [h1]; simp
  refine v51_4b es root l 2 _ (needJ ⟨by omega, by omega⟩ (ASpec.call (rule2 hx hg (by omega) hns (by unfold lim; omega)) (Les.refl _) ⟨(B (unmetF l root).1, (unmetF l root).2), rfl, rfl, condB (fun h2 => px ?_) fun h2 => ?_⟩))
  · unfold wrongM; rw [if_neg h1', if_pos h2]
  have h2' : ¬ (unmetF l root).2 = true := by rw [show (unmetF l root).2 = false from h2]; simp
  refine v51_4c es root l 2 _ (needJ ⟨by omega, by omega⟩ (ASpec.call (rule3 hx hg (by omega)) (Les.refl _) ⟨(B (firstK (fun p => !(relOf es p).2) l).1, (firstK (fun p => !(relOf es p).2) l).2), rfl, rfl, condB (fun h3 => px ?_) fun h3 => ?_⟩))
  · unfold wrongM; rw [if_neg h1', if_neg h2', if_pos h3]
  have h3' : ¬ (firstK (fun p => !(relOf es p).2) l).2 = true := by rw [show (firstK (fun p => !(relOf es p).2) l).2 = false from h3]; simp
  refine v51_4d es root l 2 _ (needJ ⟨by omega, by omega⟩ (ASpec.call (rule4 hx hg (by omega)) (Les.refl _) ⟨(B (firstK (lackB es l) l).1, (firstK (lackB es l) l).2), rfl, rfl, condB (fun h4 => px ?_) fun h4 => ?_⟩))
  · unfold wrongM; rw [if_neg h1', if_neg h2', if_neg h3', if_pos h4]
  have h4' : ¬ (firstK (lackB es l) l).2 = true := by rw [show (firstK (lackB es l) l).2 = false from h4]; simp
  refine v51_4e es root l 2 _ (needJ ⟨by omega, by omega⟩ (ASpec.call (rule5 hx hg hl hr) (Les.refl _) ⟨(B (firstK (fun p => !decide (p.1 ∈ neededM es root l)) l).1, (firstK (fun p => !decide (p.1 ∈ neededM es root l)) l).2), rfl, rfl, condB (fun h5 => px ?_) fun h5 => v51_4f es root l 2 _ (px ?_)⟩))
  · unfold wrongM; rw [if_neg h1', if_neg h2', if_neg h3', if_neg h4', if_pos h5]
  · have h5' : ¬ (firstK (fun p => !decide (p.1 ∈ neededM es root l)) l).2 = true := by rw [show (firstK (fun p => !decide (p.1 ∈ neededM es root l)) l).2 = false from h5]; simp
    unfold wrongM; rw [if_neg h1', if_neg h2', if_neg h3', if_neg h4', if_neg h5']
theorem sol0 : ASpec Try.prog 32 [.ptr 1 0, slN root, slK l] (HX es) (fun r H' => r = .bool (solB es root l) ∧ H' = HX es) := by
  refine s32 es root l _ (ASpec.call (wrong0 hx hg hl hr hp hns) (Les.refl _) ⟨((wrongM es root l).1, B (wrongM es root l).2), rfl, rfl, ?_, rfl⟩)
  congr 1
theorem sol_at (H : List AObj) (q p : Nat) (hqp : q ≠ p) (hq : H[q]? = some (.mp (.typed EK es))) (hp2 : H[p]? = some (.cells [.map q])) :
    ASpec Try.prog 32 [.ptr p 0, slN root, slK l] H (fun r H' => r = .bool (solB es root l) ∧ H' = H) := by
  have := X.liftX H q p hqp hq hp2 (sol0 hx hg hl hr hp hns) (args' := [.ptr p 0, slN root, slK l]) (r' := .bool (solB es root l)) rfl rfl
  rwa [set_same hq] at this
theorem wrong_at (H : List AObj) (q p : Nat) (hqp : q ≠ p) (hq : H[q]? = some (.mp (.typed EK es))) (hp2 : H[p]? = some (.cells [.map q])) :
    ASpec Try.prog 51 [.ptr p 0, slN root, slK l] H (fun r H' => r = .tup [.int .i64 (wrongM es root l).1, .str (B (wrongM es root l).2)] ∧ H' = H) := by
  have := X.liftX H q p hqp hq hp2 (wrong0 hx hg hl hr hp hns) (args' := [.ptr p 0, slN root, slK l]) (r' := .tup [.int .i64 (wrongM es root l).1, .str (B (wrongM es root l).2)]) rfl rfl
  rwa [set_same hq] at this
omit hp hns in
theorem needed_at (H : List AObj) (q p : Nat) (hqp : q ≠ p) (hq : H[q]? = some (.mp (.typed EK es))) (hp2 : H[p]? = some (.cells [.map q])) :
    ASpec Try.prog 33 [.ptr p 0, slN root, slK l] H (fun r H' => r = slL (neededM es root l) ∧ H' = H) := by
  have := X.liftX H q p hqp hq hp2 (needed0 hx hg hl hr (root := root) (l := l)) (args' := [.ptr p 0, slN root, slK l]) (r' := slL (neededM es root l)) rfl rfl
  rwa [set_same hq] at this
end

/-! ### what a solution is -/
structure Sol (es : Kn) (root : List Need) (l : List Pk) : Prop where
  ck : chkF none l = true
  met : ∀ n ∈ root, metB l n = true
  rel : ∀ p ∈ l, (relOf es p).2 = true
  lack : ∀ p ∈ l, lackB es l p = false
  need : ∀ p ∈ l, p.1 ∈ neededM es root l
theorem unmet_none {l : List Pk} : ∀ {root : List Need}, (unmetF l root).2 = false ↔ ∀ n ∈ root, metB l n = true
  | [] => by simp [unmetF]
  | n :: r => by
    simp only [unmetF, List.forall_mem_cons]
    by_cases h : metB l n = false
    · rw [if_pos h]; simp [h]
    · rw [if_neg h, unmet_none (root := r)]; simp [h]
theorem first_none {f : Pk → Bool} {l : List Pk} : (firstK f l).2 = false ↔ ∀ p ∈ l, f p = false := by
  unfold firstK
  cases h : l.find? f with
  | none =>
    rw [List.find?_eq_none] at h
    exact ⟨fun _ p hp => by simpa using h p hp, fun _ => rfl⟩
  | some p =>
    have h1 := List.find?_some h
    have h2 := List.mem_of_find?_eq_some h
    exact ⟨fun h => by simp at h, fun h => by rw [h p h2] at h1; cases h1⟩
theorem sol_iff {es : Kn} {root : List Need} {l : List Pk} : solB es root l = true ↔ Sol es root l := by
  unfold solB wrongM
  rw [decide_eq_true_eq]
  by_cases h1 : chkF none l = false
  · rw [if_pos h1]; exact ⟨fun h => by simp at h, fun h => by rw [h.ck] at h1; cases h1⟩
  rw [if_neg h1]
  by_cases h2 : (unmetF l root).2 = true
  · rw [if_pos h2]; exact ⟨fun h => by simp at h, fun h => by rw [unmet_none.2 h.met] at h2; cases h2⟩
  rw [if_neg h2]
  by_cases h3 : (firstK (fun p => !(relOf es p).2) l).2 = true
  · rw [if_pos h3]; exact ⟨fun h => by simp at h, fun h => by rw [first_none.2 (fun p hp => by simp [h.rel p hp])] at h3; cases h3⟩
  rw [if_neg h3]
  by_cases h4 : (firstK (lackB es l) l).2 = true
  · rw [if_pos h4]; exact ⟨fun h => by simp at h, fun h => by rw [first_none.2 h.lack] at h4; cases h4⟩
  rw [if_neg h4]
  by_cases h5 : (firstK (fun p => !decide (p.1 ∈ neededM es root l)) l).2 = true
  · rw [if_pos h5]; exact ⟨fun h => by simp at h, fun h => by rw [first_none.2 (fun p hp => by simp [h.need p hp])] at h5; cases h5⟩
  rw [if_neg h5]
  refine ⟨fun _ => ⟨by simpa using h1, unmet_none.1 (by simpa using h2), fun p hp => ?_, first_none.1 (by simpa using h4), fun p hp => ?_⟩, fun _ => rfl⟩
  · have := first_none.1 (show (firstK (fun p => !(relOf es p).2) l).2 = false by simpa using h3) p hp
    simpa using this
  · have := first_none.1 (show (firstK (fun p => !decide (p.1 ∈ neededM es root l)) l).2 = false by simpa using h5) p hp
    simpa using this
theorem getM_mem : ∀ {l : List Pk}, UpK l → ∀ {p : Pk}, p ∈ l → Pc.getM l p.1 = (p.2, true)
  | [], _, p, h => by simp at h
  | y :: r, hu, p, h => by
    have hu := List.pairwise_cons.1 hu
    rcases List.mem_cons.1 h with rfl | h
    · simp [Pc.getM]
    · have := hu.1 p h
      have hne : ¬ y.1 = p.1 := fun e => by rw [e] at this; exact absurd (Dp.less_iff.1 this) (Pl.ltI)
      simp only [Pc.getM, if_neg hne]
      exact getM_mem hu.2 h
theorem getP_in {l : List Pk} (hc : chkF none l = true) {p : Pk} (hp : p ∈ l) : getP l p.1 = (p.2, true) := by
  rw [Dk.get_one (chk_up hc), getM_mem (chk_up hc) hp]
theorem met_in {l : List Pk} {n : Need} (h : metB l n = true) : ∃ v, (n.1, v) ∈ l := by
  unfold metB at h
  rw [Bool.and_eq_true] at h
  exact ⟨_, getP_mem h.1⟩
theorem lack_met {es : Kn} {l : List Pk} {p : Pk} (h : lackB es l p = false) : ∀ n ∈ (relOf es p).1.2, metB l n = true := by
  intro n hn
  unfold lackB at h
  rw [List.any_eq_false] at h
  simpa using h n hn
theorem needed_iff {es : Kn} {root : List Need} {l : List Pk} (x : NM) : x ∈ neededM es root l ↔ RS (gF es l) (root.map (·.1)) x := by
  unfold neededM
  rw [Pl.sort_mem]
  exact (visit_spec (gF es l) (U := unionU es root l) (root := root.map (·.1)) (fun x hx => List.mem_append_left _ hx) (gF_U es root l) (f := (unionU es root l).length + 1) (by omega)).2 x
theorem rel_more {es es2 : Kn} (h : More es es2) {p : Pk} (hp : (relOf es p).2 = true) : relOf es2 p = relOf es p := by
  have hh : hasI es p.1 = true := by
    cases hi : hasI es p.1 with
    | true => rfl
    | false =>
      have hn := X.find_none hi
      unfold relOf getM at hp
      rw [hn] at hp
      simp only [relM] at hp
      split at hp
      · cases hp
      · split at hp
        · rename_i hc; simp [lowR] at hc
        · cases hp
  unfold relOf
  rw [more_get h hh]
theorem sol_more {es es2 : Kn} {root : List Need} {l : List Pk} (h : More es es2) (hs : Sol es root l) : Sol es2 root l ∧ neededM es2 root l = neededM es root l := by
  have hrel : ∀ p ∈ l, relOf es2 p = relOf es p := fun p hp => rel_more h (hs.rel p hp)
  have hgf : gF es2 l = gF es l := by
    funext x
    unfold gF
    split
    · rename_i hp; rw [hrel _ (getP_mem hp)]
    · rfl
  have hU : unionU es2 root l = unionU es root l := by
    unfold unionU
    congr 1
    rw [List.flatMap_def, List.flatMap_def, List.map_congr_left (fun p hp => by rw [hrel p hp])]
  have hn : neededM es2 root l = neededM es root l := by unfold neededM; rw [hgf, hU]
  refine ⟨⟨hs.ck, hs.met, fun p hp => by rw [hrel p hp]; exact hs.rel p hp, fun p hp => ?_, fun p hp => by rw [hn]; exact hs.need p hp⟩, hn⟩
  have := hs.lack p hp
  unfold lackB at this ⊢
  rw [hrel p hp]; exact this
theorem sol_names {es : Kn} {root : List Need} {l : List Pk} (hs : Sol es root l) {y : NM} (h : RS (gF es l) (root.map (·.1)) y) : ∃ v, (y, v) ∈ l := by
  induction h with
  | base h =>
    obtain ⟨n, hn, rfl⟩ := List.mem_map.1 h
    exact met_in (hs.met n hn)
  | step _ hy ih =>
    unfold gF at hy
    split at hy
    · rename_i hp
      obtain ⟨n, hn, rfl⟩ := List.mem_map.1 hy
      exact met_in (lack_met (hs.lack _ (getP_mem hp)) n hn)
    · cases hy
theorem sol_needed {es : Kn} {root : List Need} {l : List Pk} (hs : Sol es root l) : neededM es root l = l.map (·.1) := by
  have hu : Up (l.map (·.1)) := List.pairwise_map.2 ((chk_up hs.ck).imp fun {a b} h => Dp.less_iff.1 h)
  have hv := visit_spec (gF es l) (U := unionU es root l) (root := root.map (·.1)) (fun x hx => List.mem_append_left _ hx) (gF_U es root l) (f := (unionU es root l).length + 1) (by omega)
  unfold neededM
  refine sort_one hv.1 hu fun x => ?_
  rw [hv.2]
  constructor
  · intro h
    obtain ⟨v, hm⟩ := sol_names hs h
    exact List.mem_map.2 ⟨_, hm, rfl⟩
  · intro h
    obtain ⟨p, hp, rfl⟩ := List.mem_map.1 h
    exact (needed_iff _).1 (hs.need p hp)
theorem drop_none {es : Kn} {root : List Need} {l : List Pk} (hs : Sol es root l) {p : Pk} (hp : p ∈ l) : ¬ Sol es root (dropM l p.1) := by
  intro h2
  have hsub : ∀ {q : Pk}, q ∈ dropM l p.1 → q ∈ l ∧ q.1 ≠ p.1 := fun {q} hq => by
    unfold dropM at hq
    rw [List.mem_filter] at hq
    exact ⟨hq.1, by simpa using hq.2⟩
  have key : ∀ y, RS (gF es l) (root.map (·.1)) y → ∃ v, (y, v) ∈ dropM l p.1 := by
    intro y hy
    induction hy with
    | base h =>
      obtain ⟨n, hn, rfl⟩ := List.mem_map.1 h
      exact met_in (h2.met n hn)
    | step _ hy ih =>
      obtain ⟨v, hv⟩ := ih
      have hg := getP_in hs.ck (hsub hv).1
      unfold gF at hy
      rw [hg, if_pos rfl] at hy
      obtain ⟨n, hn, rfl⟩ := List.mem_map.1 hy
      exact met_in (lack_met (h2.lack _ hv) n hn)
  obtain ⟨v, hv⟩ := key p.1 ((needed_iff _).1 (hs.need p hp))
  exact (hsub hv).2 rfl
end Ft
end

section
/- The law FitGrows: it returns true. -/

set_option linter.unusedVariables false
set_option linter.unusedSimpArgs false
set_option linter.unusedSectionVars false
set_option maxRecDepth 100000
open Go Go.Ab Go.Proofs V S T C
namespace Ft
open W (sl1 slS slN slR leNone renN renS)
open X (hasI getM putI OkX okX_nil okX_put mp_ren largeD_spec largeD_ok)
open Xd (ofI slE smE)
open Pc (slK slKLe UpK dropM)
open Dk (chkF getP largeK_ok)
open E (PA pa)
open Rc (RS slL More more_of)
open Rr (okX_of)
open Sp (hasS)
theorem okG_of : ∀ (e : List Ent) (es : Kn), OkG es → OkG (ofI e es)
  | [], _, h => h
  | x :: e, es, h => okG_of e _ (okG_put h)

/-! ### the example -/
abbrev rootA : List Need := [([97], [(0, 9)])]
abbrev bodyA : List UInt8 := [1, 97, 1, 5, 0]
abbrev esA : Kn := [(B [97], some ([97], [(5, [])]))]
theorem putA : putI [] [97] bodyA = (0, esA) := by
  have h1 : fitM [97] = true := by decide +kernel
  have h2 : X.readK [97] bodyA = some ([97], [(5, [])]) := by
    have e1 : (W.readM bodyA).2 = 0 := by decide +kernel
    have e2 : (W.readM bodyA).1 = ([97], [(5, [])]) := by kernel_rfl
    unfold X.readK
    rw [if_neg (by rw [e1, e2]; simp), e2]
  rw [putI, if_neg (by rw [h1]; simp), if_neg (by simp [hasI, findM]), h2]; rfl
theorem okA : OkX esA := by rw [show esA = (putI [] [97] bodyA).2 from by rw [putA]]; exact okX_put okX_nil
theorem okGA : OkG esA := by rw [show esA = (putI [] [97] bodyA).2 from by rw [putA]]; exact okG_put okG_nil
theorem nsA : NsOk rootA := fun n hn => by
  simp at hn
  subst hn
  exact ⟨by decide +kernel, by show chkS (-1) [(0, 9)] = true; decide⟩
theorem wrongA : wrongM esA rootA [] = (2, [97]) := by
  have h1 : chkF none [] = true := rfl
  have h2 : metB [] ([97], [(0, 9)]) = false := by unfold metB getP; simp
  unfold wrongM
  rw [if_neg (by rw [h1]; simp)]
  simp only [unmetF, if_pos h2, if_true]
theorem fitA : fitM [97] = true := by decide +kernel
theorem getPA : getP [([97], 5)] [97] = (5, true) := by
  have h : Pc.placeM [([97], 5)] [97] = 0 := by decide
  unfold getP
  rw [h]; simp
theorem relA : relOf esA ([97], 5) = ((5, []), true) := by
  have h : (getM esA [97]).1 = ([97], [(5, [])]) := by unfold getM; simp [findM]
  unfold relOf
  rw [h]
  simp [relM, lowR]
theorem solA : solB esA rootA [([97], 5)] = true := by
  rw [sol_iff]
  refine ⟨?_, fun n hn => ?_, fun p hp => ?_, fun p hp => ?_, fun p hp => ?_⟩
  · have hf : Dk.fitP ([97], 5) = true := by unfold Dk.fitP; rw [fitA]; decide
    simp only [Dk.chkF, hf, Bool.true_eq_false, if_false]
  · simp at hn; subst hn
    unfold metB
    rw [getPA]; decide
  · simp at hp; subst hp; rw [relA]
  · simp at hp; subst hp
    unfold lackB
    rw [relA]; rfl
  · simp at hp; subst hp
    rw [needed_iff]
    exact .base (by simp)
theorem awake_spec (H : List AObj) : ASpec Try.prog 31 [] H (fun r H' => r = .bool true ∧ H' = H) := by
  have k : ASpec Try.prog 31 [] [] (fun r H' => r = .bool true ∧ H' = []) := by
    refine ASpec.sel (s31 _ (ASpec.call (X.new_spec []) (Les.refl _) ⟨(), rfl, rfl, ?_⟩))
    refine ASpec.call (X.put_spec [] [97] bodyA (by unfold lim; simp) _ 0 1 (by omega) rfl rfl) ⟨Le.refl _, Le.refl _, Le.sl rfl (.inl rfl) (.inl rfl), trivial⟩ ⟨putI [] [97] bodyA, rfl, rfl, ?_⟩
    rw [putA]
    have hroot : Le (.sl 2 (.raw [[.str (B [97]), .sl 2 (.raw [[.int .i64 0, .int .i64 9]]) .full]]) .full) (slN rootA) :=
      Le.slE rfl (fun i h h' => by
        match i, h with
        | 0, _ => exact ⟨Le.refl _, Le.sl rfl (.inl rfl) (.inr rfl), trivial⟩) (.inr rfl)
    have hnil : Le (.sl 0 (.raw []) .nil) (slK []) := Le.sl rfl (.inr ⟨rfl, fun _ h => by cases h⟩) (.inr rfl)
    have hone : Le (.sl 2 (.raw [[.str (B [97]), .int .i64 5]]) .full) (slK [([97], 5)]) := Le.sl rfl (.inl rfl) (.inr rfl)
    refine ASpec.call (wrong_at okA okGA (root := rootA) (l := []) (by simp) (by simp) (by simp) nsA _ 0 1 (by omega) rfl rfl) ⟨Le.refl _, hroot, hnil, trivial⟩ ⟨((wrongM esA rootA []).1, B (wrongM esA rootA []).2), rfl, rfl, ?_⟩
    rw [wrongA]
    refine condE (fun _ => ?_) fun h => (h rfl).elim
    refine ASpec.call (sol_at okA okGA (root := rootA) (l := [([97], 5)]) (by simp) (by simp) (by simp) nsA _ 0 1 (by omega) rfl rfl) ⟨Le.refl _, hroot, hone, trivial⟩ ⟨_, rfl, rfl, ?_⟩
    rw [solA]
    refine condB (fun _ => condE (fun _ => pa ?_) fun h => (h rfl).elim) fun h => by cases h
    show Le (AV.bool ((B [97]).toList == (B [97]).toList)) _
    rw [B_toList]; exact Le.refl _
  exact ASpec.pureH H k _ _ rfl rfl

/-! ### the law -/
noncomputable abbrev HL (c : Ch) (es : Kn) : List AObj := [.cells (encCh c), .mp (.typed EK es), .cells [.map 1]]
theorem wake (H : List AObj) : ASpec Try.prog 31 [] H (fun r H' => ∃ x : Unit, r = .bool true ∧ H' = H ∧ PB true (.bool true) H) := ASpec.call (awake_spec _) (Les.refl _) ⟨(), rfl, rfl, pb rfl⟩
theorem map_getD (l : List Pk) (i : Nat) : (l.map (·.1)).getD i [] = (l.getD i noPk).1 := by
  simp only [List.getD_eq_getElem?_getD, List.getElem?_map]
  cases l[i]? <;> rfl
section
variable {c : Ch} {es : Kn} (hx : OkX es) (hg : OkG es) (hl : c.2.length ≤ 60) (hp : ∀ p ∈ c.2, p.1.length ≤ 200) (hr : c.1.length ≤ 40) (hns : NsOk c.1) (hs : Sol es c.1 c.2)
include hx hg hl hp hr hns hs
theorem l14 : ∀ (m i : Nat), m + i = c.2.length → AWP Try.prog 117 0 c7_14 [(5, .ptr 0 0), (7, .ptr 2 0), (8, slL (c.2.map (·.1))), (10, .int .i64 i)] (HL c es) (q7_4 0 (PB true)) := by
  intro m
  induction m with
  | zero =>
    intro i hm
    exact v7_14 c es _ _ _ _ (condD (fun hc => by omega) fun _ => wake _)
  | succ m ih =>
    intro i hm
    have hmem := memD c.2 noPk i (by omega)
    refine v7_14 c es _ _ _ _ (condD (fun _ => needJ ⟨by omega, by rw [List.length_map]; omega⟩ (needJ ⟨by omega, by omega⟩ ?_)) fun hc => by omega)
    rw [Int.toNat_natCast, map_getD, succ64 (by omega)]
    refine condSn (fun h => (h rfl).elim) fun _ => needJ ⟨by omega, by omega⟩ ?_
    generalize c.2.getD i noPk = p at hmem ⊢
    refine ASpec.call (Dk.rdrop_spec c.2 p.1 (by omega) _) (Les.refl _) ⟨_, rfl, rfl, ?_⟩
    repeat refine ⟨⟨rfl, rfl⟩, ?_⟩
    have hdl := Dk.dropM_len c.2 p.1
    refine ASpec.call (sol_at hx hg (root := c.1) (l := dropM c.2 p.1) (by omega) (by omega) (fun q hq => by have := hp q ((List.mem_filter.1 hq).1); omega) hns _ 1 2 (by omega) rfl rfl) (Les.refl _) ⟨_, rfl, rfl, condB (fun h => ?_) fun _ => ih (i + 1) (by omega)⟩
    exact (drop_none hs hmem (sol_iff.1 h)).elim
theorem l11 : AWP Try.prog 117 0 c7_11 [(5, .ptr 0 0), (7, .ptr 2 0), (8, slL (c.2.map (·.1)))] (HL c es) (q7_0 0 (PB true)) := by
  refine v7_11 c es _ _ _ (ASpec.call (sol_at hx hg (root := c.1) (l := c.2) (by omega) (by omega) (fun q hq => by have := hp q hq; omega) hns _ 1 2 (by omega) rfl rfl) (Les.refl _) ⟨_, rfl, rfl, ?_⟩)
  rw [sol_iff.2 hs]
  refine condBn (fun h => by cases h) fun _ => condNe (fun h => (h (by rw [List.length_map])).elim) fun _ => ?_
  exact v7_13 c es _ _ _ (l14 hx hg hl hp hr hns hs c.2.length 0 (by omega))
end
theorem gr8 {more : List Ent} (hm : more.length ≤ 30 ∧ ∀ x ∈ more, x.1.length ≤ 200 ∧ x.2.length ≤ 9000) {c : Ch} (hl : c.2.length ≤ 60) (hp : ∀ p ∈ c.2, p.1.length ≤ 200) (hr : c.1.length ≤ 40) (hns : NsOk c.1) {es1 : Kn} (hs : Sol es1 c.1 c.2) :
    ∀ (d i : Nat) (es : Kn), d + i = more.length → OkX es → OkG es → ofI (more.drop i) es = es1 →
    AWP Try.prog 117 0 c7_8 [(1, slE more), (5, .ptr 0 0), (7, .ptr 2 0), (8, slL (c.2.map (·.1))), (9, .int .i64 i)] (HL c es) (q7_2 0 (PB true)) := by
  have h30 := hm.1
  intro d
  induction d with
  | zero =>
    intro i es hd hx hg h
    rw [List.drop_eq_nil_of_le (by omega)] at h
    have h : es = es1 := h
    subst h
    exact v7_8 more c es _ _ _ _ (condD (fun hc => by omega) fun _ => l11 hx hg hl hp hr hns hs)
  | succ d ih =>
    intro i es hd hx hg h
    have hy := hm.2 _ (memD more ([], []) i (by omega))
    rw [dropD more ([], []) i (by omega)] at h
    refine v7_8 more c es _ _ _ _ (condD (fun hc => needJ ⟨by omega, by omega⟩ (needJ ⟨by omega, by omega⟩ ?_)) fun hc => by omega)
    rw [Int.toNat_natCast, succ64 (by omega)]
    generalize more.getD i ([], []) = x at h hy ⊢
    simp only [ofI] at h
    exact ASpec.call (X.put_spec es x.1 x.2 (by unfold lim; omega) _ 1 2 (by omega) rfl rfl) (Les.refl _) ⟨putI es x.1 x.2, rfl, rfl, ih (i + 1) _ (by omega) (okX_put hx) (okG_put hg) h⟩

theorem fitGrows_spec (e more : List Ent) (c : Ch) : ASpec Try.prog 7 [slE e, slE more, .agg (encCh c)] [] (fun r H' => r = .bool true ∧ H' = []) := by
  refine ASpec.sel (s7 e more c (PB true) (ASpec.call (largeD_spec e _) (Les.refl _) ⟨_, rfl, rfl, condB (fun _ => wake _) fun h1 => ?_⟩))
  refine ASpec.call (largeD_spec more _) (Les.refl _) ⟨_, rfl, rfl, condB (fun _ => wake _) fun h2 => ?_⟩
  refine ASpec.call (largeN_spec c.1 _) (Les.refl _) ⟨_, rfl, rfl, condB (fun _ => wake _) fun h3 => ?_⟩
  have he := largeD_ok h1
  have hm := largeD_ok h2
  have hr : c.1.length ≤ 40 := by
    unfold largeN at h3
    split at h3
    · cases h3
    · omega
  refine ASpec.call (rneedCheck_spec c.1 (largeN_ok h3) _) (Les.refl _) ⟨_, rfl, rfl, condBn (fun _ => wake _) fun hc => ?_⟩
  have hns := (ns_of hc).1
  refine ASpec.call (Dk.large_spec c.2 _) (Les.refl _) ⟨_, rfl, rfl, condB (fun _ => wake _) fun h4 => ?_⟩
  obtain ⟨hl, hp⟩ := largeK_ok h4
  have h30 := he.1
  have hsm : smE e := ⟨by omega, he.2⟩
  have hX := okX_of e [] okX_nil
  have hG := okG_of e [] okG_nil
  refine ASpec.call (Xd.xof_spec e hsm _) (Les.refl _) ⟨ofI e [], rfl, rfl, ?_⟩
  generalize ofI e [] = es0 at hX hG ⊢
  have hp' : ∀ p ∈ c.2, p.1.length ≤ 1000 := fun q hq => by have := hp q hq; omega
  refine v7_4 more c es0 _ _ (ASpec.call (sol_at hX hG (root := c.1) (l := c.2) (by omega) (by omega) hp' hns _ 1 2 (by omega) rfl rfl) (Les.refl _) ⟨_, rfl, rfl, condBn (fun _ => wake _) fun hs => ?_⟩)
  have hs := sol_iff.1 hs
  refine v7_6 more c es0 _ _ (ASpec.call (needed_at hX hG (root := c.1) (l := c.2) (by omega) (by omega) _ 1 2 (by omega) rfl rfl) (Les.refl _) ⟨_, rfl, rfl, ?_⟩)
  rw [sol_needed hs]
  exact gr8 hm hl hp hr hns (sol_more (more_of more es0) hs).1 more.length 0 es0 (by omega) hX hG rfl
end Ft
end
