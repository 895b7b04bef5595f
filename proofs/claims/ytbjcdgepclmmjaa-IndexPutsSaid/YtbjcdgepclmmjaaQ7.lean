/- Q7: several of this proof's own texts, one behind the other: what each proves stands at its head. -/
import Derived.Shelf.SortM.Plain
import Derived.Shelf.SortM.SortNone
import Derived.Ground.SlgmProg
import Derived.Test.YtbjcdgepclmmjaaProg
import Derived.Test.YtbjcdgepclmmjaaA4
import Derived.Test.YtbjcdgepclmmjaaQ5
import Derived.Test.YtbjcdgepclmmjaaA3
import Derived.Test.YtbjcdgepclmmjaaQ6
import Derived.Shelf.Lays
import Derived.Shelf.Small.Strs
section
/- The library's sort of strings and of ints at this program's numbers: laid by the kit's own tool. -/

namespace Go.Proofs
open Go.Shelf
def Try.mSort_ren : Go.Shelf.Ren := ⟨fun | 6 => 229 | 8 => 302 | 9 => 310 | 19 => 350 | 20 => 351 | 21 => 353 | 22 => 354 | 23 => 355 | 24 => 356 | 25 => 357 | 26 => 358 | 27 => 359 | 28 => 360 | 29 => 361 | 36 => 386 | 31 => 381 | 32 => 382 | 37 => 387 | 38 => 388 | 39 => 389 | 41 => 397 | n => n, fun | 27 => 98 | 29 => 9 | 3 => 3 | 32 => 364 | 26 => 98 | 0 => 0 | 44 => 396 | 46 => 398 | 4 => 4 | 36 => 389 | 35 => 388 | 41 => 131 | 5 => 5 | 9 => 9 | 53 => 416 | 57 => 420 | 63 => 428 | 64 => 253 | n => n, fun | n => n⟩
theorem Try.mSort : Go.Proofs.SlLaysM.n6 Try.prog Try.mSort_ren := {
  mixed := by kernel_rfl
  f6 := ⟨Try.f229.name, by decide, Try.func229.trans (congrArg some (by kernel_rfl))⟩
  f8 := Try.func302.trans (congrArg some (by kernel_rfl))
  f9 := ⟨Try.f310.name, by decide, Try.func310.trans (congrArg some (by kernel_rfl))⟩
  f19 := Try.func350.trans (congrArg some (by kernel_rfl))
  f20 := Try.func351.trans (congrArg some (by kernel_rfl))
  f21 := ⟨Try.f353.name, by decide, Try.func353.trans (congrArg some (by kernel_rfl))⟩
  f22 := ⟨Try.f354.name, by decide, Try.func354.trans (congrArg some (by kernel_rfl))⟩
  f23 := ⟨Try.f355.name, by decide, Try.func355.trans (congrArg some (by kernel_rfl))⟩
  f24 := ⟨Try.f356.name, by decide, Try.func356.trans (congrArg some (by kernel_rfl))⟩
  f25 := ⟨Try.f357.name, by decide, Try.func357.trans (congrArg some (by kernel_rfl))⟩
  f26 := ⟨Try.f358.name, by decide, Try.func358.trans (congrArg some (by kernel_rfl))⟩
  f27 := ⟨Try.f359.name, by decide, Try.func359.trans (congrArg some (by kernel_rfl))⟩
  f28 := ⟨Try.f360.name, by decide, Try.func360.trans (congrArg some (by kernel_rfl))⟩
  f29 := ⟨Try.f361.name, by decide, Try.func361.trans (congrArg some (by kernel_rfl))⟩
  f31 := Try.func381.trans (congrArg some (by kernel_rfl))
  f32 := Try.func382.trans (congrArg some (by kernel_rfl))
  f36 := ⟨Try.f386.name, by decide, Try.func386.trans (congrArg some (by kernel_rfl))⟩
  f37 := ⟨Try.f387.name, by decide, Try.func387.trans (congrArg some (by kernel_rfl))⟩
  f38 := ⟨Try.f388.name, by decide, Try.func388.trans (congrArg some (by kernel_rfl))⟩
  f39 := ⟨Try.f389.name, by decide, Try.func389.trans (congrArg some (by kernel_rfl))⟩
  f41 := ⟨Try.f397.name, by decide, Try.func397.trans (congrArg some (by kernel_rfl))⟩
  t0 := Try.underlying0
  a0 := Try.isAgg0
  z0 := Try.sizeOf0
  v0 := Try.zeroValue0
  t3 := Try.underlying3
  a3 := Try.isAgg3
  z3 := Try.sizeOf3
  v3 := Try.zeroValue3
  t4 := Try.underlying4
  a4 := Try.isAgg4
  z4 := Try.sizeOf4
  v4 := Try.zeroValue4
  t5 := Try.underlying5
  a5 := Try.isAgg5
  z5 := Try.sizeOf5
  v5 := Try.zeroValue5
  t9 := Try.underlying9
  a9 := Try.isAgg9
  z9 := Try.sizeOf9
  v9 := Try.zeroValue9
  t26 := Try.underlying98
  a26 := Try.isAgg98
  z26 := Try.sizeOf98
  v26 := Try.zeroValue98
  t27 := Try.underlying98
  a27 := Try.isAgg98
  z27 := Try.sizeOf98
  v27 := Try.zeroValue98
  t29 := Try.underlying9
  a29 := Try.isAgg9
  z29 := Try.sizeOf9
  v29 := Try.zeroValue9
  t32 := Try.underlying364
  a32 := Try.isAgg364
  z32 := Try.sizeOf364
  v32 := Try.zeroValue364
  t35 := Try.underlying388
  a35 := Try.isAgg388
  z35 := Try.sizeOf388
  v35 := Try.zeroValue388
  t36 := Try.underlying389
  a36 := Try.isAgg389
  z36 := Try.sizeOf389
  v36 := Try.zeroValue389
  t41 := Try.underlying131
  a41 := Try.isAgg131
  z41 := Try.sizeOf131
  v41 := Try.zeroValue131
  t44 := Try.underlying396
  a44 := Try.isAgg396
  z44 := Try.sizeOf396
  v44 := Try.zeroValue396
  t46 := Try.underlying398
  a46 := Try.isAgg398
  z46 := Try.sizeOf398
  v46 := Try.zeroValue398
  t53 := Try.underlying416
  a53 := Try.isAgg416
  z53 := Try.sizeOf416
  v53 := Try.zeroValue416
  t57 := Try.underlying420
  a57 := Try.isAgg420
  z57 := Try.sizeOf420
  v57 := Try.zeroValue420
  t63 := Try.underlying428
  a63 := Try.isAgg428
  z63 := Try.sizeOf428
  v63 := Try.zeroValue428
  t64 := Try.underlying253
  a64 := Try.isAgg253
  z64 := Try.sizeOf253
  v64 := Try.zeroValue253 }
end Go.Proofs
end

section
/- The library's sort of names and of ints, as specifications. -/

set_option linter.unusedVariables false
set_option linter.unusedSimpArgs false
open Go Go.Ab Go.Proofs Go.Sort T
namespace So

def sortL (l : List (List UInt8)) : List (List UInt8) := l.mergeSort fun x y => decide (x ≤ y)
theorem sort_spec {H : List AObj} {id : Nat} {q : Seq} {l : List (List UInt8)} (hid : H[id]? = some (.arr 1 q)) (hq : q.toList = l.map encL) (hl : l.length < 4611686018427387904) :
    ASpec Try.prog 229 [.msl 1 id 0 l.length] H (fun r H' => r = .tup [] ∧ H' = H.set id (.arr 1 (.map encL [] (sortL l)))) := by
  refine ASpec.sorts (enc := encStr) (e1 := fun x => .str ⟨x.toArray⟩) (srt := sortL) (fun _ => rfl) (fun M w loc x v => ?_) (fun l => by simp [sortL]) (fun blk off cap ss w h1 h2 h3 => ?_) hid hq hl
  · constructor
    · intro h; cases h; rfl
    · rintro rfl; exact .str _
  · exact AnyM.slices_Sort_string Try.mSort blk off cap ss w h1 h2 h3

/-- of nothing: nothing -/
theorem sort_nil {H : List AObj} {z : Nat} {tip : Tip} : ASpec Try.prog 229 [.sl z (.raw []) tip] H (fun r H' => r = .tup [] ∧ H' = H) := by
  refine ASpec.of_calls fun M loc w vs ht hv => ?_
  obtain ⟨hs, hv⟩ := hv
  have hv0 := hv 0 (by simp)
  simp only [List.getElem_cons_zero] at hv0
  have hvs : vs = #[vs[0]'(by simp at hs; omega)] := by
    apply Array.ext
    · simpa using hs
    · intro i h1 h2
      have : i = 0 := by simp at h2; omega
      subst this; rfl
  generalize vs[0]'(by simp at hs; omega) = v0 at hv0 hvs
  subst hvs
  have key : ∀ p cap, Calls Try.prog 229 #[.slice p 0 cap] w fun e w' => ∃ v, e = .returned v ∧ VRel M w' loc (.tup []) v ∧ Grown w w' := fun p cap =>
    (AnyM.slices_Sort_string_none Try.mSort p cap w).mono fun e w' ⟨h1, h2⟩ => by
      subst h2
      exact ⟨_, h1, .tup _ _ rfl (fun i h => by simp at h), ⟨Nat.le_refl _, fun _ _ => rfl, rfl, rfl, rfl⟩⟩
  cases hv0 with
  | slnil => exact key none 0
  | slz => exact key _ 0
  | sl _ _ _ b o cap => exact key _ _

end So
end

section
/- Names that are sorted and lie once each: the two ways to come by them are one. -/

set_option linter.unusedVariables false
set_option linter.unusedSimpArgs false
open Go Go.Ab Go.Proofs
namespace Pl
open Dp (less_iff less_trans less_tri)
abbrev Nm := List UInt8

abbrev Up (l : List Nm) : Prop := l.Pairwise fun a b => a < b

theorem tri (a b : Nm) : a < b ∨ a = b ∨ b < a := by
  by_cases h : a = b
  · exact .inr (.inl h)
  · cases hx : Op.bytesLess a b with
    | true => exact .inl (less_iff.1 hx)
    | false => exact .inr (.inr (less_iff.1 (less_tri hx h)))
theorem ltT {a b c : Nm} (h : a < b) (k : b < c) : a < c := List.lt_trans h k
theorem ltI {a : Nm} (h : a < a) : False := List.lt_irrefl a h

theorem up_one : ∀ {a b : List Nm}, Up a → Up b → (∀ x, x ∈ a ↔ x ∈ b) → a = b
  | [], [], _, _, _ => rfl
  | [], y :: b, _, _, h => by have := (h y).2 (by simp); simp at this
  | x :: a, [], _, _, h => by have := (h x).1 (by simp); simp at this
  | x :: a, y :: b, ha, hb, h => by
    have ha' := List.pairwise_cons.1 ha
    have hb' := List.pairwise_cons.1 hb
    have e : x = y := by
      rcases List.mem_cons.1 ((h x).1 (by simp)) with e | m
      · exact e
      · rcases List.mem_cons.1 ((h y).2 (by simp)) with e | m2
        · exact e.symm
        · exact (ltI (ltT (hb'.1 x m) (ha'.1 y m2))).elim
    subst e
    rw [up_one ha'.2 hb'.2]
    intro z
    constructor
    · intro hz
      rcases List.mem_cons.1 ((h z).1 (by simp [hz])) with e | m
      · subst e; exact (ltI (ha'.1 z hz)).elim
      · exact m
    · intro hz
      rcases List.mem_cons.1 ((h z).2 (by simp [hz])) with e | m
      · subst e; exact (ltI (hb'.1 z hz)).elim
      · exact m

theorem sort_up (l : List Nm) : (So.sortL l).Pairwise fun a b => a ≤ b := by
  have h := List.pairwise_mergeSort (le := fun x y : Nm => decide (x ≤ y)) (fun a b c h1 h2 => ?_) (fun a b => ?_) l
  · exact h.imp (fun h => of_decide_eq_true h)
  · simp only [decide_eq_true_eq] at *
    intro h3
    rcases tri b c with h4 | h4 | h4
    · exact h1 (ltT h4 h3)
    · subst h4; exact h1 h3
    · exact h2 h4
  · simp only [Bool.or_eq_true, decide_eq_true_eq]
    rcases tri a b with h | h | h
    · exact .inl (fun k => ltI (ltT h k))
    · subst h; exact .inl (fun k => ltI k)
    · exact .inr (fun k => ltI (ltT h k))

theorem sort_mem (l : List Nm) (x : Nm) : x ∈ So.sortL l ↔ x ∈ l := by simp [So.sortL]
theorem sort_len (l : List Nm) : (So.sortL l).length = l.length := by simp [So.sortL]

end Pl
end

section
/- The index and the document's: plain laws. -/

set_option linter.unusedVariables false
set_option linter.unusedSimpArgs false
open Go Go.Ab Go.Proofs V S T C
namespace Xd
open X (hasI getM readK putI OkX find_none)
open Pl (Up up_one tri ltT ltI sort_up sort_mem)
open Dp (less_iff less_trans less_tri)
open So (sortL)
abbrev Nm := List UInt8
def kdOf (k : Nm) : Known → Kd
  | some m => (m, true)
  | none => ((k, []), false)
def insK (x : Kd) : List Kd → List Kd
  | [] => [x]
  | y :: r => if Op.bytesLess x.1.1 y.1.1 = true then x :: y :: r else y :: insK x r
def atF (s : Nm) : List Kd → Option Kd
  | [] => none
  | y :: r => if y.1.1 = s then some y else atF s r
def hasD (l : List Kd) (s : Nm) : Bool := (atF s l).isSome
def getKd (l : List Kd) (s : Nm) : Mani × Bool := match atF s l with
  | some y => (y.1, y.2)
  | none => ((s, []), false)
def putKd (l : List Kd) (s b : Nm) : Int × List Kd :=
  if fitM s = false ∨ 8192 < b.length then (1, l) else if hasD l s = true then (6, l) else (0, insK (kdOf s (readK s b)) l)

theorem insK_len (x : Kd) : ∀ l : List Kd, (insK x l).length = l.length + 1
  | [] => rfl
  | y :: r => by
    simp only [insK]
    split
    · rfl
    · simp [insK_len x r]
theorem insK_mem {x y : Kd} : ∀ {l : List Kd}, y ∈ insK x l ↔ y = x ∨ y ∈ l
  | [] => by simp [insK]
  | z :: r => by
    simp only [insK]
    split
    · simp
    · have := insK_mem (x := x) (y := y) (l := r)
      simp only [List.mem_cons, this]
      constructor
      · rintro (h | h | h) <;> simp [h]
      · rintro (h | h | h) <;> simp [h]
theorem atF_none {s : Nm} : ∀ {l : List Kd}, atF s l = none ↔ ∀ y ∈ l, y.1.1 ≠ s
  | [] => by simp [atF]
  | y :: r => by
    simp only [atF]
    split
    · rename_i h; simp [h]
    · rename_i h; rw [atF_none]; simp [h]
theorem atF_some {s : Nm} : ∀ {l : List Kd} {y : Kd}, atF s l = some y → y ∈ l ∧ y.1.1 = s
  | [], y, h => by cases h
  | z :: r, y, h => by
    simp only [atF] at h
    split at h
    · rename_i hz; cases h; exact ⟨by simp, hz⟩
    · obtain ⟨h1, h2⟩ := atF_some h; exact ⟨by simp [h1], h2⟩
theorem atF_ins {x : Kd} {s : Nm} : ∀ {l : List Kd}, atF x.1.1 l = none → atF s (insK x l) = if x.1.1 = s then some x else atF s l
  | [], _ => by simp [insK, atF]
  | y :: r, h => by
    simp only [atF] at h
    split at h
    · cases h
    · rename_i hy
      simp only [insK]
      split
      · simp only [atF]
      · simp only [atF]
        rw [atF_ins h]
        by_cases e : y.1.1 = s
        · rw [if_pos e, if_pos e, if_neg (fun h => hy (by rw [e, h]))]
        · rw [if_neg e, if_neg e]

abbrev UpD (l : List Kd) : Prop := l.Pairwise fun a b => Op.bytesLess a.1.1 b.1.1 = true
theorem insK_up {x : Kd} : ∀ {l : List Kd}, UpD l → atF x.1.1 l = none → UpD (insK x l)
  | [], _, _ => by simp [insK]
  | y :: r, h, hn => by
    have h' := List.pairwise_cons.1 h
    have hy := atF_none.1 hn y (by simp)
    have hr : atF x.1.1 r = none := atF_none.2 fun z hz => atF_none.1 hn z (by simp [hz])
    simp only [insK]
    split
    · rename_i hb
      refine List.pairwise_cons.2 ⟨fun z hz => ?_, h⟩
      rcases List.mem_cons.1 hz with rfl | hz
      · exact hb
      · exact less_trans hb (h'.1 z hz)
    · rename_i hb
      have hlt : Op.bytesLess y.1.1 x.1.1 = true := less_tri (by simpa using hb) (fun e => hy e.symm)
      refine List.pairwise_cons.2 ⟨fun z hz => ?_, insK_up h'.2 hr⟩
      rcases insK_mem.1 hz with rfl | hz
      · exact hlt
      · exact h'.1 z hz

/-- the index and the document's know the same -/
structure RelX (es : Kn) (l : List Kd) : Prop where
  up : UpD l
  look : ∀ s, atF s l = (findM es (B s)).map (kdOf s)
  len : l.length = es.length
  nd : (es.map (·.1)).Nodup
theorem rel0 : RelX [] [] := ⟨List.Pairwise.nil, fun s => rfl, rfl, List.Pairwise.nil⟩

theorem setM_app {α : Type} (k : ByteArray) (v : α) : ∀ es : List (ByteArray × α), findM es k = none → setM es k v = es ++ [(k, v)]
  | [], _ => rfl
  | p :: l, h => by
    simp only [findM] at h
    split at h
    · cases h
    · rename_i e
      simp only [setM, if_neg e]
      rw [setM_app k v l h]; rfl
theorem find_keys {α : Type} {k : ByteArray} : ∀ {es : List (ByteArray × α)}, findM es k = none ↔ k ∉ es.map (·.1)
  | [] => by simp [findM]
  | p :: l => by
    simp only [findM, List.map_cons, List.mem_cons, not_or]
    split
    · rename_i h; simp [h]
    · rename_i h; rw [find_keys]; simp [h]
theorem kdOf_name (k b : Nm) : (kdOf k (readK k b)).1.1 = k := by
  unfold readK
  split
  · rfl
  · rename_i h
    show (W.readM b).1.1 = k
    exact Classical.byContradiction fun hn => h (.inr hn)
theorem B_inj {a b : Nm} (h : B a = B b) : a = b := by
  have := congrArg (fun x : ByteArray => x.data.toList) h
  simpa using this

theorem rel_has {es : Kn} {l : List Kd} (h : RelX es l) (s : Nm) : hasD l s = hasI es s := by
  unfold hasD hasI
  rw [h.look s, Option.isSome_map]
theorem rel_get {es : Kn} {l : List Kd} (h : RelX es l) (s : Nm) : getKd l s = getM es s := by
  unfold getKd getM
  rw [h.look s]
  cases findM es (B s) with
  | none => rfl
  | some v => cases v <;> rfl
theorem rel_put {es : Kn} {l : List Kd} (h : RelX es l) (s b : Nm) : (putKd l s b).1 = (putI es s b).1 ∧ RelX (putI es s b).2 (putKd l s b).2 := by
  unfold putKd putI
  rw [rel_has h]
  split
  · exact ⟨rfl, h⟩
  · split
    · exact ⟨rfl, h⟩
    · rename_i hn
      have hn : hasI es s = false := by simpa using hn
      have hf := find_none hn
      have ha : atF (kdOf s (readK s b)).1.1 l = none := by rw [kdOf_name, h.look s, hf]; rfl
      refine ⟨rfl, insK_up h.up ha, fun t => ?_, ?_, ?_⟩
      · rw [atF_ins ha, kdOf_name, findM_set, h.look t]
        by_cases e : s = t
        · subst e; rw [if_pos rfl, if_pos rfl]; rfl
        · rw [if_neg e, if_neg (fun hh => e (B_inj hh).symm)]
      · rw [insK_len, setM_app _ _ _ hf, h.len]; simp
      · rw [setM_app _ _ _ hf, List.map_append, List.nodup_append]
        refine ⟨h.nd, by simp, fun a ha b hb => ?_⟩
        simp at hb
        subst hb
        rintro rfl
        exact (find_keys.1 hf) ha

/-! ### names -/
def keyN (p : ByteArray × Known) : Nm := p.1.data.toList
theorem B_key (x : ByteArray) : B x.data.toList = x := by
  cases x; rfl
theorem rel_names {es : Kn} {l : List Kd} (h : RelX es l) : sortL (es.map keyN) = l.map (·.1.1) := by
  have hnd : (es.map keyN).Nodup := by
    have e : es.map keyN = (es.map (·.1)).map fun x : ByteArray => x.data.toList := by simp [keyN, Function.comp_def]
    rw [e]
    refine List.Pairwise.map _ (fun a b hab => ?_) h.nd
    intro he
    apply hab
    rw [← B_key a, ← B_key b, he]
  refine up_one ?_ ?_ fun x => ?_
  · have h1 := sort_up (es.map keyN)
    have h2 : (sortL (es.map keyN)).Nodup := (List.mergeSort_perm _ _).nodup_iff.2 hnd
    refine (List.Pairwise.and h1 h2).imp fun {a b} hab => ?_
    rcases tri a b with ht | ht | ht
    · exact ht
    · exact (hab.2 ht).elim
    · exact (hab.1 ht).elim
  · exact List.Pairwise.map _ (fun a b hab => less_iff.1 hab) h.up
  · rw [sort_mem]
    constructor
    · intro hx
      obtain ⟨p, hp, rfl⟩ := List.mem_map.1 hx
      have : findM es (B (keyN p)) ≠ none := by
        intro hn
        refine find_keys.1 hn ?_
        unfold keyN
        rw [B_key]
        exact List.mem_map_of_mem hp
      have hl := h.look (keyN p)
      cases hq : findM es (B (keyN p)) with
      | none => exact (this hq).elim
      | some v =>
        rw [hq] at hl
        obtain ⟨h1, h2⟩ := atF_some hl
        rw [← h2]
        exact List.mem_map_of_mem h1
    · intro hx
      obtain ⟨y, hy, rfl⟩ := List.mem_map.1 hx
      have hl := h.look y.1.1
      have hne : atF y.1.1 l ≠ none := fun hn => atF_none.1 hn y hy rfl
      rw [hl] at hne
      have hk : B y.1.1 ∈ es.map (·.1) := by
        refine Classical.byContradiction fun hn => hne ?_
        rw [find_keys.2 hn]; rfl
      obtain ⟨p, hp, he⟩ := List.mem_map.1 hk
      have : keyN p = y.1.1 := by unfold keyN; rw [he]
      rw [← this]
      exact List.mem_map_of_mem hp
end Xd
end

section
/- strings.Compare, by the library's contract at this program (the laying was written by the kit's lay-plain tool). -/

set_option linter.unusedVariables false
set_option linter.unusedSimpArgs false
namespace Go.Proofs
open Go.Shelf
end Go.Proofs
open Go Go.Ab Go.Proofs V S T C
namespace Dp
end Dp
end

section
/- Depots: what the code and the document's code compute. -/

set_option linter.unusedVariables false
set_option linter.unusedSimpArgs false
set_option maxRecDepth 100000
open Go Go.Ab Go.Proofs V S T C
open W (sl1 slS slN slR leNone readM cons_dec)
namespace Dp

abbrev PA (r0 : AV) : AV → List AObj → Prop := fun r H' => ∃ l H2 r2, Sel 0 l H' H2 ∧ Le r (AV.ren (selR l H'.length) r2) ∧ (r2 = r0 ∧ H2 = [])
theorem pa {r r0 : AV} {H' : List AObj} (h : Le r (AV.ren (selR [] H'.length) r0)) : PA r0 r H' := ⟨[], [], r0, Sel.none, h, rfl, rfl⟩
noncomputable abbrev slL (l : List (List UInt8)) : AV := .sl 1 (.map encL [] l) .none
/-! ### large -/

/-! ### which may be -/

/-! ### looking for a name -/

/-! ### bodies and manifests -/

def readB (s b : List UInt8) : Mani × Bool := if (readM b).2 ≠ 0 ∨ (readM b).1.1 ≠ s then ((s, []), false) else ((readM b).1, true)
abbrev PMB (v : Mani × Bool) : AV → List AObj → Prop := PA (.tup [.agg (encM v.1), .bool v.2])
theorem pmNone {v : Mani × Bool} {s : List UInt8} {H' : List AObj} (h : v = ((s, []), false)) : PMB v (.tup [.agg [.str (B s), .sl 0 (.raw []) .nil], .bool false]) H' := by
  subst h
  exact pa (Le.tup ⟨Le.agg ⟨Le.refl _, Le.sl (s' := Seq.ren _ (.map T.encR (0, []) [])) rfl (.inr ⟨rfl, fun _ h => by cases h⟩) (.inr rfl), trivial⟩, Le.refl _, trivial⟩)
theorem pmSome {v : Mani × Bool} {m : Mani} {H' : List AObj} (h : v = (m, true)) : PMB v (.tup [.agg (encM m), .bool true]) H' := by
  subst h
  exact pa (Le.refl _)

/-! ### the document's -/

theorem rread_spec (s b : List UInt8) (hb : b.length ≤ 1000000) (H : List AObj) : ASpec Try.prog 182 [.str (B s), .str (B b)] H (fun r H' => r = .tup [.agg (encM (readB s b).1), .bool (readB s b).2] ∧ H' = H) := by
  have k : ASpec Try.prog 182 [.str (B s), .str (B b)] [] (fun r H' => r = .tup [.agg (encM (readB s b).1), .bool (readB s b).2] ∧ H' = []) := by
    refine ASpec.sel (s182 _ _ _ (ASpec.call (W.rread_spec b hb _) (Les.refl _) ⟨((readM b).1, (readM b).2), rfl, rfl, condNe (fun h => pmNone ?_) fun h => condSn (fun h2 => pmNone ?_) fun h2 => pmSome ?_⟩))
    · rw [readB, if_pos (.inl h)]
    · rw [readB, if_pos (.inr h2)]
    · rw [readB, if_neg (by rintro (h3 | h3); exact h3 h; exact h3 h2)]
  exact ASpec.pureH H k _ _ rfl rfl

theorem names4 {a b : List (List UInt8)} {c : Bool} (hl : a.length ≤ lim) (he : a.length = b.length) : ∀ (m i : Nat), m + i = a.length → decide (a.drop i = b.drop i) = c →
    AWP Try.prog 26 0 c63_4 [(0, slL a), (1, slL b), (5, .int .i64 i)] [] (q63_2 0 (PB c)) := by
  unfold lim at hl
  intro m
  induction m with
  | zero =>
    intro i hm h
    refine v63_4 _ _ _ _ _ (condD (fun hc => by omega) fun _ => pb ?_)
    rw [List.drop_eq_nil_of_le (by omega), List.drop_eq_nil_of_le (by omega)] at h
    rw [← h]; simp
  | succ m ih =>
    intro i hm h
    rw [dropD a [] i (by omega), dropD b [] i (by omega), cons_dec] at h
    refine v63_4 _ _ _ _ _ (condD (fun hc => needJ ⟨by omega, by omega⟩ (needJ ⟨by omega, by omega⟩ ?_)) fun hc => by omega)
    rw [Int.toNat_natCast]
    generalize a.getD i [] = x at h ⊢
    generalize b.getD i [] = y at h ⊢
    refine condSn (fun h1 => pb ?_) fun h1 => ?_
    · rw [decide_eq_false h1, Bool.false_and] at h; exact h
    · rw [decide_eq_true h1, Bool.true_and] at h
      rw [succ64 (by omega)]
      exact ih (i + 1) (by omega) h

theorem names_spec (a b : List (List UInt8)) (hl : a.length ≤ lim) (H : List AObj) : ASpec Try.prog 63 [slL a, slL b] H (fun r H' => r = .bool (decide (a = b)) ∧ H' = H) := by
  have k : ASpec Try.prog 63 [slL a, slL b] [] (fun r H' => r = .bool (decide (a = b)) ∧ H' = []) := by
    refine ASpec.sel (s63 _ _ _ (condNe (fun h => pb ?_) fun h => names4 hl (by omega) a.length 0 (by omega) rfl))
    symm
    rw [decide_eq_false]
    rintro rfl; exact h rfl
  exact ASpec.pureH H k _ _ rfl rfl

/-! ### the examples -/

/-! ### the law -/

end Dp
end

section
/- The document's index: has, get, put, of; the index's of, and its copy. -/

set_option linter.unusedVariables false
set_option linter.unusedSimpArgs false
set_option maxRecDepth 100000
open Go Go.Ab Go.Proofs V S T C
open W (sl1 slS slN slR)
namespace Xd
open X (hasI getM readK putI OkX find_none PA pa mp_ren selX)
/-- at the end of a call -/
theorem cellEnd {H : List AObj} {P : Program} {f : FuncId} {args : List AV} {Post : AV → List AObj → Prop}
    (h : ASpec P f args H (fun r H' => ∃ id cs cs', H'[id]? = some (.cells cs) ∧ Les cs cs' ∧ Post r (H'.set id (.cells cs')))) : ASpec P f args H Post := by
  intro M loc w vs ht hr hv
  refine (h M loc w vs ht hr hv).mono fun e w' hh => ?_
  obtain ⟨v, r, H', M', loc', he, ⟨id, cs, cs', ho, hq, hP⟩, r1, r2, r3⟩ := hh
  have hl := hq.len
  obtain ⟨k1, k2⟩ := r1.respell id (.cells cs) (.cells cs') ho (by intro h; cases h) (by intro h; cases h) (fun hO => by
    obtain ⟨b, vs, T, fr, e1, e2, e3, e4, e5, hs, e6⟩ := hO
    exact ⟨b, vs, T, fr, e1, e2, e3, e4, e5, by omega, fun i hi => hq.get i (by omega) hi _ _ _ _ (e6 i (by omega))⟩)
  exact ⟨v, r, _, M', loc', he, hP, k1, r2.keeps (k2.keeps r1), StepN.trans r3 k2 r3.len⟩

noncomputable abbrev agK (l : List Kd) : AV := .agg (encXd l)
theorem liftK {H : List AObj} {p : Nat} {x x' : List Kd} {f : FuncId} {args args' : List AV} {r0 r' : AV} (hp : H[p]? = some (.cells (encXd x))) (k : ASpec Try.prog f args [.cells (encXd x)] (fun r H' => r = r0 ∧ H' = [.cells (encXd x')]))
    (ha : args.map (AV.ren (callR [p] H.length)) = args') (hr : AV.ren (callR [p] H.length) r0 = r') :
    ASpec Try.prog f args' H (fun r H' => r = r' ∧ H' = H.set p (.cells (encXd x'))) := by
  refine ASpec.subH [p] H _ k args' r' (by simp) rfl ha hr (fun i hi => ?_) ?_
  · match i, hi with
    | 0, _ => exact hp
  · have e : graftH (callR [p] H.length) [p] H [.cells (encXd x')] = H.set p (.cells (encXd x')) ++ [] := rfl
    rw [e, List.append_nil]

/-! ### where a name lies -/
def ixD (s : Nm) : List Kd → Nat → Int
  | [], _ => -1
  | y :: r, i => if y.1.1 = s then i else ixD s r (i + 1)
theorem ix_none {s : Nm} : ∀ {l : List Kd} {i : Nat}, atF s l = none → ixD s l i = -1
  | [], _, _ => rfl
  | y :: r, i, h => by
    simp only [atF] at h
    split at h
    · cases h
    · rename_i hy; simp only [ixD, if_neg hy]; exact ix_none h
theorem ix_some {s : Nm} : ∀ {l : List Kd} {i : Nat} {y : Kd}, atF s l = some y → ∃ j : Nat, ixD s l i = ((i + j : Nat) : Int) ∧ j < l.length ∧ l.getD j noKd = y
  | [], _, _, h => by cases h
  | z :: r, i, y, h => by
    simp only [atF] at h
    split at h
    · rename_i hz; cases h; exact ⟨0, by simp [ixD, hz], by simp, rfl⟩
    · rename_i hz
      obtain ⟨j, h1, h2, h3⟩ := ix_some (i := i + 1) h
      exact ⟨j + 1, by simp only [ixD, if_neg hz]; rw [h1]; congr 1; omega, by simp; omega, by simpa using h3⟩
theorem ix_has (s : Nm) (l : List Kd) : decide (ixD s l 0 ≥ 0) = hasD l s := by
  unfold hasD
  cases h : atF s l with
  | none => rw [ix_none h]; rfl
  | some y => obtain ⟨j, h1, _, _⟩ := ix_some (i := 0) h; rw [h1]; simp

theorem at2 {l : List Kd} {s : Nm} (hl : l.length ≤ lim) {R : Int} : ∀ (m i : Nat), m + i = l.length → ixD s (l.drop i) i = R →
    AWP Try.prog 23 0 c303_2 [(1, .str (B s)), (2, .ptr 0 0), (5, .int .i64 i)] [.cells (encXd l)] (q303_2 0 (PA (.int .i64 R))) := by
  unfold lim at hl
  intro m
  induction m with
  | zero =>
    intro i hm h
    refine v303_2 _ _ _ _ _ (condD (fun hc => by omega) fun _ => ?_)
    rw [List.drop_eq_nil_of_le (by omega)] at h
    subst h
    exact pa (Le.refl _)
  | succ m ih =>
    intro i hm h
    rw [dropD l noKd i (by omega)] at h
    simp only [ixD] at h
    refine v303_2 _ _ _ _ _ (condD (fun hc => needJ ⟨by omega, by omega⟩ ?_) fun hc => by omega)
    rw [Int.toNat_natCast, succ64 (by omega)]
    generalize l.getD i noKd = y at h ⊢
    refine condS (fun h1 => pa ?_) fun h1 => ?_
    · rw [if_pos h1] at h; subst h; exact Le.refl _
    · rw [if_neg h1] at h; exact ih (i + 1) (by omega) h
theorem at_spec (l : List Kd) (s : Nm) (hl : l.length ≤ lim) (H : List AObj) : ASpec Try.prog 303 [agK l, .str (B s)] H (fun r H' => r = .int .i64 (ixD s l 0) ∧ H' = H) := by
  have k : ASpec Try.prog 303 [agK l, .str (B s)] [] (fun r H' => r = .int .i64 (ixD s l 0) ∧ H' = []) :=
    ASpec.sel (s303 _ _ _ (at2 hl l.length 0 (by omega) rfl))
  exact ASpec.pureH H k _ _ rfl rfl
theorem has_spec (l : List Kd) (s : Nm) (hl : l.length ≤ lim) (H : List AObj) : ASpec Try.prog 219 [agK l, .str (B s)] H (fun r H' => r = .bool (hasD l s) ∧ H' = H) := by
  have k : ASpec Try.prog 219 [agK l, .str (B s)] [] (fun r H' => r = .bool (hasD l s) ∧ H' = []) := by
    refine ASpec.sel (s219 _ _ _ (ASpec.call (at_spec l s hl _) (Les.refl _) ⟨_, rfl, rfl, pa ?_⟩))
    rw [ix_has]; exact Le.refl _
  exact ASpec.pureH H k _ _ rfl rfl
theorem leR0 {ρ : Nat → Nat} : Le (.sl 0 (.raw []) .nil) (AV.ren ρ (.sl 2 (.map T.encR (0, []) []) .none)) := Le.sl (s' := Seq.ren _ (.map T.encR (0, []) [])) rfl (.inr ⟨rfl, fun _ h => by cases h⟩) (.inr rfl)
theorem get_spec (l : List Kd) (s : Nm) (hl : l.length ≤ lim) (H : List AObj) : ASpec Try.prog 306 [agK l, .str (B s)] H (fun r H' => r = .tup [.agg (encM (getKd l s).1), .bool (getKd l s).2] ∧ H' = H) := by
  have k : ASpec Try.prog 306 [agK l, .str (B s)] [] (fun r H' => r = .tup [.agg (encM (getKd l s).1), .bool (getKd l s).2] ∧ H' = []) := by
    refine ASpec.sel (s306 _ _ _ (ASpec.call (at_spec l s hl _) (Les.refl _) ⟨_, rfl, rfl, ?_⟩))
    unfold getKd
    cases h : atF s l with
    | none =>
      rw [ix_none h]
      exact condD (fun _ => pa (Le.tup ⟨Le.agg ⟨Le.refl _, leR0, trivial⟩, Le.refl _, trivial⟩)) fun h => (h (by omega)).elim
    | some y =>
      obtain ⟨j, h1, h2, h3⟩ := ix_some (i := 0) h
      rw [h1, Nat.zero_add]
      refine condD (fun h => by omega) fun _ => needJ ⟨by omega, by omega⟩ (needJ ⟨by omega, by omega⟩ ⟨⟨rfl, rfl⟩, ⟨rfl, rfl⟩, pa ?_⟩)
      rw [Int.toNat_natCast, h3]
      exact Le.refl _
  exact ASpec.pureH H k _ _ rfl rfl

/-! ### does it hold? -/
noncomputable def holdD (l : List Kd) (s : Nm) (m : Mani) (g : Bool) : Bool := decide (m.1 = (getKd l s).1.1 ∧ m.2 = (getKd l s).1.2) && (g == (getKd l s).2)
theorem hold_spec (l : List Kd) (s : Nm) (m : Mani) (g : Bool) (hl : l.length ≤ lim) (hm : okM m) (H : List AObj) : ASpec Try.prog 223 [agK l, .str (B s), .agg (encM m), .bool g] H (fun r H' => r = .bool (holdD l s m g) ∧ H' = H) := by
  have k : ASpec Try.prog 223 [agK l, .str (B s), .agg (encM m), .bool g] [] (fun r H' => r = .bool (holdD l s m g) ∧ H' = []) := by
    refine ASpec.sel (s223 _ _ _ _ _ (ASpec.call (get_spec l s hl _) (Les.refl _) ⟨_, rfl, rfl, ?_⟩))
    refine ASpec.call (W.sameM_spec m (getKd l s).1 hm _) (Les.refl _) ⟨_, rfl, rfl, ?_⟩
    unfold holdD
    refine condB (fun h => pa ?_) fun h => pa ?_
    · rw [h, Bool.true_and]; exact Le.refl _
    · rw [h, Bool.false_and]; exact Le.refl _
  exact ASpec.pureH H k _ _ rfl rfl

/-! ### names -/
noncomputable abbrev slL (l : List Nm) : AV := .sl 1 (.map encL [] l) .none
theorem renLx (ρ : Nat → Nat) (x : Nm) : renL ρ (encL x) = encL x := rfl
theorem slLle (ρ : Nat → Nat) (l : List Nm) (t : Tip) : Le (.sl 1 (.map encL [] l) t) (AV.ren ρ (slL l)) := Le.sl (s' := Seq.ren ρ (.map encL [] l)) (by simp [Ab.Seq.toList, Seq.ren, renLx]) (.inl rfl) (.inr rfl)
theorem names3 {l : List Kd} (hl : l.length ≤ lim) {R : List Nm} : ∀ (m i : Nat) (o : List Nm), m + i = l.length → o.length ≤ i → o ++ (l.drop i).map (·.1.1) = R →
    AWP Try.prog 23 0 c222_3 [(1, .ptr 0 0), (3, .sl 1 (.map encL [] o) (.tok 1)), (4, .int .i64 i)] [.cells (encXd l), .tok] (q222_2 0 (PA (slL R))) := by
  unfold lim at hl
  intro m
  induction m with
  | zero =>
    intro i o hm ho h
    refine v222_3 _ _ _ _ _ (condD (fun hc => by omega) fun _ => pa ?_)
    rw [List.drop_eq_nil_of_le (by omega), List.map_nil, List.append_nil] at h
    subst h
    exact slLle _ _ _
  | succ m ih =>
    intro i o hm ho h
    rw [dropD l noKd i (by omega), List.map_cons] at h
    refine v222_3 _ _ _ _ _ (condD (fun hc => needJ ⟨by omega, by omega⟩ (needJ (by omega) ?_)) fun hc => by omega)
    rw [Int.toNat_natCast, succ64 (by omega)]
    generalize l.getD i noKd = y at h ⊢
    refine AWP.shape [0, 2] [(1, .ptr 0 0), (3, .sl 1 (.map encL [] (o ++ [y.1.1])) (.tok 1)), (4, .int .i64 (i + 1 : Nat))] [.cells (encXd l), .tok] (Sel.mk0 (by decide) ⟨rfl, rfl, trivial⟩)
      ⟨rfl, Le.refl _, rfl, leAppE (Les.refl _), rfl, Le.refl _, trivial⟩ (ih (i + 1) _ (by omega) (by simp; omega) (by rw [← h]; simp))
theorem names_spec (l : List Kd) (hl : l.length ≤ lim) (H : List AObj) : ASpec Try.prog 222 [agK l] H (fun r H' => r = slL (l.map (·.1.1)) ∧ H' = H) := by
  have k : ASpec Try.prog 222 [agK l] [] (fun r H' => r = slL (l.map (·.1.1)) ∧ H' = []) := by
    refine ASpec.sel (s222 _ _ ?_)
    refine AWP.re (ReSt.tok (k := 3) (q' := .map encL [] []) (sz' := 1) (s2 := [(1, .ptr 0 0), (3, .sl 1 (.map encL [] []) (.tok 1)), (4, .int .i64 (0 : Nat))]) rfl (.inl rfl) rfl (.inr rfl) (fun d hd => ?_) rfl) ?_
    · simp only [Ab.get]
      have e : Nat.beq 3 d = false := by
        cases hx : Nat.beq 3 d with
        | false => rfl
        | true => exact absurd (Nat.eq_of_beq_eq_true hx).symm hd
      rw [e]; rfl
    · exact names3 hl l.length 0 [] (by omega) (by simp) (by simp)
  exact ASpec.pureH H k _ _ rfl rfl

/-! ### Put -/
theorem kdOf_read (s b : Nm) : kdOf s (readK s b) = Dp.readB s b := by
  unfold readK Dp.readB
  split <;> rfl
abbrev P1 (r0 : AV) (x' : List Kd) : AV → List AObj → Prop := fun r H' => ∃ q H2 r2, Sel 1 q H' H2 ∧ Le r (AV.ren (selR q H'.length) r2) ∧ (r2 = r0 ∧ H2 = [.cells (encXd x')])
theorem p1 {x' : List Kd} {r r0 : AV} (q : List AObj) (h : ∀ ρ, Le r (AV.ren ρ r0)) : P1 r0 x' r (.cells (encXd x') :: q) := by
  refine ⟨[0], [.cells (encXd x')], r0, ⟨by decide, rfl, Nat.le_refl _, fun j hj => ?_, fun j hj => ?_⟩, h _, rfl, rfl⟩
  · match j, hj with
    | 0, _ => rfl
  · match j, hj with
    | 0, _ => exact .inl rfl
abbrev PC (r0 : AV) (x' : List Kd) : AV → List AObj → Prop := fun r H' => ∃ id cs cs', H'[id]? = some (.cells cs) ∧ Les cs cs' ∧ P1 r0 x' r (H'.set id (.cells cs'))
theorem pc {x' : List Kd} {r r0 : AV} {cs : List AV} (q : List AObj) (h : Les cs (encXd x')) (h2 : ∀ ρ, Le r (AV.ren ρ r0)) : PC r0 x' r (.cells cs :: q) :=
  ⟨0, cs, encXd x', rfl, h, p1 q h2⟩
theorem put15 {l o R : List Kd} {x : Kd} {b : Bool} (ho : o.length ≤ 10000000) (h : o ++ (if b = true then [] else [x]) = R) :
    AWP Try.prog 83 1 c114_15 [(0, .ptr 0 0), (7, .ptr 1 0), (8, .bool x.2), (9, .sl 3 (.map encKd noKd o) (.tok 2)), (10, .bool b)] [.cells (encXd l), .cells (encM x.1), .tok] (q114_0 1 (PC (.int .i64 0) R)) := by
  refine v114_15 _ _ _ _ _ _ _ (condBn (fun hb => needJ (by omega) ?_) fun hb => ?_)
  · rw [if_neg (by rw [hb]; simp)] at h
    subst h
    exact pc _ ⟨Le.sl (s' := .map encKd noKd (o ++ [x])) (by simp [Ab.Seq.toList]; rfl) (.inl rfl) (.inr rfl), trivial⟩ fun ρ => Le.refl _
  · rw [if_pos hb, List.append_nil] at h
    subst h
    exact pc _ ⟨Le.sl (s' := .map encKd noKd o) rfl (.inl rfl) (.inr rfl), trivial⟩ fun ρ => Le.refl _
theorem put9 {l : List Kd} {x : Kd} (hl : l.length ≤ lim) {R : List Kd} : ∀ (m i : Nat) (o : List Kd) (b : Bool), m + i = l.length → o.length ≤ i + b.toNat → o ++ (if b = true then l.drop i else insK x (l.drop i)) = R →
    AWP Try.prog 83 1 c114_9 [(0, .ptr 0 0), (1, .str (B x.1.1)), (7, .ptr 1 0), (8, .bool x.2), (9, .sl 3 (.map encKd noKd o) (.tok 2)), (10, .bool b), (11, .int .i64 i)] [.cells (encXd l), .cells (encM x.1), .tok] (q114_2 1 (PC (.int .i64 0) R)) := by
  unfold lim at hl
  intro m
  induction m with
  | zero =>
    intro i o b hm ho h
    have hb1 : b.toNat ≤ 1 := by cases b <;> decide
    rw [List.drop_eq_nil_of_le (by omega)] at h
    exact v114_9 _ _ _ _ _ _ _ _ _ (condD (fun hc => by omega) fun _ => put15 (by omega) h)
  | succ m ih =>
    intro i o b hm ho h
    have hb1 : b.toNat ≤ 1 := by cases b <;> decide
    rw [dropD l noKd i (by omega)] at h
    refine v114_9 _ _ _ _ _ _ _ _ _ (condD (fun hc => ?_) fun hc => by omega)
    rw [Int.toNat_natCast, succ64 (by omega)]
    generalize l.getD i noKd = y at h ⊢
    have one : o ++ y :: (if b = true then l.drop (i + 1) else insK x (l.drop (i + 1))) = R →
        AWP Try.prog 83 1 c114_9 [(0, .ptr 0 0), (1, .str (B x.1.1)), (7, .ptr 1 0), (8, .bool x.2), (9, .sl 3 (.app (.map encKd noKd o) (.raw [encKd y])) (.tok 3)), (10, .bool b), (11, .int .i64 (i + 1 : Nat))] [.cells (encXd l), .cells (encM x.1), .gone, .tok] (q114_2 1 (PC (.int .i64 0) R)) := by
      intro h
      refine AWP.shape [0, 1, 3] [(0, .ptr 0 0), (1, .str (B x.1.1)), (7, .ptr 1 0), (8, .bool x.2), (9, .sl 3 (.map encKd noKd (o ++ [y])) (.tok 2)), (10, .bool b), (11, .int .i64 (i + 1 : Nat))] [.cells (encXd l), .cells (encM x.1), .tok] ⟨by decide, rfl, by decide, fun j hj => ?_, fun j hj => ?_⟩
        ⟨rfl, Le.refl _, rfl, Le.refl _, rfl, Le.refl _, rfl, Le.refl _, rfl, leAppE (Les.refl _), rfl, Le.refl _, rfl, Le.refl _, trivial⟩ (ih (i + 1) (o ++ [y]) b (by omega) (by simp; omega) (by rw [← h]; simp))
      · match j, hj with
        | 0, _ => rfl
      · match j, hj with
        | 0, _ | 1, _ | 2, _ => exact .inl rfl
    refine condBn (fun hb => needJ ⟨by omega, by omega⟩ ?_) fun hb => needJ ⟨by omega, by omega⟩ (needJ (by omega) (one (by rw [← h, if_pos hb, if_pos hb])))
    rw [if_neg (by rw [hb]; simp)] at h
    simp only [insK] at h
    rw [B_toList, B_toList]
    refine condB (fun h1 => needJ (by omega) (needJ ⟨by omega, by omega⟩ (needJ (by omega) ?_))) fun h1 => needJ ⟨by omega, by omega⟩ (needJ (by omega) (one (by rw [← h, if_neg (show ¬ Op.bytesLess x.1.1 y.1.1 = true by rw [h1]; simp), if_neg (show ¬ b = true by rw [hb]; simp)])))
    rw [if_pos h1] at h
    refine AWP.shape [0, 1, 4] [(0, .ptr 0 0), (1, .str (B x.1.1)), (7, .ptr 1 0), (8, .bool x.2), (9, .sl 3 (.map encKd noKd ((o ++ [x]) ++ [y])) (.tok 2)), (10, .bool true), (11, .int .i64 (i + 1 : Nat))] [.cells (encXd l), .cells (encM x.1), .tok] ⟨by decide, rfl, by decide, fun j hj => ?_, fun j hj => ?_⟩
        ⟨rfl, Le.refl _, rfl, Le.refl _, rfl, Le.refl _, rfl, Le.refl _, rfl, ?_, rfl, Le.refl _, rfl, Le.refl _, trivial⟩ (ih (i + 1) ((o ++ [x]) ++ [y]) true (by omega) (by rw [hb] at ho; simp at ho ⊢; omega) (by rw [← h, if_pos rfl]; simp))
    · match j, hj with
      | 0, _ => rfl
    · match j, hj with
      | 0, _ | 1, _ | 2, _ => exact .inl rfl
    · have ren : ∀ (ρ : Nat → Nat) (z : Kd), renL ρ (encKd z) = encKd z := fun ρ z => rfl
      exact Le.sl (s' := Seq.ren _ (.map encKd noKd ((o ++ [x]) ++ [y]))) (by simp [Ab.Seq.toList, Seq.ren, ren]; exact ⟨rfl, rfl⟩) (.inl rfl) (.inl rfl)
theorem put0 (l : List Kd) (s b : Nm) (hl : l.length ≤ lim) (hs : s.length ≤ lim) (hb : b.length ≤ 1000000) : ASpec Try.prog 114 [.ptr 0 0, .str (B s), .str (B b)] [.cells (encXd l)] (fun r H' => r = .int .i64 (putKd l s b).1 ∧ H' = [.cells (encXd (putKd l s b).2)]) := by
  have same : ∀ (e : Int), putKd l s b = (e, l) → PC (.int .i64 (putKd l s b).1) (putKd l s b).2 (.int .i64 e) [.cells (encXd l)] := by
    intro e h
    rw [h]
    exact pc [] (Les.refl _) fun ρ => Le.refl _
  refine ASpec.sel (cellEnd (s114 _ _ _ _ ?_))
  refine ASpec.call (rfit_spec (l := s) (by unfold big; unfold lim at hs; omega) _) (Les.refl _) ⟨_, rfl, rfl, condBn (fun h1 => same 1 ?_) fun h1 => ?_⟩
  · rw [putKd, if_pos (.inl h1)]
  rw [B_size]
  refine condD (fun h2 => same 1 ?_) fun h2 => ?_
  · rw [putKd, if_pos (.inr (by omega))]
  refine ASpec.call (has_spec l s hl _) (Les.refl _) ⟨_, rfl, rfl, condB (fun h3 => same 6 ?_) fun h3 => ?_⟩
  · rw [putKd, if_neg (by rw [h1]; simp; omega), if_pos h3]
  have hp : putKd l s b = (0, insK (kdOf s (readK s b)) l) := by rw [putKd, if_neg (by rw [h1]; simp; omega), if_neg (by rw [h3]; simp)]
  rw [hp, kdOf_read]
  have hn : (Dp.readB s b).1.1 = s := by rw [← kdOf_read]; exact kdOf_name s b
  refine ASpec.call (Dp.rread_spec s b hb _) (Les.refl _) ⟨_, rfl, rfl, ?_⟩
  generalize Dp.readB s b = x at hn ⊢
  subst hn
  refine AWP.re (ReSt.tok (k := 9) (q' := .map encKd noKd []) (sz' := 3) (s2 := [(0, .ptr 0 0), (1, .str (B x.1.1)), (7, .ptr 1 0), (8, .bool x.2), (9, .sl 3 (.map encKd noKd []) (.tok 2)), (10, .bool false), (11, .int .i64 (0 : Nat))]) rfl (.inl rfl) rfl (.inr rfl) (fun d hd => ?_) rfl) ?_
  · simp only [Ab.get]
    have e : Nat.beq 9 d = false := by
      cases hx : Nat.beq 9 d with
      | false => rfl
      | true => exact absurd (Nat.eq_of_beq_eq_true hx).symm hd
    rw [e]; rfl
  · exact put9 hl l.length 0 [] false (by omega) (by simp) (by simp)
theorem put_spec {H : List AObj} {p : Nat} (l : List Kd) (hp : H[p]? = some (.cells (encXd l))) (s b : Nm) (hl : l.length ≤ lim) (hs : s.length ≤ lim) (hb : b.length ≤ 1000000) :
    ASpec Try.prog 114 [.ptr p 0, .str (B s), .str (B b)] H (fun r H' => r = .int .i64 (putKd l s b).1 ∧ H' = H.set p (.cells (encXd (putKd l s b).2))) :=
  liftK hp (put0 l s b hl hs hb) rfl rfl

/-! ### Of -/
def ofKd : List Ent → List Kd → List Kd
  | [], l => l
  | e :: r, l => ofKd r (putKd l e.1 e.2).2
def ofI : List Ent → Kn → Kn
  | [], es => es
  | e :: r, es => ofI r (putI es e.1 e.2).2
theorem putKd_len (l : List Kd) (s b : Nm) : (putKd l s b).2.length ≤ l.length + 1 := by
  unfold putKd
  split
  · simp
  · split
    · simp
    · simp [insK_len]
abbrev smE (e : List Ent) : Prop := e.length ≤ 60 ∧ ∀ x ∈ e, x.1.length ≤ 200 ∧ x.2.length ≤ 9000
noncomputable abbrev slE (e : List Ent) : AV := .sl 2 (.map encEn ([], []) e) .none
theorem of3 {e : List Ent} (he : smE e) {R : List Kd} : ∀ (m i : Nat) (l : List Kd), m + i = e.length → l.length ≤ i → ofKd (e.drop i) l = R →
    AWP Try.prog 25 0 c118_3 [(0, slE e), (2, .ptr 0 0), (3, .ptr 1 0), (4, .int .i64 i)] [.cells [.sl 0 (.raw []) .nil], .cells (encXd l)] (q118_2 0 (PA (agK R))) := by
  intro m
  induction m with
  | zero =>
    intro i l hm hl h
    refine v118_3 _ _ _ _ _ (condD (fun hc => by omega) fun _ => pa ?_)
    rw [List.drop_eq_nil_of_le (by omega)] at h
    have h' : l = R := h
    subst h'
    exact Le.refl _
  | succ m ih =>
    intro i l hm hl h
    have h30 := he.1
    have hx := he.2 _ (memD e ([], []) i (by omega))
    rw [dropD e ([], []) i (by omega)] at h
    refine v118_3 _ _ _ _ _ (condD (fun hc => needJ ⟨by omega, by omega⟩ (needJ ⟨by omega, by omega⟩ (needJ (allBytes_map _) ?_))) fun hc => by omega)
    rw [bytesOf_map, Int.toNat_natCast, succ64 (by omega)]
    generalize e.getD i ([], []) = x at h hx ⊢
    simp only [ofKd] at h
    have hlen := putKd_len l x.1 x.2
    exact ASpec.call (put_spec l rfl x.1 x.2 (by unfold lim; omega) (by unfold lim; omega) (by omega)) (Les.refl _) ⟨putKd l x.1 x.2, rfl, rfl, ih (i + 1) _ (by omega) (by omega) h⟩
theorem of_spec (e : List Ent) (he : smE e) (H : List AObj) : ASpec Try.prog 118 [slE e] H (fun r H' => r = agK (ofKd e []) ∧ H' = H) := by
  have k : ASpec Try.prog 118 [slE e] [] (fun r H' => r = agK (ofKd e []) ∧ H' = []) := by
    refine ASpec.sel (s118 _ _ ?_)
    refine AWP.re (ReSt.leCell (id := 1) (cs' := encXd []) rfl ⟨Le.sl rfl (.inr ⟨rfl, fun _ h => by cases h⟩) (.inr rfl), trivial⟩) ?_
    exact of3 he e.length 0 [] (by omega) (by simp) rfl
  exact ASpec.pureH H k _ _ rfl rfl

abbrev PX0 (es : Kn) (r0 : AV) : AV → List AObj → Prop := fun r H' => ∃ l H2 r2, Sel 0 l H' H2 ∧ Le r (AV.ren (selR l H'.length) r2) ∧ (r2 = r0 ∧ H2 = HX es)
theorem selX0 (es : Kn) (q : List AObj) : Sel 0 [0, 1] (HX es ++ q) (HX es) := by
  obtain ⟨h1, h2, h3, h4, h5⟩ := selX es q
  exact ⟨h1, h2, Nat.zero_le _, fun i hi => by omega, h5⟩
theorem xof3 {e : List Ent} (he : smE e) {R : Kn} : ∀ (m i : Nat) (es : Kn), m + i = e.length → ofI (e.drop i) es = R →
    AWP Try.prog 21 0 c119_3 [(3, .ptr 1 0), (7, slE e), (8, .int .i64 e.length), (9, .int .i64 i)] (HX es) (q119_2 0 (PX0 R (.ptr 1 0))) := by
  intro m
  induction m with
  | zero =>
    intro i es hm h
    refine v119_3 _ _ _ _ _ _ (condD (fun hc => by omega) fun _ => ?_)
    rw [List.drop_eq_nil_of_le (by omega)] at h
    have h' : es = R := h
    subst h'
    exact ⟨_, _, _, selX0 es [], Le.refl _, rfl, rfl⟩
  | succ m ih =>
    intro i es hm h
    have h30 := he.1
    have hx := he.2 _ (memD e ([], []) i (by omega))
    rw [dropD e ([], []) i (by omega)] at h
    refine v119_3 _ _ _ _ _ _ (condD (fun hc => needJ ⟨by omega, by omega⟩ ?_) fun hc => by omega)
    rw [Int.toNat_natCast, succ64 (by omega)]
    generalize e.getD i ([], []) = x at h hx ⊢
    simp only [ofI] at h
    refine ASpec.call (X.put_spec es x.1 x.2 (by unfold lim; omega) _ 0 1 (by omega) rfl rfl) (Les.refl _) ⟨putI es x.1 x.2, rfl, rfl, ?_⟩
    refine AWP.shape [0, 1] [(3, .ptr 1 0), (7, slE e), (8, .int .i64 e.length), (9, .int .i64 (i + 1 : Nat))] (HX (putI es x.1 x.2).2) (selX0 _ [_])
      ⟨rfl, Le.refl _, rfl, Le.refl _, rfl, Le.refl _, rfl, Le.refl _, trivial⟩ (ih (i + 1) _ (by omega) h)
theorem xof0 (e : List Ent) (he : smE e) : ASpec Try.prog 119 [slE e] [] (fun r H' => r = .ptr 1 0 ∧ H' = HX (ofI e [])) := by
  refine ASpec.sel (s119 _ _ (ASpec.call (X.new_spec []) (Les.refl _) ⟨(), rfl, rfl, ?_⟩))
  exact xof3 he e.length 0 [] (by omega) rfl
theorem xof_spec (e : List Ent) (he : smE e) (H : List AObj) : ASpec Try.prog 119 [slE e] H (fun r H' => r = .ptr (H.length + 1) 0 ∧ H' = H ++ [.mp (.typed EK (ofI e [])), .cells [.map H.length]]) := by
  refine (ASpec.subH [] H (H ++ [.mp (.typed EK (ofI e [])), .cells [.map H.length]]) (xof0 e he) [slE e] (.ptr (H.length + 1) 0) (by simp) rfl rfl (by simp [AV.ren, callR]) (fun i hi => by cases hi) ?_)
  simp [graftH, grafted, HX, mp_ren]
  simp [AObj.ren, renL, AV.ren, callR]

/-! ### the copy -/
theorem clone0 (es : Kn) : ASpec Try.prog 220 [.map 0] [.mp (.typed EK es)] (fun r H' => r = .map 1 ∧ H' = [.mp (.typed EK es), .mp (.typed EK es)]) := by
  refine s220 _ _ (needJ ?_ ⟨rfl, rfl⟩)
  exact ⟨Go.Proofs.Try.f304, by kernel_rfl, by kernel_rfl, by kernel_rfl, by kernel_rfl, by kernel_rfl⟩
theorem clone_spec (es : Kn) (H : List AObj) (q : Nat) (hq : H[q]? = some (.mp (.typed EK es))) : ASpec Try.prog 220 [.map q] H (fun r H' => r = .map H.length ∧ H' = H ++ [.mp (.typed EK es)]) := by
  refine ASpec.subH [q] H (H ++ [.mp (.typed EK es)]) (clone0 es) [.map q] (.map H.length) (by simp) rfl rfl (by simp [AV.ren, callR]) (fun i hi => ?_) ?_
  · match i, hi with
    | 0, _ => show H[q]? = some (AObj.ren _ (.mp (.typed EK es))); rw [mp_ren]; exact hq
  · simp [graftH, grafted, mp_ren]
    exact set_same hq
theorem copy0 (es : Kn) : ASpec Try.prog 115 [.ptr 1 0] (HX es) (fun r H' => r = .ptr 3 0 ∧ H' = [.mp (.typed EK es), .cells [.map 0], .mp (.typed EK es), .cells [.map 2]]) :=
  s115m _ _ (ASpec.call (clone_spec es _ 0 rfl) (Les.refl _) ⟨es, rfl, rfl, rfl, rfl⟩)
theorem copyN (H : List AObj) : ASpec Try.prog 115 [.nilp] H (fun r H' => r = .nilp ∧ H' = H) :=
  ASpec.pureH H (s115n _ ⟨rfl, rfl⟩) _ _ rfl rfl
theorem copy_spec (es : Kn) (H : List AObj) (q p : Nat) (hqp : q ≠ p) (hq : H[q]? = some (.mp (.typed EK es))) (hp : H[p]? = some (.cells [.map q])) :
    ASpec Try.prog 115 [.ptr p 0] H (fun r H' => r = .ptr (H.length + 1) 0 ∧ H' = H ++ [.mp (.typed EK es), .cells [.map H.length]]) := by
  refine ASpec.subH [q, p] H (H ++ [.mp (.typed EK es), .cells [.map H.length]]) (copy0 es) [.ptr p 0] (.ptr (H.length + 1) 0) (by simpa using hqp) rfl rfl (by simp [AV.ren, callR]) (fun i hi => ?_) ?_
  · match i, hi with
    | 0, _ => show H[q]? = some (AObj.ren _ (.mp (.typed EK es))); rw [mp_ren]; exact hq
    | 1, _ => exact hp
  · simp [graftH, grafted, mp_ren]
    simp [AObj.ren, renL, AV.ren, callR]
    rw [set_same hq, set_same hp]
end Xd
end

section
/- Names of a proof's leaves, and what the document's trim leaves: what the code computes. -/

set_option linter.unusedVariables false
set_option linter.unusedSimpArgs false
set_option maxRecDepth 100000
open Go Go.Ab Go.Proofs V S T C
open Dp (slL)
namespace Pl

/-! ### Compact -/

/-! ### Add -/

/-! ### Leaves -/

section
variable {l : List St} (hl : l.length ≤ 500000)
include hl

end

/-! ### Same -/

end Pl
end

section
/- The names that the index knows: a range over its map, in whatever order. -/

set_option linter.unusedVariables false
set_option linter.unusedSimpArgs false
set_option maxRecDepth 100000
open Go Go.Ab Go.Proofs V S T C
open W (sl1 slS slN slR)
namespace Xn
open X (mp_ren EK_ren selX optI)
open Xd (keyN Nm slL slLle selX0 B_key)
open Pl (Up up_one tri ltT ltI sort_up sort_mem sort_len)
open So (sortL)
theorem sort_strict {a : List Nm} (hn : a.Nodup) : Up (sortL a) := by
  have h1 := sort_up a
  have h2 : (sortL a).Nodup := (List.mergeSort_perm _ _).nodup_iff.2 hn
  refine (List.Pairwise.and h1 h2).imp fun {a b} hab => ?_
  rcases tri a b with ht | ht | ht
  · exact ht
  · exact (hab.2 ht).elim
  · exact (hab.1 ht).elim
theorem sort_perm {a b : List Nm} (h : a.Perm b) (hn : b.Nodup) : sortL a = sortL b :=
  up_one (sort_strict (h.nodup_iff.2 hn)) (sort_strict hn) fun x => by rw [sort_mem, sort_mem]; exact h.mem_iff

/-! ### the rounds -/
abbrev Z2 := List Nat × Nat
noncomputable abbrev LP : AObj := .lp 13 [(2, .ptr 2 0), (7, .bad)] [7] c352_3a c352_3 .ready
noncomputable abbrev LPB : AObj := .lp 13 [(2, .ptr 2 0), (7, .bad)] [7] c352_3a c352_3 .busy
noncomputable abbrev HN (es : Kn) (z : Z2) (ps : List Nat) : List AObj := [.mpv (.typed EK es) z, .cells [.map 0], .cells [.sl 0 (.raw []) .nil], LP, .mit 0 z ps]
noncomputable abbrev HM (es : Kn) (z : Z2) (ps : List Nat) (o : List Nm) : List AObj := [.mpv (.typed EK es) z, .cells [.map 0], .cells [.msl 1 5 0 o.length], LP, .mit 0 z ps, .arr 1 (.map encL [] o)]
noncomputable abbrev HM6 (es : Kn) (z : Z2) (ps : List Nat) (o : List Nm) : List AObj := [.mpv (.typed EK es) z, .cells [.map 0], .cells [.msl 1 6 0 o.length], LP, .mit 0 z ps, .gone, .arr 1 (.map encL [] o)]
theorem mpv_ren (ρ : Nat → Nat) (es : Kn) (z : Z2) : AObj.ren ρ (.mpv (.typed EK es) z) = .mpv (.typed EK es) z := by
  simp only [AObj.ren, MM.ren, EK_ren]
theorem encL_key (k : ByteArray) : encL k.data.toList = [.str k] := by
  show [AV.str (B k.data.toList)] = _
  rw [B_key]

theorem roundN {es : Kn} {z : Z2} {ps : List Nat} {k : ByteArray} {Post : AV → List AObj → Prop} (h : Post (.bool true) (HM es z ps [k.data.toList])) : AYield Try.prog 3 [.str k] (HN es z ps) Post := by
  refine AYield.sel (AYield.arrEnd (AYield.of (N := 13) [2, 7] rfl rfl rfl ?_))
  refine v352_3n es z ps k LP LPB 5 (fun _ _ => True) _ (needJ rfl (needJ (by omega) (needJ (by omega) ⟨rfl, ?_⟩)))
  refine ⟨5, 1, .raw [[.str k]], .map encL [] [k.data.toList], rfl, by simp [Seq.toList, encL_key], [0, 1, 2, 3, 4, 5], HM es z ps [k.data.toList], .bool true, ⟨by decide, rfl, by show 5 ≤ 6; omega, fun j hj => ?_, fun j hj => .inl ?_⟩, Le.refl _, h⟩
  · match j, hj with
    | 0, _ | 1, _ | 2, _ | 3, _ | 4, _ => rfl
  · match j, hj with
    | 0, _ => show some _ = some (AObj.ren _ (.mpv (.typed EK es) z)); rw [mpv_ren]
    | 1, _ | 2, _ | 3, _ | 4, _ | 5, _ => rfl
theorem roundM {es : Kn} {z : Z2} {ps : List Nat} {k : ByteArray} {o : List Nm} (ho : o.length ≤ 1000000) {Post : AV → List AObj → Prop} (h : Post (.bool true) (HM6 es z ps (o ++ [k.data.toList]))) : AYield Try.prog 3 [.str k] (HM es z ps o) Post := by
  refine AYield.sel (AYield.arrEnd (AYield.of (N := 13) [2, 7] rfl rfl rfl ?_))
  refine v352_3m es z ps k o LP LPB 6 (fun _ _ => True) _ (needJ rfl (needJ ⟨rfl, by omega⟩ ⟨rfl, ?_⟩))
  have el : (o ++ [k.data.toList]).length = o.length + 1 := by simp
  refine ⟨6, 1, .app (.map encL [] o) (.raw [[.str k]]), .map encL [] (o ++ [k.data.toList]), rfl, by simp [Seq.toList, encL_key], [0, 1, 2, 3, 4, 5, 6], HM6 es z ps (o ++ [k.data.toList]), .bool true, ⟨by decide, rfl, by show 6 ≤ 7; omega, fun j hj => ?_, fun j hj => ?_⟩, Le.refl _, h⟩
  · match j, hj with
    | 0, _ | 1, _ | 2, _ | 3, _ | 4, _ | 5, _ => rfl
  · match j, hj with
    | 0, _ => left; show some _ = some (AObj.ren _ (.mpv (.typed EK es) z)); rw [mpv_ren]
    | 2, _ => left; show some (AObj.cells [.msl 1 6 0 (o.length + 1)]) = some (AObj.cells [.msl 1 6 0 (o ++ [k.data.toList]).length]); rw [el]
    | 1, _ | 3, _ | 4, _ | 6, _ => exact .inl rfl
    | 5, _ => exact .inl rfl

/-! ### the range -/
def keyAt (es : Kn) (i : Nat) : Nm := keyN (es.getD i (⟨#[]⟩, none))
structure Vis (es : Kn) (ps : List Nat) (o : List Nm) : Prop where
  nd : ps.Nodup
  lt : ∀ i ∈ ps, i < es.length
  row : o = ps.reverse.map (keyAt es)
theorem keys_range (es : Kn) : (List.range es.length).map (keyAt es) = es.map keyN := by
  apply List.ext_getElem
  · simp
  · intro i h1 h2
    simp at h1 h2
    simp [keyAt, List.getD_eq_getElem?_getD, List.getElem?_eq_getElem h2]
theorem vis_end {es : Kn} {ps : List Nat} {o : List Nm} (h : Vis es ps o) (ha : ∀ i, i < es.length → i ∈ ps) : o.Perm (es.map keyN) := by
  rw [h.row, ← keys_range]
  refine List.Perm.map _ ((List.reverse_perm _).trans ?_)
  refine (List.perm_ext_iff_of_nodup h.nd List.nodup_range).2 fun i => ?_
  rw [List.mem_range]
  exact ⟨h.lt i, ha i⟩
theorem vis_next {es : Kn} {ps : List Nat} {o : List Nm} {i : Nat} {k : ByteArray} {v : Known} (h : Vis es ps o) (hi : i < es.length) (hn : i ∉ ps) (hk : es[i]? = some (k, v)) : Vis es (i :: ps) (o ++ [k.data.toList]) := by
  refine ⟨List.nodup_cons.2 ⟨hn, h.nd⟩, fun j hj => ?_, ?_⟩
  · rcases List.mem_cons.1 hj with rfl | hj
    · exact hi
    · exact h.lt j hj
  · rw [h.row, List.reverse_cons, List.map_append]
    congr 1
    simp [keyAt, keyN, List.getD_eq_getElem?_getD, hk]
theorem nd_len : ∀ (n : Nat) (ps : List Nat), ps.Nodup → (∀ i ∈ ps, i < n) → ps.length ≤ n
  | 0, [], _, _ => Nat.le_refl _
  | 0, x :: r, _, h => absurd (h x (by simp)) (Nat.not_lt_zero _)
  | n + 1, ps, hn, h => by
    have h1 := nd_len n (ps.erase n) (hn.erase n) fun i hi => by
      have h2 := h i (List.mem_of_mem_erase hi)
      have h3 : i ≠ n := fun e => by subst e; exact hn.not_mem_erase hi
      omega
    have h2 := List.length_erase (a := n) (l := ps)
    split at h2 <;> omega
theorem vis_len {es : Kn} {ps : List Nat} {o : List Nm} (h : Vis es ps o) : ps.length ≤ es.length := nd_len _ _ h.nd h.lt

theorem loopM {es : Kn} (hes : es.length ≤ 1000000) {z : Z2} {Post : AV → List AObj → Prop} (hp : ∀ ps o, o.Perm (es.map keyN) → Post (.tup []) (HM es z ps o)) : ∀ (m : Nat) (ps : List Nat) (o : List Nm), m + ps.length = es.length → Vis es ps o →
    AWP Try.prog 14 4 c308_1 [(0, .yld 3), (5, .ptr 4 0)] (HM es z ps o) (q308_1 4 Post) := by
  intro m
  induction m with
  | zero =>
    intro ps o hm hv
    refine v308_1m es z ps LP o 4 Post (needJ rfl ⟨fun ha => hp ps o (vis_end hv ha), fun i hi hn k v hk => ?_⟩)
    exfalso
    have hv2 := vis_len (vis_next hv hi (fun h => hn h) hk)
    simp at hv2; omega
  | succ m ih =>
    intro ps o hm hv
    have hol : o.length ≤ 1000000 := by rw [hv.row]; simp; have := vis_len hv; omega
    have key : ∀ i, i < es.length → ¬ i ∈ ps → ∀ k v, es[i]? = some (k, v) → ∀ (Q : AV → List AObj → Prop), (∀ r H, (∃ x : List Nm, r = AV.bool true ∧ H = HM6 es z (i :: ps) x ∧ AWP Try.prog 14 4 c308_1 [(0, .yld 3), (5, .ptr 4 0)] (HM6 es z (i :: ps) x) (q308_1 4 Post)) → Q r H) → AYield Try.prog 3 [.str k] (HM es z (i :: ps) o) Q := by
      intro i hi hn k v hk Q hQ
      refine roundM hol (hQ _ _ ⟨o ++ [k.data.toList], rfl, rfl, ?_⟩)
      refine AWP.shape [0, 1, 2, 3, 4, 6] [(0, .yld 3), (5, .ptr 4 0)] (HM es z (i :: ps) (o ++ [k.data.toList])) ⟨by decide, rfl, by show 4 ≤ 6; omega, fun j hj => ?_, fun j hj => .inl ?_⟩
        ⟨rfl, Le.refl _, rfl, Le.refl _, trivial⟩ (ih (i :: ps) _ (by simp; omega) (vis_next hv hi hn hk))
      · match j, hj with
        | 0, _ | 1, _ | 2, _ | 3, _ => rfl
      · match j, hj with
        | 0, _ => show some _ = some (AObj.ren _ (.mpv (.typed EK es) z)); rw [mpv_ren]
        | 1, _ | 2, _ | 3, _ | 4, _ | 5, _ => rfl
    refine v308_1m es z ps LP o 4 Post (needJ rfl ⟨fun ha => hp ps o (vis_end hv ha), fun i hi hn k v hk => optI (fun x hx => needJ ⟨rfl, hi⟩ fun k' v' hk' => optI (fun x' hx' => ?_) fun hx' => ?_) fun hx => needJ ⟨rfl, hi⟩ fun k' v' hk' => optI (fun x' hx' => ?_) fun hx' => ?_⟩)
    all_goals exact key i hi (fun h => hn h) k' v' hk' _ fun r H hh => .inr hh

theorem loopN {es : Kn} (hes : es.length ≤ 1000000) {z : Z2} {Post : AV → List AObj → Prop} (hp : ∀ ps o, o.Perm (es.map keyN) → Post (.tup []) (HM es z ps o)) (hp0 : es = [] → Post (.tup []) (HN es z [])) :
    AWP Try.prog 14 4 c308_1 [(0, .yld 3), (5, .ptr 4 0)] (HN es z []) (q308_1 4 Post) := by
  have key : ∀ i, i < es.length → ∀ k v, es[i]? = some (k, v) → ∀ (Q : AV → List AObj → Prop), (∀ r H, (∃ x : List Nm, r = AV.bool true ∧ H = HM es z [i] x ∧ AWP Try.prog 14 4 c308_1 [(0, .yld 3), (5, .ptr 4 0)] (HM es z [i] x) (q308_1 4 Post)) → Q r H) → AYield Try.prog 3 [.str k] (HN es z [i]) Q := by
    intro i hi k v hk Q hQ
    refine roundN (hQ _ _ ⟨[k.data.toList], rfl, rfl, loopM hes hp (es.length - 1) [i] _ (by simp; omega) ?_⟩)
    exact vis_next (o := []) ⟨by simp, by simp, rfl⟩ hi (by simp) hk
  refine v308_1n es z [] LP 4 Post (needJ rfl ⟨fun ha => hp0 ?_, fun i hi hn k v hk => optI (fun x hx => needJ ⟨rfl, hi⟩ fun k' v' hk' => optI (fun x' hx' => ?_) fun hx' => ?_) fun hx => needJ ⟨rfl, hi⟩ fun k' v' hk' => optI (fun x' hx' => ?_) fun hx' => ?_⟩)
  · match es, ha with
    | [], _ => rfl
    | _ :: _, ha => have := ha 0 (Nat.succ_pos _); simp at this
  all_goals exact key i hi k' v' hk' _ fun r H hh => .inl hh

/-! ### collected, sorted -/
noncomputable abbrev arL (o : List Nm) : AObj := .arr 1 (.map encL [] o)
abbrev PK (es : Kn) : AV → List AObj → Prop := fun r H' => (r = .sl 0 (.raw []) .nil ∧ H' = HX es ∧ es = []) ∨ ∃ R : List Nm, R.Perm (es.map keyN) ∧ r = .msl 1 2 0 R.length ∧ H' = HX es ++ [arL R]
section
variable {es : Kn} (hes : es.length ≤ 1000000)
include hes
theorem coll_spec : ASpec Try.prog 352 [.sl 0 (.raw []) .nil, .fn 308 [.ptr 1 0]] (HX es) (PK es) := by
  refine ASpec.sel (s352 es _ ?_)
  refine s308 es LP _ fun z hz => loopN hes (fun ps o ho => ?_) (fun he => ?_)
  · refine ⟨_, _, _, _, _, .ready, rfl, ?_⟩
    show AWP Try.prog 13 2 c352_4 [(2, .ptr 2 0)] [.mpv (.typed EK es) z, .cells [.map 0], .cells [.msl 1 5 0 o.length], .gone, .mit 0 z ps, arL o] (q352_0 2 _)
    refine AWP.re (ReSt.mapEnd (id := 0) rfl) ?_
    refine AWP.shape [0, 1, 2, 5] [(2, .ptr 2 0)] [.mp (.typed EK es), .cells [.map 0], .cells [.msl 1 3 0 o.length], arL o] ⟨by decide, rfl, by show 2 ≤ 4; omega, fun j hj => ?_, fun j hj => .inl ?_⟩ ⟨rfl, Le.refl _, trivial⟩ ?_
    · match j, hj with
      | 0, _ | 1, _ => rfl
    · match j, hj with
      | 0, _ => show some _ = some (AObj.ren _ (.mp (.typed EK es))); rw [mp_ren]
      | 1, _ | 2, _ | 3, _ => rfl
    refine v352_4m es o 2 _ ⟨[0, 1, 3], HX es ++ [arL o], .msl 1 2 0 o.length, ⟨by decide, rfl, by show 2 ≤ 3; omega, fun j hj => ?_, fun j hj => .inl ?_⟩, Le.refl _, .inr ⟨o, ho, rfl, rfl⟩⟩
    · match j, hj with
      | 0, _ | 1, _ => rfl
    · match j, hj with
      | 0, _ => show some _ = some (AObj.ren _ (.mp (.typed EK es))); rw [mp_ren]
      | 1, _ | 2, _ => rfl
  · refine ⟨_, _, _, _, _, .ready, rfl, ?_⟩
    show AWP Try.prog 13 2 c352_4 [(2, .ptr 2 0)] [.mpv (.typed EK es) z, .cells [.map 0], .cells [.sl 0 (.raw []) .nil], .gone, .mit 0 z []] (q352_0 2 _)
    refine AWP.re (ReSt.mapEnd (id := 0) rfl) ?_
    refine AWP.shape [0, 1, 2] [(2, .ptr 2 0)] [.mp (.typed EK es), .cells [.map 0], .cells [.sl 0 (.raw []) .nil]] ⟨by decide, rfl, by show 2 ≤ 3; omega, fun j hj => ?_, fun j hj => .inl ?_⟩ ⟨rfl, Le.refl _, trivial⟩ ?_
    · match j, hj with
      | 0, _ | 1, _ => rfl
    · match j, hj with
      | 0, _ => show some _ = some (AObj.ren _ (.mp (.typed EK es))); rw [mp_ren]
      | 1, _ | 2, _ => rfl
    exact v352_4n es 2 _ ⟨[0, 1], HX es, .sl 0 (.raw []) .nil, selX es [_], Le.refl _, .inl ⟨rfl, rfl, he⟩⟩
theorem coll2_spec : ASpec Try.prog 307 [.fn 308 [.ptr 1 0]] (HX es) (PK es) := s307 es _ ((coll_spec hes).mono fun r H' hh => by
  rcases hh with ⟨h1, h2, h3⟩ | ⟨R, h1, h2, h3⟩
  · exact .inl ⟨(), h1, h2, .inl ⟨rfl, rfl, h3⟩⟩
  · exact .inr ⟨R, h2, h3, .inr ⟨R, h1, rfl, rfl⟩⟩)
variable (hnd : (es.map keyN).Nodup)
include hnd
theorem sorted0 : ASpec Try.prog 224 [.fn 308 [.ptr 1 0]] (HX es) (fun r H' => r = slL (sortL (es.map keyN)) ∧ H' = HX es) := by
  have k : ASpec Try.prog 224 [.fn 308 [.ptr 1 0]] (HX es) (fun r H' => (r = .sl 0 (.raw []) .nil ∧ H' = HX es ∧ es = []) ∨ (r = .msl 1 2 0 (sortL (es.map keyN)).length ∧ H' = HX es ++ [arL (sortL (es.map keyN))])) := by
    refine s224 es _ ((coll2_spec hes).mono fun r H' hh => ?_)
    rcases hh with ⟨h1, h2, h3⟩ | ⟨R, h1, h2, h3⟩
    · exact .inl ⟨(), h1, h2, So.sort_nil.mono fun r H' hh => .inl ⟨(), hh.1, hh.2, .inl ⟨rfl, rfl, h3⟩⟩⟩
    · have hR : R.length = es.length := by rw [h1.length_eq]; simp
      refine .inr ⟨R, h2, h3, (So.sort_spec (l := R) (id := 2) rfl rfl (by omega)).mono fun r H' hh => .inr ⟨sortL R, hh.1, hh.2, .inr ⟨?_, ?_⟩⟩⟩
      · rw [← sort_perm h1 hnd, sort_len]
      · rw [← sort_perm h1 hnd]; rfl
  refine ASpec.sel (ASpec.reEnd (k.mono fun r H' hh => ?_))
  rcases hh with ⟨e1, e2, e3⟩ | ⟨e1, e2⟩
  · subst e1 e2 e3
    exact ⟨_, _, ReSt.refl _ _, [0, 1], HX [], slL [], selX [] [], Le.sl (s' := Seq.ren _ (.map encL [] [])) rfl (.inr ⟨rfl, fun _ h => by cases h⟩) (.inr rfl), by simp [sortL], rfl⟩
  · subst e1 e2
    exact ⟨_, _, ReSt.freeze1 (id := 2) (q' := .map encL [] (sortL (es.map keyN))) rfl (by show 2 ≤ 3; omega) (by simp [Seq.toList]) (by simp only [Seq.toList]; rw [List.take_of_length_le (by simp)]), [0, 1], HX es, slL (sortL (es.map keyN)), selX es [_], slLle _ _ _, rfl, rfl⟩
theorem names0 : ASpec Try.prog 122 [.ptr 1 0] (HX es) (fun r H' => r = slL (sortL (es.map keyN)) ∧ H' = HX es) := by
  refine ASpec.sel (s122m es _ (s225 es _ ⟨(), rfl, rfl, ?_⟩))
  have k : ASpec Try.prog 224 [.fn 308 [.ptr 2 0]] [.mp (.typed EK es), .cells [.map 0], .cells [.map 0]] (fun r H' => r = slL (sortL (es.map keyN)) ∧ H' = [.mp (.typed EK es), .cells [.map 0], .cells [.map 0]]) := by
    refine ASpec.subH [0, 2] _ _ (sorted0 hes hnd) _ _ (by decide) rfl rfl rfl (fun i hi => ?_) ?_
    · match i, hi with
      | 0, _ => show some _ = some (AObj.ren _ (.mp (.typed EK es))); rw [mp_ren]
      | 1, _ => rfl
    · simp [graftH, grafted, HX, mp_ren]
      rfl
  exact ASpec.call k (Les.refl _) ⟨_, rfl, rfl, [0, 1], HX es, slL (sortL (es.map keyN)), selX es [_], slLle _ _ _, rfl, rfl⟩
theorem names_spec (H : List AObj) (q p : Nat) (hqp : q ≠ p) (hq : H[q]? = some (.mp (.typed EK es))) (hp : H[p]? = some (.cells [.map q])) :
    ASpec Try.prog 122 [.ptr p 0] H (fun r H' => r = slL (sortL (es.map keyN)) ∧ H' = H) := by
  have := X.liftX H q p hqp hq hp (names0 hes hnd) (args' := [.ptr p 0]) (r' := slL (sortL (es.map keyN))) rfl rfl
  rwa [set_same hq] at this
end
theorem namesN (H : List AObj) : ASpec Try.prog 122 [.nilp] H (fun r H' => r = slL [] ∧ H' = H) :=
  ASpec.pureH H (ASpec.sel (s122n _ ⟨[], [], slL [], Sel.none, Le.sl (s' := Seq.ren _ (.map encL [] [])) rfl (.inr ⟨rfl, fun _ h => by cases h⟩) (.inr rfl), rfl, rfl⟩)) _ _ rfl rfl
end Xn
end

section
/- IndexPuts: the law's function returns true. -/

set_option linter.unusedVariables false
set_option linter.unusedSimpArgs false
set_option maxRecDepth 100000
open Go Go.Ab Go.Proofs V S T C
open W (sl1 slS slN slR)
namespace Xl
open X (hasI getM readK putI OkX find_none mp_ren selX PX px okX_nil okX_put awake_spec largeD_spec largeD_ok largeD slEn)
open Xd (Nm UpD RelX rel0 rel_has rel_get rel_put rel_names agK slL smE slE ofKd ofI putKd putKd_len kdOf_name keyN insK_mem hasD getKd atF atF_none holdD)
/-- the index, the document's, and what their names are like -/
structure Both (es : Kn) (l : List Kd) : Prop where
  rel : RelX es l
  ok : OkX es
  sh : ∀ y ∈ l, y.1.1.length ≤ 200
theorem both0 : Both [] [] := ⟨rel0, okX_nil, fun y h => by simp at h⟩
theorem both_put {es : Kn} {l : List Kd} (h : Both es l) {s b : Nm} (hs : s.length ≤ 200) : (putKd l s b).1 = (putI es s b).1 ∧ Both (putI es s b).2 (putKd l s b).2 := by
  obtain ⟨h1, h2⟩ := rel_put h.rel s b
  refine ⟨h1, h2, okX_put h.ok, ?_⟩
  unfold putKd
  split
  · exact h.sh
  · split
    · exact h.sh
    · intro y hy
      rcases insK_mem.1 hy with rfl | hy
      · rw [kdOf_name]; exact hs
      · exact h.sh y hy
theorem ofKd_app : ∀ (a b : List Ent) (l : List Kd), ofKd (a ++ b) l = ofKd b (ofKd a l)
  | [], _, _ => rfl
  | e :: r, b, l => by simp only [List.cons_append, ofKd]; exact ofKd_app r b _
theorem keyN_nd {es : Kn} {l : List Kd} (h : RelX es l) : (es.map keyN).Nodup := by
  have e : es.map keyN = (es.map (·.1)).map fun x : ByteArray => x.data.toList := by simp [keyN, Function.comp_def]
  rw [e]
  refine List.Pairwise.map _ (fun a b hab => ?_) h.nd
  intro he
  apply hab
  rw [← Xd.B_key a, ← Xd.B_key b, he]
theorem hold_rel {es : Kn} {l : List Kd} (h : RelX es l) (s : Nm) : holdD l s (getM es s).1 (getM es s).2 = true := by
  unfold holdD
  rw [rel_get h]
  simp

/-! ### Same -/
section
variable {es : Kn} {l : List Kd} (h : Both es l) (hl : l.length ≤ 1000)
include h hl
theorem same8 : ∀ (m i : Nat), m + i = l.length →
    AWP Try.prog 81 2 c117_8 [(0, .ptr 1 0), (4, .ptr 2 0), (7, slL (l.map (·.1.1))), (10, .int .i64 i)] (HX es ++ [.cells (encXd l)]) (q117_2 2 (PX es (.bool true))) := by
  intro m
  induction m with
  | zero =>
    intro i hm
    exact v117_8 es l _ _ _ _ (condD (fun hc => by simp at hc; omega) fun _ => px [_] (Le.refl _))
  | succ m ih =>
    intro i hm
    have hin : (0 : Int) ≤ (i : Int) ∧ (i : Int) < ((l.map (·.1.1)).length : Int) := ⟨by omega, by simp; omega⟩
    refine v117_8 es l _ _ _ _ (condD (fun hc => needJ hin ?_) fun hc => (hc hin.2).elim)
    rw [Int.toNat_natCast, succ64 (by omega)]
    have hy : (l.map (·.1.1)).getD i [] = (l.getD i noKd).1.1 := by
      rw [List.getD_eq_getElem?_getD, List.getD_eq_getElem?_getD, List.getElem?_map, List.getElem?_eq_getElem (show i < l.length by omega)]; rfl
    rw [hy]
    have hm2 := memD l noKd i (by omega)
    generalize l.getD i noKd = y at hm2 ⊢
    have hs := h.sh y hm2
    have hh : hasI es y.1.1 = true := by
      rw [← rel_has h.rel]
      unfold hasD
      cases hf : atF y.1.1 l with
      | none => exact absurd rfl (atF_none.1 hf y hm2)
      | some z => rfl
    refine ASpec.call (X.get_spec es y.1.1 h.ok _ 0 1 (by omega) rfl rfl) (Les.refl _) ⟨getM es y.1.1, rfl, rfl, needJ hin ?_⟩
    refine ASpec.call (Xd.hold_spec l y.1.1 (getM es y.1.1).1 (getM es y.1.1).2 (by unfold lim; omega) (X.getM_ok h.ok (by unfold lim; omega)) _) (Les.refl _) ⟨_, rfl, rfl, ?_⟩
    rw [hold_rel h.rel]
    refine condBn (fun h => by cases h) fun _ => needJ hin ?_
    refine ASpec.call (X.has_spec es y.1.1 _ 0 1 (by omega) rfl rfl) (Les.refl _) ⟨_, rfl, rfl, ?_⟩
    rw [hh]
    refine condBn (fun h => by cases h) fun _ => ?_
    refine AWP.shape [0, 1, 2] [(0, .ptr 1 0), (4, .ptr 2 0), (7, slL (l.map (·.1.1))), (10, .int .i64 (i + 1 : Nat))] (HX es ++ [.cells (encXd l)]) ⟨by decide, rfl, by show 2 ≤ 3; omega, fun j hj => ?_, fun j hj => .inl ?_⟩
      ⟨rfl, Le.refl _, rfl, Le.refl _, rfl, Le.refl _, rfl, Le.refl _, trivial⟩ (ih (i + 1) (by omega))
    · match j, hj with
      | 0, _ | 1, _ => rfl
    · match j, hj with
      | 0, _ => show some _ = some (AObj.ren _ (.mp (.typed EK es))); rw [mp_ren]
      | 1, _ | 2, _ => rfl
theorem same0 {s : Nm} (hs : s.length ≤ 200) : ASpec Try.prog 117 [.ptr 1 0, agK l, .str (B s)] (HX es) (fun r H' => r = .bool true ∧ H' = HX es) := by
  have hll : l.length ≤ lim := by unfold lim; omega
  have hel : es.length ≤ 1000000 := by rw [← h.rel.len]; omega
  refine ASpec.sel (s117 es l s _ (ASpec.call (Xd.names_spec l hll _) (Les.refl _) ⟨l.map (·.1.1), rfl, rfl, ?_⟩))
  refine ASpec.call (Xn.names_spec hel (keyN_nd h.rel) _ 0 1 (by omega) rfl rfl) (Les.refl _) ⟨_, rfl, rfl, ?_⟩
  rw [rel_names h.rel]
  refine ASpec.call (Dp.names_spec (l.map (·.1.1)) (l.map (·.1.1)) (by simpa using hll) _) (Les.refl _) ⟨_, rfl, rfl, condBn (fun h => by simp at h) fun _ => ?_⟩
  refine ASpec.call (X.len_spec es _ 0 1 (by omega) rfl rfl) (Les.refl _) ⟨_, rfl, rfl, ⟨rfl, rfl⟩, condNe (fun hn => (hn (by simp [h.rel.len])).elim) fun _ => ?_⟩
  refine ASpec.call (X.has_spec es s _ 0 1 (by omega) rfl rfl) (Les.refl _) ⟨_, rfl, rfl, ⟨rfl, rfl⟩, ?_⟩
  refine ASpec.call (Xd.has_spec l s hll _) (Les.refl _) ⟨_, rfl, rfl, ?_⟩
  rw [rel_has h.rel]
  refine condBn (fun h => by simp at h) fun _ => ?_
  refine ASpec.call (X.get_spec es s h.ok _ 0 1 (by omega) rfl rfl) (Les.refl _) ⟨getM es s, rfl, rfl, ?_⟩
  refine ASpec.call (Xd.hold_spec l s (getM es s).1 (getM es s).2 hll (X.getM_ok h.ok (by unfold lim; omega)) _) (Les.refl _) ⟨_, rfl, rfl, ?_⟩
  rw [hold_rel h.rel]
  refine condBn (fun h => by cases h) fun _ => ?_
  refine AWP.shape [0, 1, 2] [(0, .ptr 1 0), (4, .ptr 2 0), (7, slL (l.map (·.1.1))), (10, .int .i64 (0 : Nat))] (HX es ++ [.cells (encXd l)]) ⟨by decide, rfl, by show 2 ≤ 3; omega, fun j hj => ?_, fun j hj => .inl ?_⟩
    ⟨rfl, Le.refl _, rfl, Le.refl _, rfl, Le.refl _, rfl, Le.refl _, trivial⟩ (same8 h hl l.length 0 (by omega))
  · match j, hj with
    | 0, _ | 1, _ => rfl
  · match j, hj with
    | 0, _ => show some _ = some (AObj.ren _ (.mp (.typed EK es))); rw [mp_ren]
    | 1, _ | 2, _ => rfl
theorem same_spec {s : Nm} (hs : s.length ≤ 200) (H : List AObj) (q p : Nat) (hqp : q ≠ p) (hq : H[q]? = some (.mp (.typed EK es))) (hp : H[p]? = some (.cells [.map q])) :
    ASpec Try.prog 117 [.ptr p 0, agK l, .str (B s)] H (fun r H' => r = .bool true ∧ H' = H) := by
  have := X.liftX H q p hqp hq hp (same0 h hl hs) (args' := [.ptr p 0, agK l, .str (B s)]) (r' := .bool true) rfl rfl
  rwa [set_same hq] at this
end

/-! ### the index that is nil -/
abbrev nilV : AV := .sl 0 (.raw []) .nil
theorem putN (s : Nm) (H : List AObj) : ASpec Try.prog 113 [.nilp, .str (B s), nilV] H (fun r H' => r = .int .i64 1 ∧ H' = H) :=
  ASpec.pureH H (s113 s _ ⟨rfl, rfl⟩) _ _ rfl rfl
theorem hasN (s : Nm) (H : List AObj) : ASpec Try.prog 120 [.nilp, .str (B s)] H (fun r H' => r = .bool false ∧ H' = H) :=
  ASpec.pureH H (s120 s _ ⟨rfl, rfl⟩) _ _ rfl rfl
theorem lenN (H : List AObj) : ASpec Try.prog 121 [.nilp] H (fun r H' => r = .int .i64 0 ∧ H' = H) :=
  ASpec.pureH H (s121 _ ⟨rfl, rfl⟩) _ _ rfl rfl
theorem getN (s : Nm) (H : List AObj) : ASpec Try.prog 116 [.nilp, .str (B s)] H (fun r H' => r = .tup [.agg (encM (s, [])), .bool false] ∧ H' = H) := by
  have k : ASpec Try.prog 116 [.nilp, .str (B s)] [] (fun r H' => r = .tup [.agg (encM (s, [])), .bool false] ∧ H' = []) := by
    refine ASpec.sel (s116 s _ (ASpec.call (hasN s _) (Les.refl _) ⟨false, rfl, rfl, condBn (fun _ => X.pa ?_) fun h => by cases h⟩))
    exact Le.tup ⟨Le.agg ⟨Le.refl _, Xd.leR0, trivial⟩, Le.refl _, trivial⟩
  exact ASpec.pureH H k _ _ rfl rfl

/-! ### the law -/
section
variable {a b : List Ent} {s : Nm} (ha : a.length ≤ 30 ∧ ∀ x ∈ a, x.1.length ≤ 200 ∧ x.2.length ≤ 9000) (hb : b.length ≤ 30 ∧ ∀ x ∈ b, x.1.length ≤ 200 ∧ x.2.length ≤ 9000) (hs : s.length ≤ 200)
include ha hb hs

theorem law15 {cs : Kn} (he : Both (ofI a []) (ofKd a [])) (hc : Both cs (ofKd (a ++ b) [])) (h1 : (ofKd a []).length ≤ 60) (h2 : (ofKd (a ++ b) []).length ≤ 60) :
    AWP Try.prog 140 0 c14_15 [(0, slE a), (1, slE b), (2, .str (B s)), (7, .ptr 1 0), (8, .ptr 2 0), (10, .ptr 4 0)]
      [.mp (.typed EK (ofI a [])), .cells [.map 0], .cells (encXd (ofKd a [])), .mp (.typed EK cs), .cells [.map 3]] (q14_0 0 (PB true)) := by
  have ha2 : smE a := ⟨by have := ha.1; omega, ha.2⟩
  have hab : smE (a ++ b) := ⟨by have := ha.1; have := hb.1; simp; omega, fun x hx => by
    rcases List.mem_append.1 hx with hx | hx
    · exact ha.2 x hx
    · exact hb.2 x hx⟩
  have hla := ha.1
  have hlb := hb.1
  refine v14_15 a b s _ _ cs 0 _ (ASpec.call (getN [97] _) (Les.refl _) ⟨(([97], []), false), rfl, rfl, ?_⟩)
  refine ASpec.call (same_spec he (by omega) hs _ 0 1 (by omega) rfl rfl) (Les.refl _) ⟨_, rfl, rfl, condB (fun _ => ?_) fun h => by cases h⟩
  refine needJ (fun x => rfl) (needJ (by omega) (needJ (fun x => rfl) (needJ (by omega) ?_)))
  refine ASpec.call (Xd.of_spec (a ++ b) hab _) ⟨Le.sl (s' := .map encEn ([], []) (a ++ b)) (by simp [Ab.Seq.toList]) (.inl rfl) (.inr rfl), trivial⟩ ⟨_, rfl, rfl, ?_⟩
  refine ASpec.call (same_spec hc (by omega) hs _ 3 4 (by omega) rfl rfl) (Les.refl _) ⟨_, rfl, rfl, condB (fun _ => ?_) fun h => by cases h⟩
  refine ASpec.call (Xd.xof_spec a ha2 _) (Les.refl _) ⟨ofI a [], rfl, rfl, ⟨rfl, rfl⟩, ?_⟩
  refine ASpec.call (same_spec he (by omega) hs _ 8 9 (by omega) rfl rfl) (Les.refl _) ⟨_, rfl, rfl, condB (fun _ => ?_) fun h => by cases h⟩
  refine ASpec.call (putN [97] _) (Les.refl _) ⟨(1, []), rfl, rfl, condE (fun _ => ?_) fun h => (h rfl).elim⟩
  refine condBn (fun _ => ?_) fun h => by cases h
  refine ASpec.call (hasN [97] _) (Les.refl _) ⟨_, rfl, rfl, condBn (fun _ => ?_) fun h => by cases h⟩
  refine ASpec.call (lenN _) (Les.refl _) ⟨_, rfl, rfl, condE (fun _ => ?_) fun h => (h rfl).elim⟩
  refine ASpec.call (Xn.namesN _) (Les.refl _) ⟨[], rfl, rfl, condE (fun _ => ?_) fun h => (h rfl).elim⟩
  refine ASpec.call (Xd.copyN _) (Les.refl _) (.inr ⟨(), rfl, rfl, ?_⟩)
  exact ASpec.call (awake_spec _) (Les.refl _) ⟨(), rfl, rfl, pb rfl⟩

theorem law12 (he : Both (ofI a []) (ofKd a [])) (h1 : (ofKd a []).length ≤ 30) : ∀ (m i : Nat) (cs : Kn) (k : List Kd), m + i = b.length → Both cs k → k.length ≤ 30 + i → ofKd (b.drop i) k = ofKd (a ++ b) [] →
    AWP Try.prog 140 0 c14_12 [(0, slE a), (1, slE b), (2, .str (B s)), (7, .ptr 1 0), (8, .ptr 2 0), (10, .ptr 4 0), (11, .int .i64 i)]
      [.mp (.typed EK (ofI a [])), .cells [.map 0], .cells (encXd (ofKd a [])), .mp (.typed EK cs), .cells [.map 3]] (q14_4 0 (PB true)) := by
  have hlb := hb.1
  intro m
  induction m with
  | zero =>
    intro i cs k hm hc hk hR
    rw [List.drop_eq_nil_of_le (by omega)] at hR
    have hR : k = ofKd (a ++ b) [] := hR
    refine v14_12 a b s _ _ cs _ _ _ (condD (fun hc => by omega) fun _ => law15 ha hb hs he (by rw [← hR]; exact hc) (by omega) (by rw [← hR]; omega))
  | succ m ih =>
    intro i cs k hm hc hk hR
    have hx := hb.2 _ (memD b ([], []) i (by omega))
    rw [dropD b ([], []) i (by omega)] at hR
    refine v14_12 a b s _ _ cs _ _ _ (condD (fun _ => needJ ⟨by omega, by omega⟩ (needJ ⟨by omega, by omega⟩ ?_)) fun hc => by omega)
    rw [Int.toNat_natCast, succ64 (by omega)]
    generalize b.getD i ([], []) = x at hx hR ⊢
    simp only [ofKd] at hR
    have hp := both_put hc (b := x.2) hx.1
    have hlen := putKd_len k x.1 x.2
    exact ASpec.call (X.put_spec cs x.1 x.2 (by unfold lim; omega) _ 3 4 (by omega) rfl rfl) (Les.refl _) ⟨putI cs x.1 x.2, rfl, rfl, ih (i + 1) _ _ (by omega) hp.2 (by omega) hR⟩

theorem law6 : ∀ (m i : Nat) (es : Kn) (l : List Kd), m + i = a.length → Both es l → l.length ≤ i → ofI (a.drop i) es = ofI a [] → ofKd (a.drop i) l = ofKd a [] →
    AWP Try.prog 140 0 c14_6 [(0, slE a), (1, slE b), (2, .str (B s)), (7, .ptr 1 0), (8, .ptr 2 0), (9, .int .i64 i)]
      [.mp (.typed EK es), .cells [.map 0], .cells (encXd l)] (q14_2 0 (PB true)) := by
  have hla := ha.1
  intro m
  induction m with
  | zero =>
    intro i es l hm hc hk hE hD
    rw [List.drop_eq_nil_of_le (by omega)] at hE hD
    have hE : es = ofI a [] := hE
    have hD : l = ofKd a [] := hD
    refine v14_6 a b s _ _ _ _ _ (condD (fun hc => by omega) fun _ => v14_10 a b s _ _ _ _ ?_)
    refine ASpec.call (Xd.copy_spec es _ 0 1 (by omega) rfl rfl) (Les.refl _) (.inl ⟨es, rfl, rfl, ?_⟩)
    subst hE
    subst hD
    exact law12 ha hb hs hc (by omega) b.length 0 _ _ (by omega) hc (by omega) (by rw [ofKd_app]; rfl)
  | succ m ih =>
    intro i es l hm hc hk hE hD
    have hx := ha.2 _ (memD a ([], []) i (by omega))
    rw [dropD a ([], []) i (by omega)] at hE hD
    have hin : (0 : Int) ≤ (i : Int) ∧ (i : Int) < (a.length : Int) := ⟨by omega, by omega⟩
    refine v14_6 a b s _ _ _ _ _ (condD (fun _ => needJ hin (needJ hin (needJ hin (needJ hin (needJ (allBytes_map _) ?_))))) fun hc => by omega)
    rw [Int.toNat_natCast, succ64 (by omega), bytesOf_map]
    generalize a.getD i ([], []) = x at hx hE hD ⊢
    simp only [ofKd] at hD
    simp only [ofI] at hE
    have hp := both_put hc (b := x.2) hx.1
    have hlen := putKd_len l x.1 x.2
    refine ASpec.call (X.put_spec es x.1 x.2 (by unfold lim; omega) _ 0 1 (by omega) rfl rfl) (Les.refl _) ⟨putI es x.1 x.2, rfl, rfl, ⟨rfl, rfl⟩, ⟨rfl, rfl⟩, ?_⟩
    refine ASpec.call (Xd.put_spec l rfl x.1 x.2 (by unfold lim; omega) (by unfold lim; omega) (by omega)) (Les.refl _) ⟨putKd l x.1 x.2, rfl, rfl, condNe (fun h => (h hp.1.symm).elim) fun _ => ?_⟩
    exact ih (i + 1) _ _ (by omega) hp.2 (by omega) hE hD
end

theorem law_spec (a b : List Ent) (s : Nm) : ASpec Try.prog 14 [slE a, slE b, .str (B s)] [] (PB true) := by
  have wake : ASpec Try.prog 111 [] [] (fun r H' => ∃ x : Unit, r = .bool true ∧ H' = [] ∧ PB true (.bool true) []) := ASpec.call (awake_spec _) (Les.refl _) ⟨(), rfl, rfl, pb rfl⟩
  refine s14 a b s _ (ASpec.call (largeD_spec a _) (Les.refl _) ⟨_, rfl, rfl, condB (fun _ => wake) fun h1 => ?_⟩)
  refine ASpec.call (largeD_spec b _) (Les.refl _) ⟨_, rfl, rfl, condB (fun _ => wake) fun h2 => ?_⟩
  rw [B_size]
  refine condD (fun _ => wake) fun h3 => ?_
  refine ASpec.call (X.new_spec []) (Les.refl _) ⟨(), rfl, rfl, ?_⟩
  refine AWP.re (ReSt.leCell (id := 2) (cs' := encXd []) rfl ⟨Le.sl rfl (.inr ⟨rfl, fun _ h => by cases h⟩) (.inr rfl), trivial⟩) ?_
  exact law6 (largeD_ok h1) (largeD_ok h2) (by omega) a.length 0 [] [] (by omega) both0 (by simp) rfl rfl
theorem indexPuts_spec (a b : List Ent) (s : Nm) : ASpec Try.prog 14 [slE a, slE b, .str (B s)] [] (fun r H' => r = .bool true ∧ H' = []) := ASpec.sel (law_spec a b s)
end Xl
end
