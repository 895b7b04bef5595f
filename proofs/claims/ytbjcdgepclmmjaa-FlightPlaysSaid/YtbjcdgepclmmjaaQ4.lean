/- Q4: several of this proof's own texts, one behind the other: what each proves stands at its head. -/
import Derived.Shelf.SortM.Plain
import Derived.Shelf.SortM.SortNone
import Derived.Ground.SlgmProg
import Derived.Test.YtbjcdgepclmmjaaProg
import Derived.Test.YtbjcdgepclmmjaaA2
import Derived.Test.YtbjcdgepclmmjaaQ3
import Derived.Test.YtbjcdgepclmmjaaA1
section
/- The library's sort of strings and of ints at this program's numbers: laid by the kit's own tool. -/

namespace Go.Proofs
open Go.Shelf
def Try.mSort_ren : Go.Shelf.Ren := ⟨fun | 6 => 229 | 8 => 302 | 9 => 310 | 19 => 350 | 20 => 351 | 21 => 353 | 22 => 354 | 23 => 355 | 24 => 356 | 25 => 357 | 26 => 358 | 27 => 359 | 28 => 360 | 29 => 361 | 36 => 386 | 31 => 381 | 32 => 382 | 37 => 387 | 38 => 388 | 39 => 389 | 41 => 397 | n => n, fun | 27 => 98 | 29 => 9 | 3 => 3 | 32 => 364 | 26 => 98 | 0 => 0 | 44 => 396 | 46 => 398 | 4 => 4 | 36 => 389 | 35 => 388 | 41 => 131 | 5 => 5 | 9 => 9 | 53 => 416 | 57 => 420 | 63 => 428 | 64 => 253 | n => n, fun | n => n⟩
theorem Try.mSort : Go.Proofs.SlLaysM.n6 Try.prog Try.mSort_ren := {
  mixed := by kernel_rfl
  f6 := ⟨Try.f229.name, by decide, Try.func229.trans (congrArg some (by kernel_rfl))⟩
  f8 := Try.func302.trans (congrArg some (by kernel_rfl))
  f9 := ⟨Try.f310.name, by decide, Try.func310.trans (congrArg some (by kernel_rfl))⟩
  f19 := Try.func350.trans (congrArg some (by kernel_rfl))
  f20 := Try.func351.trans (congrArg some (by kernel_rfl))
  f21 := ⟨Try.f353.name, by decide, Try.func353.trans (congrArg some (by kernel_rfl))⟩
  f22 := ⟨Try.f354.name, by decide, Try.func354.trans (congrArg some (by kernel_rfl))⟩
  f23 := ⟨Try.f355.name, by decide, Try.func355.trans (congrArg some (by kernel_rfl))⟩
  f24 := ⟨Try.f356.name, by decide, Try.func356.trans (congrArg some (by kernel_rfl))⟩
  f25 := ⟨Try.f357.name, by decide, Try.func357.trans (congrArg some (by kernel_rfl))⟩
  f26 := ⟨Try.f358.name, by decide, Try.func358.trans (congrArg some (by kernel_rfl))⟩
  f27 := ⟨Try.f359.name, by decide, Try.func359.trans (congrArg some (by kernel_rfl))⟩
  f28 := ⟨Try.f360.name, by decide, Try.func360.trans (congrArg some (by kernel_rfl))⟩
  f29 := ⟨Try.f361.name, by decide, Try.func361.trans (congrArg some (by kernel_rfl))⟩
  f31 := Try.func381.trans (congrArg some (by kernel_rfl))
  f32 := Try.func382.trans (congrArg some (by kernel_rfl))
  f36 := ⟨Try.f386.name, by decide, Try.func386.trans (congrArg some (by kernel_rfl))⟩
  f37 := ⟨Try.f387.name, by decide, Try.func387.trans (congrArg some (by kernel_rfl))⟩
  f38 := ⟨Try.f388.name, by decide, Try.func388.trans (congrArg some (by kernel_rfl))⟩
  f39 := ⟨Try.f389.name, by decide, Try.func389.trans (congrArg some (by kernel_rfl))⟩
  f41 := ⟨Try.f397.name, by decide, Try.func397.trans (congrArg some (by kernel_rfl))⟩
  t0 := Try.underlying0
  a0 := Try.isAgg0
  z0 := Try.sizeOf0
  v0 := Try.zeroValue0
  t3 := Try.underlying3
  a3 := Try.isAgg3
  z3 := Try.sizeOf3
  v3 := Try.zeroValue3
  t4 := Try.underlying4
  a4 := Try.isAgg4
  z4 := Try.sizeOf4
  v4 := Try.zeroValue4
  t5 := Try.underlying5
  a5 := Try.isAgg5
  z5 := Try.sizeOf5
  v5 := Try.zeroValue5
  t9 := Try.underlying9
  a9 := Try.isAgg9
  z9 := Try.sizeOf9
  v9 := Try.zeroValue9
  t26 := Try.underlying98
  a26 := Try.isAgg98
  z26 := Try.sizeOf98
  v26 := Try.zeroValue98
  t27 := Try.underlying98
  a27 := Try.isAgg98
  z27 := Try.sizeOf98
  v27 := Try.zeroValue98
  t29 := Try.underlying9
  a29 := Try.isAgg9
  z29 := Try.sizeOf9
  v29 := Try.zeroValue9
  t32 := Try.underlying364
  a32 := Try.isAgg364
  z32 := Try.sizeOf364
  v32 := Try.zeroValue364
  t35 := Try.underlying388
  a35 := Try.isAgg388
  z35 := Try.sizeOf388
  v35 := Try.zeroValue388
  t36 := Try.underlying389
  a36 := Try.isAgg389
  z36 := Try.sizeOf389
  v36 := Try.zeroValue389
  t41 := Try.underlying131
  a41 := Try.isAgg131
  z41 := Try.sizeOf131
  v41 := Try.zeroValue131
  t44 := Try.underlying396
  a44 := Try.isAgg396
  z44 := Try.sizeOf396
  v44 := Try.zeroValue396
  t46 := Try.underlying398
  a46 := Try.isAgg398
  z46 := Try.sizeOf398
  v46 := Try.zeroValue398
  t53 := Try.underlying416
  a53 := Try.isAgg416
  z53 := Try.sizeOf416
  v53 := Try.zeroValue416
  t57 := Try.underlying420
  a57 := Try.isAgg420
  z57 := Try.sizeOf420
  v57 := Try.zeroValue420
  t63 := Try.underlying428
  a63 := Try.isAgg428
  z63 := Try.sizeOf428
  v63 := Try.zeroValue428
  t64 := Try.underlying253
  a64 := Try.isAgg253
  z64 := Try.sizeOf253
  v64 := Try.zeroValue253 }
def Try.mSortI_ren : Go.Shelf.Ren := ⟨fun | 5 => 217 | 8 => 302 | 7 => 301 | 19 => 350 | 20 => 351 | 10 => 341 | 11 => 342 | 12 => 343 | 13 => 344 | 14 => 345 | 15 => 346 | 16 => 347 | 17 => 348 | 18 => 349 | 30 => 380 | 31 => 381 | 32 => 382 | 33 => 383 | 34 => 384 | 35 => 385 | 40 => 396 | n => n, fun | 23 => 153 | 25 => 3 | 3 => 3 | 32 => 364 | 22 => 153 | 0 => 0 | 44 => 396 | 46 => 398 | 4 => 4 | 36 => 389 | 35 => 388 | 41 => 131 | 5 => 5 | 9 => 9 | 53 => 416 | 57 => 420 | 63 => 428 | 64 => 253 | n => n, fun | n => n⟩
theorem Try.mSortI : Go.Proofs.SlLaysM.n5 Try.prog Try.mSortI_ren := {
  mixed := by kernel_rfl
  f5 := ⟨Try.f217.name, by decide, Try.func217.trans (congrArg some (by kernel_rfl))⟩
  f7 := ⟨Try.f301.name, by decide, Try.func301.trans (congrArg some (by kernel_rfl))⟩
  f8 := Try.func302.trans (congrArg some (by kernel_rfl))
  f10 := ⟨Try.f341.name, by decide, Try.func341.trans (congrArg some (by kernel_rfl))⟩
  f11 := ⟨Try.f342.name, by decide, Try.func342.trans (congrArg some (by kernel_rfl))⟩
  f12 := ⟨Try.f343.name, by decide, Try.func343.trans (congrArg some (by kernel_rfl))⟩
  f13 := ⟨Try.f344.name, by decide, Try.func344.trans (congrArg some (by kernel_rfl))⟩
  f14 := ⟨Try.f345.name, by decide, Try.func345.trans (congrArg some (by kernel_rfl))⟩
  f15 := ⟨Try.f346.name, by decide, Try.func346.trans (congrArg some (by kernel_rfl))⟩
  f16 := ⟨Try.f347.name, by decide, Try.func347.trans (congrArg some (by kernel_rfl))⟩
  f17 := ⟨Try.f348.name, by decide, Try.func348.trans (congrArg some (by kernel_rfl))⟩
  f18 := ⟨Try.f349.name, by decide, Try.func349.trans (congrArg some (by kernel_rfl))⟩
  f19 := Try.func350.trans (congrArg some (by kernel_rfl))
  f20 := Try.func351.trans (congrArg some (by kernel_rfl))
  f30 := ⟨Try.f380.name, by decide, Try.func380.trans (congrArg some (by kernel_rfl))⟩
  f31 := Try.func381.trans (congrArg some (by kernel_rfl))
  f32 := Try.func382.trans (congrArg some (by kernel_rfl))
  f33 := ⟨Try.f383.name, by decide, Try.func383.trans (congrArg some (by kernel_rfl))⟩
  f34 := ⟨Try.f384.name, by decide, Try.func384.trans (congrArg some (by kernel_rfl))⟩
  f35 := ⟨Try.f385.name, by decide, Try.func385.trans (congrArg some (by kernel_rfl))⟩
  f40 := ⟨Try.f396.name, by decide, Try.func396.trans (congrArg some (by kernel_rfl))⟩
  t0 := Try.underlying0
  a0 := Try.isAgg0
  z0 := Try.sizeOf0
  v0 := Try.zeroValue0
  t3 := Try.underlying3
  a3 := Try.isAgg3
  z3 := Try.sizeOf3
  v3 := Try.zeroValue3
  t4 := Try.underlying4
  a4 := Try.isAgg4
  z4 := Try.sizeOf4
  v4 := Try.zeroValue4
  t5 := Try.underlying5
  a5 := Try.isAgg5
  z5 := Try.sizeOf5
  v5 := Try.zeroValue5
  t9 := Try.underlying9
  a9 := Try.isAgg9
  z9 := Try.sizeOf9
  v9 := Try.zeroValue9
  t22 := Try.underlying153
  a22 := Try.isAgg153
  z22 := Try.sizeOf153
  v22 := Try.zeroValue153
  t23 := Try.underlying153
  a23 := Try.isAgg153
  z23 := Try.sizeOf153
  v23 := Try.zeroValue153
  t25 := Try.underlying3
  a25 := Try.isAgg3
  z25 := Try.sizeOf3
  v25 := Try.zeroValue3
  t32 := Try.underlying364
  a32 := Try.isAgg364
  z32 := Try.sizeOf364
  v32 := Try.zeroValue364
  t35 := Try.underlying388
  a35 := Try.isAgg388
  z35 := Try.sizeOf388
  v35 := Try.zeroValue388
  t36 := Try.underlying389
  a36 := Try.isAgg389
  z36 := Try.sizeOf389
  v36 := Try.zeroValue389
  t41 := Try.underlying131
  a41 := Try.isAgg131
  z41 := Try.sizeOf131
  v41 := Try.zeroValue131
  t44 := Try.underlying396
  a44 := Try.isAgg396
  z44 := Try.sizeOf396
  v44 := Try.zeroValue396
  t46 := Try.underlying398
  a46 := Try.isAgg398
  z46 := Try.sizeOf398
  v46 := Try.zeroValue398
  t53 := Try.underlying416
  a53 := Try.isAgg416
  z53 := Try.sizeOf416
  v53 := Try.zeroValue416
  t57 := Try.underlying420
  a57 := Try.isAgg420
  z57 := Try.sizeOf420
  v57 := Try.zeroValue420
  t63 := Try.underlying428
  a63 := Try.isAgg428
  z63 := Try.sizeOf428
  v63 := Try.zeroValue428
  t64 := Try.underlying253
  a64 := Try.isAgg253
  z64 := Try.sizeOf253
  v64 := Try.zeroValue253 }
end Go.Proofs
end

section
/- The library's sort of names and of ints, as specifications. -/

set_option linter.unusedVariables false
set_option linter.unusedSimpArgs false
open Go Go.Ab Go.Proofs Go.Sort T
namespace So

def sortZ (l : List Int) : List Int := l.mergeSort fun x y => decide (x ≤ y)

theorem sortZ_spec {H : List AObj} {id : Nat} {q : Seq} {l : List Int} (hid : H[id]? = some (.arr 1 q)) (hq : q.toList = l.map Ab.encI) (hl : l.length < 4611686018427387904) :
    ASpec Try.prog 217 [.msl 1 id 0 l.length] H (fun r H' => r = .tup [] ∧ H' = H.set id (.arr 1 (.map Ab.encI 0 (sortZ l)))) := by
  refine ASpec.sorts (enc := Value.int .i64) (e1 := fun x => .int .i64 x) (srt := sortZ) (fun _ => rfl) (fun M w loc x v => ?_) (fun l => by simp [sortZ]) (fun blk off cap ss w h1 h2 h3 => ?_) hid hq hl
  · constructor
    · intro h; cases h; rfl
    · rintro rfl; exact .int _ _
  · exact AnyM.slices_Sort_int Try.mSortI blk off cap ss w h1 h2 h3

/-- of nothing: nothing -/
theorem sort_nil {H : List AObj} {z : Nat} {tip : Tip} : ASpec Try.prog 229 [.sl z (.raw []) tip] H (fun r H' => r = .tup [] ∧ H' = H) := by
  refine ASpec.of_calls fun M loc w vs ht hv => ?_
  obtain ⟨hs, hv⟩ := hv
  have hv0 := hv 0 (by simp)
  simp only [List.getElem_cons_zero] at hv0
  have hvs : vs = #[vs[0]'(by simp at hs; omega)] := by
    apply Array.ext
    · simpa using hs
    · intro i h1 h2
      have : i = 0 := by simp at h2; omega
      subst this; rfl
  generalize vs[0]'(by simp at hs; omega) = v0 at hv0 hvs
  subst hvs
  have key : ∀ p cap, Calls Try.prog 229 #[.slice p 0 cap] w fun e w' => ∃ v, e = .returned v ∧ VRel M w' loc (.tup []) v ∧ Grown w w' := fun p cap =>
    (AnyM.slices_Sort_string_none Try.mSort p cap w).mono fun e w' ⟨h1, h2⟩ => by
      subst h2
      exact ⟨_, h1, .tup _ _ rfl (fun i h => by simp at h), ⟨Nat.le_refl _, fun _ _ => rfl, rfl, rfl, rfl⟩⟩
  cases hv0 with
  | slnil => exact key none 0
  | slz => exact key _ 0
  | sl _ _ _ b o cap => exact key _ _

/-- of nothing: nothing -/
theorem sortZ_nil {H : List AObj} {z : Nat} {tip : Tip} : ASpec Try.prog 217 [.sl z (.raw []) tip] H (fun r H' => r = .tup [] ∧ H' = H) := by
  refine ASpec.of_calls fun M loc w vs ht hv => ?_
  obtain ⟨hs, hv⟩ := hv
  have hv0 := hv 0 (by simp)
  simp only [List.getElem_cons_zero] at hv0
  have hvs : vs = #[vs[0]'(by simp at hs; omega)] := by
    apply Array.ext
    · simpa using hs
    · intro i h1 h2
      have : i = 0 := by simp at h2; omega
      subst this; rfl
  generalize vs[0]'(by simp at hs; omega) = v0 at hv0 hvs
  subst hvs
  have key : ∀ p cap, Calls Try.prog 217 #[.slice p 0 cap] w fun e w' => ∃ v, e = .returned v ∧ VRel M w' loc (.tup []) v ∧ Grown w w' := fun p cap =>
    (AnyM.slices_Sort_int_none Try.mSortI p cap w).mono fun e w' ⟨h1, h2⟩ => by
      subst h2
      exact ⟨_, h1, .tup _ _ rfl (fun i h => by simp at h), ⟨Nat.le_refl _, fun _ _ => rfl, rfl, rfl, rfl⟩⟩
  cases hv0 with
  | slnil => exact key none 0
  | slz => exact key _ 0
  | sl _ _ _ b o cap => exact key _ _

end So
end

section
/- What is under way: the tickets, a new flight, and what is too much. -/

set_option linter.unusedVariables false
set_option linter.unusedSimpArgs false
set_option maxRecDepth 100000
open Go Go.Ab Go.Proofs V S T C
open E (PA pa)
open Fy
namespace Fg

/-- the tickets of m seats from the i-th on -/
def tkF (S : List Seat) : Nat → Nat → List Int
  | 0, _ => []
  | m + 1, i => if 0 < (S.getD i noSeat).1 then (S.getD i noSeat).1 :: tkF S m (i + 1) else tkF S m (i + 1)
theorem tkF_len (S : List Seat) : ∀ m i, (tkF S m i).length ≤ m
  | 0, _ => Nat.le_refl _
  | m + 1, i => by
    have := tkF_len S m (i + 1)
    simp only [tkF]; split <;> simp <;> omega
def ticketsM (f : Fl) : List Int := So.sortZ (tkF f.1 8 0)
theorem sortZ_len (l : List Int) : (So.sortZ l).length = l.length := by simp [So.sortZ]

noncomputable abbrev arZ (o : List Int) : AObj := .arr 1 (.map Ab.encI 0 o)
abbrev PT (f : Fl) (R : List Int) : AV → List AObj → Prop := fun r H' => (r = .sl 0 (.raw []) .nil ∧ H' = [clF f] ∧ R = []) ∨ (r = .msl 1 1 0 R.length ∧ H' = [clF f, arZ (So.sortZ R)])

section
variable (f : Fl)

theorem tk9 (o : List Int) (ho : o.length ≤ 1000) : AWP Try.prog 27 1 c103_9 [(3, .msl 1 1 0 o.length)] [clF f, arZ o] (q103_0 1 (PT f o)) := by
  refine v103_9m f o 1 _ ((So.sortZ_spec (l := o) (id := 1) (H := [clF f, arZ o]) rfl rfl (by omega)).mono fun r H' hh => .inr ⟨So.sortZ o, hh.1, hh.2, ?_⟩)
  have a := v103_10m f (So.sortZ o) 1 (PT f o)
  rw [sortZ_len] at a
  exact a (.inr ⟨rfl, rfl⟩)
theorem tk9n : AWP Try.prog 27 1 c103_9 [(3, .sl 0 (.raw []) .nil)] [clF f] (q103_0 1 (PT f [])) :=
  v103_9n f 1 _ (So.sortZ_nil.mono fun r H' hh => .inl ⟨(), hh.1, hh.2, v103_10n f 1 _ (.inl ⟨rfl, rfl, rfl⟩)⟩)

theorem tk4m : ∀ (m i : Nat) (o R : List Int), m + i = 8 → o.length ≤ i → R = o ++ tkF f.1 m i →
    AWP Try.prog 27 1 c103_4 [(3, .msl 1 1 0 o.length), (11, .agg (seats f)), (12, .int .i64 i)] [clF f, arZ o] (q103_2 1 (PT f R)) := by
  intro m
  induction m with
  | zero =>
    intro i o R hi ho hR
    simp only [tkF, List.append_nil] at hR
    have : i = 8 := by omega
    subst this hR
    exact v103_4m8 f R 1 _ (tk9 f R (by omega))
  | succ m ih =>
    intro i o R hi ho hR
    simp only [tkF] at hR
    have put : 0 < (f.1.getD i noSeat).1 → AWP Try.prog 27 1 c103_4 [(3, .msl 1 3 0 (o.length + 1)), (11, .agg (seats f)), (12, .int .i64 (i + 1 : Nat))]
        [clF f, .gone, .cells (encSe (f.1.getD i noSeat)), .arr 1 (.app (.map Ab.encI 0 o) (.raw [[.int .i64 (f.1.getD i noSeat).1]]))] (q103_2 1 (PT f R)) := by
      intro h
      rw [if_pos h] at hR
      have := ih (i + 1) (o ++ [(f.1.getD i noSeat).1]) R (by omega) (by simp; omega) (by rw [hR]; simp)
      rw [show (o ++ [(f.1.getD i noSeat).1]).length = o.length + 1 by simp] at this
      refine AWP.re (ReSt.arr (id := 3) (q := _) (q' := .map Ab.encI 0 (o ++ [(f.1.getD i noSeat).1])) rfl (by simp [Seq.toList]; rfl)) ?_
      exact AWP.shape [0, 3] [(3, .msl 1 1 0 (o.length + 1)), (11, .agg (seats f)), (12, .int .i64 (i + 1 : Nat))] [clF f, arZ (o ++ [(f.1.getD i noSeat).1])]
        ⟨by decide, rfl, by decide, fun j h => by match j, h with | 0, _ => rfl, fun j h => by match j, h with | 0, _ | 1, _ => exact .inl rfl⟩ ⟨rfl, Le.refl _, rfl, Le.refl _, rfl, Le.refl _, trivial⟩ this
    have skip : ¬ 0 < (f.1.getD i noSeat).1 → AWP Try.prog 27 1 c103_4 [(3, .msl 1 1 0 o.length), (11, .agg (seats f)), (12, .int .i64 (i + 1 : Nat))]
        [clF f, arZ o, .cells (encSe (f.1.getD i noSeat))] (q103_2 1 (PT f R)) := by
      intro h
      rw [if_neg h] at hR
      exact AWP.shape [0, 1] [(3, .msl 1 1 0 o.length), (11, .agg (seats f)), (12, .int .i64 (i + 1 : Nat))] [clF f, arZ o]
        ⟨by decide, rfl, by decide, fun j h => by match j, h with | 0, _ => rfl, fun j h => by match j, h with | 0, _ | 1, _ => exact .inl rfl⟩ ⟨rfl, Le.refl _, rfl, Le.refl _, rfl, Le.refl _, trivial⟩ (ih (i + 1) o R (by omega) (by omega) hR)
    have hc : i = 0 ∨ i = 1 ∨ i = 2 ∨ i = 3 ∨ i = 4 ∨ i = 5 ∨ i = 6 ∨ i = 7 := by omega
    rcases hc with rfl | rfl | rfl | rfl | rfl | rfl | rfl | rfl
    · exact v103_4m0 f o 1 _ (needJ (by omega) (condD (fun h => needJ ⟨rfl, by omega⟩ (put h)) fun h => skip h))
    · exact v103_4m1 f o 1 _ (needJ (by omega) (condD (fun h => needJ ⟨rfl, by omega⟩ (put h)) fun h => skip h))
    · exact v103_4m2 f o 1 _ (needJ (by omega) (condD (fun h => needJ ⟨rfl, by omega⟩ (put h)) fun h => skip h))
    · exact v103_4m3 f o 1 _ (needJ (by omega) (condD (fun h => needJ ⟨rfl, by omega⟩ (put h)) fun h => skip h))
    · exact v103_4m4 f o 1 _ (needJ (by omega) (condD (fun h => needJ ⟨rfl, by omega⟩ (put h)) fun h => skip h))
    · exact v103_4m5 f o 1 _ (needJ (by omega) (condD (fun h => needJ ⟨rfl, by omega⟩ (put h)) fun h => skip h))
    · exact v103_4m6 f o 1 _ (needJ (by omega) (condD (fun h => needJ ⟨rfl, by omega⟩ (put h)) fun h => skip h))
    · exact v103_4m7 f o 1 _ (needJ (by omega) (condD (fun h => needJ ⟨rfl, by omega⟩ (put h)) fun h => skip h))

theorem tk4n : ∀ (m i : Nat) (R : List Int), m + i = 8 → R = tkF f.1 m i →
    AWP Try.prog 27 1 c103_4 [(3, .sl 0 (.raw []) .nil), (11, .agg (seats f)), (12, .int .i64 i)] [clF f] (q103_2 1 (PT f R)) := by
  intro m
  induction m with
  | zero =>
    intro i R hi hR
    simp only [tkF] at hR
    have : i = 8 := by omega
    subst this hR
    exact v103_4n8 f 1 _ (tk9n f)
  | succ m ih =>
    intro i R hi hR
    simp only [tkF] at hR
    have put : 0 < (f.1.getD i noSeat).1 → AWP Try.prog 27 1 c103_4 [(3, .msl 1 2 0 1), (11, .agg (seats f)), (12, .int .i64 (i + 1 : Nat))]
        [clF f, .cells (encSe (f.1.getD i noSeat)), .arr 1 (.raw [[.int .i64 (f.1.getD i noSeat).1]])] (q103_2 1 (PT f R)) := by
      intro h
      rw [if_pos h] at hR
      have := tk4m f m (i + 1) [(f.1.getD i noSeat).1] R (by omega) (by simp) (by rw [hR]; rfl)
      refine AWP.re (ReSt.arr (id := 2) (q := _) (q' := .map Ab.encI 0 [(f.1.getD i noSeat).1]) rfl rfl) ?_
      exact AWP.shape [0, 2] [(3, .msl 1 1 0 1), (11, .agg (seats f)), (12, .int .i64 (i + 1 : Nat))] [clF f, arZ [(f.1.getD i noSeat).1]]
        ⟨by decide, rfl, by decide, fun j h => by match j, h with | 0, _ => rfl, fun j h => by match j, h with | 0, _ | 1, _ => exact .inl rfl⟩ ⟨rfl, Le.refl _, rfl, Le.refl _, rfl, Le.refl _, trivial⟩ this
    have skip : ¬ 0 < (f.1.getD i noSeat).1 → AWP Try.prog 27 1 c103_4 [(3, .sl 0 (.raw []) .nil), (11, .agg (seats f)), (12, .int .i64 (i + 1 : Nat))]
        [clF f, .cells (encSe (f.1.getD i noSeat))] (q103_2 1 (PT f R)) := by
      intro h
      rw [if_neg h] at hR
      exact AWP.shape [0] [(3, .sl 0 (.raw []) .nil), (11, .agg (seats f)), (12, .int .i64 (i + 1 : Nat))] [clF f]
        ⟨by decide, rfl, by decide, fun j h => by match j, h with | 0, _ => rfl, fun j h => by match j, h with | 0, _ => exact .inl rfl⟩ ⟨rfl, Le.refl _, rfl, Le.refl _, rfl, Le.refl _, trivial⟩ (ih (i + 1) R (by omega) hR)
    have hc : i = 0 ∨ i = 1 ∨ i = 2 ∨ i = 3 ∨ i = 4 ∨ i = 5 ∨ i = 6 ∨ i = 7 := by omega
    rcases hc with rfl | rfl | rfl | rfl | rfl | rfl | rfl | rfl
    · exact v103_4n0 f 1 _ (needJ (by omega) (condD (fun h => needJ (by omega) (needJ (by omega) (put h))) fun h => skip h))
    · exact v103_4n1 f 1 _ (needJ (by omega) (condD (fun h => needJ (by omega) (needJ (by omega) (put h))) fun h => skip h))
    · exact v103_4n2 f 1 _ (needJ (by omega) (condD (fun h => needJ (by omega) (needJ (by omega) (put h))) fun h => skip h))
    · exact v103_4n3 f 1 _ (needJ (by omega) (condD (fun h => needJ (by omega) (needJ (by omega) (put h))) fun h => skip h))
    · exact v103_4n4 f 1 _ (needJ (by omega) (condD (fun h => needJ (by omega) (needJ (by omega) (put h))) fun h => skip h))
    · exact v103_4n5 f 1 _ (needJ (by omega) (condD (fun h => needJ (by omega) (needJ (by omega) (put h))) fun h => skip h))
    · exact v103_4n6 f 1 _ (needJ (by omega) (condD (fun h => needJ (by omega) (needJ (by omega) (put h))) fun h => skip h))
    · exact v103_4n7 f 1 _ (needJ (by omega) (condD (fun h => needJ (by omega) (needJ (by omega) (put h))) fun h => skip h))
end

noncomputable abbrev slZ (l : List Int) : AV := .sl 1 (.map Ab.encI 0 l) .none

theorem tickets_spec (f : Fl) : ASpec Try.prog 103 [.ptr 0 0] [clF f] (fun r H' => r = slZ (ticketsM f) ∧ H' = [clF f]) := by
  have k : ASpec Try.prog 103 [.ptr 0 0] [clF f] (PT f (tkF f.1 8 0)) := s103m f _ (tk4n f 8 0 _ (by omega) rfl)
  refine ASpec.sel (ASpec.reEnd (k.mono fun r H' hh => ?_))
  have fin : ∀ (r : AV) (H' : List AObj), (∃ o, H' = [clF f] ++ o) → Le r (slZ (ticketsM f)) → ∃ l H2 r2, Sel 1 l H' H2 ∧ Le r (AV.ren (selR l H'.length) r2) ∧ r2 = slZ (ticketsM f) ∧ H2 = [clF f] := by
    intro r H' hH hl
    obtain ⟨o, rfl⟩ := hH
    refine ⟨[0], [clF f], slZ (ticketsM f), ⟨by decide, rfl, Nat.le_refl _, fun j h => by match j, h with | 0, _ => rfl, fun j h => by match j, h with | 0, _ => exact .inl rfl⟩, ?_, rfl, rfl⟩
    refine Le.trans hl (Le.sl (s' := Seq.ren _ (.map Ab.encI 0 (ticketsM f))) ?_ (.inl rfl) (.inl rfl))
    simp only [Seq.ren, Seq.toList, List.map_map]
    exact List.map_congr_left fun x _ => rfl
  rcases hh with ⟨e1, e2, e3⟩ | ⟨e1, e2⟩
  · subst e1 e2
    refine ⟨_, _, ReSt.refl _ _, fin _ _ ⟨[], rfl⟩ ?_⟩
    have : ticketsM f = [] := by unfold ticketsM; rw [e3]; simp [So.sortZ]
    rw [this]
    exact Le.sl rfl (.inr ⟨rfl, fun _ h => by cases h⟩) (.inr rfl)
  · subst e1 e2
    have el : (So.sortZ (tkF f.1 8 0)).length = (tkF f.1 8 0).length := sortZ_len _
    exact ⟨_, _, ReSt.freeze1 (id := 1) (q' := .map Ab.encI 0 (ticketsM f)) rfl (Nat.le_succ 1) (by simp [Seq.toList, el]) (by
      simp only [Seq.toList]; rw [List.take_of_length_le (by simp [el])]; rfl), fin _ _ ⟨[.gone], rfl⟩ (Le.refl _)⟩

theorem len_spec (f : Fl) : ASpec Try.prog 100 [.ptr 0 0] [clF f] (fun r H' => r = .int .i64 (tkF f.1 8 0).length ∧ H' = [clF f]) :=
  s100m f _ ((tickets_spec f).mono fun r H' hh => ⟨_, hh.1, hh.2, by rw [ticketsM, sortZ_len], rfl⟩)

/-! ### a new one; too much -/

abbrev newF (w : Int) : Fl := ([noSeat, noSeat, noSeat, noSeat, noSeat, noSeat, noSeat, noSeat], w, 0)
theorem new_spec {w : Int} (h1 : 1 ≤ w) (h8 : w ≤ 8) (H : List AObj) : ASpec Try.prog 96 [.int .i64 w] H (fun r H' => r = .ptr H.length 0 ∧ H' = H ++ [clF (newF w)]) := by
  have k : ASpec Try.prog 96 [.int .i64 w] [] (fun r H' => r = .ptr 0 0 ∧ H' = [clF (newF w)]) := s96 w _ (condD (fun h => by omega) fun _ => condD (fun h => by omega) fun _ => ⟨rfl, rfl⟩)
  exact ASpec.subH [] H _ k _ _ (by simp) rfl rfl rfl (fun i h => by simp at h) rfl
theorem new_nil {w : Int} (hw : ¬ (1 ≤ w ∧ w ≤ 8)) (H : List AObj) : ASpec Try.prog 96 [.int .i64 w] H (fun r H' => r = .nilp ∧ H' = H) :=
  ASpec.pureH (r0 := .nilp) H (s96 w _ (condD (fun _ => ⟨rfl, rfl⟩) fun h1 => condD (fun _ => ⟨rfl, rfl⟩) fun h8 => absurd (by omega) hw)) _ _ rfl rfl

noncomputable abbrev slD (l : List T.Fd) : AV := .sl 3 (.map encFd noFd l) .none
def skipF : List T.Fd → Bool
  | [] => false
  | x :: r => if 60 < x.2.2.length then true else skipF r
def skipM (l : List T.Fd) : Bool := if 150 < l.length then true else skipF l
theorem skip4 {l : List T.Fd} {c : Bool} (hl : l.length ≤ 1000) : ∀ (m i : Nat), m + i = l.length → skipF (l.drop i) = c →
    AWP Try.prog 20 0 c94_4 [(0, slD l), (3, .int .i64 i)] [] (q94_2 0 (PB c)) := by
  intro m
  induction m with
  | zero =>
    intro i hm h
    refine v94_4 _ _ _ _ (condD (fun hc => by omega) fun _ => pb ?_)
    rw [List.drop_eq_nil_of_le (by omega)] at h
    exact h
  | succ m ih =>
    intro i hm h
    rw [dropD l noFd i (by omega)] at h
    simp only [skipF] at h
    refine v94_4 _ _ _ _ (condD (fun hc => needJ ⟨by omega, by omega⟩ ?_) fun hc => by omega)
    rw [Int.toNat_natCast]
    generalize l.getD i noFd = x at h ⊢
    rw [B_size]
    refine condD (fun h1 => pb ?_) fun h1 => ?_
    · rw [if_pos (by omega)] at h; exact h
    · rw [if_neg (by omega)] at h
      rw [succ64 (by omega)]
      exact ih (i + 1) (by omega) h
theorem skip_spec (l : List T.Fd) (H : List AObj) : ASpec Try.prog 94 [slD l] H (fun r H' => r = .bool (skipM l) ∧ H' = H) := by
  have k : ASpec Try.prog 94 [slD l] [] (fun r H' => r = .bool (skipM l) ∧ H' = []) := by
    refine ASpec.sel (s94 _ _ (condD (fun h => pb ?_) fun h => skip4 (by omega) l.length 0 (by omega) ?_))
    · rw [skipM, if_pos (by omega)]
    · rw [skipM, if_neg (by omega)]; rfl
  exact ASpec.pureH H k _ _ rfl rfl
theorem skipM_ok {l : List T.Fd} (h : skipM l = false) : l.length ≤ 150 := by
  unfold skipM at h
  split at h
  · cases h
  · omega
end Fg
end

section
/- FlightOnce: the law: it returns true. -/

set_option linter.unusedVariables false
set_option linter.unusedSimpArgs false
set_option maxRecDepth 100000
open Go Go.Ab Go.Proofs V S T C
open E (PA pa)
open Fy
namespace Fg

/-! ### plain -/

theorem startM_cases (f : Fl) (s : Nm) (ho : okF f) : (startM f s = ((0, false), f)) ∨
    ∃ k : Nat, findM freeP f = k ∧ hasM f s = false ∧ k < 8 ∧ freeP (f.1.getD k noSeat) = true ∧ startM f s = ((f.2.2 + 1, true), (f.1.set k (f.2.2 + 1, s), f.2.1, f.2.2 + 1)) := by
  unfold startM
  split
  · exact .inl rfl
  · rename_i h
    rcases findM_is freeP ho with e | ⟨k, e, e8, ek⟩
    · exact absurd (.inl (by omega)) h
    · refine .inr ⟨k, e, ?_, e8, ek, by rw [e, Int.toNat_natCast]⟩
      cases hx : hasM f s with
      | false => rfl
      | true => exact absurd (.inr hx) h
theorem endM_cases (f : Fl) (t : Int) (ho : okF f) : (findM (byP t) f = -1 ∧ endM f t = (([], false), f)) ∨
    ∃ k : Nat, findM (byP t) f = k ∧ k < 8 ∧ byP t (f.1.getD k noSeat) = true ∧ endM f t = (((f.1.getD k noSeat).2, true), (f.1.set k noSeat, f.2.1, f.2.2)) := by
  unfold endM
  rcases findM_is (byP t) ho with e | ⟨k, e, e8, ek⟩
  · exact .inl ⟨e, by rw [if_pos (by omega)]⟩
  · exact .inr ⟨k, e, e8, ek, by rw [if_neg (by omega), e, Int.toNat_natCast]⟩

theorem fnd_lt (p : Seat → Bool) (S : List Seat) : ∀ (m i k : Nat), i ≤ k → k < i + m → p (S.getD k noSeat) = true → 0 ≤ fnd p S m i
  | 0, i, k, h1, h2, _ => by omega
  | m + 1, i, k, h1, h2, h => by
    simp only [fnd]
    split
    · omega
    · rename_i hn
      by_cases e : k = i
      · subst e; exact absurd h hn
      · exact fnd_lt p S m (i + 1) k (by omega) (by omega) h
theorem fnd_top (p : Seat → Bool) (S : List Seat) {m i k : Nat} (h : fnd p S m i = k) : k < i + m := by
  rcases fnd_is p S m i with e | ⟨j, e, _, e2, _⟩ <;> omega

abbrev tk (f : Fl) (k : Nat) : Int := (f.1.getD k noSeat).1

structure Inv (w : Nat) (f : Fl) (g : List Nm) (e : List Bool) : Prop where
  len : f.1.length = 8
  gl : 1 ≤ g.length
  win : f.2.1 = w
  w1 : 1 ≤ w
  w8 : w ≤ 8
  giv : f.2.2 + 1 = g.length
  el : e.length = g.length
  far : ∀ k, w ≤ k → tk f k = 0
  pos : ∀ k, 0 ≤ tk f k
  seat : ∀ k, 0 < tk f k → ∃ t : Nat, tk f k = t ∧ t < g.length ∧ e.getD t false = false ∧ g.getD t [] = (f.1.getD k noSeat).2
  open' : ∀ t : Nat, t < g.length → e.getD t false = false → 0 < t ∧ ∃ k, k < w ∧ tk f k = t
  one : ∀ j k, 0 < tk f j → tk f j = tk f k → j = k

theorem gset (S : List Seat) (k j : Nat) (x : Seat) (hk : k < S.length) : (S.set k x).getD j noSeat = if j = k then x else S.getD j noSeat := by
  rw [List.getD_eq_getElem?_getD]
  by_cases e : j = k
  · subst e; rw [List.getElem?_set_self hk, if_pos rfl]; rfl
  · rw [List.getElem?_set_ne (fun h => e h.symm), if_neg e, ← List.getD_eq_getElem?_getD]
/-! ### the example -/

theorem liftF {fn : FuncId} {args : List AV} {r0 : AV} {f f' : Fl} (o : List AObj) (k : ASpec Try.prog fn (.ptr 0 0 :: args) [clF f] (fun r H' => r = r0 ∧ H' = [clF f']))
    (ha : ∀ ρ : Nat → Nat, args.map (AV.ren ρ) = args) (hr : ∀ ρ : Nat → Nat, AV.ren ρ r0 = r0) : ASpec Try.prog fn (.ptr 0 0 :: args) (clF f :: o) (fun r H' => r = r0 ∧ H' = clF f' :: o) :=
  ASpec.subH [0] (clF f :: o) (clF f' :: o) k _ _ (by decide) rfl (by rw [List.map_cons, ha]; rfl) (hr _) (fun i h => by
    have : i = 0 := by simpa using h
    subst this; rfl) (by show (clF f' :: o) ++ [] = _; rw [List.append_nil])

def f1 : Fl := (startM (newF 1) [97]).2
def f2 : Fl := (endM f1 1).2
def f3 : Fl := (startM f2 [98]).2
theorem s1 : startM (newF 1) [97] = ((1, true), f1) := by decide
theorem s2 : startM f1 [98] = ((0, false), f1) := by decide
theorem s3 : endM f1 1 = (([97], true), f2) := by decide
theorem s4 : startM f2 [98] = ((2, true), f3) := by decide
theorem s5 : endM f3 1 = (([], false), f3) := by decide
theorem ok0 : okF (newF 1) := by unfold okF; decide
theorem ok1 : okF f1 := by unfold okF; decide
theorem ok2 : okF f2 := by unfold okF; decide
theorem ok3 : okF f3 := by unfold okF; decide

theorem awake_spec (H : List AObj) : ASpec Try.prog 95 [] H (fun r H' => r = .bool true ∧ H' = H) := by
  have k : ASpec Try.prog 95 [] [] (PB true) := by
    refine s95 _ ((new_spec (w := 1) (by omega) (by omega) []).mono fun r H' hh => .inr ⟨newF 1, hh.1, hh.2, ?_⟩)
    refine v95_2 _ _ _ ((start_spec ok0 [97]).mono fun r H' hh => .inr ⟨((1, true), f1), by rw [hh.1, s1], by rw [hh.2, s1], ?_⟩)
    refine v95_3 _ _ _ _ _ ((start_spec ok1 [98]).mono fun r H' hh => .inr ⟨((0, false), f1), by rw [hh.1, s2], by rw [hh.2, s2], ?_⟩)
    refine v95_4 _ _ _ _ _ _ ((end_spec ok1 1).mono fun r H' hh => .inr ⟨(([97], true), f2), by rw [hh.1, s3], by rw [hh.2, s3], ?_⟩)
    refine v95_5 _ _ _ _ _ _ _ _ ((start_spec ok2 [98]).mono fun r H' hh => .inr ⟨((2, true), f3), by rw [hh.1, s4], by rw [hh.2, s4], ?_⟩)
    refine v95_6 _ _ _ _ _ _ _ _ _ _ ((end_spec ok3 1).mono fun r H' hh => .inr ⟨(([], false), f3), by rw [hh.1, s5], by rw [hh.2, s5], ?_⟩)
    refine AWP.shape [] [(2, .int .i64 1), (3, .bool true), (5, .bool false), (6, .str (B [97])), (7, .bool true), (8, .int .i64 2), (9, .bool true), (11, .bool false)] [] Sel.none
      ⟨rfl, Le.refl _, rfl, Le.refl _, rfl, Le.refl _, rfl, Le.refl _, rfl, Le.refl _, rfl, Le.refl _, rfl, Le.refl _, rfl, Le.refl _, trivial⟩ ?_
    exact v95_7 1 true false [97] true 2 true false 0 _ (condE (fun _ => condB (fun _ => condBn (fun _ => condS (a := [97]) (b := [97]) (fun _ => condB (fun _ => condE (fun _ => condB (fun _ => pb rfl) fun h => by cases h) fun h => (h rfl).elim) fun h => by cases h) fun h => (h rfl).elim) fun h => by cases h) fun h => by cases h) fun h => (h rfl).elim)
  exact ASpec.pureH (r0 := .bool true) H (ASpec.sel k) _ _ rfl rfl
/-! ### the law -/

end Fg
end

section
/- FlightPlays: the document's flight, and that the seats tell the same. -/

set_option linter.unusedVariables false
set_option linter.unusedSimpArgs false
set_option maxRecDepth 100000
open Go Go.Ab Go.Proofs V S T C
open E (PA pa)
open Fz (s101 s105 v105_4 v105_8 c105_4 c105_8 q105_0 q105_2 s106 s107 v107_2 c107_2 q107_2 s108 v108_2 c108_2 q108_2 s109 v109_4 c109_4 q109_2 s110 v110_3 c110_3 q110_2)
namespace Fg

/-! ### the document's -/

def xnF (t : Int) : List Seat → Nm × Bool
  | [] => ([], false)
  | y :: r => if y.1 = t then (y.2, true) else xnF t r
def xhF (s : Nm) : List Seat → Bool
  | [] => false
  | y :: r => if y.2 = s then true else xhF s r
def xEnd (x : Xf) (t : Int) : (Nm × Bool) × Xf := (xnF t x.2.1, (x.1, x.2.1.filter (fun y => y.1 != t), x.2.2))
def xStart (x : Xf) (s : Nm) : (Int × Bool) × Xf :=
  if (x.2.1.length : Int) ≥ x.1 ∨ xhF s x.2.1 = true then ((0, false), x) else ((x.2.2 + 1, true), (x.1, x.2.1 ++ [(x.2.2 + 1, s)], x.2.2 + 1))

noncomputable abbrev clX (x : Xf) : AObj := .cells (encXf x)
def okX (x : Xf) : Prop := x.2.1.length ≤ 1000 ∧ 0 ≤ x.2.2 ∧ x.2.2 ≤ 100000

theorem xname2 {x : Xf} (hx : okX x) {t : Int} {v : Nm × Bool} : ∀ (m i : Nat), m + i = x.2.1.length → xnF t (x.2.1.drop i) = v →
    AWP Try.prog 28 0 c107_2 [(1, .int .i64 t), (2, .ptr 0 0), (6, .int .i64 i)] [clX x] (q107_2 0 (PA (.tup [.str (B v.1), .bool v.2]))) := by
  have h := hx.1
  intro m
  induction m with
  | zero =>
    intro i hm hv
    rw [List.drop_eq_nil_of_le (by omega)] at hv
    subst hv
    exact v107_2 _ _ _ _ _ (condD (fun h => by omega) fun _ => pa (Le.refl _))
  | succ m ih =>
    intro i hm hv
    rw [dropD x.2.1 noSeat i (by omega)] at hv
    simp only [xnF] at hv
    refine v107_2 _ _ _ _ _ (condD (fun _ => needJ ⟨by omega, by omega⟩ ?_) fun h => by omega)
    rw [Int.toNat_natCast, succ64 (by omega)]
    refine condE (fun he => needJ ⟨by omega, by omega⟩ ?_) fun hn => ?_
    · rw [if_pos he] at hv; subst hv; exact pa (Le.refl _)
    · rw [if_neg hn] at hv; exact ih (i + 1) (by omega) hv
theorem xname_spec {x : Xf} (hx : okX x) (t : Int) (H : List AObj) : ASpec Try.prog 107 [.agg (encXf x), .int .i64 t] H (fun r H' => r = .tup [.str (B (xnF t x.2.1).1), .bool (xnF t x.2.1).2] ∧ H' = H) := by
  have k : ASpec Try.prog 107 [.agg (encXf x), .int .i64 t] [] (fun r H' => r = .tup [.str (B (xnF t x.2.1).1), .bool (xnF t x.2.1).2] ∧ H' = []) :=
    ASpec.sel (s107 _ _ _ (xname2 hx x.2.1.length 0 (by omega) rfl))
  refine ASpec.pureH H k _ _ ?_ rfl
  show [AV.agg [_, _, _], _] = _
  rfl
theorem xhas2 {x : Xf} (hx : okX x) {s : Nm} {v : Bool} : ∀ (m i : Nat), m + i = x.2.1.length → xhF s (x.2.1.drop i) = v →
    AWP Try.prog 21 0 c108_2 [(1, .str (B s)), (2, .ptr 0 0), (5, .int .i64 i)] [clX x] (q108_2 0 (PB v)) := by
  have h := hx.1
  intro m
  induction m with
  | zero =>
    intro i hm hv
    rw [List.drop_eq_nil_of_le (by omega)] at hv
    subst hv
    exact v108_2 _ _ _ _ _ (condD (fun h => by omega) fun _ => pb rfl)
  | succ m ih =>
    intro i hm hv
    rw [dropD x.2.1 noSeat i (by omega)] at hv
    simp only [xhF] at hv
    refine v108_2 _ _ _ _ _ (condD (fun _ => needJ ⟨by omega, by omega⟩ ?_) fun h => by omega)
    rw [Int.toNat_natCast, succ64 (by omega)]
    refine condS (fun he => ?_) fun hn => ?_
    · rw [if_pos he] at hv; exact pb hv
    · rw [if_neg hn] at hv; exact ih (i + 1) (by omega) hv
theorem xhas_spec {x : Xf} (hx : okX x) (s : Nm) (H : List AObj) : ASpec Try.prog 108 [.agg (encXf x), .str (B s)] H (fun r H' => r = .bool (xhF s x.2.1) ∧ H' = H) := by
  have k : ASpec Try.prog 108 [.agg (encXf x), .str (B s)] [] (fun r H' => r = .bool (xhF s x.2.1) ∧ H' = []) :=
    ASpec.sel (s108 _ _ _ (xhas2 hx x.2.1.length 0 (by omega) rfl))
  refine ASpec.pureH H k _ _ ?_ rfl
  show [AV.agg [_, _, _], _] = _
  rfl

theorem renZ (ρ : Nat → Nat) (x : Int) : renL ρ (Ab.encI x) = Ab.encI x := rfl
theorem slZLe {ρ : Nat → Nat} (l : List Int) (tip : Tip) : Le (.sl 1 (.map Ab.encI 0 l) tip) (AV.ren ρ (slZ l)) := Le.sl (s' := Seq.ren _ (.map Ab.encI 0 l)) (by simp [Ab.Seq.toList, Seq.ren, renZ]) (.inl rfl) (.inr rfl)

theorem xtick3 {x : Xf} (hx : okX x) {v : List Int} : ∀ (m i : Nat) (o : List Int), m + i = x.2.1.length → o.length ≤ i → o ++ (x.2.1.drop i).map Prod.fst = v →
    AWP Try.prog 22 0 c110_3 [(1, .ptr 0 0), (3, .sl 1 (.map Ab.encI 0 o) (.tok 1)), (4, .int .i64 i)] [clX x, .tok] (q110_2 0 (PA (slZ v))) := by
  have h := hx.1
  intro m
  induction m with
  | zero =>
    intro i o hm ho hv
    rw [List.drop_eq_nil_of_le (by omega)] at hv
    simp only [List.map_nil, List.append_nil] at hv
    subst hv
    exact v110_3 _ _ _ _ _ (condD (fun h => by omega) fun _ => pa (slZLe _ _))
  | succ m ih =>
    intro i o hm ho hv
    rw [dropD x.2.1 noSeat i (by omega)] at hv
    refine v110_3 _ _ _ _ _ (condD (fun _ => needJ ⟨by omega, by omega⟩ (needJ (by omega) ?_)) fun h => by omega)
    rw [Int.toNat_natCast, succ64 (by omega)]
    exact AWP.shape [0, 2] [(1, .ptr 0 0), (3, .sl 1 (.map Ab.encI 0 (o ++ [(x.2.1.getD i noSeat).1])) (.tok 1)), (4, .int .i64 (i + 1 : Nat))] [clX x, .tok] (Sel.mk0 (by decide) ⟨rfl, rfl, trivial⟩)
      ⟨rfl, Le.refl _, rfl, leAppE (Les.refl _), rfl, Le.refl _, trivial⟩ (ih (i + 1) _ (by omega) (by simp; omega) (by rw [← hv]; simp))
theorem xtick_spec {x : Xf} (hx : okX x) (H : List AObj) : ASpec Try.prog 110 [.agg (encXf x)] H (fun r H' => r = slZ (x.2.1.map Prod.fst) ∧ H' = H) := by
  have k : ASpec Try.prog 110 [.agg (encXf x)] [] (fun r H' => r = slZ (x.2.1.map Prod.fst) ∧ H' = []) := by
    refine ASpec.sel (s110 _ _ ?_)
    refine AWP.re (ReSt.tok (k := 3) (q' := .map Ab.encI 0 []) (sz' := 1) (s2 := [(1, .ptr 0 0), (3, .sl 1 (.map Ab.encI 0 []) (.tok 1)), (4, .int .i64 (0 : Nat))]) rfl (.inl rfl) rfl (.inr rfl) (fun d hd => ?_) rfl) ?_
    · simp only [Ab.get]
      have e : Nat.beq 3 d = false := by
        cases hx : Nat.beq 3 d with
        | false => rfl
        | true => exact absurd (Nat.eq_of_beq_eq_true hx).symm hd
      rw [e]; rfl
    · exact xtick3 hx x.2.1.length 0 [] (by omega) (by simp) rfl
  refine ASpec.pureH H k _ _ ?_ rfl
  show [AV.agg [_, _, _]] = _
  rfl

/-- what the object holds, written afresh -/
theorem endX {r : AV} {x : Xf} {o : List Seat} {g w : Int} {tip : Tip} {q : Ab.Seq} (h : List AObj) (hq : o.map encSe = q.toList) (hx : x = (w, o, g)) :
    ReSt 1 [(0, r)] (.cells [.int .i64 w, .sl 2 q tip, .int .i64 g] :: h) [(0, r)] (clX x :: h) := by
  subst hx
  exact ReSt.leCell (id := 0) (cs := [.int .i64 w, .sl 2 q tip, .int .i64 g]) (cs' := encXf (w, o, g)) rfl ⟨Le.refl _, Le.sl (s' := .map encSe noSeat o) hq (.inl rfl) (.inr rfl), Le.refl _, trivial⟩

theorem sel1x {x : Xf} {o : List AObj} {v r : AV} (h : r = v) (hv : ∀ ρ, AV.ren ρ v = v) : ∃ l H2 r2, Sel 1 l (clX x :: o) H2 ∧ Le r (AV.ren (selR l (clX x :: o).length) r2) ∧ r2 = v ∧ H2 = [clX x] :=
  ⟨[0], [clX x], v, ⟨by decide, rfl, Nat.le_refl _, fun j h => by match j, h with | 0, _ => rfl, fun j h => by match j, h with | 0, _ => exact .inl rfl⟩, by rw [h, hv]; exact Le.refl _, rfl, rfl⟩

theorem xend4 {x : Xf} (hx : okX x) {t : Int} {s : Nm} {b : Bool} {R : List Seat} {Post : AV → List AObj → Prop} (hp : ∀ (o : List AObj) (tip : Tip), Post (.tup [.str (B s), .bool b]) (.cells [.int .i64 x.1, .sl 2 (.map encSe noSeat R) tip, .int .i64 x.2.2] :: o)) :
    ∀ (m i : Nat) (o : List Seat), m + i = x.2.1.length → o.length ≤ i → o ++ (x.2.1.drop i).filter (fun y => y.1 != t) = R →
    AWP Try.prog 53 1 c105_4 [(0, .ptr 0 0), (1, .int .i64 t), (6, .str (B s)), (7, .bool b), (8, .sl 2 (.map encSe noSeat o) (.tok 1)), (9, .int .i64 i)] [clX x, .tok] (q105_2 1 Post) := by
  have h := hx.1
  intro m
  induction m with
  | zero =>
    intro i o hm ho hv
    rw [List.drop_eq_nil_of_le (by omega)] at hv
    simp only [List.filter_nil, List.append_nil] at hv
    subst hv
    exact v105_4 _ _ _ _ _ _ _ _ (condD (fun h => by omega) fun _ => v105_8 _ _ _ _ _ _ (hp _ _))
  | succ m ih =>
    intro i o hm ho hv
    rw [dropD x.2.1 noSeat i (by omega)] at hv
    refine v105_4 _ _ _ _ _ _ _ _ (condD (fun _ => needJ ⟨by omega, by omega⟩ ?_) fun h => by omega)
    rw [Int.toNat_natCast, succ64 (by omega)]
    generalize x.2.1.getD i noSeat = y at hv ⊢
    refine condNe (fun hn => needJ ⟨by omega, by omega⟩ (needJ (by omega) ?_)) fun he => ?_
    · rw [List.filter_cons_of_pos (by simpa using hn)] at hv
      exact AWP.shape [0, 2] [(0, .ptr 0 0), (1, .int .i64 t), (6, .str (B s)), (7, .bool b), (8, .sl 2 (.map encSe noSeat (o ++ [y])) (.tok 1)), (9, .int .i64 (i + 1 : Nat))] [clX x, .tok]
        ⟨by decide, rfl, by decide, fun j h => by match j, h with | 0, _ => rfl, fun j h => by match j, h with | 0, _ | 1, _ => exact .inl rfl⟩
        ⟨rfl, Le.refl _, rfl, Le.refl _, rfl, Le.refl _, rfl, Le.refl _, rfl, leAppE (Les.refl _), rfl, Le.refl _, trivial⟩ (ih (i + 1) _ (by omega) (by simp; omega) (by rw [← hv]; simp))
    · rw [List.filter_cons_of_neg (by simpa using he)] at hv
      exact ih (i + 1) o (by omega) (by omega) hv
theorem xend_spec {x : Xf} (hx : okX x) (t : Int) : ASpec Try.prog 105 [.ptr 0 0, .int .i64 t] [clX x]
    (fun r H' => r = .tup [.str (B (xEnd x t).1.1), .bool (xEnd x t).1.2] ∧ H' = [clX (xEnd x t).2]) := by
  refine ASpec.sel (ASpec.reEnd (s105 _ _ _ ((xname_spec hx t _).mono fun r H' hh => ⟨_, hh.1, hh.2, ?_⟩)))
  refine AWP.re (ReSt.tok (k := 8) (q' := .map encSe noSeat []) (sz' := 2) (s2 := [(0, .ptr 0 0), (1, .int .i64 t), (6, .str (B (xnF t x.2.1).1)), (7, .bool (xnF t x.2.1).2), (8, .sl 2 (.map encSe noSeat []) (.tok 1)), (9, .int .i64 (0 : Nat))]) rfl (.inl rfl) rfl (.inr rfl) (fun d hd => ?_) rfl) ?_
  · simp only [Ab.get]
    have e : Nat.beq 8 d = false := by
      cases hx : Nat.beq 8 d with
      | false => rfl
      | true => exact absurd (Nat.eq_of_beq_eq_true hx).symm hd
    rw [e]; rfl
  · refine xend4 hx (fun o tip => ?_) x.2.1.length 0 [] (by omega) (by simp) rfl
    exact ⟨_, _, endX o rfl rfl, sel1x rfl fun _ => rfl⟩

theorem xstart_spec {x : Xf} (hx : okX x) (s : Nm) : ASpec Try.prog 106 [.ptr 0 0, .str (B s)] [clX x]
    (fun r H' => r = .tup [.int .i64 (xStart x s).1.1, .bool (xStart x s).1.2] ∧ H' = [clX (xStart x s).2]) := by
  obtain ⟨h1, h2, h3⟩ := hx
  refine ASpec.sel (ASpec.reEnd (s106 _ _ _ (condD (fun hc => ?_) fun hc => ?_)))
  · have e : xStart x s = ((0, false), x) := by unfold xStart; rw [if_pos (.inl hc)]
    rw [e]
    exact ⟨_, _, ReSt.refl _ _, sel1x rfl fun _ => rfl⟩
  · refine (xhas_spec ⟨h1, h2, h3⟩ s _).mono fun r H' hh => ⟨_, hh.1, hh.2, condB (fun hb => ?_) fun hb => needJ (fun _ => rfl) (needJ (by omega) (needJ (by omega) ?_))⟩
    · have e : xStart x s = ((0, false), x) := by unfold xStart; rw [if_pos (.inr hb)]
      rw [e]
      exact ⟨_, _, ReSt.refl _ _, sel1x rfl fun _ => rfl⟩
    · have e : xStart x s = ((x.2.2 + 1, true), (x.1, x.2.1 ++ [(x.2.2 + 1, s)], x.2.2 + 1)) := by unfold xStart; rw [if_neg (by rintro (h | h); exact hc h; rw [hb] at h; cases h)]
      rw [e, wrap64 (by omega) (by omega)]
      exact ⟨_, _, endX (o := x.2.1 ++ [(x.2.2 + 1, s)]) [.gone, .tok] (by simp [Seq.toList]; rfl) rfl, sel1x rfl fun _ => rfl⟩

theorem xnew_spec (w : Int) (H : List AObj) : ASpec Try.prog 101 [.int .i64 w] H (fun r H' => r = .tup [.agg (encXf (if 1 ≤ w ∧ w ≤ 8 then (w, [], 0) else (0, [], 0))), .bool (decide (1 ≤ w ∧ w ≤ 8))] ∧ H' = H) := by
  have leX : ∀ (w : Int) (b : Bool), Le (.tup [.agg [.int .i64 w, .sl 0 (.raw []) .nil, .int .i64 0], .bool b]) (AV.ren (selR [] 1) (.tup [.agg (encXf (w, [], 0)), .bool b])) := fun w b =>
    Le.tup (r := [.agg [.int .i64 w, AV.ren _ (.sl 2 (.map encSe noSeat []) .none), .int .i64 0], .bool b]) ⟨Le.agg ⟨Le.refl _, Le.sl (s' := Seq.ren _ (.map encSe noSeat [])) rfl (.inr ⟨rfl, fun _ h => by cases h⟩) (.inr rfl), Le.refl _, trivial⟩, Le.refl _, trivial⟩
  have k : ASpec Try.prog 101 [.int .i64 w] [] (fun r H' => r = .tup [.agg (encXf (if 1 ≤ w ∧ w ≤ 8 then (w, [], 0) else (0, [], 0))), .bool (decide (1 ≤ w ∧ w ≤ 8))] ∧ H' = []) := by
    refine ASpec.sel (s101 _ _ (condD (fun h => ?_) fun h1 => condD (fun h => ?_) fun h8 => ?_))
    · rw [if_neg (by omega), decide_eq_false (by omega)]
      exact ⟨[], [], _, Sel.none, leX 0 false, rfl, rfl⟩
    · rw [if_neg (by omega), decide_eq_false (by omega)]
      exact ⟨[], [], _, Sel.none, leX 0 false, rfl, rfl⟩
    · rw [if_pos (by omega), decide_eq_true (by omega)]
      exact ⟨[], [], _, Sel.none, leX w true, rfl, rfl⟩
  refine ASpec.pureH H k _ _ rfl ?_
  show AV.tup [AV.agg [_, _, _], _] = _
  rfl

theorem ints4 {a b : List Int} {c : Bool} (hl : a.length ≤ 2000000) (he : a.length = b.length) : ∀ (m i : Nat), m + i = a.length → decide (a.drop i = b.drop i) = c →
    AWP Try.prog 26 0 c109_4 [(0, slZ a), (1, slZ b), (5, .int .i64 i)] [] (q109_2 0 (PB c)) := by
  intro m
  induction m with
  | zero =>
    intro i hm h
    refine v109_4 _ _ _ _ _ (condD (fun hc => by omega) fun _ => pb ?_)
    rw [List.drop_eq_nil_of_le (by omega), List.drop_eq_nil_of_le (by omega)] at h
    rw [← h]; simp
  | succ m ih =>
    intro i hm h
    rw [dropD a 0 i (by omega), dropD b 0 i (by omega), W.cons_dec] at h
    refine v109_4 _ _ _ _ _ (condD (fun hc => needJ ⟨by omega, by omega⟩ (needJ ⟨by omega, by omega⟩ ?_)) fun hc => by omega)
    rw [Int.toNat_natCast]
    refine condNe (fun h1 => pb ?_) fun h1 => ?_
    · rw [decide_eq_false h1, Bool.false_and] at h; exact h
    · rw [decide_eq_true h1, Bool.true_and] at h
      rw [succ64 (by omega)]
      exact ih (i + 1) (by omega) h
theorem ints_spec (a b : List Int) (hl : a.length ≤ 2000000) (H : List AObj) : ASpec Try.prog 109 [slZ a, slZ b] H (fun r H' => r = .bool (decide (a = b)) ∧ H' = H) := by
  have k : ASpec Try.prog 109 [slZ a, slZ b] [] (fun r H' => r = .bool (decide (a = b)) ∧ H' = []) := by
    refine ASpec.sel (s109 _ _ _ (condNe (fun h => pb ?_) fun h => ints4 hl (by omega) a.length 0 (by omega) (by simp)))
    rw [eq_comm, decide_eq_false_iff_not]
    intro e; subst e; exact h rfl
  exact ASpec.pureH H k _ _ rfl rfl
end Fg
end

section
/- The seats and the document's flight tell the same: plain laws. -/

set_option linter.unusedVariables false
set_option linter.unusedSimpArgs false
open Go Go.Ab Go.Proofs V S T C
namespace Fg

structure Inv2 (w : Nat) (f : Fl) (x : Xf) : Prop where
  len : f.1.length = 8
  win : f.2.1 = w
  xw : x.1 = w
  w1 : 1 ≤ w
  w8 : w ≤ 8
  giv : x.2.2 = f.2.2
  g0 : 0 ≤ f.2.2
  far : ∀ k, w ≤ k → tk f k = 0
  pos : ∀ k, 0 ≤ tk f k
  le : ∀ k, tk f k ≤ f.2.2
  one : ∀ j k, 0 < tk f j → tk f j = tk f k → j = k
  up : x.2.1.Pairwise fun a b => a.1 < b.1
  mem : ∀ y : Seat, y ∈ x.2.1 ↔ 0 < y.1 ∧ ∃ k, f.1.getD k noSeat = y

theorem fnd_pos (p : Seat → Bool) (S : List Seat) (m i : Nat) : 0 ≤ fnd p S m i ↔ ∃ k, i ≤ k ∧ k < i + m ∧ p (S.getD k noSeat) = true := by
  constructor
  · intro h
    rcases fnd_is p S m i with e | ⟨k, _, h1, h2, h3⟩
    · omega
    · exact ⟨k, h1, h2, h3⟩
  · rintro ⟨k, h1, h2, h3⟩; exact fnd_lt p S m i k h1 h2 h3

theorem xhF_iff (s : Nm) : ∀ L : List Seat, xhF s L = true ↔ ∃ y ∈ L, y.2 = s
  | [] => by simp [xhF]
  | z :: r => by
    simp only [xhF]
    split
    · rename_i h; simp [h]
    · rename_i h; rw [xhF_iff s r]; simp [h]
theorem xnF_no (t : Int) : ∀ L : List Seat, (∀ y ∈ L, y.1 ≠ t) → xnF t L = ([], false)
  | [], _ => rfl
  | z :: r, h => by
    simp only [xnF]
    rw [if_neg (h z (by simp)), xnF_no t r (fun y hy => h y (by simp [hy]))]
theorem xnF_yes (t : Int) : ∀ (L : List Seat) (y : Seat), L.Pairwise (fun a b => a.1 < b.1) → y ∈ L → y.1 = t → xnF t L = (y.2, true)
  | z :: r, y, hp, hy, ht => by
    have hp' := List.pairwise_cons.1 hp
    simp only [xnF]
    rcases List.mem_cons.1 hy with e | m
    · subst e; rw [if_pos ht]
    · have := hp'.1 y m
      rw [if_neg (by omega)]
      exact xnF_yes t r y hp'.2 m ht

theorem tkF_mem (S : List Seat) (t : Int) : ∀ m i, t ∈ tkF S m i ↔ 0 < t ∧ ∃ k, i ≤ k ∧ k < i + m ∧ (S.getD k noSeat).1 = t
  | 0, i => by
    constructor
    · intro h; simp [tkF] at h
    · rintro ⟨_, k, h1, h2, _⟩; omega
  | m + 1, i => by
    simp only [tkF]
    have ih := tkF_mem S t m (i + 1)
    split
    · rename_i h
      rw [List.mem_cons, ih]
      constructor
      · rintro (e | ⟨h0, k, h1, h2, h3⟩)
        · exact ⟨by omega, i, Nat.le_refl _, by omega, e.symm⟩
        · exact ⟨h0, k, by omega, by omega, h3⟩
      · rintro ⟨h0, k, h1, h2, h3⟩
        by_cases e : k = i
        · subst e; exact .inl h3.symm
        · exact .inr ⟨h0, k, by omega, by omega, h3⟩
    · rename_i h
      rw [ih]
      constructor
      · rintro ⟨h0, k, h1, h2, h3⟩; exact ⟨h0, k, by omega, by omega, h3⟩
      · rintro ⟨h0, k, h1, h2, h3⟩
        refine ⟨h0, k, ?_, by omega, h3⟩
        by_cases e : k = i
        · subst e; omega
        · omega
theorem tkF_nodup {S : List Seat} (h : ∀ j k, 0 < (S.getD j noSeat).1 → (S.getD j noSeat).1 = (S.getD k noSeat).1 → j = k) : ∀ m i, (tkF S m i).Nodup
  | 0, _ => by simp [tkF]
  | m + 1, i => by
    simp only [tkF]
    split
    · rename_i hp
      refine List.nodup_cons.2 ⟨fun hm => ?_, tkF_nodup h m (i + 1)⟩
      obtain ⟨_, k, h1, _, h3⟩ := (tkF_mem S _ m (i + 1)).1 hm
      have := h i k hp h3.symm
      omega
    · exact tkF_nodup h m (i + 1)

abbrev UpZ (l : List Int) : Prop := l.Pairwise fun a b => a < b
theorem upZ_one : ∀ {a b : List Int}, UpZ a → UpZ b → (∀ x, x ∈ a ↔ x ∈ b) → a = b
  | [], [], _, _, _ => rfl
  | [], y :: b, _, _, h => by have := (h y).2 (by simp); simp at this
  | x :: a, [], _, _, h => by have := (h x).1 (by simp); simp at this
  | x :: a, y :: b, ha, hb, h => by
    have ha' := List.pairwise_cons.1 ha
    have hb' := List.pairwise_cons.1 hb
    have e : x = y := by
      rcases List.mem_cons.1 ((h x).1 (by simp)) with e | m
      · exact e
      · rcases List.mem_cons.1 ((h y).2 (by simp)) with e | m2
        · exact e.symm
        · have := hb'.1 x m; have := ha'.1 y m2; omega
    subst e
    rw [upZ_one ha'.2 hb'.2]
    intro z
    constructor
    · intro hz
      rcases List.mem_cons.1 ((h z).1 (by simp [hz])) with e | m
      · subst e; have := ha'.1 z hz; omega
      · exact m
    · intro hz
      rcases List.mem_cons.1 ((h z).2 (by simp [hz])) with e | m
      · subst e; have := hb'.1 z hz; omega
      · exact m
theorem sortZ_up {l : List Int} (h : l.Nodup) : UpZ (So.sortZ l) := by
  have h1 : (So.sortZ l).Pairwise fun a b => a ≤ b := by
    have := List.pairwise_mergeSort (le := fun x y : Int => decide (x ≤ y)) (fun a b c h1 h2 => by simp only [decide_eq_true_eq] at *; omega) (fun a b => by simp only [Bool.or_eq_true, decide_eq_true_eq]; omega) l
    exact this.imp (fun h => of_decide_eq_true h)
  have h2 : (So.sortZ l).Nodup := (List.mergeSort_perm l _).nodup_iff.2 h
  exact (List.Pairwise.and h1 h2).imp (fun ⟨a, b⟩ => by omega)

section
variable {w : Nat} {f : Fl} {x : Xf} (h : Inv2 w f x)
include h

theorem Inv2.okF (hg : f.2.2 ≤ 100000) : okF f := by
  have h1 := h.win; have h2 := h.w1; have h3 := h.w8; have h4 := h.g0
  exact ⟨h.len, by omega, by omega, h4, hg⟩

theorem Inv2.near {k : Nat} (hk : 0 < tk f k) : k < w := by
  by_cases e : k < w
  · exact e
  · have := h.far k (by omega); omega

theorem Inv2.tick : ticketsM f = x.2.1.map Prod.fst := by
  refine upZ_one (sortZ_up (tkF_nodup h.one 8 0)) (List.pairwise_map.2 h.up) fun t => ?_
  have h8 := h.w8
  rw [show t ∈ ticketsM f ↔ t ∈ tkF f.1 8 0 by simp [ticketsM, So.sortZ], tkF_mem, List.mem_map]
  constructor
  · rintro ⟨h0, k, _, hk, ht⟩
    exact ⟨f.1.getD k noSeat, (h.mem _).2 ⟨by omega, k, rfl⟩, ht⟩
  · rintro ⟨y, hy, rfl⟩
    obtain ⟨h0, k, hk⟩ := (h.mem y).1 hy
    have hn := h.near (k := k) (by show 0 < (f.1.getD k noSeat).1; rw [hk]; exact h0)
    exact ⟨h0, k, Nat.zero_le _, by omega, by rw [hk]⟩
theorem Inv2.size : (tkF f.1 8 0).length = x.2.1.length := by
  have := congrArg List.length h.tick
  rw [ticketsM, sortZ_len, List.length_map] at this
  exact this

theorem Inv2.has (s : Nm) : hasM f s = xhF s x.2.1 := by
  have hw := h.win
  rw [Bool.eq_iff_iff, xhF_iff, hasM, decide_eq_true_eq, findM, fnd_pos]
  constructor
  · rintro ⟨k, _, hk, hp⟩
    have hp' := Bool.and_eq_true_iff.1 hp
    exact ⟨f.1.getD k noSeat, (h.mem _).2 ⟨of_decide_eq_true hp'.1, k, rfl⟩, beq_iff_eq.1 hp'.2⟩
  · rintro ⟨y, hy, hs⟩
    obtain ⟨h0, k, hk⟩ := (h.mem y).1 hy
    have hn := h.near (k := k) (by show 0 < (f.1.getD k noSeat).1; rw [hk]; exact h0)
    exact ⟨k, Nat.zero_le _, by omega, by rw [hk]; exact Bool.and_eq_true_iff.2 ⟨decide_eq_true h0, beq_iff_eq.2 hs⟩⟩

theorem Inv2.by_yes {t : Int} {k : Nat} (hk : byP t (f.1.getD k noSeat) = true) : 0 < t ∧ tk f k = t ∧ f.1.getD k noSeat ∈ x.2.1 ∧ xnF t x.2.1 = ((f.1.getD k noSeat).2, true) := by
  have := Bool.and_eq_true_iff.1 hk
  have h1 : 0 < tk f k := of_decide_eq_true this.1
  have h2 : tk f k = t := beq_iff_eq.1 this.2
  have hm : f.1.getD k noSeat ∈ x.2.1 := (h.mem _).2 ⟨h1, k, rfl⟩
  exact ⟨by omega, h2, hm, xnF_yes t _ _ h.up hm h2⟩
theorem Inv2.by_no {t : Int} (hk : findM (byP t) f = -1) : (∀ y ∈ x.2.1, y.1 ≠ t) ∧ xnF t x.2.1 = ([], false) := by
  have hw := h.win
  have hno : ∀ y ∈ x.2.1, y.1 ≠ t := by
    intro y hy ht
    obtain ⟨h0, k, hkk⟩ := (h.mem y).1 hy
    have hn := h.near (k := k) (by show 0 < (f.1.getD k noSeat).1; rw [hkk]; exact h0)
    have := fnd_lt (byP t) f.1 f.2.1.toNat 0 k (Nat.zero_le _) (by omega) (by rw [hkk]; exact Bool.and_eq_true_iff.2 ⟨decide_eq_true h0, beq_iff_eq.2 ht⟩)
    unfold findM at hk
    omega
  exact ⟨hno, xnF_no t _ hno⟩

theorem Inv2.tname (hg : f.2.2 ≤ 100000) (t : Int) : tnameM f t = xnF t x.2.1 := by
  have ho := h.okF hg
  unfold tnameM
  rcases findM_is (byP t) ho with e | ⟨k, e, e8, ek⟩
  · rw [if_pos (by omega), (h.by_no e).2]
  · rw [if_neg (by omega), e, Int.toNat_natCast, (h.by_yes ek).2.2.2]

theorem Inv2.fin (hg : f.2.2 ≤ 100000) (t : Int) : (endM f t).1 = (xEnd x t).1 ∧ Inv2 w (endM f t).2 (xEnd x t).2 := by
  have ho := h.okF hg
  have hl := h.len
  unfold xEnd
  rcases endM_cases f t ho with ⟨hk, e⟩ | ⟨k, hk, hk8, hb, e⟩
  · rw [e]
    obtain ⟨h1, h2⟩ := h.by_no hk
    refine ⟨by rw [h2], ?_⟩
    have : x.2.1.filter (fun y => y.1 != t) = x.2.1 := List.filter_eq_self.2 fun y hy => by simpa using h1 y hy
    rw [this]
    exact h
  · rw [e]
    obtain ⟨h0, h1, h2, h3⟩ := h.by_yes hb
    refine ⟨by rw [h3], ?_⟩
    have hS : ∀ j, (f.1.set k noSeat).getD j noSeat = if j = k then noSeat else f.1.getD j noSeat := fun j => gset _ _ _ _ (by omega)
    have ht : ∀ j, tk (f.1.set k noSeat, f.2.1, f.2.2) j = if j = k then 0 else tk f j := fun j => by
      show ((f.1.set k noSeat).getD j noSeat).1 = _
      rw [hS]; split <;> rfl
    refine ⟨by simp [hl], h.win, h.xw, h.w1, h.w8, h.giv, h.g0, fun j hj => ?_, fun j => ?_, fun j => ?_, fun i j hi he => ?_, h.up.filter _, fun y => ?_⟩
    · rw [ht]; split
      · rfl
      · exact h.far j hj
    · rw [ht]; split
      · omega
      · exact h.pos j
    · rw [ht]; split
      · exact h.g0
      · exact h.le j
    · rw [ht] at hi
      rw [ht, ht] at he
      by_cases e1 : i = k
      · rw [if_pos e1] at hi; omega
      · rw [if_neg e1] at hi he
        by_cases e2 : j = k
        · rw [if_pos e2] at he; omega
        · rw [if_neg e2] at he; exact h.one i j hi he
    · rw [List.mem_filter, h.mem]
      constructor
      · rintro ⟨⟨p0, j, hj⟩, hne⟩
        refine ⟨p0, j, ?_⟩
        have : j ≠ k := by rintro rfl; rw [← hj] at hne; exact (bne_iff_ne.1 hne) h1
        show (f.1.set k noSeat).getD j noSeat = y
        rw [hS, if_neg this, hj]
      · rintro ⟨p0, j, hj⟩
        have hj' : (f.1.set k noSeat).getD j noSeat = y := hj
        rw [hS] at hj'
        by_cases ejk : j = k
        · rw [if_pos ejk] at hj'; subst hj'; exact absurd p0 (by decide)
        · rw [if_neg ejk] at hj'
          refine ⟨⟨p0, j, hj'⟩, ?_⟩
          have : y.1 ≠ t := by
            intro hy
            have hyj : tk f j = y.1 := by rw [← hj']
            exact ejk (h.one j k (by omega) (by omega))
          simpa using this

theorem Inv2.free (hn : ∀ k, k < w → 0 < tk f k) : x.2.1.length = w := by
  have h8 := h.w8
  rw [← h.size]
  have key : ∀ m i, (tkF f.1 m i).length = min m (w - i) := by
    intro m
    induction m with
    | zero => intro i; simp [tkF]
    | succ m ih =>
      intro i
      simp only [tkF]
      split
      · rename_i hp
        have := h.near (k := i) hp
        rw [List.length_cons, ih]; omega
      · rename_i hp
        have : ¬ i < w := fun hi => hp (hn i hi)
        rw [ih]; omega
  rw [key]; omega
theorem Inv2.some {k : Nat} (hk : k < w) (h0 : tk f k = 0) : x.2.1.length < w := by
  have h8 := h.w8
  rw [← h.size]
  have key : ∀ m i, (tkF f.1 m i).length ≤ w - i ∧ (i ≤ k → k < i + m → (tkF f.1 m i).length + 1 ≤ w - i) := by
    intro m
    induction m with
    | zero => intro i; exact ⟨by simp [tkF], fun h1 h2 => by omega⟩
    | succ m ih =>
      intro i
      obtain ⟨a, b⟩ := ih (i + 1)
      simp only [tkF]
      split
      · rename_i hp
        have := h.near (k := i) hp
        have hne : i ≠ k := by rintro rfl; have : 0 < tk f i := hp; omega
        refine ⟨by rw [List.length_cons]; omega, fun h1 h2 => ?_⟩
        have := b (by omega) (by omega)
        rw [List.length_cons]; omega
      · refine ⟨by omega, fun h1 h2 => ?_⟩
        by_cases e : i = k
        · subst e; omega
        · have := b (by omega) (by omega); omega
  have := (key 8 0).2 (Nat.zero_le _) (by omega)
  omega

theorem Inv2.start (hg : f.2.2 ≤ 100000) (s : Nm) : (startM f s).1 = (xStart x s).1 ∧ Inv2 w (startM f s).2 (xStart x s).2 := by
  have ho := h.okF hg
  have hl := h.len; have hw := h.win; have hxw := h.xw; have h8 := h.w8; have hgi := h.giv; have hg0 := h.g0
  have hhas := h.has s
  unfold startM xStart
  rcases findM_is freeP ho with e | ⟨k, e, e8, ek⟩
  · have hfull : x.2.1.length = w := h.free fun k hk => by
      have h0 := h.pos k
      by_cases hz : tk f k = 0
      · have := fnd_lt freeP f.1 f.2.1.toNat 0 k (Nat.zero_le _) (by omega) (beq_iff_eq.2 hz)
        unfold findM at e
        omega
      · omega
    rw [if_pos (.inl (by omega)), if_pos (.inl (by omega))]
    exact ⟨rfl, h⟩
  · have hkw : k < w := by
      have := fnd_top freeP f.1 (show fnd freeP f.1 f.2.1.toNat 0 = k from e)
      omega
    have hk0 : tk f k = 0 := beq_iff_eq.1 (show (tk f k == 0) = true from ek)
    have hlt := h.some hkw hk0
    by_cases hb : hasM f s = true
    · rw [if_pos (.inr hb), if_pos (.inr (by rw [← hhas]; exact hb))]
      exact ⟨rfl, h⟩
    · rw [if_neg (by rintro (a | a); omega; exact hb a), if_neg (by rintro (a | a); omega; rw [← hhas] at a; exact hb a), e, Int.toNat_natCast]
      refine ⟨by rw [hgi], ?_⟩
      have hS : ∀ j, (f.1.set k (f.2.2 + 1, s)).getD j noSeat = if j = k then (f.2.2 + 1, s) else f.1.getD j noSeat := fun j => gset _ _ _ _ (by omega)
      have ht : ∀ j, tk (f.1.set k (f.2.2 + 1, s), f.2.1, f.2.2 + 1) j = if j = k then f.2.2 + 1 else tk f j := fun j => by
        show ((f.1.set k (f.2.2 + 1, s)).getD j noSeat).1 = _
        rw [hS]; split <;> rfl
      refine ⟨by simp [hl], h.win, h.xw, h.w1, h.w8, by show x.2.2 + 1 = f.2.2 + 1; omega, by show 0 ≤ f.2.2 + 1; omega, fun j hj => ?_, fun j => ?_, fun j => ?_, fun i j hi he => ?_, ?_, fun y => ?_⟩
      · rw [ht, if_neg (by omega)]; exact h.far j hj
      · rw [ht]; split
        · omega
        · exact h.pos j
      · rw [ht]
        show _ ≤ f.2.2 + 1
        split
        · omega
        · have := h.le j; omega
      · rw [ht] at hi
        rw [ht, ht] at he
        by_cases e1 : i = k <;> by_cases e2 : j = k
        · rw [e1, e2]
        · rw [if_pos e1, if_neg e2] at he
          have := h.le j; omega
        · rw [if_neg e1, if_pos e2] at he
          have := h.le i; omega
        · rw [if_neg e1] at hi
          rw [if_neg e1, if_neg e2] at he
          exact h.one i j hi he
      · refine List.pairwise_append.2 ⟨h.up, by simp, fun a ha b hb => ?_⟩
        obtain ⟨_, j, hj⟩ := (h.mem a).1 ha
        have := h.le j
        rw [show tk f j = a.1 by rw [← hj]] at this
        have hb' : b = (x.2.2 + 1, s) := by simpa using hb
        subst hb'
        show a.1 < x.2.2 + 1
        omega
      · rw [List.mem_append, h.mem, List.mem_singleton]
        constructor
        · rintro (⟨p0, j, hj⟩ | hy)
          · refine ⟨p0, j, ?_⟩
            have : j ≠ k := by rintro rfl; rw [← hj] at p0; have : 0 < tk f j := p0; omega
            show (f.1.set k (f.2.2 + 1, s)).getD j noSeat = y
            rw [hS, if_neg this, hj]
          · subst hy
            refine ⟨by show 0 < x.2.2 + 1; omega, k, ?_⟩
            show (f.1.set k (f.2.2 + 1, s)).getD k noSeat = (x.2.2 + 1, s)
            rw [hS, if_pos rfl, hgi]
        · rintro ⟨p0, j, hj⟩
          have hj' : (f.1.set k (f.2.2 + 1, s)).getD j noSeat = y := hj
          rw [hS] at hj'
          by_cases ejk : j = k
          · rw [if_pos ejk] at hj'; right; rw [← hj', hgi]
          · rw [if_neg ejk] at hj'; exact .inl ⟨p0, j, hj'⟩
end

theorem inv2_new {w : Nat} (h1 : 1 ≤ w) (h8 : w ≤ 8) : Inv2 w (newF w) ((w : Int), [], 0) := by
  have hz : ∀ k, (newF (w : Int)).1.getD k noSeat = noSeat := by
    intro k
    match k with
    | 0 | 1 | 2 | 3 | 4 | 5 | 6 | 7 => rfl
    | k + 8 => rfl
  have ht : ∀ k, tk (newF (w : Int)) k = 0 := fun k => by show ((newF (w : Int)).1.getD k noSeat).1 = 0; rw [hz]
  refine ⟨rfl, rfl, rfl, h1, h8, rfl, by show (0 : Int) ≤ 0; omega, fun k _ => ht k, fun k => by rw [ht]; omega, fun k => by rw [ht]; show (0 : Int) ≤ 0; omega, fun j k hj => by rw [ht] at hj; omega, by simp, fun y => ?_⟩
  constructor
  · intro hy; simp at hy
  · rintro ⟨p0, k, hk⟩
    rw [hz] at hk; subst hk; exact absurd p0 (by decide)
end Fg
end

section
/- FlightPlays: the law: it returns true. -/

set_option linter.unusedVariables false
set_option linter.unusedSimpArgs false
set_option maxRecDepth 100000
open Go Go.Ab Go.Proofs V S T C
open E (PA pa)
open Fy (s213n s97n s216n s98n s99n s102n s103n v103_9z v103_10z c103_9 q103_0 s100n s104n s104m)
open Fz (s13 v13_4n v13_4m v13_5n v13_5m v13_7 v13_8 v13_9 v13_13 v13_16 v13_18 v13_19 v13_20 v13_22 v13_23 v13_24 v13_25 v13_26 v13_27 v13_28 c13_4 c13_5 c13_7 c13_8 c13_9 c13_13 c13_16 c13_18 c13_19 c13_20 c13_22 c13_23 c13_24 c13_25 c13_26 c13_27 c13_28 q13_0 q13_1 q13_3 q13_6)
namespace Fg

/-! ### of none -/

theorem find_nil (H : List AObj) : ASpec Try.prog 213 [.nilp, .bad] H (fun r H' => r = .int .i64 (-1) ∧ H' = H) :=
  ASpec.pureH (r0 := .int .i64 (-1)) H (s213n .bad _ ⟨rfl, rfl⟩) _ _ rfl rfl
theorem nilArgs (a : AV) : Les [.nilp, a] [.nilp, .bad] := ⟨Le.refl _, Le.bad _, trivial⟩
theorem has_nil (s : Nm) (H : List AObj) : ASpec Try.prog 97 [.nilp, .str (B s)] H (fun r H' => r = .bool false ∧ H' = H) :=
  ASpec.pureH (r0 := .bool false) H (ASpec.sel (s97n s _ (ASpec.call (find_nil _) (nilArgs _) ⟨-1, rfl, rfl, pb rfl⟩))) _ _ rfl rfl
theorem by_nil (t : Int) (H : List AObj) : ASpec Try.prog 216 [.nilp, .int .i64 t] H (fun r H' => r = .int .i64 (-1) ∧ H' = H) :=
  ASpec.pureH (r0 := .int .i64 (-1)) H (ASpec.sel (s216n t _ (ASpec.call (find_nil _) (nilArgs _) ⟨-1, rfl, rfl, pa (Le.refl _)⟩))) _ _ rfl rfl
theorem start_nil (s : Nm) (H : List AObj) : ASpec Try.prog 98 [.nilp, .str (B s)] H (fun r H' => r = .tup [.int .i64 0, .bool false] ∧ H' = H) :=
  ASpec.pureH (r0 := .tup [.int .i64 0, .bool false]) H (s98n s _ (ASpec.call (find_nil _) (nilArgs _) ⟨-1, rfl, rfl, condD (fun _ => ⟨rfl, rfl⟩) fun h => absurd (by decide) h⟩)) _ _ rfl rfl
theorem end_nil (t : Int) (H : List AObj) : ASpec Try.prog 99 [.nilp, .int .i64 t] H (fun r H' => r = .tup [.str (B []), .bool false] ∧ H' = H) :=
  ASpec.pureH (r0 := .tup [.str (B []), .bool false]) H (s99n t _ (ASpec.call (by_nil t _) (Les.refl _) ⟨-1, rfl, rfl, condD (fun _ => ⟨rfl, rfl⟩) fun h => absurd (by decide) h⟩)) _ _ rfl rfl
theorem tname_nil (t : Int) (H : List AObj) : ASpec Try.prog 102 [.nilp, .int .i64 t] H (fun r H' => r = .tup [.str (B []), .bool false] ∧ H' = H) :=
  ASpec.pureH (r0 := .tup [.str (B []), .bool false]) H (s102n t _ (ASpec.call (by_nil t _) (Les.refl _) ⟨-1, rfl, rfl, condD (fun _ => ⟨rfl, rfl⟩) fun h => absurd (by decide) h⟩)) _ _ rfl rfl
theorem tickets_nil (H : List AObj) : ASpec Try.prog 103 [.nilp] H (fun r H' => r = slZ [] ∧ H' = H) := by
  have k : ASpec Try.prog 103 [.nilp] [] (fun r H' => r = slZ [] ∧ H' = []) :=
    ASpec.sel (s103n _ (v103_9z 0 _ (So.sortZ_nil.mono fun r H' hh => .inl ⟨(), hh.1, hh.2, v103_10z 0 _ (pa (Le.sl (s' := Seq.ren _ (.map Ab.encI 0 [])) rfl (.inr ⟨rfl, fun _ h => by cases h⟩) (.inr rfl)))⟩)))
  exact ASpec.pureH H k _ _ rfl rfl
theorem len_nil (H : List AObj) : ASpec Try.prog 100 [.nilp] H (fun r H' => r = .int .i64 0 ∧ H' = H) :=
  ASpec.pureH (r0 := .int .i64 0) H (s100n _ (ASpec.call (tickets_nil _) (Les.refl _) ⟨[], rfl, rfl, rfl, rfl⟩)) _ _ rfl rfl
theorem given_nil (H : List AObj) : ASpec Try.prog 104 [.nilp] H (fun r H' => r = .int .i64 0 ∧ H' = H) :=
  ASpec.pureH (r0 := .int .i64 0) H (s104n _ ⟨rfl, rfl⟩) _ _ rfl rfl
theorem given_spec (f : Fl) : ASpec Try.prog 104 [.ptr 0 0] [clF f] (fun r H' => r = .int .i64 f.2.2 ∧ H' = [clF f]) := s104m f _ ⟨rfl, rfl⟩

theorem none13 {x : Xf} : AWP Try.prog 202 0 c13_7 [(5, .nilp), (9, .bool false)] [clX x] (q13_1 0 (PB true)) := by
  refine v13_7 x false 0 _ (ASpec.call (end_nil 1 _) (Les.refl _) (.inl ⟨([], false), rfl, rfl, ?_⟩))
  refine v13_8 x false false 0 _ (ASpec.call (tname_nil 1 _) (Les.refl _) ⟨([], false), rfl, rfl, ?_⟩)
  refine v13_9 x false false false 0 _ (condBn (fun _ => condBn (fun _ => condBn (fun _ => ?_) fun h => by cases h) fun h => by cases h) fun h => by cases h)
  refine ASpec.call (has_nil [97] _) (Les.refl _) ⟨false, rfl, rfl, condBn (fun _ => ?_) fun h => by cases h⟩
  refine ASpec.call (tickets_nil _) (Les.refl _) ⟨[], rfl, rfl, ASpec.call (len_nil _) (Les.refl _) ⟨0, rfl, rfl, ASpec.call (given_nil _) (Les.refl _) ⟨0, rfl, rfl, condE (fun _ => ?_) fun h => (h (by decide)).elim⟩⟩⟩
  exact ASpec.call (awake_spec _) (Les.refl _) ⟨(), rfl, rfl, pb rfl⟩

theorem liftX {fn : FuncId} {args : List AV} {r0 : AV} {x x' : Xf} (a : AObj) (o : List AObj) (k : ASpec Try.prog fn (.ptr 0 0 :: args) [clX x] (fun r H' => r = r0 ∧ H' = [clX x']))
    (ha : ∀ ρ : Nat → Nat, args.map (AV.ren ρ) = args) (hr : ∀ ρ : Nat → Nat, AV.ren ρ r0 = r0) : ASpec Try.prog fn (.ptr 1 0 :: args) (a :: clX x :: o) (fun r H' => r = r0 ∧ H' = a :: clX x' :: o) :=
  ASpec.subH [1] (a :: clX x :: o) (a :: clX x' :: o) k _ _ (by decide) rfl (by rw [List.map_cons, ha]; rfl) (hr _) (fun i h => by
    have : i = 0 := by simpa using h
    subst this; rfl) (by show (a :: clX x' :: o) ++ [] = _; rw [List.append_nil])

theorem Inv2.okX {w : Nat} {f : Fl} {x : Xf} (h : Inv2 w f x) (hg : f.2.2 ≤ 1000) : okX x := by
  have h1 := h.size; have h2 := tkF_len f.1 8 0; have h3 := h.giv; have h4 := h.g0
  exact ⟨by omega, by omega, by omega⟩

theorem startM_g {f : Fl} (h : okF f) (s : Nm) : (startM f s).2.2.2 ≤ f.2.2 + 1 := by
  rcases startM_cases f s h with e | ⟨k, _, _, _, _, e⟩ <;> rw [e]
  · show f.2.2 ≤ f.2.2 + 1; omega
  · exact Int.le_refl _
theorem endM_g {f : Fl} (h : okF f) (t : Int) : (endM f t).2.2.2 = f.2.2 := by
  rcases endM_cases f t h with ⟨_, e⟩ | ⟨k, _, _, _, e⟩ <;> rw [e]

section
variable {w : Nat} {l : List T.Fd} (hl : l.length ≤ 150)

theorem tell13 {f : Fl} {x : Xf} (h : Inv2 w f x) (hg : f.2.2 ≤ 1000) (d : T.Fd) {i : Nat}
    (k : AWP Try.prog 202 0 c13_28 [(1, slD l), (5, .ptr 0 0), (6, .ptr 1 0), (14, .int .i64 i), (200, .bool false)] [clF f, clX x, .cells (encFd d)] (q13_6 0 (PB true))) :
    AWP Try.prog 202 0 c13_25 [(1, slD l), (5, .ptr 0 0), (6, .ptr 1 0), (14, .int .i64 i), (15, .ptr 2 0)] [clF f, clX x, .cells (encFd d)] (q13_6 0 (PB true)) := by
  have ho := h.okF (by omega)
  have hx := h.okX hg
  have hgi := h.giv
  refine v13_25 _ _ _ _ _ _ _ ((liftF [clX x, .cells (encFd d)] (tname_spec ho d.2.1) (fun _ => rfl) (fun _ => rfl)).mono fun r H' hh => ⟨tnameM f d.2.1, hh.1, hh.2, ?_⟩)
  refine v13_26 _ _ _ _ _ _ _ _ _ (ASpec.call (xname_spec hx d.2.1 _) (Les.refl _) ⟨xnF d.2.1 x.2.1, rfl, rfl, ?_⟩)
  rw [h.tname (by omega)]
  refine v13_27 _ _ _ _ _ _ _ _ _ _ _ (condSn (fun h => (h rfl).elim) fun _ => condBn (fun h => by simp at h) fun _ => ?_)
  refine (liftF [clX x, .cells (encFd d)] (has_spec ho d.2.2) (fun _ => rfl) (fun _ => rfl)).mono fun r H' hh => ⟨hasM f d.2.2, hh.1, hh.2, ?_⟩
  repeat refine ⟨⟨rfl, rfl⟩, ?_⟩
  refine ASpec.call (xhas_spec hx d.2.2 _) (Les.refl _) ⟨xhF d.2.2 x.2.1, rfl, rfl, ?_⟩
  repeat refine ⟨⟨rfl, rfl⟩, ?_⟩
  rw [h.has]
  refine condBn (fun h => by simp at h) fun _ => ?_
  refine (liftF [clX x, .cells (encFd d)] (args := []) (len_spec f) (fun _ => rfl) (fun _ => rfl)).mono fun r H' hh => ⟨_, hh.1, hh.2, ?_⟩
  repeat refine ⟨⟨rfl, rfl⟩, ?_⟩
  rw [h.size]
  refine condNe (fun h => (h rfl).elim) fun _ => ?_
  refine (liftF [clX x, .cells (encFd d)] (args := []) (given_spec f) (fun _ => rfl) (fun _ => rfl)).mono fun r H' hh => ⟨f.2.2, hh.1, hh.2, ?_⟩
  repeat refine ⟨⟨rfl, rfl⟩, ?_⟩
  refine condNe (fun hne => (hne hgi.symm).elim) fun _ => ?_
  have tick : ASpec Try.prog 103 [.ptr 0 0] [clF f, clX x, .cells (encFd d)] (fun r H' => r = slZ (ticketsM f) ∧ H' = [clF f, clX x, .cells (encFd d)]) :=
    liftF [clX x, .cells (encFd d)] (args := []) (tickets_spec f) (fun _ => rfl) (fun _ => rfl)
  refine tick.mono fun r H' hh => ⟨ticketsM f, hh.1, hh.2, ?_⟩
  repeat refine ⟨⟨rfl, rfl⟩, ?_⟩
  refine ASpec.call (xtick_spec hx _) (Les.refl _) ⟨x.2.1.map Prod.fst, rfl, rfl, ?_⟩
  repeat refine ⟨⟨rfl, rfl⟩, ?_⟩
  rw [h.tick]
  refine ASpec.call (ints_spec (x.2.1.map Prod.fst) (x.2.1.map Prod.fst) (by rw [List.length_map]; have := hx.1; omega) _) (Les.refl _) ⟨_, rfl, rfl, ?_⟩
  repeat refine ⟨⟨rfl, rfl⟩, ?_⟩
  rw [decide_eq_true rfl]
  exact k

include hl
theorem loop13 : ∀ (m i : Nat) (f : Fl) (x : Xf), m + i = l.length → Inv2 w f x → f.2.2 ≤ i →
    AWP Try.prog 202 0 c13_13 [(1, slD l), (5, .ptr 0 0), (6, .ptr 1 0), (14, .int .i64 i)] [clF f, clX x] (q13_3 0 (PB true)) := by
  intro m
  induction m with
  | zero =>
    intro i f x hm h hg
    exact v13_13 _ _ _ _ _ _ (condD (fun hc => by omega) fun _ => ASpec.call (awake_spec _) (Les.refl _) ⟨(), rfl, rfl, pb rfl⟩)
  | succ m ih =>
    intro i f x hm h hg
    have ho := h.okF (by omega)
    have hx := h.okX (by omega)
    refine v13_13 _ _ _ _ _ _ (condD (fun _ => needJ ⟨by omega, by omega⟩ ?_) fun hc => by omega)
    rw [Int.toNat_natCast]
    generalize l.getD i noFd = d
    have fin : ∀ (f' : Fl) (x' : Xf), Inv2 w f' x' → f'.2.2 ≤ f.2.2 + 1 → AWP Try.prog 202 0 c13_25 [(1, slD l), (5, .ptr 0 0), (6, .ptr 1 0), (14, .int .i64 i), (15, .ptr 2 0)] [clF f', clX x', .cells (encFd d)] (q13_6 0 (PB true)) := by
      intro f' x' h' hg'
      refine tell13 h' (by omega) d ?_
      refine AWP.shape [0, 1] [(1, slD l), (5, .ptr 0 0), (6, .ptr 1 0), (14, .int .i64 i), (200, .bool false)] [clF f', clX x'] (Sel.mk0 (by decide) ⟨rfl, rfl, trivial⟩)
        ⟨rfl, Le.sl (s' := Seq.ren _ (.map encFd noFd l)) (by simp only [Seq.ren, Seq.toList, List.map_map]; exact List.map_congr_left fun x _ => rfl) (.inl rfl) (.inl rfl), rfl, Le.refl _, rfl, Le.refl _, rfl, Le.refl _, rfl, Le.refl _, trivial⟩ ?_
      refine v13_28 _ _ _ _ _ _ _ (condB (fun h => by cases h) fun _ => ?_)
      rw [succ64 (by omega)]
      exact ih (i + 1) f' x' (by omega) h' (by omega)
    refine v13_16 _ _ _ _ _ _ _ (condB (fun _ => ?_) fun _ => ?_)
    · obtain ⟨e1, e2⟩ := h.fin (by omega) d.2.1
      have e3 := endM_g ho d.2.1
      refine (liftF [clX x, .cells (encFd d)] (end_spec ho d.2.1) (fun _ => rfl) (fun _ => rfl)).mono fun r H' hh => .inr ⟨endM f d.2.1, hh.1, hh.2, ?_⟩
      refine v13_18 _ _ _ _ _ _ _ _ _ ((liftX (clF (endM f d.2.1).2) [.cells (encFd d)] (xend_spec hx d.2.1) (fun _ => rfl) (fun _ => rfl)).mono fun r H' hh => ⟨xEnd x d.2.1, hh.1, hh.2, ?_⟩)
      rw [e1]
      refine v13_19 _ _ _ _ _ _ _ _ _ _ _ (condSn (fun h => (h rfl).elim) fun _ => ?_)
      refine v13_20 _ _ _ _ _ _ _ _ (condB (fun h => by simp at h) fun _ => fin _ _ e2 (by omega))
    · obtain ⟨e1, e2⟩ := h.start (by omega) d.2.2
      have e3 := startM_g ho d.2.2
      refine (liftF [clX x, .cells (encFd d)] (start_spec ho d.2.2) (fun _ => rfl) (fun _ => rfl)).mono fun r H' hh => .inr ⟨startM f d.2.2, hh.1, hh.2, ?_⟩
      refine v13_22 _ _ _ _ _ _ _ _ _ ((liftX (clF (startM f d.2.2).2) [.cells (encFd d)] (xstart_spec hx d.2.2) (fun _ => rfl) (fun _ => rfl)).mono fun r H' hh => ⟨xStart x d.2.2, hh.1, hh.2, ?_⟩)
      rw [e1]
      refine v13_23 _ _ _ _ _ _ _ _ _ _ _ (condNe (fun h => (h rfl).elim) fun _ => ?_)
      refine v13_24 _ _ _ _ _ _ _ _ (condB (fun h => by simp at h) fun _ => fin _ _ e2 (by omega))
end

theorem flightPlays_spec (w : Int) (l : List T.Fd) (H : List AObj) : ASpec Try.prog 13 [.int .i64 w, slD l] H (fun r H' => r = .bool true ∧ H' = H) := by
  have k : ASpec Try.prog 13 [.int .i64 w, slD l] [] (PB true) := by
    have aw : ∀ (H' : List AObj), ASpec Try.prog 95 [] H' (fun r H'' => r = .bool true ∧ H'' = H') := awake_spec
    refine s13 _ _ _ (ASpec.call (skip_spec l _) (Les.refl _) ⟨_, rfl, rfl, condB (fun _ => ASpec.call (aw _) (Les.refl _) ⟨(), rfl, rfl, pb rfl⟩) fun hs => ?_⟩)
    have hl := skipM_ok hs
    by_cases hw : 1 ≤ w ∧ w ≤ 8
    · refine (new_spec hw.1 hw.2 []).mono fun r H' hh => .inr ⟨newF w, hh.1, hh.2, ?_⟩
      refine v13_4m _ _ _ _ _ ((xnew_spec w _).mono fun r H' hh => ⟨((w, [], 0), true), by rw [hh.1, if_pos hw, decide_eq_true hw]; rfl, hh.2, ?_⟩)
      refine v13_5m l (newF w) (w, [], 0) true 0 _ (condBn (fun h => by cases h) fun _ => ?_)
      obtain ⟨n, rfl⟩ := Int.eq_ofNat_of_zero_le (show 0 ≤ w by omega)
      exact loop13 hl l.length 0 _ _ (by omega) (inv2_new (by omega) (by omega)) (by show (0 : Int) ≤ 0; omega)
    · refine (new_nil hw []).mono fun r H' hh => .inl ⟨(), hh.1, hh.2, ?_⟩
      refine v13_4n _ _ _ _ ((xnew_spec w _).mono fun r H' hh => ⟨((0, [], 0), false), by rw [hh.1, if_neg hw, decide_eq_false hw]; rfl, hh.2, ?_⟩)
      refine v13_5n l (0, [], 0) false 0 _ (condBn (fun _ => ?_) fun h => by cases h)
      exact ASpec.call (start_nil [97] _) (Les.refl _) (.inl ⟨(0, false), rfl, rfl, none13⟩)
  exact ASpec.pureH (r0 := .bool true) H (ASpec.sel k) _ _ rfl rfl
end Fg
end
