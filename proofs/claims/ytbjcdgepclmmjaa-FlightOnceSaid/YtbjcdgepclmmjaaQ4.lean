/- Q4: several of this proof's own texts, one behind the other: what each proves stands at its head. -/
import Derived.Shelf.SortM.Plain
import Derived.Shelf.SortM.SortNone
import Derived.Ground.SlgmProg
import Derived.Test.YtbjcdgepclmmjaaProg
import Derived.Test.YtbjcdgepclmmjaaA2
import Derived.Test.YtbjcdgepclmmjaaQ3
import Derived.Test.YtbjcdgepclmmjaaA1
section
/- The library's sort of strings and of ints at this program's numbers: laid by the kit's own tool. -/

namespace Go.Proofs
open Go.Shelf
def Try.mSort_ren : Go.Shelf.Ren := ⟨fun | 6 => 229 | 8 => 302 | 9 => 310 | 19 => 350 | 20 => 351 | 21 => 353 | 22 => 354 | 23 => 355 | 24 => 356 | 25 => 357 | 26 => 358 | 27 => 359 | 28 => 360 | 29 => 361 | 36 => 386 | 31 => 381 | 32 => 382 | 37 => 387 | 38 => 388 | 39 => 389 | 41 => 397 | n => n, fun | 27 => 98 | 29 => 9 | 3 => 3 | 32 => 364 | 26 => 98 | 0 => 0 | 44 => 396 | 46 => 398 | 4 => 4 | 36 => 389 | 35 => 388 | 41 => 131 | 5 => 5 | 9 => 9 | 53 => 416 | 57 => 420 | 63 => 428 | 64 => 253 | n => n, fun | n => n⟩
theorem Try.mSort : Go.Proofs.SlLaysM.n6 Try.prog Try.mSort_ren := {
  mixed := by kernel_rfl
  f6 := ⟨Try.f229.name, by decide, Try.func229.trans (congrArg some (by kernel_rfl))⟩
  f8 := Try.func302.trans (congrArg some (by kernel_rfl))
  f9 := ⟨Try.f310.name, by decide, Try.func310.trans (congrArg some (by kernel_rfl))⟩
  f19 := Try.func350.trans (congrArg some (by kernel_rfl))
  f20 := Try.func351.trans (congrArg some (by kernel_rfl))
  f21 := ⟨Try.f353.name, by decide, Try.func353.trans (congrArg some (by kernel_rfl))⟩
  f22 := ⟨Try.f354.name, by decide, Try.func354.trans (congrArg some (by kernel_rfl))⟩
  f23 := ⟨Try.f355.name, by decide, Try.func355.trans (congrArg some (by kernel_rfl))⟩
  f24 := ⟨Try.f356.name, by decide, Try.func356.trans (congrArg some (by kernel_rfl))⟩
  f25 := ⟨Try.f357.name, by decide, Try.func357.trans (congrArg some (by kernel_rfl))⟩
  f26 := ⟨Try.f358.name, by decide, Try.func358.trans (congrArg some (by kernel_rfl))⟩
  f27 := ⟨Try.f359.name, by decide, Try.func359.trans (congrArg some (by kernel_rfl))⟩
  f28 := ⟨Try.f360.name, by decide, Try.func360.trans (congrArg some (by kernel_rfl))⟩
  f29 := ⟨Try.f361.name, by decide, Try.func361.trans (congrArg some (by kernel_rfl))⟩
  f31 := Try.func381.trans (congrArg some (by kernel_rfl))
  f32 := Try.func382.trans (congrArg some (by kernel_rfl))
  f36 := ⟨Try.f386.name, by decide, Try.func386.trans (congrArg some (by kernel_rfl))⟩
  f37 := ⟨Try.f387.name, by decide, Try.func387.trans (congrArg some (by kernel_rfl))⟩
  f38 := ⟨Try.f388.name, by decide, Try.func388.trans (congrArg some (by kernel_rfl))⟩
  f39 := ⟨Try.f389.name, by decide, Try.func389.trans (congrArg some (by kernel_rfl))⟩
  f41 := ⟨Try.f397.name, by decide, Try.func397.trans (congrArg some (by kernel_rfl))⟩
  t0 := Try.underlying0
  a0 := Try.isAgg0
  z0 := Try.sizeOf0
  v0 := Try.zeroValue0
  t3 := Try.underlying3
  a3 := Try.isAgg3
  z3 := Try.sizeOf3
  v3 := Try.zeroValue3
  t4 := Try.underlying4
  a4 := Try.isAgg4
  z4 := Try.sizeOf4
  v4 := Try.zeroValue4
  t5 := Try.underlying5
  a5 := Try.isAgg5
  z5 := Try.sizeOf5
  v5 := Try.zeroValue5
  t9 := Try.underlying9
  a9 := Try.isAgg9
  z9 := Try.sizeOf9
  v9 := Try.zeroValue9
  t26 := Try.underlying98
  a26 := Try.isAgg98
  z26 := Try.sizeOf98
  v26 := Try.zeroValue98
  t27 := Try.underlying98
  a27 := Try.isAgg98
  z27 := Try.sizeOf98
  v27 := Try.zeroValue98
  t29 := Try.underlying9
  a29 := Try.isAgg9
  z29 := Try.sizeOf9
  v29 := Try.zeroValue9
  t32 := Try.underlying364
  a32 := Try.isAgg364
  z32 := Try.sizeOf364
  v32 := Try.zeroValue364
  t35 := Try.underlying388
  a35 := Try.isAgg388
  z35 := Try.sizeOf388
  v35 := Try.zeroValue388
  t36 := Try.underlying389
  a36 := Try.isAgg389
  z36 := Try.sizeOf389
  v36 := Try.zeroValue389
  t41 := Try.underlying131
  a41 := Try.isAgg131
  z41 := Try.sizeOf131
  v41 := Try.zeroValue131
  t44 := Try.underlying396
  a44 := Try.isAgg396
  z44 := Try.sizeOf396
  v44 := Try.zeroValue396
  t46 := Try.underlying398
  a46 := Try.isAgg398
  z46 := Try.sizeOf398
  v46 := Try.zeroValue398
  t53 := Try.underlying416
  a53 := Try.isAgg416
  z53 := Try.sizeOf416
  v53 := Try.zeroValue416
  t57 := Try.underlying420
  a57 := Try.isAgg420
  z57 := Try.sizeOf420
  v57 := Try.zeroValue420
  t63 := Try.underlying428
  a63 := Try.isAgg428
  z63 := Try.sizeOf428
  v63 := Try.zeroValue428
  t64 := Try.underlying253
  a64 := Try.isAgg253
  z64 := Try.sizeOf253
  v64 := Try.zeroValue253 }
def Try.mSortI_ren : Go.Shelf.Ren := ⟨fun | 5 => 217 | 8 => 302 | 7 => 301 | 19 => 350 | 20 => 351 | 10 => 341 | 11 => 342 | 12 => 343 | 13 => 344 | 14 => 345 | 15 => 346 | 16 => 347 | 17 => 348 | 18 => 349 | 30 => 380 | 31 => 381 | 32 => 382 | 33 => 383 | 34 => 384 | 35 => 385 | 40 => 396 | n => n, fun | 23 => 153 | 25 => 3 | 3 => 3 | 32 => 364 | 22 => 153 | 0 => 0 | 44 => 396 | 46 => 398 | 4 => 4 | 36 => 389 | 35 => 388 | 41 => 131 | 5 => 5 | 9 => 9 | 53 => 416 | 57 => 420 | 63 => 428 | 64 => 253 | n => n, fun | n => n⟩
theorem Try.mSortI : Go.Proofs.SlLaysM.n5 Try.prog Try.mSortI_ren := {
  mixed := by kernel_rfl
  f5 := ⟨Try.f217.name, by decide, Try.func217.trans (congrArg some (by kernel_rfl))⟩
  f7 := ⟨Try.f301.name, by decide, Try.func301.trans (congrArg some (by kernel_rfl))⟩
  f8 := Try.func302.trans (congrArg some (by kernel_rfl))
  f10 := ⟨Try.f341.name, by decide, Try.func341.trans (congrArg some (by kernel_rfl))⟩
  f11 := ⟨Try.f342.name, by decide, Try.func342.trans (congrArg some (by kernel_rfl))⟩
  f12 := ⟨Try.f343.name, by decide, Try.func343.trans (congrArg some (by kernel_rfl))⟩
  f13 := ⟨Try.f344.name, by decide, Try.func344.trans (congrArg some (by kernel_rfl))⟩
  f14 := ⟨Try.f345.name, by decide, Try.func345.trans (congrArg some (by kernel_rfl))⟩
  f15 := ⟨Try.f346.name, by decide, Try.func346.trans (congrArg some (by kernel_rfl))⟩
  f16 := ⟨Try.f347.name, by decide, Try.func347.trans (congrArg some (by kernel_rfl))⟩
  f17 := ⟨Try.f348.name, by decide, Try.func348.trans (congrArg some (by kernel_rfl))⟩
  f18 := ⟨Try.f349.name, by decide, Try.func349.trans (congrArg some (by kernel_rfl))⟩
  f19 := Try.func350.trans (congrArg some (by kernel_rfl))
  f20 := Try.func351.trans (congrArg some (by kernel_rfl))
  f30 := ⟨Try.f380.name, by decide, Try.func380.trans (congrArg some (by kernel_rfl))⟩
  f31 := Try.func381.trans (congrArg some (by kernel_rfl))
  f32 := Try.func382.trans (congrArg some (by kernel_rfl))
  f33 := ⟨Try.f383.name, by decide, Try.func383.trans (congrArg some (by kernel_rfl))⟩
  f34 := ⟨Try.f384.name, by decide, Try.func384.trans (congrArg some (by kernel_rfl))⟩
  f35 := ⟨Try.f385.name, by decide, Try.func385.trans (congrArg some (by kernel_rfl))⟩
  f40 := ⟨Try.f396.name, by decide, Try.func396.trans (congrArg some (by kernel_rfl))⟩
  t0 := Try.underlying0
  a0 := Try.isAgg0
  z0 := Try.sizeOf0
  v0 := Try.zeroValue0
  t3 := Try.underlying3
  a3 := Try.isAgg3
  z3 := Try.sizeOf3
  v3 := Try.zeroValue3
  t4 := Try.underlying4
  a4 := Try.isAgg4
  z4 := Try.sizeOf4
  v4 := Try.zeroValue4
  t5 := Try.underlying5
  a5 := Try.isAgg5
  z5 := Try.sizeOf5
  v5 := Try.zeroValue5
  t9 := Try.underlying9
  a9 := Try.isAgg9
  z9 := Try.sizeOf9
  v9 := Try.zeroValue9
  t22 := Try.underlying153
  a22 := Try.isAgg153
  z22 := Try.sizeOf153
  v22 := Try.zeroValue153
  t23 := Try.underlying153
  a23 := Try.isAgg153
  z23 := Try.sizeOf153
  v23 := Try.zeroValue153
  t25 := Try.underlying3
  a25 := Try.isAgg3
  z25 := Try.sizeOf3
  v25 := Try.zeroValue3
  t32 := Try.underlying364
  a32 := Try.isAgg364
  z32 := Try.sizeOf364
  v32 := Try.zeroValue364
  t35 := Try.underlying388
  a35 := Try.isAgg388
  z35 := Try.sizeOf388
  v35 := Try.zeroValue388
  t36 := Try.underlying389
  a36 := Try.isAgg389
  z36 := Try.sizeOf389
  v36 := Try.zeroValue389
  t41 := Try.underlying131
  a41 := Try.isAgg131
  z41 := Try.sizeOf131
  v41 := Try.zeroValue131
  t44 := Try.underlying396
  a44 := Try.isAgg396
  z44 := Try.sizeOf396
  v44 := Try.zeroValue396
  t46 := Try.underlying398
  a46 := Try.isAgg398
  z46 := Try.sizeOf398
  v46 := Try.zeroValue398
  t53 := Try.underlying416
  a53 := Try.isAgg416
  z53 := Try.sizeOf416
  v53 := Try.zeroValue416
  t57 := Try.underlying420
  a57 := Try.isAgg420
  z57 := Try.sizeOf420
  v57 := Try.zeroValue420
  t63 := Try.underlying428
  a63 := Try.isAgg428
  z63 := Try.sizeOf428
  v63 := Try.zeroValue428
  t64 := Try.underlying253
  a64 := Try.isAgg253
  z64 := Try.sizeOf253
  v64 := Try.zeroValue253 }
end Go.Proofs
end

section
/- The library's sort of names and of ints, as specifications. -/

set_option linter.unusedVariables false
set_option linter.unusedSimpArgs false
open Go Go.Ab Go.Proofs Go.Sort T
namespace So

def sortZ (l : List Int) : List Int := l.mergeSort fun x y => decide (x ≤ y)

theorem sortZ_spec {H : List AObj} {id : Nat} {q : Seq} {l : List Int} (hid : H[id]? = some (.arr 1 q)) (hq : q.toList = l.map Ab.encI) (hl : l.length < 4611686018427387904) :
    ASpec Try.prog 217 [.msl 1 id 0 l.length] H (fun r H' => r = .tup [] ∧ H' = H.set id (.arr 1 (.map Ab.encI 0 (sortZ l)))) := by
  refine ASpec.sorts (enc := Value.int .i64) (e1 := fun x => .int .i64 x) (srt := sortZ) (fun _ => rfl) (fun M w loc x v => ?_) (fun l => by simp [sortZ]) (fun blk off cap ss w h1 h2 h3 => ?_) hid hq hl
  · constructor
    · intro h; cases h; rfl
    · rintro rfl; exact .int _ _
  · exact AnyM.slices_Sort_int Try.mSortI blk off cap ss w h1 h2 h3

/-- of nothing: nothing -/
theorem sort_nil {H : List AObj} {z : Nat} {tip : Tip} : ASpec Try.prog 229 [.sl z (.raw []) tip] H (fun r H' => r = .tup [] ∧ H' = H) := by
  refine ASpec.of_calls fun M loc w vs ht hv => ?_
  obtain ⟨hs, hv⟩ := hv
  have hv0 := hv 0 (by simp)
  simp only [List.getElem_cons_zero] at hv0
  have hvs : vs = #[vs[0]'(by simp at hs; omega)] := by
    apply Array.ext
    · simpa using hs
    · intro i h1 h2
      have : i = 0 := by simp at h2; omega
      subst this; rfl
  generalize vs[0]'(by simp at hs; omega) = v0 at hv0 hvs
  subst hvs
  have key : ∀ p cap, Calls Try.prog 229 #[.slice p 0 cap] w fun e w' => ∃ v, e = .returned v ∧ VRel M w' loc (.tup []) v ∧ Grown w w' := fun p cap =>
    (AnyM.slices_Sort_string_none Try.mSort p cap w).mono fun e w' ⟨h1, h2⟩ => by
      subst h2
      exact ⟨_, h1, .tup _ _ rfl (fun i h => by simp at h), ⟨Nat.le_refl _, fun _ _ => rfl, rfl, rfl, rfl⟩⟩
  cases hv0 with
  | slnil => exact key none 0
  | slz => exact key _ 0
  | sl _ _ _ b o cap => exact key _ _

/-- of nothing: nothing -/
theorem sortZ_nil {H : List AObj} {z : Nat} {tip : Tip} : ASpec Try.prog 217 [.sl z (.raw []) tip] H (fun r H' => r = .tup [] ∧ H' = H) := by
  refine ASpec.of_calls fun M loc w vs ht hv => ?_
  obtain ⟨hs, hv⟩ := hv
  have hv0 := hv 0 (by simp)
  simp only [List.getElem_cons_zero] at hv0
  have hvs : vs = #[vs[0]'(by simp at hs; omega)] := by
    apply Array.ext
    · simpa using hs
    · intro i h1 h2
      have : i = 0 := by simp at h2; omega
      subst this; rfl
  generalize vs[0]'(by simp at hs; omega) = v0 at hv0 hvs
  subst hvs
  have key : ∀ p cap, Calls Try.prog 217 #[.slice p 0 cap] w fun e w' => ∃ v, e = .returned v ∧ VRel M w' loc (.tup []) v ∧ Grown w w' := fun p cap =>
    (AnyM.slices_Sort_int_none Try.mSortI p cap w).mono fun e w' ⟨h1, h2⟩ => by
      subst h2
      exact ⟨_, h1, .tup _ _ rfl (fun i h => by simp at h), ⟨Nat.le_refl _, fun _ _ => rfl, rfl, rfl, rfl⟩⟩
  cases hv0 with
  | slnil => exact key none 0
  | slz => exact key _ 0
  | sl _ _ _ b o cap => exact key _ _

end So
end

section
/- What is under way: the tickets, a new flight, and what is too much. -/

set_option linter.unusedVariables false
set_option linter.unusedSimpArgs false
set_option maxRecDepth 100000
open Go Go.Ab Go.Proofs V S T C
open E (PA pa)
open Fy
namespace Fg

/-- the tickets of m seats from the i-th on -/
def tkF (S : List Seat) : Nat → Nat → List Int
  | 0, _ => []
  | m + 1, i => if 0 < (S.getD i noSeat).1 then (S.getD i noSeat).1 :: tkF S m (i + 1) else tkF S m (i + 1)
def ticketsM (f : Fl) : List Int := So.sortZ (tkF f.1 8 0)
theorem sortZ_len (l : List Int) : (So.sortZ l).length = l.length := by simp [So.sortZ]

noncomputable abbrev arZ (o : List Int) : AObj := .arr 1 (.map Ab.encI 0 o)
abbrev PT (f : Fl) (R : List Int) : AV → List AObj → Prop := fun r H' => (r = .sl 0 (.raw []) .nil ∧ H' = [clF f] ∧ R = []) ∨ (r = .msl 1 1 0 R.length ∧ H' = [clF f, arZ (So.sortZ R)])

section
variable (f : Fl)

theorem tk9 (o : List Int) (ho : o.length ≤ 1000) : AWP Try.prog 27 1 c103_9 [(3, .msl 1 1 0 o.length)] [clF f, arZ o] (q103_0 1 (PT f o)) := by
  refine v103_9m f o 1 _ ((So.sortZ_spec (l := o) (id := 1) (H := [clF f, arZ o]) rfl rfl (by omega)).mono fun r H' hh => .inr ⟨So.sortZ o, hh.1, hh.2, ?_⟩)
  have a := v103_10m f (So.sortZ o) 1 (PT f o)
  rw [sortZ_len] at a
  exact a (.inr ⟨rfl, rfl⟩)
theorem tk9n : AWP Try.prog 27 1 c103_9 [(3, .sl 0 (.raw []) .nil)] [clF f] (q103_0 1 (PT f [])) :=
  v103_9n f 1 _ (So.sortZ_nil.mono fun r H' hh => .inl ⟨(), hh.1, hh.2, v103_10n f 1 _ (.inl ⟨rfl, rfl, rfl⟩)⟩)

theorem tk4m : ∀ (m i : Nat) (o R : List Int), m + i = 8 → o.length ≤ i → R = o ++ tkF f.1 m i →
    AWP Try.prog 27 1 c103_4 [(3, .msl 1 1 0 o.length), (11, .agg (seats f)), (12, .int .i64 i)] [clF f, arZ o] (q103_2 1 (PT f R)) := by
  intro m
  induction m with
  | zero =>
    intro i o R hi ho hR
    simp only [tkF, List.append_nil] at hR
    have : i = 8 := by omega
    subst this hR
    exact v103_4m8 f R 1 _ (tk9 f R (by omega))
  | succ m ih =>
    intro i o R hi ho hR
    simp only [tkF] at hR
    have put : 0 < (f.1.getD i noSeat).1 → AWP Try.prog 27 1 c103_4 [(3, .msl 1 3 0 (o.length + 1)), (11, .agg (seats f)), (12, .int .i64 (i + 1 : Nat))]
        [clF f, .gone, .cells (encSe (f.1.getD i noSeat)), .arr 1 (.app (.map Ab.encI 0 o) (.raw [[.int .i64 (f.1.getD i noSeat).1]]))] (q103_2 1 (PT f R)) := by
      intro h
      rw [if_pos h] at hR
      have := ih (i + 1) (o ++ [(f.1.getD i noSeat).1]) R (by omega) (by simp; omega) (by rw [hR]; simp)
      rw [show (o ++ [(f.1.getD i noSeat).1]).length = o.length + 1 by simp] at this
      refine AWP.re (ReSt.arr (id := 3) (q := _) (q' := .map Ab.encI 0 (o ++ [(f.1.getD i noSeat).1])) rfl (by simp [Seq.toList]; rfl)) ?_
      exact AWP.shape [0, 3] [(3, .msl 1 1 0 (o.length + 1)), (11, .agg (seats f)), (12, .int .i64 (i + 1 : Nat))] [clF f, arZ (o ++ [(f.1.getD i noSeat).1])]
        ⟨by decide, rfl, by decide, fun j h => by match j, h with | 0, _ => rfl, fun j h => by match j, h with | 0, _ | 1, _ => exact .inl rfl⟩ ⟨rfl, Le.refl _, rfl, Le.refl _, rfl, Le.refl _, trivial⟩ this
    have skip : ¬ 0 < (f.1.getD i noSeat).1 → AWP Try.prog 27 1 c103_4 [(3, .msl 1 1 0 o.length), (11, .agg (seats f)), (12, .int .i64 (i + 1 : Nat))]
        [clF f, arZ o, .cells (encSe (f.1.getD i noSeat))] (q103_2 1 (PT f R)) := by
      intro h
      rw [if_neg h] at hR
      exact AWP.shape [0, 1] [(3, .msl 1 1 0 o.length), (11, .agg (seats f)), (12, .int .i64 (i + 1 : Nat))] [clF f, arZ o]
        ⟨by decide, rfl, by decide, fun j h => by match j, h with | 0, _ => rfl, fun j h => by match j, h with | 0, _ | 1, _ => exact .inl rfl⟩ ⟨rfl, Le.refl _, rfl, Le.refl _, rfl, Le.refl _, trivial⟩ (ih (i + 1) o R (by omega) (by omega) hR)
    have hc : i = 0 ∨ i = 1 ∨ i = 2 ∨ i = 3 ∨ i = 4 ∨ i = 5 ∨ i = 6 ∨ i = 7 := by omega
    rcases hc with rfl | rfl | rfl | rfl | rfl | rfl | rfl | rfl
    · exact v103_4m0 f o 1 _ (needJ (by omega) (condD (fun h => needJ ⟨rfl, by omega⟩ (put h)) fun h => skip h))
    · exact v103_4m1 f o 1 _ (needJ (by omega) (condD (fun h => needJ ⟨rfl, by omega⟩ (put h)) fun h => skip h))
    · exact v103_4m2 f o 1 _ (needJ (by omega) (condD (fun h => needJ ⟨rfl, by omega⟩ (put h)) fun h => skip h))
    · exact v103_4m3 f o 1 _ (needJ (by omega) (condD (fun h => needJ ⟨rfl, by omega⟩ (put h)) fun h => skip h))
    · exact v103_4m4 f o 1 _ (needJ (by omega) (condD (fun h => needJ ⟨rfl, by omega⟩ (put h)) fun h => skip h))
    · exact v103_4m5 f o 1 _ (needJ (by omega) (condD (fun h => needJ ⟨rfl, by omega⟩ (put h)) fun h => skip h))
    · exact v103_4m6 f o 1 _ (needJ (by omega) (condD (fun h => needJ ⟨rfl, by omega⟩ (put h)) fun h => skip h))
    · exact v103_4m7 f o 1 _ (needJ (by omega) (condD (fun h => needJ ⟨rfl, by omega⟩ (put h)) fun h => skip h))

theorem tk4n : ∀ (m i : Nat) (R : List Int), m + i = 8 → R = tkF f.1 m i →
    AWP Try.prog 27 1 c103_4 [(3, .sl 0 (.raw []) .nil), (11, .agg (seats f)), (12, .int .i64 i)] [clF f] (q103_2 1 (PT f R)) := by
  intro m
  induction m with
  | zero =>
    intro i R hi hR
    simp only [tkF] at hR
    have : i = 8 := by omega
    subst this hR
    exact v103_4n8 f 1 _ (tk9n f)
  | succ m ih =>
    intro i R hi hR
    simp only [tkF] at hR
    have put : 0 < (f.1.getD i noSeat).1 → AWP Try.prog 27 1 c103_4 [(3, .msl 1 2 0 1), (11, .agg (seats f)), (12, .int .i64 (i + 1 : Nat))]
        [clF f, .cells (encSe (f.1.getD i noSeat)), .arr 1 (.raw [[.int .i64 (f.1.getD i noSeat).1]])] (q103_2 1 (PT f R)) := by
      intro h
      rw [if_pos h] at hR
      have := tk4m f m (i + 1) [(f.1.getD i noSeat).1] R (by omega) (by simp) (by rw [hR]; rfl)
      refine AWP.re (ReSt.arr (id := 2) (q := _) (q' := .map Ab.encI 0 [(f.1.getD i noSeat).1]) rfl rfl) ?_
      exact AWP.shape [0, 2] [(3, .msl 1 1 0 1), (11, .agg (seats f)), (12, .int .i64 (i + 1 : Nat))] [clF f, arZ [(f.1.getD i noSeat).1]]
        ⟨by decide, rfl, by decide, fun j h => by match j, h with | 0, _ => rfl, fun j h => by match j, h with | 0, _ | 1, _ => exact .inl rfl⟩ ⟨rfl, Le.refl _, rfl, Le.refl _, rfl, Le.refl _, trivial⟩ this
    have skip : ¬ 0 < (f.1.getD i noSeat).1 → AWP Try.prog 27 1 c103_4 [(3, .sl 0 (.raw []) .nil), (11, .agg (seats f)), (12, .int .i64 (i + 1 : Nat))]
        [clF f, .cells (encSe (f.1.getD i noSeat))] (q103_2 1 (PT f R)) := by
      intro h
      rw [if_neg h] at hR
      exact AWP.shape [0] [(3, .sl 0 (.raw []) .nil), (11, .agg (seats f)), (12, .int .i64 (i + 1 : Nat))] [clF f]
        ⟨by decide, rfl, by decide, fun j h => by match j, h with | 0, _ => rfl, fun j h => by match j, h with | 0, _ => exact .inl rfl⟩ ⟨rfl, Le.refl _, rfl, Le.refl _, rfl, Le.refl _, trivial⟩ (ih (i + 1) R (by omega) hR)
    have hc : i = 0 ∨ i = 1 ∨ i = 2 ∨ i = 3 ∨ i = 4 ∨ i = 5 ∨ i = 6 ∨ i = 7 := by omega
    rcases hc with rfl | rfl | rfl | rfl | rfl | rfl | rfl | rfl
    · exact v103_4n0 f 1 _ (needJ (by omega) (condD (fun h => needJ (by omega) (needJ (by omega) (put h))) fun h => skip h))
    · exact v103_4n1 f 1 _ (needJ (by omega) (condD (fun h => needJ (by omega) (needJ (by omega) (put h))) fun h => skip h))
    · exact v103_4n2 f 1 _ (needJ (by omega) (condD (fun h => needJ (by omega) (needJ (by omega) (put h))) fun h => skip h))
    · exact v103_4n3 f 1 _ (needJ (by omega) (condD (fun h => needJ (by omega) (needJ (by omega) (put h))) fun h => skip h))
    · exact v103_4n4 f 1 _ (needJ (by omega) (condD (fun h => needJ (by omega) (needJ (by omega) (put h))) fun h => skip h))
    · exact v103_4n5 f 1 _ (needJ (by omega) (condD (fun h => needJ (by omega) (needJ (by omega) (put h))) fun h => skip h))
    · exact v103_4n6 f 1 _ (needJ (by omega) (condD (fun h => needJ (by omega) (needJ (by omega) (put h))) fun h => skip h))
    · exact v103_4n7 f 1 _ (needJ (by omega) (condD (fun h => needJ (by omega) (needJ (by omega) (put h))) fun h => skip h))
end

noncomputable abbrev slZ (l : List Int) : AV := .sl 1 (.map Ab.encI 0 l) .none

theorem tickets_spec (f : Fl) : ASpec Try.prog 103 [.ptr 0 0] [clF f] (fun r H' => r = slZ (ticketsM f) ∧ H' = [clF f]) := by
  have k : ASpec Try.prog 103 [.ptr 0 0] [clF f] (PT f (tkF f.1 8 0)) := s103m f _ (tk4n f 8 0 _ (by omega) rfl)
  refine ASpec.sel (ASpec.reEnd (k.mono fun r H' hh => ?_))
  have fin : ∀ (r : AV) (H' : List AObj), (∃ o, H' = [clF f] ++ o) → Le r (slZ (ticketsM f)) → ∃ l H2 r2, Sel 1 l H' H2 ∧ Le r (AV.ren (selR l H'.length) r2) ∧ r2 = slZ (ticketsM f) ∧ H2 = [clF f] := by
    intro r H' hH hl
    obtain ⟨o, rfl⟩ := hH
    refine ⟨[0], [clF f], slZ (ticketsM f), ⟨by decide, rfl, Nat.le_refl _, fun j h => by match j, h with | 0, _ => rfl, fun j h => by match j, h with | 0, _ => exact .inl rfl⟩, ?_, rfl, rfl⟩
    refine Le.trans hl (Le.sl (s' := Seq.ren _ (.map Ab.encI 0 (ticketsM f))) ?_ (.inl rfl) (.inl rfl))
    simp only [Seq.ren, Seq.toList, List.map_map]
    exact List.map_congr_left fun x _ => rfl
  rcases hh with ⟨e1, e2, e3⟩ | ⟨e1, e2⟩
  · subst e1 e2
    refine ⟨_, _, ReSt.refl _ _, fin _ _ ⟨[], rfl⟩ ?_⟩
    have : ticketsM f = [] := by unfold ticketsM; rw [e3]; simp [So.sortZ]
    rw [this]
    exact Le.sl rfl (.inr ⟨rfl, fun _ h => by cases h⟩) (.inr rfl)
  · subst e1 e2
    have el : (So.sortZ (tkF f.1 8 0)).length = (tkF f.1 8 0).length := sortZ_len _
    exact ⟨_, _, ReSt.freeze1 (id := 1) (q' := .map Ab.encI 0 (ticketsM f)) rfl (Nat.le_succ 1) (by simp [Seq.toList, el]) (by
      simp only [Seq.toList]; rw [List.take_of_length_le (by simp [el])]; rfl), fin _ _ ⟨[.gone], rfl⟩ (Le.refl _)⟩

theorem len_spec (f : Fl) : ASpec Try.prog 100 [.ptr 0 0] [clF f] (fun r H' => r = .int .i64 (tkF f.1 8 0).length ∧ H' = [clF f]) :=
  s100m f _ ((tickets_spec f).mono fun r H' hh => ⟨_, hh.1, hh.2, by rw [ticketsM, sortZ_len], rfl⟩)

/-! ### a new one; too much -/

abbrev newF (w : Int) : Fl := ([noSeat, noSeat, noSeat, noSeat, noSeat, noSeat, noSeat, noSeat], w, 0)
theorem new_spec {w : Int} (h1 : 1 ≤ w) (h8 : w ≤ 8) (H : List AObj) : ASpec Try.prog 96 [.int .i64 w] H (fun r H' => r = .ptr H.length 0 ∧ H' = H ++ [clF (newF w)]) := by
  have k : ASpec Try.prog 96 [.int .i64 w] [] (fun r H' => r = .ptr 0 0 ∧ H' = [clF (newF w)]) := s96 w _ (condD (fun h => by omega) fun _ => condD (fun h => by omega) fun _ => ⟨rfl, rfl⟩)
  exact ASpec.subH [] H _ k _ _ (by simp) rfl rfl rfl (fun i h => by simp at h) rfl
noncomputable abbrev slD (l : List T.Fd) : AV := .sl 3 (.map encFd noFd l) .none
def skipF : List T.Fd → Bool
  | [] => false
  | x :: r => if 60 < x.2.2.length then true else skipF r
def skipM (l : List T.Fd) : Bool := if 150 < l.length then true else skipF l
theorem skip4 {l : List T.Fd} {c : Bool} (hl : l.length ≤ 1000) : ∀ (m i : Nat), m + i = l.length → skipF (l.drop i) = c →
    AWP Try.prog 20 0 c94_4 [(0, slD l), (3, .int .i64 i)] [] (q94_2 0 (PB c)) := by
  intro m
  induction m with
  | zero =>
    intro i hm h
    refine v94_4 _ _ _ _ (condD (fun hc => by omega) fun _ => pb ?_)
    rw [List.drop_eq_nil_of_le (by omega)] at h
    exact h
  | succ m ih =>
    intro i hm h
    rw [dropD l noFd i (by omega)] at h
    simp only [skipF] at h
    refine v94_4 _ _ _ _ (condD (fun hc => needJ ⟨by omega, by omega⟩ ?_) fun hc => by omega)
    rw [Int.toNat_natCast]
    generalize l.getD i noFd = x at h ⊢
    rw [B_size]
    refine condD (fun h1 => pb ?_) fun h1 => ?_
    · rw [if_pos (by omega)] at h; exact h
    · rw [if_neg (by omega)] at h
      rw [succ64 (by omega)]
      exact ih (i + 1) (by omega) h
theorem skip_spec (l : List T.Fd) (H : List AObj) : ASpec Try.prog 94 [slD l] H (fun r H' => r = .bool (skipM l) ∧ H' = H) := by
  have k : ASpec Try.prog 94 [slD l] [] (fun r H' => r = .bool (skipM l) ∧ H' = []) := by
    refine ASpec.sel (s94 _ _ (condD (fun h => pb ?_) fun h => skip4 (by omega) l.length 0 (by omega) ?_))
    · rw [skipM, if_pos (by omega)]
    · rw [skipM, if_neg (by omega)]; rfl
  exact ASpec.pureH H k _ _ rfl rfl
theorem skipM_ok {l : List T.Fd} (h : skipM l = false) : l.length ≤ 150 := by
  unfold skipM at h
  split at h
  · cases h
  · omega
end Fg
end

section
/- FlightOnce: the law: it returns true. -/

set_option linter.unusedVariables false
set_option linter.unusedSimpArgs false
set_option maxRecDepth 100000
open Go Go.Ab Go.Proofs V S T C
open E (PA pa)
open Fy
namespace Fg

/-! ### plain -/

theorem startM_cases (f : Fl) (s : Nm) (ho : okF f) : (startM f s = ((0, false), f)) ∨
    ∃ k : Nat, findM freeP f = k ∧ hasM f s = false ∧ k < 8 ∧ freeP (f.1.getD k noSeat) = true ∧ startM f s = ((f.2.2 + 1, true), (f.1.set k (f.2.2 + 1, s), f.2.1, f.2.2 + 1)) := by
  unfold startM
  split
  · exact .inl rfl
  · rename_i h
    rcases findM_is freeP ho with e | ⟨k, e, e8, ek⟩
    · exact absurd (.inl (by omega)) h
    · refine .inr ⟨k, e, ?_, e8, ek, by rw [e, Int.toNat_natCast]⟩
      cases hx : hasM f s with
      | false => rfl
      | true => exact absurd (.inr hx) h
theorem endM_cases (f : Fl) (t : Int) (ho : okF f) : (findM (byP t) f = -1 ∧ endM f t = (([], false), f)) ∨
    ∃ k : Nat, findM (byP t) f = k ∧ k < 8 ∧ byP t (f.1.getD k noSeat) = true ∧ endM f t = (((f.1.getD k noSeat).2, true), (f.1.set k noSeat, f.2.1, f.2.2)) := by
  unfold endM
  rcases findM_is (byP t) ho with e | ⟨k, e, e8, ek⟩
  · exact .inl ⟨e, by rw [if_pos (by omega)]⟩
  · exact .inr ⟨k, e, e8, ek, by rw [if_neg (by omega), e, Int.toNat_natCast]⟩

theorem fnd_lt (p : Seat → Bool) (S : List Seat) : ∀ (m i k : Nat), i ≤ k → k < i + m → p (S.getD k noSeat) = true → 0 ≤ fnd p S m i
  | 0, i, k, h1, h2, _ => by omega
  | m + 1, i, k, h1, h2, h => by
    simp only [fnd]
    split
    · omega
    · rename_i hn
      by_cases e : k = i
      · subst e; exact absurd h hn
      · exact fnd_lt p S m (i + 1) k (by omega) (by omega) h
theorem fnd_top (p : Seat → Bool) (S : List Seat) {m i k : Nat} (h : fnd p S m i = k) : k < i + m := by
  rcases fnd_is p S m i with e | ⟨j, e, _, e2, _⟩ <;> omega

abbrev tk (f : Fl) (k : Nat) : Int := (f.1.getD k noSeat).1

structure Inv (w : Nat) (f : Fl) (g : List Nm) (e : List Bool) : Prop where
  len : f.1.length = 8
  gl : 1 ≤ g.length
  win : f.2.1 = w
  w1 : 1 ≤ w
  w8 : w ≤ 8
  giv : f.2.2 + 1 = g.length
  el : e.length = g.length
  far : ∀ k, w ≤ k → tk f k = 0
  pos : ∀ k, 0 ≤ tk f k
  seat : ∀ k, 0 < tk f k → ∃ t : Nat, tk f k = t ∧ t < g.length ∧ e.getD t false = false ∧ g.getD t [] = (f.1.getD k noSeat).2
  open' : ∀ t : Nat, t < g.length → e.getD t false = false → 0 < t ∧ ∃ k, k < w ∧ tk f k = t
  one : ∀ j k, 0 < tk f j → tk f j = tk f k → j = k

theorem Inv.ok {w f g e} (h : Inv w f g e) (hg : g.length ≤ 100000) : okF f := by
  have h1 := h.win; have h2 := h.w1; have h3 := h.w8; have h4 := h.giv; have h5 := h.gl
  exact ⟨h.len, by omega, by omega, by omega, by omega⟩

theorem gset (S : List Seat) (k j : Nat) (x : Seat) (hk : k < S.length) : (S.set k x).getD j noSeat = if j = k then x else S.getD j noSeat := by
  rw [List.getD_eq_getElem?_getD]
  by_cases e : j = k
  · subst e; rw [List.getElem?_set_self hk, if_pos rfl]; rfl
  · rw [List.getElem?_set_ne (fun h => e h.symm), if_neg e, ← List.getD_eq_getElem?_getD]
theorem gapp {α : Type} (l : List α) (x d : α) (j : Nat) : (l ++ [x]).getD j d = if j = l.length then x else l.getD j d := by
  rw [List.getD_eq_getElem?_getD, List.getD_eq_getElem?_getD]
  by_cases e : j = l.length
  · subst e; rw [if_pos rfl]; simp
  · rw [if_neg e]
    by_cases h : j < l.length
    · rw [List.getElem?_append_left h]
    · rw [List.getElem?_eq_none (by simp; omega), List.getElem?_eq_none (by omega)]

theorem Inv.start {w f g e} (h : Inv w f g e) {k : Nat} {s : Nm} (hk : k < w) (hf : tk f k = 0) : Inv w (f.1.set k (f.2.2 + 1, s), f.2.1, f.2.2 + 1) (g ++ [s]) (e ++ [false]) := by
  have hl := h.len; have h8 := h.w8; have hg := h.giv; have hgl := h.gl; have hel := h.el
  have ht : ∀ j, tk (f.1.set k (f.2.2 + 1, s), f.2.1, f.2.2 + 1) j = if j = k then f.2.2 + 1 else tk f j := fun j => by
    show ((f.1.set k (f.2.2 + 1, s)).getD j noSeat).1 = _
    rw [gset _ _ _ _ (by omega)]; split <;> rfl
  refine ⟨by simp [hl], by simp, h.win, h.w1, h.w8, by simp; omega, by simp [hel], fun j hj => ?_, fun j => ?_, fun j hj => ?_, fun t h1 h2 => ?_, fun i j hi he => ?_⟩
  · rw [ht, if_neg (by omega)]; exact h.far j hj
  · rw [ht]; split
    · omega
    · exact h.pos j
  · rw [ht] at hj ⊢
    by_cases e' : j = k
    · rw [if_pos e']
      refine ⟨g.length, hg, by simp, by rw [gapp, if_pos hel.symm], ?_⟩
      rw [gapp, if_pos rfl]
      show s = ((f.1.set k (f.2.2 + 1, s)).getD j noSeat).2
      rw [gset _ _ _ _ (by omega), if_pos e']
    · rw [if_neg e'] at hj ⊢
      obtain ⟨t, a, b, c, d⟩ := h.seat j hj
      refine ⟨t, a, by simp; omega, by rw [gapp, if_neg (by omega)]; exact c, ?_⟩
      rw [gapp, if_neg (by omega), d]
      show _ = ((f.1.set k (f.2.2 + 1, s)).getD j noSeat).2
      rw [gset _ _ _ _ (by omega), if_neg e']
  · by_cases e' : t = g.length
    · refine ⟨by omega, k, hk, ?_⟩
      rw [ht, if_pos rfl]; omega
    · rw [gapp, if_neg (by omega)] at h2
      have hlt : t < g.length := by simp at h1; omega
      obtain ⟨h0, j, hj, hjt⟩ := h.open' t hlt h2
      refine ⟨h0, j, hj, ?_⟩
      rw [ht, if_neg (by rintro rfl; omega)]; exact hjt
  · rw [ht] at hi
    rw [ht, ht] at he
    by_cases e1 : i = k <;> by_cases e2 : j = k
    · rw [e1, e2]
    · rw [if_pos e1, if_neg e2] at he
      obtain ⟨t, a, b, _⟩ := h.seat j (by omega)
      omega
    · rw [if_neg e1, if_pos e2] at he
      rw [if_neg e1] at hi
      obtain ⟨t, a, b, _⟩ := h.seat i hi
      omega
    · rw [if_neg e1] at hi
      rw [if_neg e1, if_neg e2] at he
      exact h.one i j hi he

theorem eset (l : List Bool) (k j : Nat) (b : Bool) (hk : k < l.length) : (l.set k b).getD j false = if j = k then b else l.getD j false := by
  rw [List.getD_eq_getElem?_getD]
  by_cases e : j = k
  · subst e; rw [List.getElem?_set_self hk, if_pos rfl]; rfl
  · rw [List.getElem?_set_ne (fun h => e h.symm), if_neg e, ← List.getD_eq_getElem?_getD]

theorem Inv.finish {w f g e} (h : Inv w f g e) {k t : Nat} (hk : tk f k = t) (ht0 : 0 < t) (hk8 : k < 8) : Inv w (f.1.set k noSeat, f.2.1, f.2.2) g (e.set t true) := by
  have hl := h.len; have hel := h.el
  obtain ⟨t', a, b, _⟩ := h.seat k (by omega)
  have htl : t < e.length := by omega
  have ht : ∀ j, tk (f.1.set k noSeat, f.2.1, f.2.2) j = if j = k then 0 else tk f j := fun j => by
    show ((f.1.set k noSeat).getD j noSeat).1 = _
    rw [gset _ _ _ _ (by omega)]; split <;> rfl
  refine ⟨by simp [hl], h.gl, h.win, h.w1, h.w8, h.giv, by simp [hel], fun j hj => ?_, fun j => ?_, fun j hj => ?_, fun t2 h1 h2 => ?_, fun i j hi he => ?_⟩
  · rw [ht]; split
    · rfl
    · exact h.far j hj
  · rw [ht]; split
    · omega
    · exact h.pos j
  · rw [ht] at hj ⊢
    by_cases e' : j = k
    · rw [if_pos e'] at hj; omega
    · rw [if_neg e'] at hj ⊢
      obtain ⟨t2, a2, b2, c2, d2⟩ := h.seat j hj
      refine ⟨t2, a2, b2, ?_, ?_⟩
      · rw [eset _ _ _ _ htl, if_neg]
        · exact c2
        · rintro rfl; exact e' (h.one j k hj (by omega))
      · rw [d2]
        show _ = ((f.1.set k noSeat).getD j noSeat).2
        rw [gset _ _ _ _ (by omega), if_neg e']
  · rw [eset _ _ _ _ htl] at h2
    by_cases e' : t2 = t
    · rw [if_pos e'] at h2; cases h2
    · rw [if_neg e'] at h2
      obtain ⟨h0, j, hj, hjt⟩ := h.open' t2 h1 h2
      refine ⟨h0, j, hj, ?_⟩
      rw [ht, if_neg (by rintro rfl; omega)]; exact hjt
  · rw [ht] at hi
    rw [ht, ht] at he
    by_cases e1 : i = k
    · rw [if_pos e1] at hi; omega
    · rw [if_neg e1] at hi he
      by_cases e2 : j = k
      · rw [if_pos e2] at he; omega
      · rw [if_neg e2] at he; exact h.one i j hi he

theorem tkF_far {S : List Seat} {w : Nat} (h : ∀ k, w ≤ k → (S.getD k noSeat).1 = 0) : ∀ (m i : Nat), (tkF S m i).length ≤ w - i
  | 0, i => Nat.zero_le _
  | m + 1, i => by
    have := tkF_far h m (i + 1)
    simp only [tkF]
    split
    · rename_i hp
      have : ¬ w ≤ i := fun hw => by have := h i hw; omega
      simp only [List.length_cons]; omega
    · omega

/-! ### the example -/

theorem liftF {fn : FuncId} {args : List AV} {r0 : AV} {f f' : Fl} (o : List AObj) (k : ASpec Try.prog fn (.ptr 0 0 :: args) [clF f] (fun r H' => r = r0 ∧ H' = [clF f']))
    (ha : ∀ ρ : Nat → Nat, args.map (AV.ren ρ) = args) (hr : ∀ ρ : Nat → Nat, AV.ren ρ r0 = r0) : ASpec Try.prog fn (.ptr 0 0 :: args) (clF f :: o) (fun r H' => r = r0 ∧ H' = clF f' :: o) :=
  ASpec.subH [0] (clF f :: o) (clF f' :: o) k _ _ (by decide) rfl (by rw [List.map_cons, ha]; rfl) (hr _) (fun i h => by
    have : i = 0 := by simpa using h
    subst this; rfl) (by show (clF f' :: o) ++ [] = _; rw [List.append_nil])

def f1 : Fl := (startM (newF 1) [97]).2
def f2 : Fl := (endM f1 1).2
def f3 : Fl := (startM f2 [98]).2
theorem s1 : startM (newF 1) [97] = ((1, true), f1) := by decide
theorem s2 : startM f1 [98] = ((0, false), f1) := by decide
theorem s3 : endM f1 1 = (([97], true), f2) := by decide
theorem s4 : startM f2 [98] = ((2, true), f3) := by decide
theorem s5 : endM f3 1 = (([], false), f3) := by decide
theorem ok0 : okF (newF 1) := by unfold okF; decide
theorem ok1 : okF f1 := by unfold okF; decide
theorem ok2 : okF f2 := by unfold okF; decide
theorem ok3 : okF f3 := by unfold okF; decide

theorem awake_spec (H : List AObj) : ASpec Try.prog 95 [] H (fun r H' => r = .bool true ∧ H' = H) := by
  have k : ASpec Try.prog 95 [] [] (PB true) := by
    refine s95 _ ((new_spec (w := 1) (by omega) (by omega) []).mono fun r H' hh => .inr ⟨newF 1, hh.1, hh.2, ?_⟩)
    refine v95_2 _ _ _ ((start_spec ok0 [97]).mono fun r H' hh => .inr ⟨((1, true), f1), by rw [hh.1, s1], by rw [hh.2, s1], ?_⟩)
    refine v95_3 _ _ _ _ _ ((start_spec ok1 [98]).mono fun r H' hh => .inr ⟨((0, false), f1), by rw [hh.1, s2], by rw [hh.2, s2], ?_⟩)
    refine v95_4 _ _ _ _ _ _ ((end_spec ok1 1).mono fun r H' hh => .inr ⟨(([97], true), f2), by rw [hh.1, s3], by rw [hh.2, s3], ?_⟩)
    refine v95_5 _ _ _ _ _ _ _ _ ((start_spec ok2 [98]).mono fun r H' hh => .inr ⟨((2, true), f3), by rw [hh.1, s4], by rw [hh.2, s4], ?_⟩)
    refine v95_6 _ _ _ _ _ _ _ _ _ _ ((end_spec ok3 1).mono fun r H' hh => .inr ⟨(([], false), f3), by rw [hh.1, s5], by rw [hh.2, s5], ?_⟩)
    refine AWP.shape [] [(2, .int .i64 1), (3, .bool true), (5, .bool false), (6, .str (B [97])), (7, .bool true), (8, .int .i64 2), (9, .bool true), (11, .bool false)] [] Sel.none
      ⟨rfl, Le.refl _, rfl, Le.refl _, rfl, Le.refl _, rfl, Le.refl _, rfl, Le.refl _, rfl, Le.refl _, rfl, Le.refl _, rfl, Le.refl _, trivial⟩ ?_
    exact v95_7 1 true false [97] true 2 true false 0 _ (condE (fun _ => condB (fun _ => condBn (fun _ => condS (a := [97]) (b := [97]) (fun _ => condB (fun _ => condE (fun _ => condB (fun _ => pb rfl) fun h => by cases h) fun h => (h rfl).elim) fun h => by cases h) fun h => (h rfl).elim) fun h => by cases h) fun h => by cases h) fun h => (h rfl).elim)
  exact ASpec.pureH (r0 := .bool true) H (ASpec.sel k) _ _ rfl rfl
/-! ### the law -/

noncomputable abbrev arE (e : List Bool) : AObj := .arr 1 (.map encBo1 false e)
noncomputable abbrev slG (g : List Nm) : AV := .sl 1 (.map encL [] g) (.tok 1)

theorem end12 {w : Nat} {f : Fl} {g : List Nm} {e : List Bool} (h : Inv w f g e) (hg : g.length ≤ 1000) : AWP Try.prog 159 0 c12_23 [(0, .int .i64 w), (5, .ptr 0 0)] [clF f, .tok, arE e] (q12_0 0 (PB true)) := by
  refine AWP.shape [0] [(0, .int .i64 w), (5, .ptr 0 0)] [clF f] (Sel.mk0 (by decide) ⟨rfl, trivial⟩) ⟨rfl, Le.refl _, rfl, Le.refl _, trivial⟩ ?_
  refine v12_23 _ _ _ _ ((len_spec f).mono fun r H' hh => ⟨_, hh.1, hh.2, condD (fun _ => ASpec.call (awake_spec _) (Les.refl _) ⟨(), rfl, rfl, pb rfl⟩) fun hn => ?_⟩)
  have := tkF_far (S := f.1) h.far 8 0
  exact absurd (by omega) hn

theorem loop12 {w : Nat} {l : List T.Fd} (hl : l.length ≤ 150) : ∀ (m i : Nat) (f : Fl) (g : List Nm) (e : List Bool), m + i = l.length → Inv w f g e → g.length ≤ i + 1 →
    AWP Try.prog 159 0 c12_7 [(0, .int .i64 w), (1, slD l), (5, .ptr 0 0), (6, slG g), (7, .msl 1 2 0 e.length), (8, .int .i64 i)] [clF f, .tok, arE e] (q12_2 0 (PB true)) := by
  intro m
  induction m with
  | zero =>
    intro i f g e hm h hg
    exact v12_7 _ _ _ _ _ _ _ _ (condD (fun hc => by omega) fun _ => end12 h (by omega))
  | succ m ih =>
    intro i f g e hm h hg
    have hok := h.ok (by omega)
    have hgiv := h.giv; have hel := h.el
    refine v12_7 _ _ _ _ _ _ _ _ (condD (fun _ => needJ ⟨by omega, by omega⟩ (condBn (fun _ => needJ ⟨by omega, by omega⟩ ?_) fun _ => ?_)) fun hc => by omega)
    · -- a start
      rw [Int.toNat_natCast]
      refine (liftF [.tok, arE e] (has_spec hok (l.getD i noFd).2.2) (fun _ => rfl) (fun _ => rfl)).mono fun r H' hh => ⟨_, hh.1, hh.2, ?_⟩
      refine v12_11 _ _ _ _ _ _ _ _ _ (needJ ⟨by omega, by omega⟩ ?_)
      rw [Int.toNat_natCast]
      refine (liftF [.tok, arE e] (start_spec hok (l.getD i noFd).2.2) (fun _ => rfl) (fun _ => rfl)).mono fun r H' hh => .inr ⟨startM f (l.getD i noFd).2.2, hh.1, hh.2, ?_⟩
      have hfn := fun k (hk : findM freeP f = ((k : Nat) : Int)) => fnd_top freeP f.1 hk
      have hwin := h.win
      rcases startM_cases f (l.getD i noFd).2.2 hok with he | ⟨k, hk, hb, _, hfree, he⟩
      · rw [he]
        refine v12_12 _ _ _ _ _ _ _ _ _ _ _ (condB (fun h => by cases h) fun _ => v12_14 _ _ _ _ _ _ _ _ _ (condB (fun h => by cases h) fun _ => ?_))
        rw [succ64 (by omega)]
        exact ih (i + 1) f g e (by omega) h (by omega)
      · rw [he]
        have hkw : k < w := by have := hfn k hk; omega
        have h0 : tk f k = 0 := beq_iff_eq.1 (show (tk f k == 0) = true from hfree)
        have hI := h.start (s := (l.getD i noFd).2.2) hkw h0
        refine v12_12 _ _ _ _ _ _ _ _ _ _ _ (condB (fun _ => condB (fun hx => by rw [hb] at hx; cases hx) fun _ => condNe (fun hne => absurd hgiv hne) fun _ => ?_) fun h => by cases h)
        refine v12_14 _ _ _ _ _ _ _ _ _ (condB (fun _ => needJ ⟨by omega, by omega⟩ (needJ (by omega) (needJ ⟨rfl, by omega⟩ ?_))) fun h => by cases h)
        rw [succ64 (by omega), Int.toNat_natCast]
        have := ih (i + 1) _ _ _ (by omega) hI (by simp; omega)
        rw [show (e ++ [false]).length = e.length + 1 by simp] at this
        refine AWP.re (ReSt.arr (id := 4) (q := _) (q' := .map encBo1 false (e ++ [false])) rfl (by simp [Seq.toList]; rfl)) ?_
        exact AWP.shape [0, 3, 4] [(0, .int .i64 w), (1, slD l), (5, .ptr 0 0), (6, slG (g ++ [(l.getD i noFd).2.2])), (7, .msl 1 2 0 (e.length + 1)), (8, .int .i64 (i + 1 : Nat))]
          [clF (f.1.set k (f.2.2 + 1, (l.getD i noFd).2.2), f.2.1, f.2.2 + 1), .tok, arE (e ++ [false])] (Sel.mk0 (by decide) ⟨rfl, rfl, rfl, trivial⟩)
          ⟨rfl, Le.refl _, rfl, Le.sl (s' := Seq.ren _ (.map encFd noFd l)) (by simp only [Seq.ren, Seq.toList, List.map_map]; exact List.map_congr_left fun x _ => rfl) (.inl rfl) (.inl rfl), rfl, Le.refl _, rfl, leAppE (Les.refl _), rfl, Le.refl _, rfl, Le.refl _, trivial⟩ this
    · -- an end
      refine v12_17 _ _ _ _ _ _ _ _ (needJ ⟨by omega, by omega⟩ ?_)
      rw [Int.toNat_natCast]
      refine (liftF [.tok, arE e] (end_spec hok (l.getD i noFd).2.1) (fun _ => rfl) (fun _ => rfl)).mono fun r H' hh => .inr ⟨endM f (l.getD i noFd).2.1, hh.1, hh.2, ?_⟩
      have hwin := h.win
      generalize ht : (l.getD i noFd).2.1 = t
      rcases endM_cases f t hok with ⟨hk, he⟩ | ⟨k, hk, hk8, hby, he⟩
      · -- no such ticket
        rw [he]
        have hno : ∀ n : Nat, t = n → 0 < n → n < g.length → e.getD n false = true := by
          intro n hn h0 hlt
          cases hx : e.getD n false with
          | true => rfl
          | false =>
            obtain ⟨_, j, hj, hjt⟩ := h.open' n hlt hx
            have := fnd_lt (byP t) f.1 f.2.1.toNat 0 j (Nat.zero_le _) (by omega) (by simp only [byP, Bool.and_eq_true, decide_eq_true_eq, beq_iff_eq]; exact ⟨by show 0 < tk f j; omega, by show tk f j = t; omega⟩)
            unfold findM at hk
            omega
        have fin : AWP Try.prog 159 0 c12_19 [(0, .int .i64 w), (1, slD l), (5, .ptr 0 0), (6, slG g), (7, .msl 1 2 0 e.length), (8, .int .i64 i), (12, .str (B [])), (13, .bool false), (14, .bool false)] [clF f, .tok, arE e] (q12_5 0 (PB true)) := by
          refine v12_19 w l f g e i [] false false 0 _ (condBn (fun h => by cases h) fun _ => condB (fun h => by cases h) fun _ => condBn (fun _ => condSn (a := []) (b := []) (fun h => (h rfl).elim) fun _ => ?_) fun h => by cases h)
          refine v12_21 _ _ _ _ _ _ _ _ _ (condB (fun h => by cases h) fun _ => ?_)
          rw [succ64 (by omega)]
          exact ih (i + 1) f g e (by omega) h (by omega)
        refine v12_18 w l f g e i [] false 0 _ (needJ ⟨by omega, by omega⟩ ?_)
        rw [Int.toNat_natCast, ht]
        refine condD (fun h0 => needJ ⟨by omega, by omega⟩ (condD (fun hlt => needJ ⟨by omega, by omega⟩ (needJ ⟨by omega, by omega⟩ (needJ (by omega) ?_))) fun _ => fin)) fun _ => fin
        have := hno t.toNat (by omega) (by omega) (by omega)
        rw [Nat.zero_add, this]
        exact fin
      · -- a ticket
        rw [he]
        have h1 : 0 < tk f k ∧ tk f k = t := by
          have := Bool.and_eq_true_iff.1 (show (decide (0 < tk f k) && tk f k == t) = true from hby)
          exact ⟨of_decide_eq_true this.1, beq_iff_eq.1 this.2⟩
        obtain ⟨n, a, b, c, d⟩ := h.seat k h1.1
        have htn : t = n := by omega
        have hI := h.finish (k := k) (t := n) a (by omega) hk8
        refine v12_18 w l (f.1.set k noSeat, f.2.1, f.2.2) g e i (f.1.getD k noSeat).2 true 0 _ (needJ ⟨by omega, by omega⟩ ?_)
        rw [Int.toNat_natCast, ht]
        refine condD (fun h0 => needJ ⟨by omega, by omega⟩ (condD (fun hlt => needJ ⟨by omega, by omega⟩ (needJ ⟨by omega, by omega⟩ (needJ (by omega) ?_))) fun hn => by omega)) fun hn => by omega
        rw [show (0 + t.toNat) = n by omega, c]
        refine v12_19 w l (f.1.set k noSeat, f.2.1, f.2.2) g e i (f.1.getD k noSeat).2 true true 0 _ (condBn (fun h => by cases h) fun _ => condB (fun _ => needJ ⟨by omega, by omega⟩ ?_) fun h => by cases h)
        rw [Int.toNat_natCast, ht]
        refine needJ ⟨by omega, by omega⟩ ?_
        rw [show t.toNat = n by omega, d]
        refine condSn (fun h => (h rfl).elim) fun _ => condBn (fun h => by cases h) fun _ => ?_
        refine v12_21 w l (f.1.set k noSeat, f.2.1, f.2.2) g e i true 0 _ (condB (fun _ => needJ ⟨by omega, by omega⟩ ?_) fun h => by cases h)
        rw [Int.toNat_natCast, ht]
        refine needJ ⟨by omega, by omega⟩ (needJ (by omega) ?_)
        rw [show (0 + t.toNat) = n by omega, succ64 (by omega)]
        have := ih (i + 1) _ _ _ (by omega) hI (by omega)
        rw [List.length_set] at this
        exact AWP.re (ReSt.arr (id := 2) (q := _) (q' := .map encBo1 false (e.set n true)) rfl (by simp only [Seq.toList, List.map_set]; rfl)) this

theorem flightOnce_spec (w : Int) (l : List T.Fd) (H : List AObj) : ASpec Try.prog 12 [.int .i64 w, slD l] H (fun r H' => r = .bool true ∧ H' = H) := by
  have k : ASpec Try.prog 12 [.int .i64 w, slD l] [] (PB true) := by
    have aw : ∀ (H' : List AObj), ASpec Try.prog 95 [] H' (fun r H'' => r = .bool true ∧ H'' = H') := awake_spec
    refine s12 _ _ _ (ASpec.call (skip_spec l _) (Les.refl _) ⟨_, rfl, rfl, condB (fun _ => ASpec.call (aw _) (Les.refl _) ⟨(), rfl, rfl, pb rfl⟩) fun hs => condD (fun _ => ASpec.call (aw _) (Les.refl _) ⟨(), rfl, rfl, pb rfl⟩) fun h1 => condD (fun _ => ASpec.call (aw _) (Les.refl _) ⟨(), rfl, rfl, pb rfl⟩) fun h8 => ?_⟩)
    have hl := skipM_ok hs
    refine (new_spec (w := w) (by omega) (by omega) []).mono fun r H' hh => .inr ⟨newF w, hh.1, hh.2, ?_⟩
    refine v12_4 _ _ _ _ _ ?_
    obtain ⟨n, rfl⟩ := Int.eq_ofNat_of_zero_le (show 0 ≤ w by omega)
    have hz : ∀ k, tk (newF n) k = 0 := by
      intro k
      show (([noSeat, noSeat, noSeat, noSeat, noSeat, noSeat, noSeat, noSeat] : List Seat).getD k noSeat).1 = 0
      match k with
      | 0 | 1 | 2 | 3 | 4 | 5 | 6 | 7 => rfl
      | k + 8 => rfl
    have hI : Inv n (newF n) [[]] [true] := by
      refine ⟨rfl, by simp, rfl, by omega, by omega, rfl, rfl, fun k _ => hz k, fun k => by rw [hz]; omega, fun k hk => by rw [hz] at hk; omega, fun t ht he => ?_, fun j k hj => by rw [hz] at hj; omega⟩
      have : t = 0 := by simpa using ht
      subst this; cases he
    have := loop12 (w := n) hl l.length 0 _ _ _ (by omega) hI (by simp)
    refine AWP.re (ReSt.tok (k := 6) (q' := .map encL [] [[]]) (sz' := 1) (s2 := [(0, .int .i64 n), (1, slD l), (5, .ptr 0 0), (6, .sl 1 (.map encL [] [[]]) (.tok 2)), (7, .msl 1 1 0 1), (8, .int .i64 (0 : Nat))]) rfl (.inr rfl) rfl (.inl rfl) (fun d hd => ?_) rfl) ?_
    · simp only [Ab.get]
      have e : Nat.beq 6 d = false := by
        cases hx : Nat.beq 6 d with
        | false => rfl
        | true => exact absurd (Nat.eq_of_beq_eq_true hx).symm hd
      rw [e]; rfl
    · refine AWP.re (ReSt.arr (id := 1) (q := _) (q' := .map encBo1 false [true]) rfl rfl) ?_
      exact AWP.shape [0, 2, 1] [(0, .int .i64 n), (1, slD l), (5, .ptr 0 0), (6, slG [[]]), (7, .msl 1 2 0 1), (8, .int .i64 (0 : Nat))] [clF (newF n), .tok, arE [true]] (Sel.mk0 (by decide) ⟨rfl, rfl, rfl, trivial⟩)
        ⟨rfl, Le.refl _, rfl, Le.sl (s' := Seq.ren _ (.map encFd noFd l)) (by simp only [Seq.ren, Seq.toList, List.map_map]; exact List.map_congr_left fun x _ => rfl) (.inl rfl) (.inl rfl), rfl, Le.refl _, rfl, Le.refl _, rfl, Le.refl _, rfl, Le.refl _, trivial⟩ this
  exact ASpec.pureH (r0 := .bool true) H (ASpec.sel k) _ _ rfl rfl
end Fg
end
