/- Q7: several of this proof's own texts, one behind the other: what each proves stands at its head. -/
import Derived.Shelf.LaysM
import Derived.Shelf.Strconv.Itoa3
import Derived.Shelf.Strings.OnBuilder
import Derived.Test.YtbjcdgepclmmjaaDoorProg
import Derived.Test.YtbjcdgepclmmjaaDoorQ6
import Derived.Test.YtbjcdgepclmmjaaDoorA3
import Derived.Test.YtbjcdgepclmmjaaDoorQ5
import Derived.Shelf.Strings.Cut
import Derived.Shelf.Strings.Split
import Derived.Test.YtbjcdgepclmmjaaDoorRows
import Derived.ProofKit
import Derived.LaidMore
import Derived.Lay
import Derived.HandedShaped
import Derived.OpenShut
import Derived.Stop.Joined
import Derived.Stop.LaidErr
import Derived.Lib.LaidTab
import Derived.Lib.ItoaNum
section
/-
  DERIVED: THE SHELF's CONTRACTS AT THIS DUMP, IN PLAIN WORDS (tools/lay-plain.mjs out of 'PShelf.lean', which tools/lay-shelf.mjs wrote): THE SAME DECLARATIONS UNDER THE SAME NAMES: 'import', 'namespace', 'open', 'def', 'theorem' AND NOTHING ELSE: no command of the shelf's: FOR A HAND-IN. Each laying: the table of numbers ('.._ren') and one theorem, a field a fact of the dump's own or the kernel's comparison; each contract: ONE APPLICATION.
-/

namespace Go.Proofs
open Go.Shelf
def Tryd.lays156_ren : Go.Shelf.Ren := ⟨fun | 156 => 55 | 165 => 73 | 166 => 74 | 169 => 75 | 240 => 92 | 241 => 93 | 276 => 103 | 277 => 104 | n => n, fun | 31 => 63 | 9 => 9 | 3 => 3 | 4 => 4 | 0 => 0 | 20 => 20 | 72 => 87 | 76 => 91 | 70 => 84 | 37 => 85 | 75 => 90 | 127 => 104 | 164 => 112 | 5 => 5 | 80 => 93 | n => n, fun | n => n⟩
theorem Tryd.lays156 : Go.Proofs.Lays.n156 Tryd.prog Tryd.lays156_ren := {
  mixed := by kernel_rfl
  f156 := Tryd.func55.trans (congrArg some (by kernel_rfl))
  f165 := Tryd.func73.trans (congrArg some (by kernel_rfl))
  f166 := Tryd.func74.trans (congrArg some (by kernel_rfl))
  f169 := Tryd.func75.trans (congrArg some (by kernel_rfl))
  f240 := Tryd.func92.trans (congrArg some (by kernel_rfl))
  f241 := Tryd.func93.trans (congrArg some (by kernel_rfl))
  f276 := Tryd.func103.trans (congrArg some (by kernel_rfl))
  f277 := Tryd.func104.trans (congrArg some (by kernel_rfl))
  t0 := Tryd.underlying0
  a0 := Tryd.isAgg0
  z0 := Tryd.sizeOf0
  v0 := Tryd.zeroValue0
  t3 := Tryd.underlying3
  a3 := Tryd.isAgg3
  z3 := Tryd.sizeOf3
  v3 := Tryd.zeroValue3
  t4 := Tryd.underlying4
  a4 := Tryd.isAgg4
  z4 := Tryd.sizeOf4
  v4 := Tryd.zeroValue4
  t9 := Tryd.underlying9
  a9 := Tryd.isAgg9
  z9 := Tryd.sizeOf9
  v9 := Tryd.zeroValue9
  t20 := Tryd.underlying20
  a20 := Tryd.isAgg20
  z20 := Tryd.sizeOf20
  v20 := Tryd.zeroValue20
  t31 := Tryd.underlying63
  a31 := Tryd.isAgg63
  z31 := Tryd.sizeOf63
  v31 := Tryd.zeroValue63
  t37 := Tryd.underlying85
  a37 := Tryd.isAgg85
  z37 := Tryd.sizeOf85
  v37 := Tryd.zeroValue85
  t70 := Tryd.underlying84
  a70 := Tryd.isAgg84
  z70 := Tryd.sizeOf84
  v70 := Tryd.zeroValue84
  t72 := Tryd.underlying87
  a72 := Tryd.isAgg87
  z72 := Tryd.sizeOf87
  v72 := Tryd.zeroValue87
  t75 := Tryd.underlying90
  a75 := Tryd.isAgg90
  z75 := Tryd.sizeOf90
  v75 := Tryd.zeroValue90
  t76 := Tryd.underlying91
  a76 := Tryd.isAgg91
  z76 := Tryd.sizeOf91
  v76 := Tryd.zeroValue91
  t127 := Tryd.underlying104
  a127 := Tryd.isAgg104
  z127 := Tryd.sizeOf104
  v127 := Tryd.zeroValue104
  t164 := Tryd.underlying112
  a164 := Tryd.isAgg112
  z164 := Tryd.sizeOf112
  v164 := Tryd.zeroValue112 }
theorem Tryd.Builder_Extra_156 : Builder.Extra Tryd.prog Tryd.lays156_ren := {
  sizeBuilder := by kernel_rfl
  liesBuilder := by kernel_rfl
  t5 := Tryd.underlying5
  a5 := Tryd.isAgg5
  z5 := Tryd.sizeOf5
  v5 := Tryd.zeroValue5
  infoByte := by kernel_rfl
  cellsByte := by kernel_rfl
  sizeByte := by kernel_rfl
  neB5 := by decide }
open Go.RowKit in
/-- No element: the empty string; the world is as it was. (Whatever the slice's address and capacity: a nil slice too.) (LAID: no walk: one application.) -/
theorem Tryd.strings_Join_none (a : Option Addr) (c : Nat) (sep : ByteArray) (w : World) :
    Calls Tryd.prog 55 #[.slice a 0 c, .string sep] w fun e w' => e = .returned (.string ⟨#[]⟩) ∧ w' = w := Any.strings_Join_none Tryd.lays156 Tryd.Builder_Extra_156 a c sep w
open Go.RowKit in
/-- strings.Join: "Join concatenates the elements of its first argument to create a single string. The separator string sep is placed between elements in the resulting string.": HOWEVER MANY ELEMENTS. Below the heap's end the world is as it was. (LAID: no walk: one application.) -/
theorem Tryd.strings_Join (bk o c : Nat) (xs : List ByteArray) (sep : ByteArray) (w : World) (hcells : ∀ (j : Nat) x, xs[j]? = some x → w.cell? ⟨bk, o + j, none⟩ = some (.string x)) (hbk : bk < w.heap.size) (hN : xs.length ≤ 140737488355328) (hcap : xs.length ≤ c) (hlen : (Lib.join (xs.map (·.data.toList)) sep.data.toList).length ≤ 140737488355328) :
    Calls Tryd.prog 55 #[.slice (some ⟨bk, o, none⟩) xs.length c, .string sep] w fun e w' => e = .returned (.string ⟨(Lib.join (xs.map (·.data.toList)) sep.data.toList).toArray⟩) ∧ Below w.heap.size w w' := Any.strings_Join Tryd.lays156 Tryd.Builder_Extra_156 bk o c xs sep w hcells hbk hN hcap hlen
def Tryd.laysM171_ren : Go.Shelf.Ren := ⟨fun | 171 => 72 | 243 => 91 | 246 => 102 | 283 => 108 | 284 => 109 | 285 => 110 | 286 => 111 | 129 => 113 | 317 => 112 | 318 => 114 | 319 => 115 | 320 => 116 | 337 => 117 | 338 => 118 | n => n, fun | 3 => 3 | 9 => 9 | 2 => 2 | 4 => 4 | 171 => 118 | 0 => 0 | 53 => 119 | 37 => 85 | 5 => 5 | 173 => 122 | 212 => 129 | 51 => 115 | 20 => 20 | 213 => 130 | 46 => 105 | 232 => 133 | 233 => 134 | n => n, fun | 17 => 3 | 18 => 4 | 19 => 5 | n => n⟩
theorem Tryd.laysM171 : Go.Proofs.LaysM.n171 Tryd.prog Tryd.laysM171_ren := {
  mixed := by kernel_rfl
  f129 := Tryd.func113.trans (congrArg some (by kernel_rfl))
  f171 := Tryd.func72.trans (congrArg some (by kernel_rfl))
  f243 := Tryd.func91.trans (congrArg some (by kernel_rfl))
  f246 := Tryd.func102.trans (congrArg some (by kernel_rfl))
  f283 := Tryd.func108.trans (congrArg some (by kernel_rfl))
  f284 := Tryd.func109.trans (congrArg some (by kernel_rfl))
  f285 := Tryd.func110.trans (congrArg some (by kernel_rfl))
  f286 := Tryd.func111.trans (congrArg some (by kernel_rfl))
  f317 := Tryd.func112.trans (congrArg some (by kernel_rfl))
  f318 := Tryd.func114.trans (congrArg some (by kernel_rfl))
  f319 := Tryd.func115.trans (congrArg some (by kernel_rfl))
  f320 := Tryd.func116.trans (congrArg some (by kernel_rfl))
  f337 := Tryd.func117.trans (congrArg some (by kernel_rfl))
  f338 := Tryd.func118.trans (congrArg some (by kernel_rfl))
  t0 := Tryd.underlying0
  a0 := Tryd.isAgg0
  z0 := Tryd.sizeOf0
  v0 := Tryd.zeroValue0
  t2 := Tryd.underlying2
  a2 := Tryd.isAgg2
  z2 := Tryd.sizeOf2
  v2 := Tryd.zeroValue2
  t3 := Tryd.underlying3
  a3 := Tryd.isAgg3
  z3 := Tryd.sizeOf3
  v3 := Tryd.zeroValue3
  t4 := Tryd.underlying4
  a4 := Tryd.isAgg4
  z4 := Tryd.sizeOf4
  v4 := Tryd.zeroValue4
  t5 := Tryd.underlying5
  a5 := Tryd.isAgg5
  z5 := Tryd.sizeOf5
  v5 := Tryd.zeroValue5
  t9 := Tryd.underlying9
  a9 := Tryd.isAgg9
  z9 := Tryd.sizeOf9
  v9 := Tryd.zeroValue9
  t20 := Tryd.underlying20
  a20 := Tryd.isAgg20
  z20 := Tryd.sizeOf20
  v20 := Tryd.zeroValue20
  t37 := Tryd.underlying85
  a37 := Tryd.isAgg85
  z37 := Tryd.sizeOf85
  v37 := Tryd.zeroValue85
  t46 := Tryd.underlying105
  a46 := Tryd.isAgg105
  z46 := Tryd.sizeOf105
  v46 := Tryd.zeroValue105
  t51 := Tryd.underlying115
  a51 := Tryd.isAgg115
  z51 := Tryd.sizeOf115
  v51 := Tryd.zeroValue115
  t53 := Tryd.underlying119
  a53 := Tryd.isAgg119
  z53 := Tryd.sizeOf119
  v53 := Tryd.zeroValue119
  t171 := Tryd.underlying118
  a171 := Tryd.isAgg118
  z171 := Tryd.sizeOf118
  v171 := Tryd.zeroValue118
  t173 := Tryd.underlying122
  a173 := Tryd.isAgg122
  z173 := Tryd.sizeOf122
  v173 := Tryd.zeroValue122
  t212 := Tryd.underlying129
  a212 := Tryd.isAgg129
  z212 := Tryd.sizeOf129
  v212 := Tryd.zeroValue129
  t213 := Tryd.underlying130
  a213 := Tryd.isAgg130
  z213 := Tryd.sizeOf130
  t232 := Tryd.underlying133
  a232 := Tryd.isAgg133
  z232 := Tryd.sizeOf133
  v232 := Tryd.zeroValue133
  t233 := Tryd.underlying134
  a233 := Tryd.isAgg134
  z233 := Tryd.sizeOf134
  v233 := Tryd.zeroValue134
  g17 := by kernel_rfl
  g18 := by kernel_rfl
  g19 := by kernel_rfl
  i0 := by kernel_rfl
  i2 := by kernel_rfl
  i3 := by kernel_rfl
  i4 := by kernel_rfl
  i5 := by kernel_rfl
  i9 := by kernel_rfl
  i20 := by kernel_rfl
  i37 := by kernel_rfl
  i46 := by kernel_rfl
  i51 := by kernel_rfl
  i53 := by kernel_rfl
  i171 := by kernel_rfl
  i173 := by kernel_rfl
  i212 := by kernel_rfl
  i232 := by kernel_rfl
  i233 := by kernel_rfl
  m17 := by kernel_rfl
  m18 := by kernel_rfl
  m19 := by kernel_rfl }
open Go.RowKit Go.Sort Go.Lib in
/-- strconv.Itoa: "Itoa is equivalent to FormatInt(int64(i), 10).": i's DECIMAL NUMERAL ('Lib.itoa': a '-' where i is negative, then the digits), FOR EVERY int. The world behind the call: the world before it, new blocks behind the heap (the library's 'var a [24]byte'), draws. (LAID: no walk: one application.) -/
theorem Tryd.strconv_Itoa (n : Int) (h0 : -9223372036854775808 ≤ n) (h1 : n ≤ 9223372036854775807) (w : World) (htab : Lib.TabIs Tryd.prog w "internal/strconv.uint64pow10" .u64 Lib.pow10Tab) :
    Calls Tryd.prog 72 #[.int .i64 n] w fun e w' => e = .returned (.string ⟨(Lib.itoa n).toArray⟩) ∧ ∃ k os, w' = grow (w.drewN k) os := Any.strconv_Itoa Tryd.laysM171 n h0 h1 w htab
end Go.Proofs
end

section
/- The texts of versions, and texts put together, at this seat. -/

set_option linter.unusedVariables false
set_option linter.unusedSimpArgs false
set_option maxRecDepth 100000
open Go Go.Ab Go.Proofs Ve
open Go.RowKit (Below)
namespace D

theorem tdv {p : Int} (h : 0 ≤ p) (d : Int) : Int.tdiv p d = p / d := Int.tdiv_eq_ediv_of_nonneg h
theorem tmd {p : Int} (h : 0 ≤ p) (d : Int) : Int.tmod p d = p % d := Int.tmod_eq_emod_of_nonneg h
theorem condBn {b : Bool} {A C : Prop} (h1 : b = false → A) (h2 : b = true → C) : condP (!b) A C := by cases b <;> simp_all [condP]

/-- what is left behind in the heap is nobody's -/
theorem drop0 {P : Program} {f : FuncId} {args : List AV} {r0 : AV} (hren : ∀ n, AV.ren (selR [] n) r0 = r0) (k : ASpec P f args [] (fun r _ => r = r0)) : ASpec P f args [] (fun r H' => r = r0 ∧ H' = []) :=
  ASpec.sel (k.mono fun r H' e => ⟨[], [], r0, Sel.none, by subst e; rw [hren]; exact Le.refl _, rfl, rfl⟩)

theorem pd {f : FuncId} {args : List AV} (r0 : AV) (hr : ∀ q, AV.ren q r0 = r0) (ha : ∀ q, args.map (AV.ren q) = args) (H : List AObj) (k : ASpec Tryd.prog f args [] (fun r _ => r = r0)) :
    ASpec Tryd.prog f args H (fun r H' => r = r0 ∧ H' = H) :=
  ASpec.pureH H (drop0 (fun _ => hr _) k) _ _ (ha _) (hr _)

def fitB (p : Int) : Bool := decide (0 ≤ p ∧ p < 1000000000)
def partsM (p : Int) : (Int × Int × Int) × Bool := if 0 ≤ p ∧ p < 1000000000 then ((p / 1000000, p / 1000 % 1000, p % 1000), true) else ((0, 0, 0), false)
theorem weights_spec (H : List AObj) : ASpec Tryd.prog 89 [] H (fun r H' => r = .agg [.int .i64 1000000, .int .i64 1000, .int .i64 1] ∧ H' = H) :=
  pd (.agg [.int .i64 1000000, .int .i64 1000, .int .i64 1]) (fun _ => rfl) (fun _ => rfl) H (s89 _ rfl)

theorem fit_spec (p : Int) (H : List AObj) : ASpec Tryd.prog 90 [.int .i64 p] H (fun r H' => r = .bool (fitB p) ∧ H' = H) := by
  refine pd (.bool (fitB p)) (fun _ => rfl) (fun _ => rfl) H (s90 _ _ (condD (fun h => ?_) fun h => ?_))
  all_goals (congr 1; unfold fitB)
  · apply decide_eq_decide.2; omega
  · exact (decide_eq_false (by omega)).symm

abbrev tupB (x : Int × Bool) : AV := .tup [.int .i64 x.1, .bool x.2]
abbrev a3 (x : Int × Int × Int) : AV := .agg [.int .i64 x.1, .int .i64 x.2.1, .int .i64 x.2.2]
abbrev tup3 (x : (Int × Int × Int) × Bool) : AV := .tup [a3 x.1, .bool x.2]

theorem parts_spec (p : Int) (H : List AObj) : ASpec Tryd.prog 71 [.int .i64 p] H (fun r H' => r = tup3 (partsM p) ∧ H' = H) := by
  have e3 : (0 : Int) ≤ 0 ∧ (0 : Int) < 3 := by decide
  have e4 : (0 : Int) ≤ 1 ∧ (1 : Int) < 3 := by decide
  have e5 : (0 : Int) ≤ 2 ∧ (2 : Int) < 3 := by decide
  refine pd (tup3 (partsM p)) (fun _ => rfl) (fun _ => rfl) H (s71 _ _ (ASpec.call (fit_spec p _) (Les.refl _) ⟨_, rfl, rfl, condBn (fun h => ?_) fun h => ?_⟩))
  · have : ¬ (0 ≤ p ∧ p < 1000000000) := by simpa [fitB] using h
    unfold partsM; rw [if_neg this]
  · have hp : 0 ≤ p ∧ p < 1000000000 := by simpa [fitB] using h
    refine ASpec.call (weights_spec _) (Les.refl _) ⟨(), rfl, rfl, ?_⟩
    refine v71_5a _ _ _ _ _ _ (needJ e3 (needJ (by decide) (needJ (by decide) (needJ e3 ?_))))
    refine v71_5b _ _ _ _ _ _ (needJ e4 (needJ (by decide) (needJ (by decide) (needJ e4 ?_))))
    refine v71_5c _ _ _ _ _ _ (needJ e5 (needJ (by decide) (needJ (by decide) (needJ e5 ?_))))
    refine v71_5d _ _ _ _ _ _ ?_
    rw [tdv hp.1, tdv hp.1, tdv hp.1, wrap64 (x := p / 1000000) (by omega) (by omega), wrap64 (x := p / 1000) (by omega) (by omega), wrap64 (x := p / 1) (by omega) (by omega), tmd (by omega), tmd (by omega), tmd (by omega)]
    unfold partsM; rw [if_pos hp, Int.ediv_one, Int.emod_eq_of_lt (a := p / 1000000) (by omega) (by omega)]

theorem decD {n : Nat} (h : n < 1000) : Go.Lib.decDigits n = dg n := by
  unfold dg
  by_cases h10 : n < 10
  · rw [Go.Lib.decDigits, dif_pos h10, if_pos h10]
  · rw [Go.Lib.decDigits, dif_neg h10, if_neg h10]
    by_cases h100 : n < 100
    · rw [if_pos h100, Go.Lib.decDigits, dif_pos (show n / 10 < 10 by omega)]; rfl
    · rw [if_neg h100, Go.Lib.decDigits, dif_neg (show ¬ n / 10 < 10 by omega), Go.Lib.decDigits, dif_pos (show n / 10 / 10 < 10 by omega), show n / 10 / 10 = n / 100 by omega]; rfl

theorem tabIs {M : Mem} {w : World} (h : Tabs Tryd.prog M w) : Lib.TabIs Tryd.prog w "internal/strconv.uint64pow10" .u64 Lib.pow10Tab := by
  have hg : (Tryd.prog.globalNamed "internal/strconv.uint64pow10").isSome = true := by kernel_rfl
  obtain ⟨g, hg⟩ := Option.isSome_iff_exists.1 hg
  obtain ⟨_, T, fr, hc⟩ := h.pow g hg
  unfold Lib.TabIs World.var?
  rw [hg]
  simp only [Option.bind_some, hc]
  congr 1

theorem itoa_spec {n : Int} (h0 : 0 ≤ n) (h1 : n < 1000) (H : List AObj) : ASpec Tryd.prog 72 [.int .i64 n] H (fun r H' => r = .str (B (dg n.toNat)) ∧ H' = H) := by
  refine ASpec.of_calls fun M loc w vs ht hv => ?_
  obtain ⟨hs, hv⟩ := hv
  have hv0 := hv 0 (by simp)
  have hvs : vs = #[vs[0]'(by simp at hs; omega)] := by
    apply Array.ext
    · simpa using hs
    · intro i h1 h2
      have : i < 1 := by simpa using h2
      match i, this with
      | 0, _ => rfl
  rw [hvs]
  simp only [List.getElem_cons_zero] at hv0
  generalize vs[0]'(by simp at hs; omega) = v0 at hv0
  cases hv0
  refine (Tryd.strconv_Itoa n (by omega) (by omega) w (tabIs ht)).mono fun e w' ⟨he, k, os, hw⟩ => ?_
  refine ⟨_, he, ?_, ?_⟩
  · have : Go.Lib.itoa n = dg n.toNat := by unfold Go.Lib.itoa; rw [if_neg (by omega), decD (by omega)]
    rw [this]
    exact .str _
  · subst hw
    refine ⟨by simp [Sort.grow, World.drewN], fun b hb => ?_, rfl, rfl, rfl⟩
    simp only [Sort.grow, World.drewN]
    rw [Array.getElem?_append_left hb]

theorem txt_le (a b c : Nat) : (dg a).length + (dg b).length + (dg c).length ≤ 9 := by
  have h1 := dg_len a; have h2 := dg_len b; have h3 := dg_len c; omega

theorem cat3 (a b c : List UInt8) : B a ++ ⟨#[46]⟩ ++ B b ++ ⟨#[46]⟩ ++ B c = B (a ++ 46 :: (b ++ 46 :: c)) := by
  rw [show (⟨#[46]⟩ : ByteArray) = B [46] from rfl, B_append, B_append, B_append, B_append]; simp

theorem text_spec (p : Int) (H : List AObj) : ASpec Tryd.prog 54 [.int .i64 p] H (fun r H' => r = .str (B (textM p)) ∧ H' = H) := by
  have e3 : (0 : Int) ≤ 0 ∧ (0 : Int) < 3 := by decide
  have e4 : (0 : Int) ≤ 1 ∧ (1 : Int) < 3 := by decide
  have e5 : (0 : Int) ≤ 2 ∧ (2 : Int) < 3 := by decide
  refine pd (.str (B (textM p))) (fun _ => rfl) (fun _ => rfl) H (s54 _ _ (ASpec.call (parts_spec p _) (Les.refl _) ⟨_, rfl, rfl, condBn (fun h => ?_) fun h => ?_⟩))
  · have : ¬ (0 ≤ p ∧ p < 1000000000) := by intro hp; unfold partsM at h; rw [if_pos hp] at h; cases h
    unfold textM; rw [if_neg this]
  · have hp : 0 ≤ p ∧ p < 1000000000 := by
      by_cases hp : 0 ≤ p ∧ p < 1000000000
      · exact hp
      · unfold partsM at h; rw [if_neg hp] at h; cases h
    have hM : partsM p = ((p / 1000000, p / 1000 % 1000, p % 1000), true) := by unfold partsM; rw [if_pos hp]
    rw [hM]
    have ht := txt_le (p / 1000000).toNat (p / 1000 % 1000).toNat (p % 1000).toNat
    refine needJ e3 (needJ e4 (needJ e5 ?_))
    refine ASpec.call (itoa_spec (n := p / 1000000) (by omega) (by omega) _) (Les.refl _) ⟨_, rfl, rfl, ⟨rfl, rfl⟩, ⟨rfl, rfl⟩, needJ ?_ ?_⟩
    · rw [B_size]; omega
    refine ASpec.call (itoa_spec (n := p / 1000 % 1000) (by omega) (by omega) _) (Les.refl _) ⟨_, rfl, rfl, ⟨rfl, rfl⟩, needJ ?_ (needJ ?_ ?_)⟩
    · rw [show (⟨#[46]⟩ : ByteArray) = B [46] from rfl, B_append, B_size, B_size]; simp; omega
    · rw [show (⟨#[46]⟩ : ByteArray) = B [46] from rfl, B_append, B_append, B_size]; simp; omega
    refine ASpec.call (itoa_spec (n := p % 1000) (by omega) (by omega) _) (Les.refl _) ⟨_, rfl, rfl, needJ ?_ ?_⟩
    · rw [show (⟨#[46]⟩ : ByteArray) = B [46] from rfl, B_append, B_append, B_append, B_size, B_size]; simp; omega
    · rw [cat3]
      unfold textM text3; rw [if_pos hp]

/-! ### strings.Join -/
theorem join_spec (o : List (List UInt8)) (sep : List UInt8) (hN : o.length ≤ 1000000) (hlen : (Go.Lib.join o sep).length ≤ 140737488355328) (H : List AObj) :
    ASpec Tryd.prog 55 [.sl 1 (.map T.encL [] o) .none, .str (B sep)] H (fun r H' => r = .str (B (Go.Lib.join o sep)) ∧ H' = H) := by
  refine ASpec.of_calls fun M loc w vs ht hv => ?_
  obtain ⟨hs, hv⟩ := hv
  have hv0 := hv 0 (by simp)
  have hv1 := hv 1 (by simp)
  have hvs : vs = #[vs[0]'(by simp at hs; omega), vs[1]'(by simp at hs; omega)] := by
    apply Array.ext
    · simpa using hs
    · intro i h1 h2
      have : i < 2 := by simpa using h2
      match i, this with
      | 0, _ | 1, _ => rfl
  rw [hvs]
  simp only [List.getElem_cons_zero, List.getElem_cons_succ] at hv0 hv1
  generalize vs[0]'(by simp at hs; omega) = v0 at hv0
  generalize vs[1]'(by simp at hs; omega) = v1 at hv1
  have e1 : v1 = .string (B sep) := by cases hv1; rfl
  subst e1
  have fin : ∀ {e : Ending} {w' : World}, e = .returned (.string ⟨(Go.Lib.join o sep).toArray⟩) → Below w.heap.size w w' → ∃ v, e = .returned v ∧ VRel M w' loc (.str (B (Go.Lib.join o sep))) v ∧ Grown w w' := fun he hb =>
    ⟨_, he, .str _, hb.size, hb.block, hb.os, hb.tape, hb.output⟩
  have none : o = [] → ∀ a, Calls Tryd.prog 55 #[.slice a 0 0, .string (B sep)] w fun e w' => ∃ v, e = .returned v ∧ VRel M w' loc (.str (B (Go.Lib.join o sep))) v ∧ Grown w w' := fun ho a =>
    (Tryd.strings_Join_none a 0 (B sep) w).mono fun e w' ⟨he, hw⟩ => by
      subst ho
      exact fin (by rw [he]; rfl) (hw ▸ Below.refl _ _)
  cases hv0 with
  | slnil _ _ _ hn _ => exact none (by simpa [Ab.Seq.toList] using hn) _
  | slz _ _ _ a hn _ _ => exact none (by simpa [Ab.Seq.toList] using hn) _
  | sl _ _ _ b of cap vals hz h1 h2 hcap hnil hfull htok =>
    by_cases ho : o = []
    · subst ho
      refine (Tryd.strings_Join_none (some ⟨b, of, Option.none⟩) cap (B sep) w).mono fun e w' ⟨he, hw⟩ => fin (by rw [he]; rfl) (hw ▸ Below.refl _ _)
    have hL : (Ab.Seq.map T.encL [] o).toList.length = o.length := by simp [Ab.Seq.toList]
    have hcell : ∀ (j : Nat) x, (o.map B)[j]? = some x → w.cell? ⟨b, of + j, Option.none⟩ = some (.string x) := by
      intro j x hx
      have hj : j < o.length := by
        have := (List.getElem?_eq_some_iff.1 hx).1
        simpa using this
      have hi := h1 j 0 (by rw [hL]; exact hj) (by omega)
      have hr := h2 j 0 (by rw [hL]; exact hj) (by simp [Ab.Seq.toList, T.encL])
      have e2 : ((Ab.Seq.map T.encL [] o).toList[j]'(by rw [hL]; exact hj))[0]'(by simp [Ab.Seq.toList, T.encL]) = .str (B o[j]) := by simp [Ab.Seq.toList, T.encL]
      rw [e2] at hr
      have e3 : vals j 0 = .string (B o[j]) := by
        generalize vals j 0 = v at hr
        cases hr; rfl
      have e4 : x = B o[j] := by
        rw [List.getElem?_map, List.getElem?_eq_getElem hj] at hx
        exact (Option.some.inj hx).symm
      rw [e3] at hi
      subst e4
      have := hi.1
      simpa using this
    have hbk : b < w.heap.size := by
      have hp : 0 < o.length := List.length_pos_iff.2 ho
      have := hcell 0 (B o[0]) (by simp [List.getElem?_eq_getElem hp])
      simp only [World.cell?] at this
      cases hb : w.heap[b]? with
      | none => rw [hb] at this; cases this
      | some q => exact (Array.getElem?_eq_some_iff.1 hb).1
    have key := Tryd.strings_Join b of cap (o.map B) (B sep) w hcell hbk (by simp; omega) (by simp; rw [hL] at hcap; exact hcap) (by
      have : (o.map B).map (fun x : ByteArray => x.data.toList) = o := by simp [Function.comp_def]
      rw [this]; exact hlen)
    have e5 : (o.map B).map (fun x : ByteArray => x.data.toList) = o := by simp [Function.comp_def]
    rw [e5] at key
    rw [hL]
    rw [List.length_map] at key
    exact key.mono fun e w' ⟨he, hb⟩ => fin he hb
end D
end

section
/- PickLists: the law's function returns true. -/

set_option linter.unusedVariables false
set_option linter.unusedSimpArgs false
set_option maxRecDepth 100000
open Go Go.Ab Go.Proofs V S T C
open E (PA pa)
open Pc (slK slKLe putM getM dropM putD UpK)
open Ve (textM)
namespace Dk

/-! ### texts -/
def txt (p : Pk) : Nm := p.1 ++ 32 :: textM p.2
theorem cat2 (a b : List UInt8) : ({ data := List.toArray a } : ByteArray) ++ { data := #[(32 : UInt8)] } ++ B b = B (a ++ 32 :: b) := by
  show B a ++ B [32] ++ B b = _
  rw [D.B_append, D.B_append]; simp
theorem textM_len (v : Int) : (textM v).length ≤ 11 := by
  unfold Ve.textM
  split
  · exact (Ve.text3_len _ _ _).2
  · simp
theorem show7 {s : List Pk} (hs : s.length ≤ 60) (hn : ∀ p ∈ s, p.1.length ≤ 1000) (hj : (Go.Lib.join (s.map txt) [44, 32]).length ≤ 1000000) : ∀ (m i : Nat) (o : List Nm), m + i = s.length → o = (s.take i).map txt →
    AWP Tryd.prog 33 0 c31_7 [(3, .sl 1 (.map encL [] o) (.tok 0)), (14, slK s), (15, .int .i64 s.length), (16, .int .i64 i)] [.tok] (q31_2 0 (PA (.str (B (Go.Lib.join (s.map txt) [44, 32]))))) := by
  intro m
  induction m with
  | zero =>
    intro i o hm ho
    rw [List.take_of_length_le (by omega)] at ho
    subst ho
    refine v31_7 _ _ _ _ _ _ (condD (fun hc => by omega) fun _ => ?_)
    refine ASpec.call (D.join_spec (s.map txt) [44, 32] (by simp; omega) (by omega) _) ⟨Le.sl (s' := .map encL [] (s.map txt)) rfl (.inl rfl) (.inr rfl), Le.refl _, trivial⟩ ⟨_, rfl, rfl, pa (Le.refl _)⟩
  | succ m ih =>
    intro i o hm ho
    have hp := hn _ (getD_mem (d := noPk) (show i < s.length by omega))
    have hti : s.take (i + 1) = s.take i ++ [s.getD i noPk] := by
      rw [List.take_add_one, List.getD_eq_getElem?_getD, List.getElem?_eq_getElem (show i < s.length by omega)]; rfl
    have hol : o.length ≤ 60 := by rw [ho]; simp; omega
    refine v31_7 _ _ _ _ _ _ (condD (fun hc => needJ ⟨by omega, by omega⟩ ?_) fun hc => by omega)
    rw [Int.toNat_natCast, succ64 (by omega)]
    generalize s.getD i noPk = p at hp hti ⊢
    have ht := textM_len p.2
    refine needJ (by rw [B_size]; omega) (ASpec.call (D.text_spec p.2 _) (Les.refl _) ⟨_, rfl, rfl, ⟨rfl, rfl⟩, needJ ?_ (needJ (by omega) ?_)⟩)
    · have e : (({ data := List.toArray p.1 } : ByteArray) ++ { data := #[(32 : UInt8)] }).size = p.1.length + 1 := by
        show (B p.1 ++ B [32]).size = _
        rw [D.B_append, B_size]; simp
      rw [e]
      have e2 : (D.B (textM p.2)).size = (textM p.2).length := by simp [ByteArray.size]
      rw [e2]; omega
    · rw [cat2]
      refine AWP.shape [2] [(3, .sl 1 (.map encL [] (o ++ [txt p])) (.tok 0)), (14, slK s), (15, .int .i64 s.length), (16, .int .i64 (i + 1 : Nat))] [.tok] (Sel.mk0 (by decide) ⟨rfl, trivial⟩)
        ⟨rfl, leAppE (Les.refl _), rfl, slKLe _ _, rfl, Le.refl _, rfl, Le.refl _, trivial⟩ (ih (i + 1) _ (by omega) ?_)
      rw [hti, List.map_append, ← ho]; rfl
abbrev s0 : List Pk := [([97], 1000000), ([98], 2001000)]
abbrev t0 : Nm := [97, 32, 49, 46, 48, 46, 48, 44, 32, 98, 32, 50, 46, 49, 46, 48]
theorem join0 : Go.Lib.join (s0.map txt) [44, 32] = t0 := by decide +kernel
theorem chk0 : chkF none s0 = true := by
  have f1 : fitM [97] = true := by decide +kernel
  have f2 : fitM [98] = true := by decide +kernel
  have g1 : fitP ([97], 1000000) = true := by unfold fitP; rw [f1]; rfl
  have g2 : fitP ([98], 2001000) = true := by unfold fitP; rw [f2]; rfl
  have h : (Op.bytesLess [98] [97] || ([98] : List UInt8) == [97]) = false := by decide +kernel
  simp only [chkF, g1, g2, h, Bool.true_eq_false, Bool.false_eq_true, if_false]
theorem show_spec (H : List AObj) : ASpec Tryd.prog 31 [slK s0] H (fun r H' => r = .str (B t0) ∧ H' = H) := by
  have k : ASpec Tryd.prog 31 [slK s0] [] (fun r H' => r = .str (B t0) ∧ H' = []) := by
    have hn : ∀ p ∈ s0, p.1.length ≤ 1000 := by
      intro p hp
      simp at hp
      rcases hp with rfl | rfl <;> simp
    refine ASpec.sel (s31 _ _ (ASpec.call (chk_spec (s := s0) (by simp) hn _) (Les.refl _) ⟨_, rfl, rfl, ?_⟩))
    rw [chk0]
    refine condBn (fun h => by cases h) fun _ => condE (fun h => by simp at h) fun _ => v31_5 _ _ _ ?_
    have key := show7 (s := s0) (by simp) hn (by rw [join0]; simp) 2 0 [] rfl rfl
    rw [join0] at key
    refine AWP.re (ReSt.tok (k := 3) (q' := .map encL [] []) (sz' := 1) (s2 := [(3, .sl 1 (.map encL [] []) (.tok 0)), (14, slK s0), (15, .int .i64 s0.length), (16, .int .i64 (0 : Nat))]) rfl (.inl rfl) rfl (.inr rfl) (fun d hd => ?_) rfl) key
    simp only [Ab.get]
    have e : Nat.beq 3 d = false := by
      cases hx : Nat.beq 3 d with
      | false => rfl
      | true => exact absurd (Nat.eq_of_beq_eq_true hx).symm hd
    rw [e]; rfl
  exact ASpec.pureH H k _ _ rfl rfl
abbrev nothing : Nm := [110, 111, 116, 104, 105, 110, 103]
theorem read_spec (H : List AObj) : ASpec Tryd.prog 30 [.str (B nothing)] H (fun r H' => r = .tup [slK [], .bool true] ∧ H' = H) := by
  have k : ASpec Tryd.prog 30 [.str (B nothing)] [] (fun r H' => r = .tup [slK [], .bool true] ∧ H' = []) :=
    ASpec.sel (s30 _ (pa (Le.tup ⟨nilK, Le.refl _, trivial⟩)))
  exact ASpec.pureH H k _ _ rfl rfl
theorem awake_spec (H : List AObj) : ASpec Tryd.prog 17 [] H (fun r H' => r = .bool true ∧ H' = H) := by
  have k : ASpec Tryd.prog 17 [] [] (fun r H' => r = .bool true ∧ H' = []) := by
    refine s17 _ (ASpec.call (read_spec _) (Les.refl _) ⟨([], true), rfl, rfl, ?_⟩)
    refine ASpec.call (show_spec _) ⟨Le.sl (s' := .map encPk noPk s0) rfl (.inl rfl) (.inr rfl), trivial⟩ ⟨_, rfl, rfl, ?_⟩
    exact condS (fun _ => condE (fun _ => ⟨rfl, rfl⟩) fun h => (h rfl).elim) fun h => (h rfl).elim
  exact ASpec.pureH H k _ _ rfl rfl

/-! ### the law -/
section
variable {a b : List Pk} {p : Pk} (ha : a.length ≤ 60 ∧ ∀ x ∈ a, x.1.length ≤ 200) (hp : p.1.length ≤ 200)
include ha hp
end
end Dk
end

section
/-
  DERIVED: THE SHELF's CONTRACTS AT THIS DUMP, IN PLAIN WORDS (tools/lay-plain.mjs out of 'PShelg.lean', which tools/lay-shelf.mjs wrote): THE SAME DECLARATIONS UNDER THE SAME NAMES: 'import', 'namespace', 'open', 'def', 'theorem' AND NOTHING ELSE: no command of the shelf's: FOR A HAND-IN. Each laying: the table of numbers ('.._ren') and one theorem, a field a fact of the dump's own or the kernel's comparison; each contract: ONE APPLICATION.
-/

namespace Go.Proofs
open Go.Shelf
def Tryd.lays145_ren : Go.Shelf.Ren := ⟨fun | 145 => 52 | 220 => 69 | 219 => 88 | 217 => 98 | 225 => 99 | 224 => 100 | 267 => 101 | 266 => 106 | 314 => 107 | n => n, fun | 9 => 9 | 4 => 4 | 59 => 65 | 3 => 3 | 5 => 5 | 46 => 105 | 146 => 116 | 51 => 115 | n => n, fun | 1 => 0 | n => n⟩
theorem Tryd.lays145 : Go.Proofs.Lays.n145 Tryd.prog Tryd.lays145_ren := {
  mixed := by kernel_rfl
  f145 := Tryd.func52.trans (congrArg some (by kernel_rfl))
  f217 := Tryd.func98.trans (congrArg some (by kernel_rfl))
  f219 := Tryd.func88.trans (congrArg some (by kernel_rfl))
  f220 := Tryd.func69.trans (congrArg some (by kernel_rfl))
  f224 := Tryd.func100.trans (congrArg some (by kernel_rfl))
  f225 := Tryd.func99.trans (congrArg some (by kernel_rfl))
  f266 := Tryd.func106.trans (congrArg some (by kernel_rfl))
  f267 := Tryd.func101.trans (congrArg some (by kernel_rfl))
  f314 := Tryd.func107.trans (congrArg some (by kernel_rfl))
  t3 := Tryd.underlying3
  a3 := Tryd.isAgg3
  z3 := Tryd.sizeOf3
  v3 := Tryd.zeroValue3
  t4 := Tryd.underlying4
  a4 := Tryd.isAgg4
  z4 := Tryd.sizeOf4
  v4 := Tryd.zeroValue4
  t5 := Tryd.underlying5
  a5 := Tryd.isAgg5
  z5 := Tryd.sizeOf5
  v5 := Tryd.zeroValue5
  t9 := Tryd.underlying9
  a9 := Tryd.isAgg9
  z9 := Tryd.sizeOf9
  v9 := Tryd.zeroValue9
  t46 := Tryd.underlying105
  a46 := Tryd.isAgg105
  z46 := Tryd.sizeOf105
  v46 := Tryd.zeroValue105
  t51 := Tryd.underlying115
  a51 := Tryd.isAgg115
  z51 := Tryd.sizeOf115
  v51 := Tryd.zeroValue115
  t59 := Tryd.underlying65
  a59 := Tryd.isAgg65
  z59 := Tryd.sizeOf65
  v59 := Tryd.zeroValue65
  t146 := Tryd.underlying116
  a146 := Tryd.isAgg116
  z146 := Tryd.sizeOf116
  v146 := Tryd.zeroValue116
  g1 := by kernel_rfl }
open Go.RowKit Go.Lib in
/-- strings.Cut: "Cut slices s around the first instance of sep, returning the text before and after sep. The found result reports whether sep appears in s. If sep does not appear in s, cut returns s, "", false.": IT RETURNS 'Lib.cut s sep'; the world is as it was but for the count of draws. (LAID: no walk: one application.) -/
theorem Tryd.strings_Cut (s sep : ByteArray) (m : Int) (w : World) (hs : s.size < 4294967281) (hm : w.cell? ⟨0, 0, none⟩ = some (.int .i64 m)) :
    Calls Tryd.prog 52 #[.string s, .string sep] w fun e w' => e = .returned (.tuple #[.string ⟨(Lib.cut s.data.toList sep.data.toList).1.toArray⟩, .string ⟨(Lib.cut s.data.toList sep.data.toList).2.1.toArray⟩, .bool (Lib.cut s.data.toList sep.data.toList).2.2]) ∧ ∃ n, w' = w.drewN n := Any.strings_Cut Tryd.lays145 s sep m w hs hm
def Tryd.lays146_ren : Go.Shelf.Ren := ⟨fun | 146 => 51 | 221 => 68 | 268 => 85 | 138 => 86 | 143 => 87 | 195 => 95 | 197 => 96 | 218 => 97 | 219 => 88 | 260 => 105 | 217 => 98 | 225 => 99 | 224 => 100 | 267 => 101 | 266 => 106 | 314 => 107 | n => n, fun | 9 => 9 | 31 => 63 | 3 => 3 | 4 => 4 | 0 => 0 | 105 => 108 | 21 => 21 | 5 => 5 | 46 => 105 | 119 => 124 | 139 => 127 | 138 => 126 | 146 => 116 | 51 => 115 | n => n, fun | 1 => 0 | 3 => 1 | 4 => 2 | n => n⟩
theorem Tryd.lays146 : Go.Proofs.Lays.n146 Tryd.prog Tryd.lays146_ren := {
  mixed := by kernel_rfl
  f138 := Tryd.func86.trans (congrArg some (by kernel_rfl))
  f143 := Tryd.func87.trans (congrArg some (by kernel_rfl))
  f146 := Tryd.func51.trans (congrArg some (by kernel_rfl))
  f195 := Tryd.func95.trans (congrArg some (by kernel_rfl))
  f197 := Tryd.func96.trans (congrArg some (by kernel_rfl))
  f217 := Tryd.func98.trans (congrArg some (by kernel_rfl))
  f218 := Tryd.func97.trans (congrArg some (by kernel_rfl))
  f219 := Tryd.func88.trans (congrArg some (by kernel_rfl))
  f221 := Tryd.func68.trans (congrArg some (by kernel_rfl))
  f224 := Tryd.func100.trans (congrArg some (by kernel_rfl))
  f225 := Tryd.func99.trans (congrArg some (by kernel_rfl))
  f260 := Tryd.func105.trans (congrArg some (by kernel_rfl))
  f266 := Tryd.func106.trans (congrArg some (by kernel_rfl))
  f267 := Tryd.func101.trans (congrArg some (by kernel_rfl))
  f268 := Tryd.func85.trans (congrArg some (by kernel_rfl))
  f314 := Tryd.func107.trans (congrArg some (by kernel_rfl))
  t0 := Tryd.underlying0
  a0 := Tryd.isAgg0
  z0 := Tryd.sizeOf0
  v0 := Tryd.zeroValue0
  t3 := Tryd.underlying3
  a3 := Tryd.isAgg3
  z3 := Tryd.sizeOf3
  v3 := Tryd.zeroValue3
  t4 := Tryd.underlying4
  a4 := Tryd.isAgg4
  z4 := Tryd.sizeOf4
  v4 := Tryd.zeroValue4
  t5 := Tryd.underlying5
  a5 := Tryd.isAgg5
  z5 := Tryd.sizeOf5
  v5 := Tryd.zeroValue5
  t9 := Tryd.underlying9
  a9 := Tryd.isAgg9
  z9 := Tryd.sizeOf9
  v9 := Tryd.zeroValue9
  t21 := Tryd.underlying21
  a21 := Tryd.isAgg21
  z21 := Tryd.sizeOf21
  v21 := Tryd.zeroValue21
  t31 := Tryd.underlying63
  a31 := Tryd.isAgg63
  z31 := Tryd.sizeOf63
  v31 := Tryd.zeroValue63
  t46 := Tryd.underlying105
  a46 := Tryd.isAgg105
  z46 := Tryd.sizeOf105
  v46 := Tryd.zeroValue105
  t51 := Tryd.underlying115
  a51 := Tryd.isAgg115
  z51 := Tryd.sizeOf115
  v51 := Tryd.zeroValue115
  t105 := Tryd.underlying108
  a105 := Tryd.isAgg108
  z105 := Tryd.sizeOf108
  v105 := Tryd.zeroValue108
  t119 := Tryd.underlying124
  a119 := Tryd.isAgg124
  z119 := Tryd.sizeOf124
  t138 := Tryd.underlying126
  a138 := Tryd.isAgg126
  z138 := Tryd.sizeOf126
  v138 := Tryd.zeroValue126
  t139 := Tryd.underlying127
  a139 := Tryd.isAgg127
  z139 := Tryd.sizeOf127
  v139 := Tryd.zeroValue127
  t146 := Tryd.underlying116
  a146 := Tryd.isAgg116
  z146 := Tryd.sizeOf116
  v146 := Tryd.zeroValue116
  g1 := by kernel_rfl
  g3 := by kernel_rfl
  g4 := by kernel_rfl }
open Go.RowKit Go.Lib in
/-- strings.Split. (LAID: no walk: one application.) -/
theorem Tryd.strings_Split (s sep : ByteArray) (m : Int) (w : World) (hs : s.size < 4294967281) (hm : w.cell? ⟨0, 0, none⟩ = some (.int .i64 m)) (h1 : 1 ≤ sep.size) :
    Calls Tryd.prog 51 #[.string s, .string sep] w fun e w' =>
      e = .returned (.slice (some ⟨w.heap.size, 0, none⟩) (Lib.countB s sep + 1) (Lib.countB s sep + 1)) ∧ w' = w.alloc (.cells ((Lib.splitB sep 0 (Lib.countB s sep) s).map Value.string).toArray 9) := Any.strings_Split Tryd.lays146 (by kernel_rfl) s sep m w hs hm h1
end Go.Proofs
end

section
/- strings.Cut and strings.Split at this seat. -/

set_option linter.unusedVariables false
set_option linter.unusedSimpArgs false
set_option maxRecDepth 100000
open Go Go.Ab Go.Proofs
namespace D
theorem gM : Tryd.prog.globalNamed "internal/bytealg.MaxLen" = some 0 := by kernel_rfl
theorem maxCell {M : Mem} {w : World} (h : Tabs Tryd.prog M w) : ∃ m, w.cell? ⟨0, 0, none⟩ = some (.int .i64 m) := by
  obtain ⟨_, m, T, fr, hc⟩ := h.max 0 gM
  exact ⟨m, by simp [World.cell?, hc]⟩
theorem two {M : Mem} {loc : Locs} {w : World} {vs : Array Value} {a b : ByteArray} (hv : VRels M w loc [.str a, .str b] vs) : vs = #[.string a, .string b] := by
  obtain ⟨hs, hv⟩ := hv
  have hv0 := hv 0 (by simp)
  have hv1 := hv 1 (by simp)
  simp only [List.getElem_cons_zero, List.getElem_cons_succ] at hv0 hv1
  have e0 : vs[0]'(by simp at hs; omega) = .string a := by
    generalize vs[0]'(by simp at hs; omega) = v at hv0
    cases hv0; rfl
  have e1 : vs[1]'(by simp at hs; omega) = .string b := by
    generalize vs[1]'(by simp at hs; omega) = v at hv1
    cases hv1; rfl
  apply Array.ext
  · simpa using hs
  · intro i h1 h2
    have : i < 2 := by simpa using h2
    match i, this with
    | 0, _ => exact e0
    | 1, _ => exact e1
theorem cut_spec (s sep : List UInt8) (hs : s.length < 4294967281) (H : List AObj) :
    ASpec Tryd.prog 52 [.str (B s), .str (B sep)] H (fun r H' => r = .tup [.str (B (Lib.cut s sep).1), .str (B (Lib.cut s sep).2.1), .bool (Lib.cut s sep).2.2] ∧ H' = H) := by
  refine ASpec.of_calls fun M loc w vs ht hv => ?_
  rw [two hv]
  obtain ⟨m, hm⟩ := maxCell ht
  refine (Tryd.strings_Cut (B s) (B sep) m w (by simp [ByteArray.size]; omega) hm).mono fun e w' ⟨he, n, hw⟩ => ⟨_, he, ?_, ?_⟩
  · exact .tup _ _ rfl (fun i hi => by
      have : i < 3 := by simpa using hi
      match i, this with
      | 0, _ => exact .str _
      | 1, _ => exact .str _
      | 2, _ => exact .bool _)
  · subst hw
    exact ⟨by simp [World.drewN], fun b hb => by simp [World.drewN], rfl, rfl, rfl⟩
theorem split_spec (s sep : List UInt8) (hs : s.length < 4294967281) (h1 : 1 ≤ sep.length) (hc : (Lib.split s sep).length = Lib.count s sep + 1) (H : List AObj) :
    ASpec Tryd.prog 51 [.str (B s), .str (B sep)] H (fun r H' => r = .sl 1 (.map T.encL [] (Lib.split s sep)) .none ∧ H' = H) := by
  have hne : Lib.split s sep ≠ [] := fun e => by rw [e] at hc; simp at hc
  refine ASpec.of_fresh hne fun M loc w vs ht hv => ?_
  rw [two hv]
  obtain ⟨m, hm⟩ := maxCell ht
  refine (Tryd.strings_Split (B s) (B sep) m w (by simp [ByteArray.size]; omega) hm (by simp [ByteArray.size]; omega)).mono fun e w' ⟨he, hw⟩ => ?_
  have ec : Lib.countB (B s) (B sep) = Lib.count s sep := rfl
  have es : (Lib.splitB (B sep) 0 (Lib.countB (B s) (B sep)) (B s)).map (·.data.toList) = Lib.split s sep := by
    rw [Lib.splitB_data, ec]; rfl
  refine ⟨by rw [he, hc, ec], 9, ?_⟩
  rw [hw]
  congr 2
  rw [← es, List.map_map]
  congr 1
end D
end

section
/- The texts of versions, read. -/

set_option linter.unusedVariables false
set_option linter.unusedSimpArgs false
set_option maxRecDepth 100000
open Go Go.Ab Go.Proofs Ve
namespace D

def placeM (a b c : Int) : Int × Bool := if 0 ≤ a ∧ a < 1000 ∧ 0 ≤ b ∧ b < 1000 ∧ 0 ≤ c ∧ c < 1000 then (a * 1000000 + b * 1000 + c, true) else (0, false)
theorem place_no {a b c : Int} (h : ¬ (0 ≤ a ∧ a < 1000 ∧ 0 ≤ b ∧ b < 1000 ∧ 0 ≤ c ∧ c < 1000)) : tupB (placeM a b c) = .tup [.int .i64 0, .bool false] := by
  unfold placeM; rw [if_neg h]

theorem place_spec (a b c : Int) (H : List AObj) : ASpec Tryd.prog 70 [.agg [.int .i64 a, .int .i64 b, .int .i64 c]] H (fun r H' => r = tupB (placeM a b c) ∧ H' = H) := by
  have e3 : (0 : Int) ≤ 0 ∧ (0 : Int) < 3 := by decide
  have e4 : (0 : Int) ≤ 1 ∧ (1 : Int) < 3 := by decide
  have e5 : (0 : Int) ≤ 2 ∧ (2 : Int) < 3 := by decide
  refine pd (tupB (placeM a b c)) (fun _ => rfl) (fun _ => rfl) H (s70 _ _ _ _ (ASpec.call (weights_spec _) (Les.refl _) ⟨(), rfl, rfl, ?_⟩))
  refine v70_3a _ _ _ _ _ _ (needJ e3 (needJ e3 (condD (fun h => (place_no (by omega)).symm) fun h1 => needJ e3 (condD (fun h => (place_no (by omega)).symm) fun h2 => needJ e3 ?_))))
  refine v70_3b _ _ _ _ _ _ (needJ e4 (needJ e4 (condD (fun h => (place_no (by omega)).symm) fun h3 => needJ e4 (condD (fun h => (place_no (by omega)).symm) fun h4 => needJ e4 ?_))))
  refine v70_3c _ _ _ _ _ _ (needJ e5 (needJ e5 (condD (fun h => (place_no (by omega)).symm) fun h5 => needJ e5 (condD (fun h => (place_no (by omega)).symm) fun h6 => needJ e5 ?_))))
  refine v70_3d _ _ _ _ _ _ ?_
  unfold placeM
  rw [if_pos (by omega)]
  rw [wrap64 (x := a * 1000000) (by omega) (by omega), wrap64 (x := 0 + a * 1000000) (by omega) (by omega), wrap64 (x := b * 1000) (by omega) (by omega), wrap64 (x := 0 + a * 1000000 + b * 1000) (by omega) (by omega),
    wrap64 (x := c * 1) (by omega) (by omega), wrap64 (by omega) (by omega), Int.zero_add, Int.mul_one]

/-! ### the document's reader -/

/-! ### the code's reader -/

theorem wrap32 {x : Int} (h1 : -2147483648 ≤ x) (h2 : x ≤ 2147483647) : IntKind.wrap .i32 x = x := by
  simp only [IntKind.wrap, IntKind.bits, IntKind.signed]
  have e : (2 : Int) ^ 32 = 4294967296 := by decide
  have e2 : (2 : Int) ^ (32 - 1) = 2147483648 := by decide
  simp only [e, e2, Bool.true_and, decide_eq_true_eq]
  split <;> omega

/-- one more byte, which is not a dot that parts -/
theorem dig {c n v k : Int} (hk : 0 ≤ k ∧ k < 3) {F A : Prop} (hF : (c < 48 ∨ 57 < c ∨ n = 3 ∨ (0 < n ∧ v = 0)) → F) (hA : ¬ (c < 48 ∨ 57 < c ∨ n = 3 ∨ (0 < n ∧ v = 0)) → A) :
    condP (decide (c < 48)) F (condP (decide (c > 57)) F (condP (n == 3) F (condP (decide (n > 0)) (needP (0 ≤ k ∧ k < 3) (condP (v == 0) F (needP (0 ≤ k ∧ k < 3) (needP (0 ≤ k ∧ k < 3) A))))
      (needP (0 ≤ k ∧ k < 3) (needP (0 ≤ k ∧ k < 3) A))))) :=
  condD (fun h => hF (.inl h)) fun h1 => condD (fun h => hF (.inr (.inl h))) fun h2 => condE (fun h => hF (.inr (.inr (.inl h)))) fun h3 =>
    condD (fun h4 => needJ hk (condE (fun h => hF (.inr (.inr (.inr ⟨h4, h⟩)))) fun h5 => needJ hk (needJ hk (hA (by omega))))) fun h4 => needJ hk (needJ hk (hA (by omega)))

theorem back_same {a b c : Int} {q : Int × Bool} (h : placeM a b c = q) (ht : q.2 = true) : partsM q.1 = ((a, b, c), true) := by
  unfold placeM at h
  split at h
  · subst h
    unfold partsM
    rw [if_pos (by simp only; omega)]
    simp only [Prod.mk.injEq, and_true]
    omega
  · subst h; cases ht

def vfin : Option (List Nat × Nat × Nat) → Int × Bool
  | some ([a, b], c, _ + 1) => ((a * 1000000 + b * 1000 + c : Nat), true)
  | _ => (0, false)

theorem readV_eq (l : List UInt8) : readV l = vfin (vr l [] 0 0) := by
  rfl

/-- behind the last byte -/
theorem read12 {l : List UInt8} {q : Nat} {x y z : Nat} (k n : Nat) {r0 : Int × Bool} (hx : x < 1000 ∧ y < 1000 ∧ z < 1000)
    (h : r0 = if k = 2 ∧ 0 < n then (((x * 1000000 + y * 1000 + z : Nat) : Int), true) else (0, false)) :
    AWP Tryd.prog 88 0 c53_12 [(4, .ptr 0 0), (5, .int .i64 k), (6, .int .i64 n)] [.cells [.int .i64 x, .int .i64 y, .int .i64 z], .siter (B l) q] (q53_0 0 (fun r _ => r = tupB r0)) := by
  refine v53_12 _ _ _ _ _ _ _ _ _ (condNe (fun h1 => ?_) fun h1 => condE (fun h2 => ?_) fun h2 => ?_)
  · rw [h, if_neg (by omega)]
  · rw [h, if_neg (by omega)]
  · rw [if_pos (by omega)] at h
    have hp : placeM x y z = r0 := by unfold placeM; rw [h, if_pos (by omega)]; simp
    refine ASpec.call (place_spec x y z _) (Les.refl _) ⟨_, rfl, rfl, ASpec.call (parts_spec _ _) (Les.refl _) ⟨_, rfl, rfl, ?_⟩⟩
    rw [hp, back_same hp (by rw [h]), h]
    refine ⟨⟨rfl, rfl⟩, ⟨rfl, rfl⟩, ?_⟩
    simp

theorem read4 {l : List UInt8} {r0 : Int × Bool} : ∀ (m pos : Nat) (n : Nat), m + pos = l.length → n ≤ 3 →
    (∀ x, x < 10 ^ n → vfin (vr (l.drop pos) [] x n) = r0 →
      AWP Tryd.prog 88 0 c53_4 [(4, .ptr 0 0), (5, .int .i64 0), (6, .int .i64 n), (15, .ptr 1 0)] [.cells [.int .i64 (x : Nat), .int .i64 0, .int .i64 0], .siter (B l) pos] (q53_2 0 (fun r _ => r = tupB r0))) ∧
    (∀ x y, x < 1000 → y < 10 ^ n → vfin (vr (l.drop pos) [x] y n) = r0 →
      AWP Tryd.prog 88 0 c53_4 [(4, .ptr 0 0), (5, .int .i64 1), (6, .int .i64 n), (15, .ptr 1 0)] [.cells [.int .i64 (x : Nat), .int .i64 (y : Nat), .int .i64 0], .siter (B l) pos] (q53_2 0 (fun r _ => r = tupB r0))) ∧
    (∀ x y z, x < 1000 → y < 1000 → z < 10 ^ n → vfin (vr (l.drop pos) [x, y] z n) = r0 →
      AWP Tryd.prog 88 0 c53_4 [(4, .ptr 0 0), (5, .int .i64 2), (6, .int .i64 n), (15, .ptr 1 0)] [.cells [.int .i64 (x : Nat), .int .i64 (y : Nat), .int .i64 (z : Nat)], .siter (B l) pos] (q53_2 0 (fun r _ => r = tupB r0))) := by
  intro m
  induction m with
  | zero =>
    intro pos n hm hn
    have hd : l.drop pos = [] := List.drop_eq_nil_of_le (by omega)
    have hp := pow_le hn
    rw [hd]
    simp only [vr]
    refine ⟨fun x hx h => ?_, fun x y hx hy h => ?_, fun x y z hx hy hz h => ?_⟩
    · refine v53_4a _ _ _ _ _ _ _ _ (condD (fun h => by rw [B_size] at h; omega) fun _ => ?_)
      exact read12 (x := x) (y := 0) (z := 0) 0 n (by omega) (by rw [← h, if_neg (by omega)]; rfl)
    · refine v53_4b _ _ _ _ _ _ _ _ (condD (fun h => by rw [B_size] at h; omega) fun _ => ?_)
      exact read12 (x := x) (y := y) (z := 0) 1 n (by omega) (by rw [← h, if_neg (by omega)]; rfl)
    · refine v53_4c _ _ _ _ _ _ _ _ (condD (fun h => by rw [B_size] at h; omega) fun _ => ?_)
      refine read12 (x := x) (y := y) (z := z) 2 n (by omega) ?_
      rw [← h]
      cases n with
      | zero => rfl
      | succ n => rw [if_pos (by omega)]; rfl
  | succ m ih =>
    intro pos n hm hn
    have hi : pos < l.length := by omega
    have hd : l.drop pos = l[pos] :: l.drop (pos + 1) := List.drop_eq_getElem_cons hi
    have hg : l.getD pos 0 = l[pos] := by rw [List.getD_eq_getElem?_getD, List.getElem?_eq_getElem hi]; rfl
    have hin : pos < (B l).size := by rw [B_size]; exact hi
    have h256 := (l[pos]).toNat_lt
    have hp := pow_le hn
    rw [hd]
    by_cases hb : (l[pos]).toNat < 128
    · have hdec : Utf8.decode (B l) pos = ((l[pos]).toNat, 1) := by rw [← hg]; exact decode_lt hi (by rw [hg]; exact hb)
      have ih0 := ih (pos + 1) 0 (by omega) (by omega)
      have e1 : ∀ v : Nat, v < 1000 → 48 ≤ (l[pos]).toNat → IntKind.wrap .i64 (IntKind.wrap .i64 ((v : Int) * 10) + IntKind.wrap .i64 (IntKind.wrap .i32 (((l[pos]).toNat : Int) - 48))) = ((v * 10 + ((l[pos]).toNat - 48) : Nat) : Int) := by
        intro v hv h48
        rw [wrap32 (by omega) (by omega), wrap64 (x := (v : Int) * 10) (by omega) (by omega), wrap64 (x := ((l[pos]).toNat : Int) - 48) (by omega) (by omega), wrap64 (by omega) (by omega)]
        omega
      have e2 : IntKind.wrap .i64 ((n : Int) + 1) = ((n + 1 : Nat) : Int) := by rw [wrap64 (by omega) (by omega)]; simp
      have e3 : (0 : Int) ≤ 0 ∧ (0 : Int) < 3 := by decide
      have e4 : (0 : Int) ≤ 1 ∧ (1 : Int) < 3 := by decide
      have e5 : (0 : Int) ≤ 2 ∧ (2 : Int) < 3 := by decide
      have hlt : ∀ v : Nat, v < 10 ^ n → ¬ (((l[pos]).toNat : Int) < 48 ∨ 57 < ((l[pos]).toNat : Int) ∨ (n : Int) = 3 ∨ (0 < (n : Int) ∧ (v : Int) = 0)) → n + 1 ≤ 3 ∧ v * 10 + ((l[pos]).toNat - 48) < 10 ^ (n + 1) ∧ v < 1000 ∧ 48 ≤ (l[pos]).toNat := by
        intro v hv hx
        rw [Nat.pow_succ]
        refine ⟨by omega, by omega, by omega, by omega⟩
      refine ⟨fun x hx h => ?_, fun x y hx hy h => ?_, fun x y z hx hy hz h => ?_⟩
      · have F : (((l[pos]).toNat : Int) < 48 ∨ 57 < ((l[pos]).toNat : Int) ∨ (n : Int) = 3 ∨ (0 < (n : Int) ∧ (x : Int) = 0)) → ¬ ((l[pos]).toNat = 46 ∧ 0 < n) → (AV.tup [.int .i64 0, .bool false] = tupB r0) := by
          intro hx h46
          simp only [vr] at h
          rw [if_neg (by omega), if_pos (by omega)] at h
          rw [← h]; rfl
        have A : ¬ (((l[pos]).toNat : Int) < 48 ∨ 57 < ((l[pos]).toNat : Int) ∨ (n : Int) = 3 ∨ (0 < (n : Int) ∧ (x : Int) = 0)) → AWP Tryd.prog 88 0 c53_4 [(4, .ptr 0 0), (5, .int .i64 0), (6, .int .i64 (IntKind.wrap .i64 ((n : Int) + 1))), (15, .ptr 1 0)]
            [.cells [.int .i64 (IntKind.wrap .i64 (IntKind.wrap .i64 ((x : Int) * 10) + IntKind.wrap .i64 (IntKind.wrap .i32 (((l[pos]).toNat : Int) - 48)))), .int .i64 0, .int .i64 0], .siter (B l) (pos + 1)] (q53_2 0 (fun r _ => r = tupB r0)) := by
          intro hc
          obtain ⟨h1, h2, h3, h4⟩ := hlt x hx hc
          simp only [vr] at h
          rw [if_neg (by omega), if_neg (by omega)] at h
          rw [e1 x h3 h4, e2]
          exact (ih (pos + 1) (n + 1) (by omega) h1).1 _ h2 h
        refine v53_4a _ _ _ _ _ _ _ _ (condD (fun _ => ?_) fun h => absurd hin h)
        rw [hdec]
        refine condE (fun h46 => condD (fun hn0 => ?_) fun hn0 => dig e3 (fun q => F q (by omega)) A) fun h46 => dig e3 (fun q => F q (by omega)) A
        simp only [vr] at h
        rw [if_pos ⟨by omega, by omega, by simp⟩] at h
        exact ih0.2.1 x 0 (by omega) (by simp) h
      · have F : (((l[pos]).toNat : Int) < 48 ∨ 57 < ((l[pos]).toNat : Int) ∨ (n : Int) = 3 ∨ (0 < (n : Int) ∧ (y : Int) = 0)) → ¬ ((l[pos]).toNat = 46 ∧ 0 < n) → (AV.tup [.int .i64 0, .bool false] = tupB r0) := by
          intro hx h46
          simp only [vr] at h
          rw [if_neg (by omega), if_pos (by omega)] at h
          rw [← h]; rfl
        have A : ¬ (((l[pos]).toNat : Int) < 48 ∨ 57 < ((l[pos]).toNat : Int) ∨ (n : Int) = 3 ∨ (0 < (n : Int) ∧ (y : Int) = 0)) → AWP Tryd.prog 88 0 c53_4 [(4, .ptr 0 0), (5, .int .i64 1), (6, .int .i64 (IntKind.wrap .i64 ((n : Int) + 1))), (15, .ptr 1 0)]
            [.cells [.int .i64 x, .int .i64 (IntKind.wrap .i64 (IntKind.wrap .i64 ((y : Int) * 10) + IntKind.wrap .i64 (IntKind.wrap .i32 (((l[pos]).toNat : Int) - 48)))), .int .i64 0], .siter (B l) (pos + 1)] (q53_2 0 (fun r _ => r = tupB r0)) := by
          intro hc
          obtain ⟨h1, h2, h3, h4⟩ := hlt y hy hc
          simp only [vr] at h
          rw [if_neg (by omega), if_neg (by omega)] at h
          rw [e1 y h3 h4, e2]
          exact (ih (pos + 1) (n + 1) (by omega) h1).2.1 _ _ hx h2 h
        refine v53_4b _ _ _ _ _ _ _ _ (condD (fun _ => ?_) fun h => absurd hin h)
        rw [hdec]
        refine condE (fun h46 => condD (fun hn0 => ?_) fun hn0 => dig e4 (fun q => F q (by omega)) A) fun h46 => dig e4 (fun q => F q (by omega)) A
        simp only [vr] at h
        rw [if_pos ⟨by omega, by omega, by simp⟩] at h
        exact ih0.2.2 x y 0 hx (by omega) (by simp) h
      · have F : (((l[pos]).toNat : Int) < 48 ∨ 57 < ((l[pos]).toNat : Int) ∨ (n : Int) = 3 ∨ (0 < (n : Int) ∧ (z : Int) = 0)) → (AV.tup [.int .i64 0, .bool false] = tupB r0) := by
          intro hx
          simp only [vr] at h
          rw [if_neg (by simp), if_pos (by omega)] at h
          rw [← h]; rfl
        have A : ¬ (((l[pos]).toNat : Int) < 48 ∨ 57 < ((l[pos]).toNat : Int) ∨ (n : Int) = 3 ∨ (0 < (n : Int) ∧ (z : Int) = 0)) → AWP Tryd.prog 88 0 c53_4 [(4, .ptr 0 0), (5, .int .i64 2), (6, .int .i64 (IntKind.wrap .i64 ((n : Int) + 1))), (15, .ptr 1 0)]
            [.cells [.int .i64 x, .int .i64 y, .int .i64 (IntKind.wrap .i64 (IntKind.wrap .i64 ((z : Int) * 10) + IntKind.wrap .i64 (IntKind.wrap .i32 (((l[pos]).toNat : Int) - 48))))], .siter (B l) (pos + 1)] (q53_2 0 (fun r _ => r = tupB r0)) := by
          intro hc
          obtain ⟨h1, h2, h3, h4⟩ := hlt z hz hc
          simp only [vr] at h
          rw [if_neg (by simp), if_neg (by omega)] at h
          rw [e1 z h3 h4, e2]
          exact (ih (pos + 1) (n + 1) (by omega) h1).2.2 _ _ _ hx hy h2 h
        refine v53_4c _ _ _ _ _ _ _ _ (condD (fun _ => ?_) fun h => absurd hin h)
        rw [hdec]
        refine condE (fun h46 => condD (fun hn0 => ?_) fun hn0 => dig e5 F A) fun h46 => dig e5 F A
        refine condD (fun _ => F (.inl (by omega))) fun h48 => absurd h46 (by omega)
    · have hdec := decode_ge (l := l) hi (by rw [hg]; omega)
      have hr : ∀ (done : List Nat) (v : Nat), vfin (vr (l[pos] :: l.drop (pos + 1)) done v n) = r0 → AV.tup [.int .i64 0, .bool false] = tupB r0 := by
        intro done v h
        simp only [vr] at h
        rw [if_neg (by omega), if_pos (by omega)] at h
        rw [← h]; rfl
      refine ⟨fun x hx h => ?_, fun x y hx hy h => ?_, fun x y z hx hy hz h => ?_⟩
      · refine v53_4a _ _ _ _ _ _ _ _ (condD (fun _ => ?_) fun h => absurd hin h)
        exact condE (fun h46 => by omega) fun _ => condD (fun h48 => by omega) fun _ => condD (fun _ => hr _ _ h) fun h57 => by omega
      · refine v53_4b _ _ _ _ _ _ _ _ (condD (fun _ => ?_) fun h => absurd hin h)
        exact condE (fun h46 => by omega) fun _ => condD (fun h48 => by omega) fun _ => condD (fun _ => hr _ _ h) fun h57 => by omega
      · refine v53_4c _ _ _ _ _ _ _ _ (condD (fun _ => ?_) fun h => absurd hin h)
        exact condE (fun h46 => by omega) fun _ => condD (fun h48 => by omega) fun _ => condD (fun _ => hr _ _ h) fun h57 => by omega

theorem read_spec (l : List UInt8) (H : List AObj) : ASpec Tryd.prog 53 [.str (B l)] H (fun r H' => r = tupB (readV l) ∧ H' = H) := by
  refine pd (tupB (readV l)) (fun _ => rfl) (fun _ => rfl) H (s53 _ _ ?_)
  exact (read4 l.length 0 0 (by omega) (by omega)).1 0 (by simp) (readV_eq l).symm

/-! ### the chapter's examples -/

/-! ### the laws -/

end D
end

section
/- PickPuts: the law's function returns true. -/

set_option linter.unusedVariables false
set_option linter.unusedSimpArgs false
set_option linter.unusedSectionVars false
set_option maxRecDepth 100000
open Go Go.Ab Go.Proofs V S T C
open E (PA pa)
open Pc (slK slKLe putM getM dropM putD UpK)
open Ve (textM dg text3 readV)
namespace Dk
abbrev joinT (m : List Pk) : Nm := Go.Lib.join (m.map txt) sepP

/-! ### pieces -/
theorem dg_no {n : Nat} (h : n < 1000) : (44 : UInt8) ∉ dg n := by
  have no : ∀ k, k < 10 → (44 : UInt8) ≠ UInt8.ofNat (48 + k) := by
    intro k hk e
    have := congrArg UInt8.toNat e
    simp at this
    omega
  unfold dg
  split
  · simp only [List.mem_cons, List.not_mem_nil, or_false]; exact no n (by omega)
  · split
    · simp only [List.mem_cons, List.not_mem_nil, or_false, not_or]; exact ⟨no _ (by omega), no _ (by omega)⟩
    · simp only [List.mem_cons, List.not_mem_nil, or_false, not_or]; exact ⟨no _ (by omega), no _ (by omega), no _ (by omega)⟩
theorem textM_no (v : Int) : (44 : UInt8) ∉ textM v := by
  by_cases h : 0 ≤ v ∧ v < 1000000000
  · obtain ⟨a, b, c, ha, hb, hc, _, e⟩ := Ve.textM_split h
    rw [e]
    unfold text3
    have h1 := dg_no ha
    have h2 := dg_no hb
    have h3 := dg_no hc
    simp [h1, h2, h3]
  · unfold Ve.textM
    rw [if_neg h]; simp
theorem fitP_parts {p : Pk} (h : fitP p = true) : fitM p.1 = true ∧ 0 ≤ p.2 ∧ p.2 < 1000000000 := by
  unfold fitP at h
  rw [Bool.and_eq_true] at h
  exact ⟨h.1, of_decide_eq_true h.2⟩
theorem txt_no {p : Pk} (h : fitP p = true) : (44 : UInt8) ∉ txt p := by
  have h1 := (fit_no (fitP_parts h).1).1
  have h2 := textM_no p.2
  simp [txt, h1, h2]
theorem txt_cut {p : Pk} (h : fitP p = true) : Go.Lib.cut (txt p) [32] = (p.1, textM p.2, true) := cut_at (fit_no (fitP_parts h).1).2
theorem txt_len {p : Pk} (h : fitP p = true) : (txt p).length ≤ 36 := by
  have h1 := fitM_short (fitP_parts h).1
  have h2 := textM_len p.2
  simp [txt]; omega
theorem join_le : ∀ (ps : List Nm), (∀ p ∈ ps, p.length ≤ 36) → (Go.Lib.join ps sepP).length ≤ ps.length * 38
  | [], _ => by simp [Go.Lib.join_nil]
  | [p], h => by rw [Go.Lib.join_one]; have := h p (by simp); simp; omega
  | p :: q :: r, h => by
    rw [join_cons]
    have h1 := h p (by simp)
    have h2 := join_le (q :: r) fun x hx => h x (by simp [hx])
    simp at h2 ⊢; omega
section
variable {m : List Pk} (h0 : m ≠ []) (hl : m.length ≤ 70) (hc : chkF none m = true)
include h0 hl hc
theorem joinT_len : (joinT m).length ≤ 2660 := by
  have := join_le (m.map txt) (fun x hx => by
    obtain ⟨p, hp, rfl⟩ := List.mem_map.1 hx
    exact txt_len (chk_fit hc p hp))
  simp at this
  show (Go.Lib.join (m.map txt) sepP).length ≤ 2660
  omega
theorem names_le : ∀ p ∈ m, p.1.length ≤ 1000 := fun p hp => by
  have := fitM_short (fitP_parts (chk_fit hc p hp)).1
  omega
theorem pieces : Go.Lib.count (joinT m) sepP = (m.map txt).length - 1 ∧ Go.Lib.split (joinT m) sepP = m.map txt :=
  split_spec (m.map txt) (by simpa using h0) fun x hx => by
    obtain ⟨p, hp, rfl⟩ := List.mem_map.1 hx
    exact txt_no (chk_fit hc p hp)
theorem not_nothing : joinT m ≠ nothing := by
  intro e
  have h32 : (32 : UInt8) ∈ joinT m := by
    cases m with
    | nil => exact (h0 rfl).elim
    | cons p r =>
      cases r with
      | nil =>
        show (32 : UInt8) ∈ Go.Lib.join [txt p] sepP
        rw [Go.Lib.join_one]; simp [txt]
      | cons q r =>
        show (32 : UInt8) ∈ Go.Lib.join (txt p :: txt q :: r.map txt) sepP
        rw [join_cons]; simp [txt]
  rw [e] at h32
  revert h32
  decide
end

/-! ### Show, Read -/
theorem show7b {s : List Pk} (hs : s.length ≤ 70) (hn : ∀ p ∈ s, p.1.length ≤ 1000) (hj : (Go.Lib.join (s.map txt) [44, 32]).length ≤ 1000000) : ∀ (m i : Nat) (o : List Nm), m + i = s.length → o = (s.take i).map txt →
    AWP Tryd.prog 33 0 c31_7 [(3, .sl 1 (.map encL [] o) (.tok 0)), (14, slK s), (15, .int .i64 s.length), (16, .int .i64 i)] [.tok] (q31_2 0 (PA (.str (B (Go.Lib.join (s.map txt) [44, 32]))))) := by
  intro m
  induction m with
  | zero =>
    intro i o hm ho
    rw [List.take_of_length_le (by omega)] at ho
    subst ho
    refine v31_7 _ _ _ _ _ _ (condD (fun hc => by omega) fun _ => ?_)
    refine ASpec.call (D.join_spec (s.map txt) [44, 32] (by simp; omega) (by omega) _) ⟨Le.sl (s' := .map encL [] (s.map txt)) rfl (.inl rfl) (.inr rfl), Le.refl _, trivial⟩ ⟨_, rfl, rfl, pa (Le.refl _)⟩
  | succ m ih =>
    intro i o hm ho
    have hp := hn _ (getD_mem (d := noPk) (show i < s.length by omega))
    have hti : s.take (i + 1) = s.take i ++ [s.getD i noPk] := by
      rw [List.take_add_one, List.getD_eq_getElem?_getD, List.getElem?_eq_getElem (show i < s.length by omega)]; rfl
    have hol : o.length ≤ 70 := by rw [ho]; simp; omega
    refine v31_7 _ _ _ _ _ _ (condD (fun hc => needJ ⟨by omega, by omega⟩ ?_) fun hc => by omega)
    rw [Int.toNat_natCast, succ64 (by omega)]
    generalize s.getD i noPk = p at hp hti ⊢
    have ht := textM_len p.2
    refine needJ (by rw [B_size]; omega) (ASpec.call (D.text_spec p.2 _) (Les.refl _) ⟨_, rfl, rfl, ⟨rfl, rfl⟩, needJ ?_ (needJ (by omega) ?_)⟩)
    · have e : (({ data := List.toArray p.1 } : ByteArray) ++ { data := #[(32 : UInt8)] }).size = p.1.length + 1 := by
        show (B p.1 ++ B [32]).size = _
        rw [D.B_append, B_size]; simp
      rw [e]
      have e2 : (D.B (textM p.2)).size = (textM p.2).length := by simp [ByteArray.size]
      rw [e2]; omega
    · rw [cat2]
      refine AWP.shape [2] [(3, .sl 1 (.map encL [] (o ++ [txt p])) (.tok 0)), (14, slK s), (15, .int .i64 s.length), (16, .int .i64 (i + 1 : Nat))] [.tok] (Sel.mk0 (by decide) ⟨rfl, trivial⟩)
        ⟨rfl, leAppE (Les.refl _), rfl, slKLe _ _, rfl, Le.refl _, rfl, Le.refl _, trivial⟩ (ih (i + 1) _ (by omega) ?_)
      rw [hti, List.map_append, ← ho]; rfl
noncomputable abbrev slT (l : List Nm) : AV := .sl 1 (.map encL [] l) .none
theorem slTle (ρ : Nat → Nat) (l : List Nm) (t : Tip) : Le (.sl 1 (.map encL [] l) t) (AV.ren ρ (slT l)) := by
  have ren : ∀ (x : Nm), renL ρ (encL x) = encL x := fun x => rfl
  exact Le.sl (s' := Seq.ren ρ (.map encL [] l)) (by simp [Ab.Seq.toList, Seq.ren, ren]) (.inl rfl) (.inr rfl)
section
variable {m : List Pk} (h0 : m ≠ []) (hl : m.length ≤ 70) (hc : chkF none m = true)
include h0 hl hc
theorem showS_spec (H : List AObj) : ASpec Tryd.prog 31 [slK m] H (fun r H' => r = .str (B (joinT m)) ∧ H' = H) := by
  have hn := names_le h0 hl hc
  have hj := joinT_len h0 hl hc
  have hpos : 0 < m.length := List.length_pos_iff.2 h0
  have k : ASpec Tryd.prog 31 [slK m] [] (fun r H' => r = .str (B (joinT m)) ∧ H' = []) := by
    refine ASpec.sel (s31 _ _ (ASpec.call (chk_spec (s := m) (by omega) hn _) (Les.refl _) ⟨_, rfl, rfl, ?_⟩))
    rw [hc]
    refine condBn (fun h => by cases h) fun _ => condE (fun h => by omega) fun _ => v31_5 _ _ _ ?_
    have key := show7b (s := m) hl hn (Nat.le_trans hj (by omega)) m.length 0 [] (by omega) (by simp)
    refine AWP.re (ReSt.tok (k := 3) (q' := .map encL [] []) (sz' := 1) (s2 := [(3, .sl 1 (.map encL [] []) (.tok 0)), (14, slK m), (15, .int .i64 m.length), (16, .int .i64 (0 : Nat))]) rfl (.inl rfl) rfl (.inr rfl) (fun d hd => ?_) rfl) key
    simp only [Ab.get]
    have e : Nat.beq 3 d = false := by
      cases hx : Nat.beq 3 d with
      | false => rfl
      | true => exact absurd (Nat.eq_of_beq_eq_true hx).symm hd
    rw [e]; rfl
  exact ASpec.pureH H k _ _ rfl rfl
theorem read7 : ∀ (k i : Nat) (o : List Pk), k + i = m.length → o = m.take i →
    AWP Tryd.prog 50 0 Ek.c30_7 [(4, .sl 2 (.map encPk noPk o) (.tok 0)), (20, slT (m.map txt)), (21, .int .i64 m.length), (22, .int .i64 i)] [.tok] (Ek.q30_2 0 (PA (.tup [slK m, .bool true]))) := by
  have hn := names_le h0 hl hc
  intro k
  induction k with
  | zero =>
    intro i o hk ho
    rw [List.take_of_length_le (by omega)] at ho
    subst ho
    refine Ek.v30_7 _ _ _ _ _ _ (condD (fun hc => by omega) fun _ => Ek.v30_15 _ _ _ ?_)
    refine ASpec.call (chk_spec (s := o) (by omega) hn _) ⟨Le.sl (s' := .map encPk noPk o) rfl (.inl rfl) (.inr rfl), trivial⟩ ⟨_, rfl, rfl, ?_⟩
    rw [hc]
    exact condBn (fun h => by cases h) fun _ => pa (Le.tup ⟨slKLe _ _, Le.refl _, trivial⟩)
  | succ k ih =>
    intro i o hk ho
    have hf := chk_fit hc _ (getD_mem (d := noPk) (show i < m.length by omega))
    have hti : m.take (i + 1) = m.take i ++ [m.getD i noPk] := by
      rw [List.take_add_one, List.getD_eq_getElem?_getD, List.getElem?_eq_getElem (show i < m.length by omega)]; rfl
    have hg : (m.map txt).getD i [] = txt (m.getD i noPk) := by
      rw [List.getD_eq_getElem?_getD, List.getD_eq_getElem?_getD, List.getElem?_map, List.getElem?_eq_getElem (show i < m.length by omega)]; rfl
    have hol : o.length ≤ 70 := by rw [ho]; simp; omega
    refine Ek.v30_7 _ _ _ _ _ _ (condD (fun hc => needJ ⟨by omega, by simp; omega⟩ ?_) fun hc => by omega)
    rw [Int.toNat_natCast, succ64 (by omega), hg]
    generalize m.getD i noPk = p at hf hti ⊢
    have htl := txt_len hf
    have hcut := D.cut_spec (txt p) [32] (by omega) [.tok]
    rw [txt_cut hf] at hcut
    refine ASpec.call hcut (Les.refl _) ⟨(p.1, textM p.2, true), rfl, rfl, ?_⟩
    have hrd := D.read_spec (textM p.2) [.tok]
    rw [Ve.readV_text (fitP_parts hf).2] at hrd
    refine ASpec.call hrd (Les.refl _) ⟨(p.2, true), rfl, rfl, condBn (fun h => by cases h) fun _ => needJ (by omega) ?_⟩
    refine AWP.shape [1] [(4, .sl 2 (.map encPk noPk (o ++ [p])) (.tok 0)), (20, slT (m.map txt)), (21, .int .i64 m.length), (22, .int .i64 (i + 1 : Nat))] [.tok] (Sel.mk0 (by decide) ⟨rfl, trivial⟩)
      ⟨rfl, leAppE (Les.refl _), rfl, slTle _ _ _, rfl, Le.refl _, rfl, Le.refl _, trivial⟩ (ih (i + 1) _ (by omega) (by rw [hti, ← ho]))
theorem readS_spec (H : List AObj) : ASpec Tryd.prog 30 [.str (B (joinT m))] H (fun r H' => r = .tup [slK m, .bool true] ∧ H' = H) := by
  have hj := joinT_len h0 hl hc
  have hnn := not_nothing h0 hl hc
  obtain ⟨hp1, hp2⟩ := pieces h0 hl hc
  have hpos : 0 < m.length := List.length_pos_iff.2 h0
  have k : ASpec Tryd.prog 30 [.str (B (joinT m))] [] (fun r H' => r = .tup [slK m, .bool true] ∧ H' = []) := by
    refine ASpec.sel (Ek.s30 _ _ ?_)
    rw [B_size]
    refine condD (fun h => by omega) fun _ => condS (fun h => (hnn h).elim) fun _ => Ek.v30_5 _ _ _ ?_
    have hsp := D.split_spec (joinT m) sepP (by omega) (by simp) (by rw [hp1, hp2]; simp; omega) []
    rw [hp2] at hsp
    refine ASpec.call hsp (Les.refl _) ⟨m.map txt, rfl, rfl, ?_⟩
    rw [List.length_map]
    have key := read7 h0 hl hc m.length 0 [] (by omega) (by simp)
    refine AWP.re (ReSt.tok (k := 4) (q' := .map encPk noPk []) (sz' := 2) (s2 := [(4, .sl 2 (.map encPk noPk []) (.tok 0)), (20, slT (m.map txt)), (21, .int .i64 m.length), (22, .int .i64 (0 : Nat))]) rfl (.inl rfl) rfl (.inr rfl) (fun d hd => ?_) rfl) key
    simp only [Ab.get]
    have e : Nat.beq 4 d = false := by
      cases hx : Nat.beq 4 d with
      | false => rfl
      | true => exact absurd (Nat.eq_of_beq_eq_true hx).symm hd
    rw [e]; rfl
  exact ASpec.pureH H k _ _ rfl rfl
end

/-! ### the law -/
section
variable {l : List Pk} {p q : Pk} (hl : l.length ≤ 60) (hc : chkF none l = true) (hp : fitP p = true) (hq : q.1.length ≤ 200)
include hl hc hp hq
theorem puts12 : AWP Tryd.prog 139 0 Ek.c5_12 [(0, slK l), (4, .ptr 0 0), (7, slK (putM l p)), (8, slK (dropM (putM l p) p.1)), (9, .int .i64 p.2), (10, .bool true), (12, .bool false), (17, slK (putM l p)), (18, .bool true)]
    [.cells (encPk p), .cells (encPk q)] (Ek.q5_0 0 (PB true)) := by
  have hu := chk_up hc
  have hm := put_chk hc hp
  have hml := Pc.put_len l p
  have hd := drop_chk (x := p.1) hm
  have hdl := dropM_len (putM l p) p.1
  have hnm : ∀ y ∈ putM l p, y.1.length ≤ 1000 := fun y hy => by have := fitM_short (fitP_parts (chk_fit hm y hy)).1; omega
  have hnd : ∀ y ∈ dropM (putM l p) p.1, y.1.length ≤ 1000 := fun y hy => by have := fitM_short (fitP_parts (chk_fit hd y hy)).1; omega
  refine Ek.v5_12 _ _ _ _ _ _ _ _ _ _ _ _ (ASpec.call (chk_spec (s := putM l p) (by omega) hnm _) (Les.refl _) ⟨_, rfl, rfl, ?_⟩)
  rw [hm]
  refine condB (fun _ => ?_) fun h => by cases h
  refine ASpec.call (chk_spec (s := dropM (putM l p) p.1) (by omega) hnd _) (Les.refl _) ⟨_, rfl, rfl, ?_⟩
  rw [hd]
  refine condB (fun _ => condE (fun _ => condB (fun _ => condBn (fun _ => ?_) fun h => by cases h) fun h => by cases h) fun h => (h rfl).elim) fun h => by cases h
  refine ASpec.call (sameP_spec (putM l p) (putM l p) (by omega) _) (Les.refl _) ⟨_, rfl, rfl, condD (fun _ => condB (fun _ => ?_) fun h => by cases h) fun h => (h rfl).elim⟩
  refine ASpec.call (drop_spec l p.1 (by omega) _) (Les.refl _) ⟨_, rfl, rfl, ?_⟩
  have e : dropM (putM l p) p.1 = dropM l p.1 := by rw [Pc.putM_putD hu, drop_put]
  exact ASpec.call (sameP_spec (dropM (putM l p) p.1) (dropM l p.1) (by omega) _) (Les.refl _) ⟨_, rfl, rfl, condD (fun _ => ASpec.call (awake_spec _) (Les.refl _) ⟨(), rfl, rfl, pb rfl⟩) fun h => (h e).elim⟩
theorem put_ne : putM l p ≠ [] := by
  intro e
  have h := put_same l p
  rw [← Pc.putM_putD (chk_up hc), e] at h
  have h2 := congrArg Prod.snd h
  simp [getM] at h2
theorem puts9 : AWP Tryd.prog 139 0 Ek.c5_9 [(0, slK l), (4, .ptr 0 0), (5, .ptr 1 0), (7, slK (putM l p)), (8, slK (dropM (putM l p) p.1)), (9, .int .i64 p.2), (10, .bool true), (12, .bool false), (13, .int .i64 (getP l q.1).1), (14, .bool (getP l q.1).2), (15, .int .i64 (getP (putM l p) q.1).1), (16, .bool (getP (putM l p) q.1).2)]
    [.cells (encPk p), .cells (encPk q)] (Ek.q5_0 0 (PB true)) := by
  have hu := chk_up hc
  have hm := put_chk hc hp
  have hml := Pc.put_len l p
  have h0 := put_ne hl hc hp hq
  have nxt := puts12 hl hc hp hq
  refine Ek.v5_9 _ _ _ _ _ _ _ _ _ _ _ _ _ _ (ASpec.call (showS_spec h0 (by omega) hm _) (Les.refl _) ⟨_, rfl, rfl, ?_⟩)
  refine ASpec.call (readS_spec h0 (by omega) hm _) (Les.refl _) ⟨(putM l p, true), rfl, rfl, ?_⟩
  refine condSn (fun h1 => ?_) fun _ => nxt
  have e : getP (putM l p) q.1 = getP l q.1 := by
    rw [get_one (Pc.put_up hu p), get_one hu, Pc.putM_putD hu, put_other h1]
  rw [e]
  exact condNe (fun h => (h rfl).elim) fun _ => condBn (fun h => by simp at h) fun _ => nxt
theorem puts3 : AWP Tryd.prog 139 0 Ek.c5_3 [(0, slK l), (4, .ptr 0 0), (5, .ptr 1 0)] [.cells (encPk p), .cells (encPk q)] (Ek.q5_0 0 (PB true)) := by
  have hu := chk_up hc
  have hml := Pc.put_len l p
  have hdl := dropM_len (putM l p) p.1
  refine Ek.v5_3 _ _ _ _ _ (ASpec.call (Pc.put_spec l p (by omega) _) (Les.refl _) ⟨_, rfl, rfl, ?_⟩)
  refine ASpec.call (drop_spec (putM l p) p.1 (by omega) _) (Les.refl _) ⟨_, rfl, rfl, ?_⟩
  refine ASpec.call (get_spec (putM l p) p.1 (by omega) _) (Les.refl _) ⟨getP (putM l p) p.1, rfl, rfl, ?_⟩
  refine ASpec.call (get_spec (dropM (putM l p) p.1) p.1 (by omega) _) (Les.refl _) ⟨getP (dropM (putM l p) p.1) p.1, rfl, rfl, ?_⟩
  refine ASpec.call (get_spec l q.1 (by omega) _) (Les.refl _) ⟨getP l q.1, rfl, rfl, ?_⟩
  refine ASpec.call (get_spec (putM l p) q.1 (by omega) _) (Les.refl _) ⟨getP (putM l p) q.1, rfl, rfl, ?_⟩
  have e1 : getP (putM l p) p.1 = (p.2, true) := by rw [get_one (Pc.put_up hu p), Pc.putM_putD hu, put_same]
  have e2 : getP (dropM (putM l p) p.1) p.1 = (0, false) := by rw [get_one (drop_up (Pc.put_up hu p)), drop_gone]
  rw [e1, e2]
  exact puts9 hl hc hp hq
end
theorem rfit_any (l : Nm) (H : List AObj) : ASpec Tryd.prog 26 [.str (B l)] H (fun r H' => r = .bool (fitM l) ∧ H' = H) := by
  have k : ASpec Tryd.prog 26 [.str (B l)] [] (fun r H' => r = .bool (fitM l) ∧ H' = []) := by
    refine s26 _ _ ?_
    rw [B_size]
    refine condD (fun h1 => ?_) fun h1 => ?_
    · have : fitM l = false := by
        cases h : fitM l with
        | false => rfl
        | true => have := fitM_short h; omega
      rw [this]; exact ⟨rfl, rfl⟩
    · have hlen := runesF_len (l := l) l.length 0
      refine ASpec.call (runes_spec (by omega) []) (Les.refl _) ⟨_, rfl, rfl, rfit5 (ls := runesM l) (by unfold runesM; omega) (runesM l).length 0 (by omega) ?_⟩
      unfold fitM
      rw [fitF_fitD _ 0 (by omega), List.drop_zero, Nat.zero_add, Bool.and_assoc]
      exact ⟨rfl, rfl⟩
  exact ASpec.pureH H k _ _ rfl rfl
theorem puts_law (l : List Pk) (p q : Pk) : ASpec Tryd.prog 5 [slK l, .agg (encPk p), .agg (encPk q)] [] (PB true) := by
  have wake : ∀ H, ASpec Tryd.prog 17 [] H (fun r H' => ∃ x : Unit, r = .bool true ∧ H' = H ∧ PB true (.bool true) H) := fun H => ASpec.call (awake_spec _) (Les.refl _) ⟨(), rfl, rfl, pb rfl⟩
  refine Ek.s5 l p q _ (ASpec.call (large_spec l _) (Les.refl _) ⟨_, rfl, rfl, condB (fun _ => wake _) fun h1 => ?_⟩)
  have hl := largeK_ok h1
  have hn : ∀ x ∈ l, x.1.length ≤ 1000 := fun x hx => by have := hl.2 x hx; omega
  have hll := hl.1
  refine ASpec.call (chk_spec (s := l) (by omega) hn _) (Les.refl _) ⟨_, rfl, rfl, condBn (fun _ => wake _) fun hc => ?_⟩
  refine ASpec.call (rfit_any p.1 _) (Les.refl _) ⟨_, rfl, rfl, condBn (fun _ => wake _) fun hf => ?_⟩
  refine ASpec.call (verFit_spec p.2 _) (Les.refl _) ⟨_, rfl, rfl, condBn (fun _ => wake _) fun hv => ?_⟩
  rw [B_size]
  exact condD (fun _ => wake _) fun h3 => puts3 hll hc (by unfold fitP; rw [hf, hv]; rfl) (by omega)
theorem pickPuts_spec (l : List Pk) (p q : Pk) : ASpec Tryd.prog 5 [slK l, .agg (encPk p), .agg (encPk q)] [] (fun r H' => r = .bool true ∧ H' = []) := ASpec.sel (puts_law l p q)
end Dk
end

section
/- The codecs of picks; what the row's condition gives. -/

open Go Go.Ab Go.Proofs
namespace Go.Ab
noncomputable def cPk : Codec Tryd.prog 32 T.Pk :=
  (Codec.struct (n := 2) Tryd.underlying32 (FC.cons (k := 1) (n := 1) cName rfl (by kernel_rfl) (FC.cons (k := 1) (n := 0) cInt rfl (by kernel_rfl) FC.nil)) (by kernel_rfl)).iso (fun x => (x.1, x.2.1)) T.encPk (fun _ => True) (fun _ => rfl) (fun _ _ => trivial)
noncomputable def cPks : Codec Tryd.prog 30 (List T.Pk) := Codec.slice (sz := 2) cPk Tryd.underlying30 (by kernel_rfl) (by omega) (fun _ => rfl)
end Go.Ab
namespace D
theorem gT : Tryd.prog.globalNamed "internal/strconv.uint64pow10" = some 3 := by kernel_rfl
theorem gTy : (Tryd.prog.globals[3]?).map (·.type) = some 129 := by kernel_rfl
abbrev laid5 : List (String × DataW Unit) := [("math/bits.deBruijn32tab", YtbjcdgepclmmjaaDoor.Rows.laid_math_bits_deBruijn32tab), ("math/bits.deBruijn64tab", YtbjcdgepclmmjaaDoor.Rows.laid_math_bits_deBruijn64tab), ("internal/strconv.uint64pow10", YtbjcdgepclmmjaaDoor.Rows.laid_internal_strconv_uint64pow10), ("unicode/utf8.acceptRanges", YtbjcdgepclmmjaaDoor.Rows.laid_unicode_utf8_acceptRanges), ("unicode/utf8.first", YtbjcdgepclmmjaaDoor.Rows.laid_unicode_utf8_first)]
theorem tab_data : (YtbjcdgepclmmjaaDoor.Rows.laid_internal_strconv_uint64pow10 : DataW Unit) = Lib.tabData .u64 Lib.pow10Tab := by rfl

/-- what the row's condition and the world's shape give -/
theorem tabs_of {W : World} (h : laidMetH Tryd.prog laid5 W) (hsh : W.ShapedOpen Tryd.prog) : Tabs Tryd.prog (mem0 W) W := by
  rw [MakeChecks.laidMetH_plain _ _ _ (by kernel_rfl)] at h
  have h3 := laidMet.tail (laidMet.tail h)
  rw [tab_data] at h3
  have ht : Lib.TabIs Tryd.prog W "internal/strconv.uint64pow10" .u64 Lib.pow10Tab := Lib.tabIs_of_head gT gTy Tryd.underlying129 Tryd.underlying119 (by kernel_rfl) (by kernel_rfl) h3
  refine tabs0 (fun g hg => ?_) fun g hg => ?_
  · rw [gT] at hg
    cases hg
    unfold Lib.TabIs World.var? at ht
    rw [gT] at ht
    simp only [Option.bind_some] at ht
    split at ht
    case h_2 => cases ht
    case h_1 cs T fr hc =>
    simp only [Option.some.injEq] at ht
    subst ht
    exact ⟨T, fr, hc⟩
  · have hM : Tryd.prog.globalNamed "internal/bytealg.MaxLen" = some 0 := by kernel_rfl
    rw [hM] at hg
    cases hg
    obtain ⟨m, hm⟩ := Go.Proofs.cell_of_shapedOpen_int (g := 0) (k := .i64) (zero := #[.int .i64 0]) (t := 3) hsh (of_decide_eq_true (by kernel_rfl)) (by kernel_rfl) rfl (by kernel_rfl) (by kernel_rfl) Tryd.underlying3
    obtain ⟨cs, hh, hs, _⟩ := hsh.1 0 #[.int .i64 0] 3 (of_decide_eq_true (by kernel_rfl)) (by kernel_rfl)
    have h1 : cs.size = 1 := hs
    have hm2 : cs[0]? = some (.int .i64 m) := by
      simp only [World.cell?, hh] at hm
      exact hm
    refine ⟨m, 3, (0, 0), ?_⟩
    rw [hh]
    have : cs = #[.int .i64 m] := by
      apply Array.ext
      · simpa using h1
      · intro i h2 h3
        have : i = 0 := by omega
        subst this
        have := Array.getElem?_eq_getElem h2
        rw [hm2] at this
        simpa using this.symm
    rw [this]

/-- a row's wrap, the world's shape kept -/
theorem handed_shaped {H : Type} {enc : TypeId × Value → H} {a : Assume} {C : Checked} {os : Os} {f : FuncId} {fn : Func} {s : ChangeSpec} {conds : List PathCond} {apart fresh handsOn again : Bool} {X : World → Array Value → Prop}
    (hX : ∀ (w w' : World) (args : Array Value), w.heap = w'.heap → X w args → X w' args)
    (own : ownKnob C.prog.godebug = none) (started : os.Started) (noInit : C.prog.inits.idxOf? f = none) (hfn : C.prog.funcs[f]? = some fn)
    (witness : ∃ (w : World) (tape : Tape) (i : Input), w.os = os ∧ (w.forCall tape i).Shaped C.prog ∧ i.vars = [] ∧ Input.okWide C.prog (w.forCall tape i) .any w.heap.size f i ∧
      ((s.pre enc C.prog fn conds apart (w.forCall tape i).memory i.args ∧ X (w.forCall tape i).memory i.args) ∧ sizedMet enc C.prog fn (OpenSpec.ofChange s) apart (w.forCall tape i).memory i.args) ∧ a.holds C.prog (lone (Frame.enter C.prog f i.args .normal) [] (w.forCall tape i)))
    (contract : ∀ (W : World) (base : Nat) (args : Array Value) (ds gs : List (DataW H)) (before : List MemPlace),
      (∀ (j : Nat) t v, fn.params[j]? = some t → args[j]? = some v → Value.okWide C.prog W .any base t v) →
      DataW.Whole enc C.prog fn.params.toList s.vars apart W args.toList ds gs before →
      conds.all (PathCond.test C.prog ⟨fn.params.toList, ds, s.plain.varTypes C.prog, gs⟩) = true →
      (DataW.weightsEach C.prog (fn.params.toList ++ s.plain.varTypes C.prog) (ds ++ gs)).all (· ≤ reachBytes) = true → X W args →
      W.ShapedOpen C.prog →
      a.holds C.prog (lone (Frame.enter C.prog f args .normal) [] W) →
      Calls C.prog f args W fun e W' => ∃ v, e = .returned v ∧ s.post enc C.prog fn apart fresh handsOn again W args v W') :
    ReturnsInHanded a C os f .any (fun w args => (s.pre enc C.prog fn conds apart w args ∧ X w args) ∧ sizedMet enc C.prog fn (OpenSpec.ofChange s) apart w args) (s.post enc C.prog fn apart fresh handsOn again) := by
  refine returnsInHanded_of_calls own started noInit witness ?_
  intro w tape i _ hsh _ hok hpre hholds
  obtain ⟨_, _, _, fn', hfn', _, _, _, _, hval⟩ := hok
  have e : fn' = fn := Option.some.inj (hfn'.symm.trans hfn)
  subst e
  obtain ⟨⟨⟨ds, gs, before, hw, hc⟩, hx⟩, hz⟩ := hpre
  have hw' := DataW.Whole.of_heap (w' := w.forCall tape i) (by rfl) hw
  refine (contract (w.forCall tape i) w.heap.size i.args ds gs before hval hw' hc (hz.weights hw) (hX _ _ _ (by rfl) hx) hsh hholds).mono fun e W' ⟨v, he, hp⟩ => ?_
  subst he
  exact ChangeSpec.post_blind hp

/-- a heap that meets the condition -/
theorem all_met (os : Os) (args : Array Value) : laidMetH Tryd.prog laid5 ((World.laidAll Tryd.prog os laid5).forCall (fun _ _ => 0) ⟨#[], args, []⟩).memory := by
  rw [MakeChecks.laidMetH_plain _ _ _ (by kernel_rfl)]
  exact laidMet_laidAll _ (by kernel_rfl) (by kernel_rfl)
end D
end
