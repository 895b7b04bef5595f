/- Q7: several of this proof's own texts, one behind the other: what each proves stands at its head. -/
import Derived.Shelf.LaysM
import Derived.Shelf.Strconv.Itoa3
import Derived.Shelf.Strings.OnBuilder
import Derived.Test.YtbjcdgepclmmjaaDoorProg
import Derived.Test.YtbjcdgepclmmjaaDoorQ6
import Derived.Test.YtbjcdgepclmmjaaDoorA3
import Derived.Test.YtbjcdgepclmmjaaDoorQ5
section
/-
  DERIVED: THE SHELF's CONTRACTS AT THIS DUMP, IN PLAIN WORDS (tools/lay-plain.mjs out of 'PShelf.lean', which tools/lay-shelf.mjs wrote): THE SAME DECLARATIONS UNDER THE SAME NAMES: 'import', 'namespace', 'open', 'def', 'theorem' AND NOTHING ELSE: no command of the shelf's: FOR A HAND-IN. Each laying: the table of numbers ('.._ren') and one theorem, a field a fact of the dump's own or the kernel's comparison; each contract: ONE APPLICATION.
-/

namespace Go.Proofs
open Go.Shelf
def Tryd.lays156_ren : Go.Shelf.Ren := ⟨fun | 156 => 55 | 165 => 73 | 166 => 74 | 169 => 75 | 240 => 92 | 241 => 93 | 276 => 103 | 277 => 104 | n => n, fun | 31 => 63 | 9 => 9 | 3 => 3 | 4 => 4 | 0 => 0 | 20 => 20 | 72 => 87 | 76 => 91 | 70 => 84 | 37 => 85 | 75 => 90 | 127 => 104 | 164 => 112 | 5 => 5 | 80 => 93 | n => n, fun | n => n⟩
theorem Tryd.lays156 : Go.Proofs.Lays.n156 Tryd.prog Tryd.lays156_ren := {
  mixed := by kernel_rfl
  f156 := Tryd.func55.trans (congrArg some (by kernel_rfl))
  f165 := Tryd.func73.trans (congrArg some (by kernel_rfl))
  f166 := Tryd.func74.trans (congrArg some (by kernel_rfl))
  f169 := Tryd.func75.trans (congrArg some (by kernel_rfl))
  f240 := Tryd.func92.trans (congrArg some (by kernel_rfl))
  f241 := Tryd.func93.trans (congrArg some (by kernel_rfl))
  f276 := Tryd.func103.trans (congrArg some (by kernel_rfl))
  f277 := Tryd.func104.trans (congrArg some (by kernel_rfl))
  t0 := Tryd.underlying0
  a0 := Tryd.isAgg0
  z0 := Tryd.sizeOf0
  v0 := Tryd.zeroValue0
  t3 := Tryd.underlying3
  a3 := Tryd.isAgg3
  z3 := Tryd.sizeOf3
  v3 := Tryd.zeroValue3
  t4 := Tryd.underlying4
  a4 := Tryd.isAgg4
  z4 := Tryd.sizeOf4
  v4 := Tryd.zeroValue4
  t9 := Tryd.underlying9
  a9 := Tryd.isAgg9
  z9 := Tryd.sizeOf9
  v9 := Tryd.zeroValue9
  t20 := Tryd.underlying20
  a20 := Tryd.isAgg20
  z20 := Tryd.sizeOf20
  v20 := Tryd.zeroValue20
  t31 := Tryd.underlying63
  a31 := Tryd.isAgg63
  z31 := Tryd.sizeOf63
  v31 := Tryd.zeroValue63
  t37 := Tryd.underlying85
  a37 := Tryd.isAgg85
  z37 := Tryd.sizeOf85
  v37 := Tryd.zeroValue85
  t70 := Tryd.underlying84
  a70 := Tryd.isAgg84
  z70 := Tryd.sizeOf84
  v70 := Tryd.zeroValue84
  t72 := Tryd.underlying87
  a72 := Tryd.isAgg87
  z72 := Tryd.sizeOf87
  v72 := Tryd.zeroValue87
  t75 := Tryd.underlying90
  a75 := Tryd.isAgg90
  z75 := Tryd.sizeOf90
  v75 := Tryd.zeroValue90
  t76 := Tryd.underlying91
  a76 := Tryd.isAgg91
  z76 := Tryd.sizeOf91
  v76 := Tryd.zeroValue91
  t127 := Tryd.underlying104
  a127 := Tryd.isAgg104
  z127 := Tryd.sizeOf104
  v127 := Tryd.zeroValue104
  t164 := Tryd.underlying112
  a164 := Tryd.isAgg112
  z164 := Tryd.sizeOf112
  v164 := Tryd.zeroValue112 }
theorem Tryd.Builder_Extra_156 : Builder.Extra Tryd.prog Tryd.lays156_ren := {
  sizeBuilder := by kernel_rfl
  liesBuilder := by kernel_rfl
  t5 := Tryd.underlying5
  a5 := Tryd.isAgg5
  z5 := Tryd.sizeOf5
  v5 := Tryd.zeroValue5
  infoByte := by kernel_rfl
  cellsByte := by kernel_rfl
  sizeByte := by kernel_rfl
  neB5 := by decide }
open Go.RowKit in
/-- No element: the empty string; the world is as it was. (Whatever the slice's address and capacity: a nil slice too.) (LAID: no walk: one application.) -/
theorem Tryd.strings_Join_none (a : Option Addr) (c : Nat) (sep : ByteArray) (w : World) :
    Calls Tryd.prog 55 #[.slice a 0 c, .string sep] w fun e w' => e = .returned (.string ⟨#[]⟩) ∧ w' = w := Any.strings_Join_none Tryd.lays156 Tryd.Builder_Extra_156 a c sep w
open Go.RowKit in
/-- strings.Join: "Join concatenates the elements of its first argument to create a single string. The separator string sep is placed between elements in the resulting string.": HOWEVER MANY ELEMENTS. Below the heap's end the world is as it was. (LAID: no walk: one application.) -/
theorem Tryd.strings_Join (bk o c : Nat) (xs : List ByteArray) (sep : ByteArray) (w : World) (hcells : ∀ (j : Nat) x, xs[j]? = some x → w.cell? ⟨bk, o + j, none⟩ = some (.string x)) (hbk : bk < w.heap.size) (hN : xs.length ≤ 140737488355328) (hcap : xs.length ≤ c) (hlen : (Lib.join (xs.map (·.data.toList)) sep.data.toList).length ≤ 140737488355328) :
    Calls Tryd.prog 55 #[.slice (some ⟨bk, o, none⟩) xs.length c, .string sep] w fun e w' => e = .returned (.string ⟨(Lib.join (xs.map (·.data.toList)) sep.data.toList).toArray⟩) ∧ Below w.heap.size w w' := Any.strings_Join Tryd.lays156 Tryd.Builder_Extra_156 bk o c xs sep w hcells hbk hN hcap hlen
def Tryd.laysM171_ren : Go.Shelf.Ren := ⟨fun | 171 => 72 | 243 => 91 | 246 => 102 | 283 => 108 | 284 => 109 | 285 => 110 | 286 => 111 | 129 => 113 | 317 => 112 | 318 => 114 | 319 => 115 | 320 => 116 | 337 => 117 | 338 => 118 | n => n, fun | 3 => 3 | 9 => 9 | 2 => 2 | 4 => 4 | 171 => 118 | 0 => 0 | 53 => 119 | 37 => 85 | 5 => 5 | 173 => 122 | 212 => 129 | 51 => 115 | 20 => 20 | 213 => 130 | 46 => 105 | 232 => 133 | 233 => 134 | n => n, fun | 17 => 3 | 18 => 4 | 19 => 5 | n => n⟩
theorem Tryd.laysM171 : Go.Proofs.LaysM.n171 Tryd.prog Tryd.laysM171_ren := {
  mixed := by kernel_rfl
  f129 := Tryd.func113.trans (congrArg some (by kernel_rfl))
  f171 := Tryd.func72.trans (congrArg some (by kernel_rfl))
  f243 := Tryd.func91.trans (congrArg some (by kernel_rfl))
  f246 := Tryd.func102.trans (congrArg some (by kernel_rfl))
  f283 := Tryd.func108.trans (congrArg some (by kernel_rfl))
  f284 := Tryd.func109.trans (congrArg some (by kernel_rfl))
  f285 := Tryd.func110.trans (congrArg some (by kernel_rfl))
  f286 := Tryd.func111.trans (congrArg some (by kernel_rfl))
  f317 := Tryd.func112.trans (congrArg some (by kernel_rfl))
  f318 := Tryd.func114.trans (congrArg some (by kernel_rfl))
  f319 := Tryd.func115.trans (congrArg some (by kernel_rfl))
  f320 := Tryd.func116.trans (congrArg some (by kernel_rfl))
  f337 := Tryd.func117.trans (congrArg some (by kernel_rfl))
  f338 := Tryd.func118.trans (congrArg some (by kernel_rfl))
  t0 := Tryd.underlying0
  a0 := Tryd.isAgg0
  z0 := Tryd.sizeOf0
  v0 := Tryd.zeroValue0
  t2 := Tryd.underlying2
  a2 := Tryd.isAgg2
  z2 := Tryd.sizeOf2
  v2 := Tryd.zeroValue2
  t3 := Tryd.underlying3
  a3 := Tryd.isAgg3
  z3 := Tryd.sizeOf3
  v3 := Tryd.zeroValue3
  t4 := Tryd.underlying4
  a4 := Tryd.isAgg4
  z4 := Tryd.sizeOf4
  v4 := Tryd.zeroValue4
  t5 := Tryd.underlying5
  a5 := Tryd.isAgg5
  z5 := Tryd.sizeOf5
  v5 := Tryd.zeroValue5
  t9 := Tryd.underlying9
  a9 := Tryd.isAgg9
  z9 := Tryd.sizeOf9
  v9 := Tryd.zeroValue9
  t20 := Tryd.underlying20
  a20 := Tryd.isAgg20
  z20 := Tryd.sizeOf20
  v20 := Tryd.zeroValue20
  t37 := Tryd.underlying85
  a37 := Tryd.isAgg85
  z37 := Tryd.sizeOf85
  v37 := Tryd.zeroValue85
  t46 := Tryd.underlying105
  a46 := Tryd.isAgg105
  z46 := Tryd.sizeOf105
  v46 := Tryd.zeroValue105
  t51 := Tryd.underlying115
  a51 := Tryd.isAgg115
  z51 := Tryd.sizeOf115
  v51 := Tryd.zeroValue115
  t53 := Tryd.underlying119
  a53 := Tryd.isAgg119
  z53 := Tryd.sizeOf119
  v53 := Tryd.zeroValue119
  t171 := Tryd.underlying118
  a171 := Tryd.isAgg118
  z171 := Tryd.sizeOf118
  v171 := Tryd.zeroValue118
  t173 := Tryd.underlying122
  a173 := Tryd.isAgg122
  z173 := Tryd.sizeOf122
  v173 := Tryd.zeroValue122
  t212 := Tryd.underlying129
  a212 := Tryd.isAgg129
  z212 := Tryd.sizeOf129
  v212 := Tryd.zeroValue129
  t213 := Tryd.underlying130
  a213 := Tryd.isAgg130
  z213 := Tryd.sizeOf130
  t232 := Tryd.underlying133
  a232 := Tryd.isAgg133
  z232 := Tryd.sizeOf133
  v232 := Tryd.zeroValue133
  t233 := Tryd.underlying134
  a233 := Tryd.isAgg134
  z233 := Tryd.sizeOf134
  v233 := Tryd.zeroValue134
  g17 := by kernel_rfl
  g18 := by kernel_rfl
  g19 := by kernel_rfl
  i0 := by kernel_rfl
  i2 := by kernel_rfl
  i3 := by kernel_rfl
  i4 := by kernel_rfl
  i5 := by kernel_rfl
  i9 := by kernel_rfl
  i20 := by kernel_rfl
  i37 := by kernel_rfl
  i46 := by kernel_rfl
  i51 := by kernel_rfl
  i53 := by kernel_rfl
  i171 := by kernel_rfl
  i173 := by kernel_rfl
  i212 := by kernel_rfl
  i232 := by kernel_rfl
  i233 := by kernel_rfl
  m17 := by kernel_rfl
  m18 := by kernel_rfl
  m19 := by kernel_rfl }
open Go.RowKit Go.Sort Go.Lib in
/-- strconv.Itoa: "Itoa is equivalent to FormatInt(int64(i), 10).": i's DECIMAL NUMERAL ('Lib.itoa': a '-' where i is negative, then the digits), FOR EVERY int. The world behind the call: the world before it, new blocks behind the heap (the library's 'var a [24]byte'), draws. (LAID: no walk: one application.) -/
theorem Tryd.strconv_Itoa (n : Int) (h0 : -9223372036854775808 ≤ n) (h1 : n ≤ 9223372036854775807) (w : World) (htab : Lib.TabIs Tryd.prog w "internal/strconv.uint64pow10" .u64 Lib.pow10Tab) :
    Calls Tryd.prog 72 #[.int .i64 n] w fun e w' => e = .returned (.string ⟨(Lib.itoa n).toArray⟩) ∧ ∃ k os, w' = grow (w.drewN k) os := Any.strconv_Itoa Tryd.laysM171 n h0 h1 w htab
end Go.Proofs
end

section
/- The texts of versions, and texts put together, at this seat. -/

set_option linter.unusedVariables false
set_option linter.unusedSimpArgs false
set_option maxRecDepth 100000
open Go Go.Ab Go.Proofs Ve
open Go.RowKit (Below)
namespace D

theorem tdv {p : Int} (h : 0 ≤ p) (d : Int) : Int.tdiv p d = p / d := Int.tdiv_eq_ediv_of_nonneg h
theorem tmd {p : Int} (h : 0 ≤ p) (d : Int) : Int.tmod p d = p % d := Int.tmod_eq_emod_of_nonneg h
theorem condBn {b : Bool} {A C : Prop} (h1 : b = false → A) (h2 : b = true → C) : condP (!b) A C := by cases b <;> simp_all [condP]

/-- what is left behind in the heap is nobody's -/
theorem drop0 {P : Program} {f : FuncId} {args : List AV} {r0 : AV} (hren : ∀ n, AV.ren (selR [] n) r0 = r0) (k : ASpec P f args [] (fun r _ => r = r0)) : ASpec P f args [] (fun r H' => r = r0 ∧ H' = []) :=
  ASpec.sel (k.mono fun r H' e => ⟨[], [], r0, Sel.none, by subst e; rw [hren]; exact Le.refl _, rfl, rfl⟩)

theorem pd {f : FuncId} {args : List AV} (r0 : AV) (hr : ∀ q, AV.ren q r0 = r0) (ha : ∀ q, args.map (AV.ren q) = args) (H : List AObj) (k : ASpec Tryd.prog f args [] (fun r _ => r = r0)) :
    ASpec Tryd.prog f args H (fun r H' => r = r0 ∧ H' = H) :=
  ASpec.pureH H (drop0 (fun _ => hr _) k) _ _ (ha _) (hr _)

def fitB (p : Int) : Bool := decide (0 ≤ p ∧ p < 1000000000)
def partsM (p : Int) : (Int × Int × Int) × Bool := if 0 ≤ p ∧ p < 1000000000 then ((p / 1000000, p / 1000 % 1000, p % 1000), true) else ((0, 0, 0), false)
theorem weights_spec (H : List AObj) : ASpec Tryd.prog 89 [] H (fun r H' => r = .agg [.int .i64 1000000, .int .i64 1000, .int .i64 1] ∧ H' = H) :=
  pd (.agg [.int .i64 1000000, .int .i64 1000, .int .i64 1]) (fun _ => rfl) (fun _ => rfl) H (s89 _ rfl)

theorem fit_spec (p : Int) (H : List AObj) : ASpec Tryd.prog 90 [.int .i64 p] H (fun r H' => r = .bool (fitB p) ∧ H' = H) := by
  refine pd (.bool (fitB p)) (fun _ => rfl) (fun _ => rfl) H (s90 _ _ (condD (fun h => ?_) fun h => ?_))
  all_goals (congr 1; unfold fitB)
  · apply decide_eq_decide.2; omega
  · exact (decide_eq_false (by omega)).symm

abbrev a3 (x : Int × Int × Int) : AV := .agg [.int .i64 x.1, .int .i64 x.2.1, .int .i64 x.2.2]
abbrev tup3 (x : (Int × Int × Int) × Bool) : AV := .tup [a3 x.1, .bool x.2]

theorem parts_spec (p : Int) (H : List AObj) : ASpec Tryd.prog 71 [.int .i64 p] H (fun r H' => r = tup3 (partsM p) ∧ H' = H) := by
  have e3 : (0 : Int) ≤ 0 ∧ (0 : Int) < 3 := by decide
  have e4 : (0 : Int) ≤ 1 ∧ (1 : Int) < 3 := by decide
  have e5 : (0 : Int) ≤ 2 ∧ (2 : Int) < 3 := by decide
  refine pd (tup3 (partsM p)) (fun _ => rfl) (fun _ => rfl) H (s71 _ _ (ASpec.call (fit_spec p _) (Les.refl _) ⟨_, rfl, rfl, condBn (fun h => ?_) fun h => ?_⟩))
  · have : ¬ (0 ≤ p ∧ p < 1000000000) := by simpa [fitB] using h
    unfold partsM; rw [if_neg this]
  · have hp : 0 ≤ p ∧ p < 1000000000 := by simpa [fitB] using h
    refine ASpec.call (weights_spec _) (Les.refl _) ⟨(), rfl, rfl, ?_⟩
    refine v71_5a _ _ _ _ _ _ (needJ e3 (needJ (by decide) (needJ (by decide) (needJ e3 ?_))))
    refine v71_5b _ _ _ _ _ _ (needJ e4 (needJ (by decide) (needJ (by decide) (needJ e4 ?_))))
    refine v71_5c _ _ _ _ _ _ (needJ e5 (needJ (by decide) (needJ (by decide) (needJ e5 ?_))))
    refine v71_5d _ _ _ _ _ _ ?_
    rw [tdv hp.1, tdv hp.1, tdv hp.1, wrap64 (x := p / 1000000) (by omega) (by omega), wrap64 (x := p / 1000) (by omega) (by omega), wrap64 (x := p / 1) (by omega) (by omega), tmd (by omega), tmd (by omega), tmd (by omega)]
    unfold partsM; rw [if_pos hp, Int.ediv_one, Int.emod_eq_of_lt (a := p / 1000000) (by omega) (by omega)]

theorem decD {n : Nat} (h : n < 1000) : Go.Lib.decDigits n = dg n := by
  unfold dg
  by_cases h10 : n < 10
  · rw [Go.Lib.decDigits, dif_pos h10, if_pos h10]
  · rw [Go.Lib.decDigits, dif_neg h10, if_neg h10]
    by_cases h100 : n < 100
    · rw [if_pos h100, Go.Lib.decDigits, dif_pos (show n / 10 < 10 by omega)]; rfl
    · rw [if_neg h100, Go.Lib.decDigits, dif_neg (show ¬ n / 10 < 10 by omega), Go.Lib.decDigits, dif_pos (show n / 10 / 10 < 10 by omega), show n / 10 / 10 = n / 100 by omega]; rfl

theorem tabIs {M : Mem} {w : World} (h : Tabs Tryd.prog M w) : Lib.TabIs Tryd.prog w "internal/strconv.uint64pow10" .u64 Lib.pow10Tab := by
  have hg : (Tryd.prog.globalNamed "internal/strconv.uint64pow10").isSome = true := by kernel_rfl
  obtain ⟨g, hg⟩ := Option.isSome_iff_exists.1 hg
  obtain ⟨_, T, fr, hc⟩ := h g hg
  unfold Lib.TabIs World.var?
  rw [hg]
  simp only [Option.bind_some, hc]
  congr 1

theorem itoa_spec {n : Int} (h0 : 0 ≤ n) (h1 : n < 1000) (H : List AObj) : ASpec Tryd.prog 72 [.int .i64 n] H (fun r H' => r = .str (B (dg n.toNat)) ∧ H' = H) := by
  refine ASpec.of_calls fun M loc w vs ht hv => ?_
  obtain ⟨hs, hv⟩ := hv
  have hv0 := hv 0 (by simp)
  have hvs : vs = #[vs[0]'(by simp at hs; omega)] := by
    apply Array.ext
    · simpa using hs
    · intro i h1 h2
      have : i < 1 := by simpa using h2
      match i, this with
      | 0, _ => rfl
  rw [hvs]
  simp only [List.getElem_cons_zero] at hv0
  generalize vs[0]'(by simp at hs; omega) = v0 at hv0
  cases hv0
  refine (Tryd.strconv_Itoa n (by omega) (by omega) w (tabIs ht)).mono fun e w' ⟨he, k, os, hw⟩ => ?_
  refine ⟨_, he, ?_, ?_⟩
  · have : Go.Lib.itoa n = dg n.toNat := by unfold Go.Lib.itoa; rw [if_neg (by omega), decD (by omega)]
    rw [this]
    exact .str _
  · subst hw
    refine ⟨by simp [Sort.grow, World.drewN], fun b hb => ?_, rfl, rfl, rfl⟩
    simp only [Sort.grow, World.drewN]
    rw [Array.getElem?_append_left hb]

theorem txt_le (a b c : Nat) : (dg a).length + (dg b).length + (dg c).length ≤ 9 := by
  have h1 := dg_len a; have h2 := dg_len b; have h3 := dg_len c; omega

theorem cat3 (a b c : List UInt8) : B a ++ ⟨#[46]⟩ ++ B b ++ ⟨#[46]⟩ ++ B c = B (a ++ 46 :: (b ++ 46 :: c)) := by
  rw [show (⟨#[46]⟩ : ByteArray) = B [46] from rfl, B_append, B_append, B_append, B_append]; simp

theorem text_spec (p : Int) (H : List AObj) : ASpec Tryd.prog 54 [.int .i64 p] H (fun r H' => r = .str (B (textM p)) ∧ H' = H) := by
  have e3 : (0 : Int) ≤ 0 ∧ (0 : Int) < 3 := by decide
  have e4 : (0 : Int) ≤ 1 ∧ (1 : Int) < 3 := by decide
  have e5 : (0 : Int) ≤ 2 ∧ (2 : Int) < 3 := by decide
  refine pd (.str (B (textM p))) (fun _ => rfl) (fun _ => rfl) H (s54 _ _ (ASpec.call (parts_spec p _) (Les.refl _) ⟨_, rfl, rfl, condBn (fun h => ?_) fun h => ?_⟩))
  · have : ¬ (0 ≤ p ∧ p < 1000000000) := by intro hp; unfold partsM at h; rw [if_pos hp] at h; cases h
    unfold textM; rw [if_neg this]
  · have hp : 0 ≤ p ∧ p < 1000000000 := by
      by_cases hp : 0 ≤ p ∧ p < 1000000000
      · exact hp
      · unfold partsM at h; rw [if_neg hp] at h; cases h
    have hM : partsM p = ((p / 1000000, p / 1000 % 1000, p % 1000), true) := by unfold partsM; rw [if_pos hp]
    rw [hM]
    have ht := txt_le (p / 1000000).toNat (p / 1000 % 1000).toNat (p % 1000).toNat
    refine needJ e3 (needJ e4 (needJ e5 ?_))
    refine ASpec.call (itoa_spec (n := p / 1000000) (by omega) (by omega) _) (Les.refl _) ⟨_, rfl, rfl, ⟨rfl, rfl⟩, ⟨rfl, rfl⟩, needJ ?_ ?_⟩
    · rw [B_size]; omega
    refine ASpec.call (itoa_spec (n := p / 1000 % 1000) (by omega) (by omega) _) (Les.refl _) ⟨_, rfl, rfl, ⟨rfl, rfl⟩, needJ ?_ (needJ ?_ ?_)⟩
    · rw [show (⟨#[46]⟩ : ByteArray) = B [46] from rfl, B_append, B_size, B_size]; simp; omega
    · rw [show (⟨#[46]⟩ : ByteArray) = B [46] from rfl, B_append, B_append, B_size]; simp; omega
    refine ASpec.call (itoa_spec (n := p % 1000) (by omega) (by omega) _) (Les.refl _) ⟨_, rfl, rfl, needJ ?_ ?_⟩
    · rw [show (⟨#[46]⟩ : ByteArray) = B [46] from rfl, B_append, B_append, B_append, B_size, B_size]; simp; omega
    · rw [cat3]
      unfold textM text3; rw [if_pos hp]

/-! ### strings.Join -/
theorem join_spec (o : List (List UInt8)) (sep : List UInt8) (hN : o.length ≤ 1000000) (hlen : (Go.Lib.join o sep).length ≤ 140737488355328) (H : List AObj) :
    ASpec Tryd.prog 55 [.sl 1 (.map T.encL [] o) .none, .str (B sep)] H (fun r H' => r = .str (B (Go.Lib.join o sep)) ∧ H' = H) := by
  refine ASpec.of_calls fun M loc w vs ht hv => ?_
  obtain ⟨hs, hv⟩ := hv
  have hv0 := hv 0 (by simp)
  have hv1 := hv 1 (by simp)
  have hvs : vs = #[vs[0]'(by simp at hs; omega), vs[1]'(by simp at hs; omega)] := by
    apply Array.ext
    · simpa using hs
    · intro i h1 h2
      have : i < 2 := by simpa using h2
      match i, this with
      | 0, _ | 1, _ => rfl
  rw [hvs]
  simp only [List.getElem_cons_zero, List.getElem_cons_succ] at hv0 hv1
  generalize vs[0]'(by simp at hs; omega) = v0 at hv0
  generalize vs[1]'(by simp at hs; omega) = v1 at hv1
  have e1 : v1 = .string (B sep) := by cases hv1; rfl
  subst e1
  have fin : ∀ {e : Ending} {w' : World}, e = .returned (.string ⟨(Go.Lib.join o sep).toArray⟩) → Below w.heap.size w w' → ∃ v, e = .returned v ∧ VRel M w' loc (.str (B (Go.Lib.join o sep))) v ∧ Grown w w' := fun he hb =>
    ⟨_, he, .str _, hb.size, hb.block, hb.os, hb.tape, hb.output⟩
  have none : o = [] → ∀ a, Calls Tryd.prog 55 #[.slice a 0 0, .string (B sep)] w fun e w' => ∃ v, e = .returned v ∧ VRel M w' loc (.str (B (Go.Lib.join o sep))) v ∧ Grown w w' := fun ho a =>
    (Tryd.strings_Join_none a 0 (B sep) w).mono fun e w' ⟨he, hw⟩ => by
      subst ho
      exact fin (by rw [he]; rfl) (hw ▸ Below.refl _ _)
  cases hv0 with
  | slnil _ _ _ hn _ => exact none (by simpa [Ab.Seq.toList] using hn) _
  | slz _ _ _ a hn _ _ => exact none (by simpa [Ab.Seq.toList] using hn) _
  | sl _ _ _ b of cap vals hz h1 h2 hcap hnil hfull htok =>
    by_cases ho : o = []
    · subst ho
      refine (Tryd.strings_Join_none (some ⟨b, of, Option.none⟩) cap (B sep) w).mono fun e w' ⟨he, hw⟩ => fin (by rw [he]; rfl) (hw ▸ Below.refl _ _)
    have hL : (Ab.Seq.map T.encL [] o).toList.length = o.length := by simp [Ab.Seq.toList]
    have hcell : ∀ (j : Nat) x, (o.map B)[j]? = some x → w.cell? ⟨b, of + j, Option.none⟩ = some (.string x) := by
      intro j x hx
      have hj : j < o.length := by
        have := (List.getElem?_eq_some_iff.1 hx).1
        simpa using this
      have hi := h1 j 0 (by rw [hL]; exact hj) (by omega)
      have hr := h2 j 0 (by rw [hL]; exact hj) (by simp [Ab.Seq.toList, T.encL])
      have e2 : ((Ab.Seq.map T.encL [] o).toList[j]'(by rw [hL]; exact hj))[0]'(by simp [Ab.Seq.toList, T.encL]) = .str (B o[j]) := by simp [Ab.Seq.toList, T.encL]
      rw [e2] at hr
      have e3 : vals j 0 = .string (B o[j]) := by
        generalize vals j 0 = v at hr
        cases hr; rfl
      have e4 : x = B o[j] := by
        rw [List.getElem?_map, List.getElem?_eq_getElem hj] at hx
        exact (Option.some.inj hx).symm
      rw [e3] at hi
      subst e4
      have := hi.1
      simpa using this
    have hbk : b < w.heap.size := by
      have hp : 0 < o.length := List.length_pos_iff.2 ho
      have := hcell 0 (B o[0]) (by simp [List.getElem?_eq_getElem hp])
      simp only [World.cell?] at this
      cases hb : w.heap[b]? with
      | none => rw [hb] at this; cases this
      | some q => exact (Array.getElem?_eq_some_iff.1 hb).1
    have key := Tryd.strings_Join b of cap (o.map B) (B sep) w hcell hbk (by simp; omega) (by simp; rw [hL] at hcap; exact hcap) (by
      have : (o.map B).map (fun x : ByteArray => x.data.toList) = o := by simp [Function.comp_def]
      rw [this]; exact hlen)
    have e5 : (o.map B).map (fun x : ByteArray => x.data.toList) = o := by simp [Function.comp_def]
    rw [e5] at key
    rw [hL]
    rw [List.length_map] at key
    exact key.mono fun e w' ⟨he, hb⟩ => fin he hb
end D
end

section
/- PickLists: the law's function returns true. -/

set_option linter.unusedVariables false
set_option linter.unusedSimpArgs false
set_option maxRecDepth 100000
open Go Go.Ab Go.Proofs V S T C
open E (PA pa)
open Pc (slK slKLe putM getM dropM putD UpK)
open Ve (textM)
namespace Dk

/-! ### texts -/
def txt (p : Pk) : Nm := p.1 ++ 32 :: textM p.2
theorem cat2 (a b : List UInt8) : ({ data := List.toArray a } : ByteArray) ++ { data := #[(32 : UInt8)] } ++ B b = B (a ++ 32 :: b) := by
  show B a ++ B [32] ++ B b = _
  rw [D.B_append, D.B_append]; simp
theorem textM_len (v : Int) : (textM v).length ≤ 11 := by
  unfold Ve.textM
  split
  · exact (Ve.text3_len _ _ _).2
  · simp
theorem show7 {s : List Pk} (hs : s.length ≤ 60) (hn : ∀ p ∈ s, p.1.length ≤ 1000) (hj : (Go.Lib.join (s.map txt) [44, 32]).length ≤ 1000000) : ∀ (m i : Nat) (o : List Nm), m + i = s.length → o = (s.take i).map txt →
    AWP Tryd.prog 33 0 c31_7 [(3, .sl 1 (.map encL [] o) (.tok 0)), (14, slK s), (15, .int .i64 s.length), (16, .int .i64 i)] [.tok] (q31_2 0 (PA (.str (B (Go.Lib.join (s.map txt) [44, 32]))))) := by
  intro m
  induction m with
  | zero =>
    intro i o hm ho
    rw [List.take_of_length_le (by omega)] at ho
    subst ho
    refine v31_7 _ _ _ _ _ _ (condD (fun hc => by omega) fun _ => ?_)
    refine ASpec.call (D.join_spec (s.map txt) [44, 32] (by simp; omega) (by omega) _) ⟨Le.sl (s' := .map encL [] (s.map txt)) rfl (.inl rfl) (.inr rfl), Le.refl _, trivial⟩ ⟨_, rfl, rfl, pa (Le.refl _)⟩
  | succ m ih =>
    intro i o hm ho
    have hp := hn _ (getD_mem (d := noPk) (show i < s.length by omega))
    have hti : s.take (i + 1) = s.take i ++ [s.getD i noPk] := by
      rw [List.take_add_one, List.getD_eq_getElem?_getD, List.getElem?_eq_getElem (show i < s.length by omega)]; rfl
    have hol : o.length ≤ 60 := by rw [ho]; simp; omega
    refine v31_7 _ _ _ _ _ _ (condD (fun hc => needJ ⟨by omega, by omega⟩ ?_) fun hc => by omega)
    rw [Int.toNat_natCast, succ64 (by omega)]
    generalize s.getD i noPk = p at hp hti ⊢
    have ht := textM_len p.2
    refine needJ (by rw [B_size]; omega) (ASpec.call (D.text_spec p.2 _) (Les.refl _) ⟨_, rfl, rfl, ⟨rfl, rfl⟩, needJ ?_ (needJ (by omega) ?_)⟩)
    · have e : (({ data := List.toArray p.1 } : ByteArray) ++ { data := #[(32 : UInt8)] }).size = p.1.length + 1 := by
        show (B p.1 ++ B [32]).size = _
        rw [D.B_append, B_size]; simp
      rw [e]
      have e2 : (D.B (textM p.2)).size = (textM p.2).length := by simp [ByteArray.size]
      rw [e2]; omega
    · rw [cat2]
      refine AWP.shape [2] [(3, .sl 1 (.map encL [] (o ++ [txt p])) (.tok 0)), (14, slK s), (15, .int .i64 s.length), (16, .int .i64 (i + 1 : Nat))] [.tok] (Sel.mk0 (by decide) ⟨rfl, trivial⟩)
        ⟨rfl, leAppE (Les.refl _), rfl, slKLe _ _, rfl, Le.refl _, rfl, Le.refl _, trivial⟩ (ih (i + 1) _ (by omega) ?_)
      rw [hti, List.map_append, ← ho]; rfl
abbrev s0 : List Pk := [([97], 1000000), ([98], 2001000)]
abbrev t0 : Nm := [97, 32, 49, 46, 48, 46, 48, 44, 32, 98, 32, 50, 46, 49, 46, 48]
theorem join0 : Go.Lib.join (s0.map txt) [44, 32] = t0 := by decide +kernel
theorem chk0 : chkF none s0 = true := by
  have f1 : fitM [97] = true := by decide +kernel
  have f2 : fitM [98] = true := by decide +kernel
  have g1 : fitP ([97], 1000000) = true := by unfold fitP; rw [f1]; rfl
  have g2 : fitP ([98], 2001000) = true := by unfold fitP; rw [f2]; rfl
  have h : (Op.bytesLess [98] [97] || ([98] : List UInt8) == [97]) = false := by decide +kernel
  simp only [chkF, g1, g2, h, Bool.true_eq_false, Bool.false_eq_true, if_false]
theorem show_spec (H : List AObj) : ASpec Tryd.prog 31 [slK s0] H (fun r H' => r = .str (B t0) ∧ H' = H) := by
  have k : ASpec Tryd.prog 31 [slK s0] [] (fun r H' => r = .str (B t0) ∧ H' = []) := by
    have hn : ∀ p ∈ s0, p.1.length ≤ 1000 := by
      intro p hp
      simp at hp
      rcases hp with rfl | rfl <;> simp
    refine ASpec.sel (s31 _ _ (ASpec.call (chk_spec (s := s0) (by simp) hn _) (Les.refl _) ⟨_, rfl, rfl, ?_⟩))
    rw [chk0]
    refine condBn (fun h => by cases h) fun _ => condE (fun h => by simp at h) fun _ => v31_5 _ _ _ ?_
    have key := show7 (s := s0) (by simp) hn (by rw [join0]; simp) 2 0 [] rfl rfl
    rw [join0] at key
    refine AWP.re (ReSt.tok (k := 3) (q' := .map encL [] []) (sz' := 1) (s2 := [(3, .sl 1 (.map encL [] []) (.tok 0)), (14, slK s0), (15, .int .i64 s0.length), (16, .int .i64 (0 : Nat))]) rfl (.inl rfl) rfl (.inr rfl) (fun d hd => ?_) rfl) key
    simp only [Ab.get]
    have e : Nat.beq 3 d = false := by
      cases hx : Nat.beq 3 d with
      | false => rfl
      | true => exact absurd (Nat.eq_of_beq_eq_true hx).symm hd
    rw [e]; rfl
  exact ASpec.pureH H k _ _ rfl rfl
abbrev nothing : Nm := [110, 111, 116, 104, 105, 110, 103]
theorem read_spec (H : List AObj) : ASpec Tryd.prog 30 [.str (B nothing)] H (fun r H' => r = .tup [slK [], .bool true] ∧ H' = H) := by
  have k : ASpec Tryd.prog 30 [.str (B nothing)] [] (fun r H' => r = .tup [slK [], .bool true] ∧ H' = []) :=
    ASpec.sel (s30 _ (pa (Le.tup ⟨nilK, Le.refl _, trivial⟩)))
  exact ASpec.pureH H k _ _ rfl rfl
theorem awake_spec (H : List AObj) : ASpec Tryd.prog 17 [] H (fun r H' => r = .bool true ∧ H' = H) := by
  have k : ASpec Tryd.prog 17 [] [] (fun r H' => r = .bool true ∧ H' = []) := by
    refine s17 _ (ASpec.call (read_spec _) (Les.refl _) ⟨([], true), rfl, rfl, ?_⟩)
    refine ASpec.call (show_spec _) ⟨Le.sl (s' := .map encPk noPk s0) rfl (.inl rfl) (.inr rfl), trivial⟩ ⟨_, rfl, rfl, ?_⟩
    exact condS (fun _ => condE (fun _ => ⟨rfl, rfl⟩) fun h => (h rfl).elim) fun h => (h rfl).elim
  exact ASpec.pureH H k _ _ rfl rfl

/-! ### the law -/
section
variable {a b : List Pk} {p : Pk} (ha : a.length ≤ 60 ∧ ∀ x ∈ a, x.1.length ≤ 200) (hp : p.1.length ≤ 200)
include ha hp
theorem law11 (hu : UpK a) : AWP Tryd.prog 98 0 c4_11 [(0, slK a), (5, .ptr 0 0)] [.cells (encPk p)] (q4_0 0 (PB true)) := by
  have hl := ha.1
  refine v4_11 _ _ _ _ (ASpec.call (rfit_spec (l := p.1) (by unfold big; omega) _) (Les.refl _) ⟨_, rfl, rfl, condBn (fun _ => ⟨rfl, ASpec.call (awake_spec _) (Les.refl _) ⟨(), rfl, rfl, pb rfl⟩⟩) fun _ => ?_⟩)
  refine ASpec.call (verFit_spec p.2 _) (Les.refl _) ⟨_, rfl, rfl, condBn (fun _ => ⟨rfl, ASpec.call (awake_spec _) (Les.refl _) ⟨(), rfl, rfl, pb rfl⟩⟩) fun _ => ?_⟩
  refine ASpec.call (Pc.put_spec a p (by omega) _) (Les.refl _) ⟨_, rfl, rfl, ⟨rfl, rfl⟩, ?_⟩
  refine ASpec.call (rputP_spec a p (by omega) _) (Les.refl _) ⟨_, rfl, rfl, ?_⟩
  have hpl := Pc.put_len a p
  refine ASpec.call (rsameP_spec (putM a p) (putD a p) (by omega) _) (Les.refl _) ⟨_, rfl, rfl, condD (fun _ => ASpec.call (awake_spec _) (Les.refl _) ⟨(), rfl, rfl, pb rfl⟩) fun h => (h (Pc.putM_putD hu p)).elim⟩
theorem law7 (hu : UpK a) : AWP Tryd.prog 98 0 c4_7 [(0, slK a), (5, .ptr 0 0)] [.cells (encPk p)] (q4_0 0 (PB true)) := by
  have hl := ha.1
  refine v4_7 _ _ _ _ (ASpec.call (get_spec a p.1 (by omega) _) (Les.refl _) ⟨getP a p.1, rfl, rfl, ?_⟩)
  refine ASpec.call (rget_spec a p.1 (by omega) _) (Les.refl _) ⟨getM a p.1, rfl, rfl, ?_⟩
  rw [get_one hu]
  refine v4_9 _ _ _ _ _ _ _ _ (condNe (fun h => (h rfl).elim) fun _ => condBn (fun h => by simp at h) fun _ => ?_)
  refine ASpec.call (drop_spec a p.1 (by omega) _) (Les.refl _) ⟨_, rfl, rfl, ⟨rfl, rfl⟩, ?_⟩
  refine ASpec.call (rdrop_spec a p.1 (by omega) _) (Les.refl _) ⟨_, rfl, rfl, ?_⟩
  have hdl := dropM_len a p.1
  refine ASpec.call (rsameP_spec (dropM a p.1) (dropM a p.1) (by omega) _) (Les.refl _) ⟨_, rfl, rfl, condBn (fun h => by simp at h) fun _ => law11 ha hp hu⟩
theorem law3 : AWP Tryd.prog 98 0 c4_3 [(0, slK a), (1, slK b), (5, .ptr 0 0)] [.cells (encPk p)] (q4_0 0 (PB true)) := by
  have hl := ha.1
  have hn : ∀ x ∈ a, x.1.length ≤ 1000 := fun x hx => by have := ha.2 x hx; omega
  refine v4_3 _ _ _ _ _ (ASpec.call (chk_spec (s := a) (by omega) hn _) (Les.refl _) ⟨_, rfl, rfl, ?_⟩)
  refine ASpec.call (rchk_spec (s := a) (by omega) hn _) (Les.refl _) ⟨_, rfl, rfl, condBn (fun h => by simp at h) fun _ => ?_⟩
  refine ASpec.call (sameP_spec a b (by omega) _) (Les.refl _) ⟨_, rfl, rfl, ?_⟩
  refine ASpec.call (rsameP_spec a b (by omega) _) (Les.refl _) ⟨_, rfl, rfl, condBn (fun h => by simp at h) fun _ => ?_⟩
  refine ASpec.call (rchk_spec (s := a) (by omega) hn _) (Les.refl _) ⟨_, rfl, rfl, condBn (fun _ => ASpec.call (awake_spec _) (Les.refl _) ⟨(), rfl, rfl, pb rfl⟩) fun h => law7 ha hp (chk_up h)⟩
end
theorem law_spec (a b : List Pk) (p : Pk) : ASpec Tryd.prog 4 [slK a, slK b, .agg (encPk p)] [] (PB true) := by
  have wake : ∀ H, ASpec Tryd.prog 17 [] H (fun r H' => ∃ x : Unit, r = .bool true ∧ H' = H ∧ PB true (.bool true) H) := fun H => ASpec.call (awake_spec _) (Les.refl _) ⟨(), rfl, rfl, pb rfl⟩
  refine s4 a b p _ (ASpec.call (large_spec a _) (Les.refl _) ⟨_, rfl, rfl, condB (fun _ => wake _) fun h1 => ?_⟩)
  refine ASpec.call (large_spec b _) (Les.refl _) ⟨_, rfl, rfl, condB (fun _ => wake _) fun h2 => ?_⟩
  rw [B_size]
  exact condD (fun _ => wake _) fun h3 => law3 (largeK_ok h1) (by omega)
theorem pickLists_spec (a b : List Pk) (p : Pk) : ASpec Tryd.prog 4 [slK a, slK b, .agg (encPk p)] [] (fun r H' => r = .bool true ∧ H' = []) := ASpec.sel (law_spec a b p)
end Dk
end
