/- Q8: several of this proof's own texts, one behind the other: what each proves stands at its head. -/
import Derived.Shelf.LaysM
import Derived.Shelf.Strconv.Itoa3
import Derived.Shelf.Strings.OnBuilder
import Derived.Test.YtkkdhnhgfbddeaaDoorProg
import Derived.Test.YtkkdhnhgfbddeaaDoorQ6
import Derived.Test.YtkkdhnhgfbddeaaDoorA3
import Derived.Test.YtkkdhnhgfbddeaaDoorQ5
import Derived.Test.YtkkdhnhgfbddeaaDoorQ7
import Derived.Test.YtkkdhnhgfbddeaaDoorRows
import Derived.ProofKit
import Derived.LaidMore
import Derived.Lay
import Derived.HandedShaped
import Derived.OpenShut
import Derived.Stop.Joined
import Derived.Stop.LaidErr
import Derived.Lib.LaidTab
import Derived.Lib.ItoaNum
section
/-
  DERIVED: THE SHELF's CONTRACTS AT THIS DUMP, IN PLAIN WORDS (tools/lay-plain.mjs out of 'PShelf.lean', which tools/lay-shelf.mjs wrote): THE SAME DECLARATIONS UNDER THE SAME NAMES: 'import', 'namespace', 'open', 'def', 'theorem' AND NOTHING ELSE: no command of the shelf's: FOR A HAND-IN. Each laying: the table of numbers ('.._ren') and one theorem, a field a fact of the dump's own or the kernel's comparison; each contract: ONE APPLICATION.
-/

namespace Go.Proofs
open Go.Shelf
def Tryd.lays156_ren : Go.Shelf.Ren := ⟨fun | 156 => 118 | 165 => 143 | 166 => 122 | 169 => 123 | 240 => 147 | 241 => 153 | 276 => 157 | 277 => 163 | n => n, fun | 31 => 107 | 9 => 9 | 3 => 3 | 4 => 4 | 0 => 0 | 20 => 20 | 72 => 113 | 76 => 116 | 70 => 111 | 37 => 48 | 75 => 115 | 127 => 144 | 164 => 152 | 5 => 5 | 80 => 118 | n => n, fun | n => n⟩
theorem Tryd.lays156 : Go.Proofs.Lays.n156 Tryd.prog Tryd.lays156_ren := {
  mixed := by kernel_rfl
  f156 := Tryd.func118.trans (congrArg some (by kernel_rfl))
  f165 := Tryd.func143.trans (congrArg some (by kernel_rfl))
  f166 := Tryd.func122.trans (congrArg some (by kernel_rfl))
  f169 := Tryd.func123.trans (congrArg some (by kernel_rfl))
  f240 := Tryd.func147.trans (congrArg some (by kernel_rfl))
  f241 := Tryd.func153.trans (congrArg some (by kernel_rfl))
  f276 := Tryd.func157.trans (congrArg some (by kernel_rfl))
  f277 := Tryd.func163.trans (congrArg some (by kernel_rfl))
  t0 := Tryd.underlying0
  a0 := Tryd.isAgg0
  z0 := Tryd.sizeOf0
  v0 := Tryd.zeroValue0
  t3 := Tryd.underlying3
  a3 := Tryd.isAgg3
  z3 := Tryd.sizeOf3
  v3 := Tryd.zeroValue3
  t4 := Tryd.underlying4
  a4 := Tryd.isAgg4
  z4 := Tryd.sizeOf4
  v4 := Tryd.zeroValue4
  t9 := Tryd.underlying9
  a9 := Tryd.isAgg9
  z9 := Tryd.sizeOf9
  v9 := Tryd.zeroValue9
  t20 := Tryd.underlying20
  a20 := Tryd.isAgg20
  z20 := Tryd.sizeOf20
  v20 := Tryd.zeroValue20
  t31 := Tryd.underlying107
  a31 := Tryd.isAgg107
  z31 := Tryd.sizeOf107
  v31 := Tryd.zeroValue107
  t37 := Tryd.underlying48
  a37 := Tryd.isAgg48
  z37 := Tryd.sizeOf48
  v37 := Tryd.zeroValue48
  t70 := Tryd.underlying111
  a70 := Tryd.isAgg111
  z70 := Tryd.sizeOf111
  v70 := Tryd.zeroValue111
  t72 := Tryd.underlying113
  a72 := Tryd.isAgg113
  z72 := Tryd.sizeOf113
  v72 := Tryd.zeroValue113
  t75 := Tryd.underlying115
  a75 := Tryd.isAgg115
  z75 := Tryd.sizeOf115
  v75 := Tryd.zeroValue115
  t76 := Tryd.underlying116
  a76 := Tryd.isAgg116
  z76 := Tryd.sizeOf116
  v76 := Tryd.zeroValue116
  t127 := Tryd.underlying144
  a127 := Tryd.isAgg144
  z127 := Tryd.sizeOf144
  v127 := Tryd.zeroValue144
  t164 := Tryd.underlying152
  a164 := Tryd.isAgg152
  z164 := Tryd.sizeOf152
  v164 := Tryd.zeroValue152 }
theorem Tryd.Builder_Extra_156 : Builder.Extra Tryd.prog Tryd.lays156_ren := {
  sizeBuilder := by kernel_rfl
  liesBuilder := by kernel_rfl
  t5 := Tryd.underlying5
  a5 := Tryd.isAgg5
  z5 := Tryd.sizeOf5
  v5 := Tryd.zeroValue5
  infoByte := by kernel_rfl
  cellsByte := by kernel_rfl
  sizeByte := by kernel_rfl
  neB5 := by decide }
open Go.RowKit in
/-- No element: the empty string; the world is as it was. (Whatever the slice's address and capacity: a nil slice too.) (LAID: no walk: one application.) -/
theorem Tryd.strings_Join_none (a : Option Addr) (c : Nat) (sep : ByteArray) (w : World) :
    Calls Tryd.prog 118 #[.slice a 0 c, .string sep] w fun e w' => e = .returned (.string ⟨#[]⟩) ∧ w' = w := Any.strings_Join_none Tryd.lays156 Tryd.Builder_Extra_156 a c sep w
open Go.RowKit in
/-- strings.Join: "Join concatenates the elements of its first argument to create a single string. The separator string sep is placed between elements in the resulting string.": HOWEVER MANY ELEMENTS. Below the heap's end the world is as it was. (LAID: no walk: one application.) -/
theorem Tryd.strings_Join (bk o c : Nat) (xs : List ByteArray) (sep : ByteArray) (w : World) (hcells : ∀ (j : Nat) x, xs[j]? = some x → w.cell? ⟨bk, o + j, none⟩ = some (.string x)) (hbk : bk < w.heap.size) (hN : xs.length ≤ 140737488355328) (hcap : xs.length ≤ c) (hlen : (Lib.join (xs.map (·.data.toList)) sep.data.toList).length ≤ 140737488355328) :
    Calls Tryd.prog 118 #[.slice (some ⟨bk, o, none⟩) xs.length c, .string sep] w fun e w' => e = .returned (.string ⟨(Lib.join (xs.map (·.data.toList)) sep.data.toList).toArray⟩) ∧ Below w.heap.size w w' := Any.strings_Join Tryd.lays156 Tryd.Builder_Extra_156 bk o c xs sep w hcells hbk hN hcap hlen
def Tryd.laysM171_ren : Go.Shelf.Ren := ⟨fun | 171 => 86 | 243 => 133 | 246 => 151 | 283 => 159 | 284 => 160 | 285 => 161 | 286 => 162 | 129 => 166 | 317 => 165 | 318 => 167 | 319 => 168 | 320 => 169 | 337 => 170 | 338 => 171 | n => n, fun | 3 => 3 | 9 => 9 | 2 => 2 | 4 => 4 | 171 => 154 | 0 => 0 | 53 => 155 | 37 => 48 | 5 => 5 | 173 => 158 | 212 => 163 | 51 => 164 | 20 => 20 | 213 => 165 | 46 => 148 | 232 => 168 | 233 => 169 | n => n, fun | 17 => 0 | 18 => 2 | 19 => 3 | n => n⟩
theorem Tryd.laysM171 : Go.Proofs.LaysM.n171 Tryd.prog Tryd.laysM171_ren := {
  mixed := by kernel_rfl
  f129 := Tryd.func166.trans (congrArg some (by kernel_rfl))
  f171 := Tryd.func86.trans (congrArg some (by kernel_rfl))
  f243 := Tryd.func133.trans (congrArg some (by kernel_rfl))
  f246 := Tryd.func151.trans (congrArg some (by kernel_rfl))
  f283 := Tryd.func159.trans (congrArg some (by kernel_rfl))
  f284 := Tryd.func160.trans (congrArg some (by kernel_rfl))
  f285 := Tryd.func161.trans (congrArg some (by kernel_rfl))
  f286 := Tryd.func162.trans (congrArg some (by kernel_rfl))
  f317 := Tryd.func165.trans (congrArg some (by kernel_rfl))
  f318 := Tryd.func167.trans (congrArg some (by kernel_rfl))
  f319 := Tryd.func168.trans (congrArg some (by kernel_rfl))
  f320 := Tryd.func169.trans (congrArg some (by kernel_rfl))
  f337 := Tryd.func170.trans (congrArg some (by kernel_rfl))
  f338 := Tryd.func171.trans (congrArg some (by kernel_rfl))
  t0 := Tryd.underlying0
  a0 := Tryd.isAgg0
  z0 := Tryd.sizeOf0
  v0 := Tryd.zeroValue0
  t2 := Tryd.underlying2
  a2 := Tryd.isAgg2
  z2 := Tryd.sizeOf2
  v2 := Tryd.zeroValue2
  t3 := Tryd.underlying3
  a3 := Tryd.isAgg3
  z3 := Tryd.sizeOf3
  v3 := Tryd.zeroValue3
  t4 := Tryd.underlying4
  a4 := Tryd.isAgg4
  z4 := Tryd.sizeOf4
  v4 := Tryd.zeroValue4
  t5 := Tryd.underlying5
  a5 := Tryd.isAgg5
  z5 := Tryd.sizeOf5
  v5 := Tryd.zeroValue5
  t9 := Tryd.underlying9
  a9 := Tryd.isAgg9
  z9 := Tryd.sizeOf9
  v9 := Tryd.zeroValue9
  t20 := Tryd.underlying20
  a20 := Tryd.isAgg20
  z20 := Tryd.sizeOf20
  v20 := Tryd.zeroValue20
  t37 := Tryd.underlying48
  a37 := Tryd.isAgg48
  z37 := Tryd.sizeOf48
  v37 := Tryd.zeroValue48
  t46 := Tryd.underlying148
  a46 := Tryd.isAgg148
  z46 := Tryd.sizeOf148
  v46 := Tryd.zeroValue148
  t51 := Tryd.underlying164
  a51 := Tryd.isAgg164
  z51 := Tryd.sizeOf164
  v51 := Tryd.zeroValue164
  t53 := Tryd.underlying155
  a53 := Tryd.isAgg155
  z53 := Tryd.sizeOf155
  v53 := Tryd.zeroValue155
  t171 := Tryd.underlying154
  a171 := Tryd.isAgg154
  z171 := Tryd.sizeOf154
  v171 := Tryd.zeroValue154
  t173 := Tryd.underlying158
  a173 := Tryd.isAgg158
  z173 := Tryd.sizeOf158
  v173 := Tryd.zeroValue158
  t212 := Tryd.underlying163
  a212 := Tryd.isAgg163
  z212 := Tryd.sizeOf163
  v212 := Tryd.zeroValue163
  t213 := Tryd.underlying165
  a213 := Tryd.isAgg165
  z213 := Tryd.sizeOf165
  t232 := Tryd.underlying168
  a232 := Tryd.isAgg168
  z232 := Tryd.sizeOf168
  v232 := Tryd.zeroValue168
  t233 := Tryd.underlying169
  a233 := Tryd.isAgg169
  z233 := Tryd.sizeOf169
  v233 := Tryd.zeroValue169
  g17 := by kernel_rfl
  g18 := by kernel_rfl
  g19 := by kernel_rfl
  i0 := by kernel_rfl
  i2 := by kernel_rfl
  i3 := by kernel_rfl
  i4 := by kernel_rfl
  i5 := by kernel_rfl
  i9 := by kernel_rfl
  i20 := by kernel_rfl
  i37 := by kernel_rfl
  i46 := by kernel_rfl
  i51 := by kernel_rfl
  i53 := by kernel_rfl
  i171 := by kernel_rfl
  i173 := by kernel_rfl
  i212 := by kernel_rfl
  i232 := by kernel_rfl
  i233 := by kernel_rfl
  m17 := by kernel_rfl
  m18 := by kernel_rfl
  m19 := by kernel_rfl }
open Go.RowKit Go.Sort Go.Lib in
/-- strconv.Itoa: "Itoa is equivalent to FormatInt(int64(i), 10).": i's DECIMAL NUMERAL ('Lib.itoa': a '-' where i is negative, then the digits), FOR EVERY int. The world behind the call: the world before it, new blocks behind the heap (the library's 'var a [24]byte'), draws. (LAID: no walk: one application.) -/
theorem Tryd.strconv_Itoa (n : Int) (h0 : -9223372036854775808 ≤ n) (h1 : n ≤ 9223372036854775807) (w : World) (htab : Lib.TabIs Tryd.prog w "internal/strconv.uint64pow10" .u64 Lib.pow10Tab) :
    Calls Tryd.prog 86 #[.int .i64 n] w fun e w' => e = .returned (.string ⟨(Lib.itoa n).toArray⟩) ∧ ∃ k os, w' = grow (w.drewN k) os := Any.strconv_Itoa Tryd.laysM171 n h0 h1 w htab
end Go.Proofs
end

section
/- The texts of versions, and texts put together, at this seat. -/

set_option linter.unusedVariables false
set_option linter.unusedSimpArgs false
set_option maxRecDepth 100000
open Go Go.Ab Go.Proofs Ve
open Go.RowKit (Below)
namespace D

theorem tdv {p : Int} (h : 0 ≤ p) (d : Int) : Int.tdiv p d = p / d := Int.tdiv_eq_ediv_of_nonneg h
theorem tmd {p : Int} (h : 0 ≤ p) (d : Int) : Int.tmod p d = p % d := Int.tmod_eq_emod_of_nonneg h
theorem condBn {b : Bool} {A C : Prop} (h1 : b = false → A) (h2 : b = true → C) : condP (!b) A C := by cases b <;> simp_all [condP]

/-- what is left behind in the heap is nobody's -/
theorem drop0 {P : Program} {f : FuncId} {args : List AV} {r0 : AV} (hren : ∀ n, AV.ren (selR [] n) r0 = r0) (k : ASpec P f args [] (fun r _ => r = r0)) : ASpec P f args [] (fun r H' => r = r0 ∧ H' = []) :=
  ASpec.sel (k.mono fun r H' e => ⟨[], [], r0, Sel.none, by subst e; rw [hren]; exact Le.refl _, rfl, rfl⟩)

theorem pd {f : FuncId} {args : List AV} (r0 : AV) (hr : ∀ q, AV.ren q r0 = r0) (ha : ∀ q, args.map (AV.ren q) = args) (H : List AObj) (k : ASpec Tryd.prog f args [] (fun r _ => r = r0)) :
    ASpec Tryd.prog f args H (fun r H' => r = r0 ∧ H' = H) :=
  ASpec.pureH H (drop0 (fun _ => hr _) k) _ _ (ha _) (hr _)

def fitB (p : Int) : Bool := decide (0 ≤ p ∧ p < 1000000000)
def partsM (p : Int) : (Int × Int × Int) × Bool := if 0 ≤ p ∧ p < 1000000000 then ((p / 1000000, p / 1000 % 1000, p % 1000), true) else ((0, 0, 0), false)
theorem weights_spec (H : List AObj) : ASpec Tryd.prog 156 [] H (fun r H' => r = .agg [.int .i64 1000000, .int .i64 1000, .int .i64 1] ∧ H' = H) :=
  pd (.agg [.int .i64 1000000, .int .i64 1000, .int .i64 1]) (fun _ => rfl) (fun _ => rfl) H (s156 _ rfl)

theorem fit_spec (p : Int) (H : List AObj) : ASpec Tryd.prog 155 [.int .i64 p] H (fun r H' => r = .bool (fitB p) ∧ H' = H) := by
  refine pd (.bool (fitB p)) (fun _ => rfl) (fun _ => rfl) H (s155 _ _ (condD (fun h => ?_) fun h => ?_))
  all_goals (congr 1; unfold fitB)
  · apply decide_eq_decide.2; omega
  · exact (decide_eq_false (by omega)).symm

abbrev a3 (x : Int × Int × Int) : AV := .agg [.int .i64 x.1, .int .i64 x.2.1, .int .i64 x.2.2]
abbrev tup3 (x : (Int × Int × Int) × Bool) : AV := .tup [a3 x.1, .bool x.2]

theorem parts_spec (p : Int) (H : List AObj) : ASpec Tryd.prog 146 [.int .i64 p] H (fun r H' => r = tup3 (partsM p) ∧ H' = H) := by
  have e3 : (0 : Int) ≤ 0 ∧ (0 : Int) < 3 := by decide
  have e4 : (0 : Int) ≤ 1 ∧ (1 : Int) < 3 := by decide
  have e5 : (0 : Int) ≤ 2 ∧ (2 : Int) < 3 := by decide
  refine pd (tup3 (partsM p)) (fun _ => rfl) (fun _ => rfl) H (s146 _ _ (ASpec.call (fit_spec p _) (Les.refl _) ⟨_, rfl, rfl, condBn (fun h => ?_) fun h => ?_⟩))
  · have : ¬ (0 ≤ p ∧ p < 1000000000) := by simpa [fitB] using h
    unfold partsM; rw [if_neg this]
  · have hp : 0 ≤ p ∧ p < 1000000000 := by simpa [fitB] using h
    refine ASpec.call (weights_spec _) (Les.refl _) ⟨(), rfl, rfl, ?_⟩
    refine v146_5a _ _ _ _ _ _ (needJ e3 (needJ (by decide) (needJ (by decide) (needJ e3 ?_))))
    refine v146_5b _ _ _ _ _ _ (needJ e4 (needJ (by decide) (needJ (by decide) (needJ e4 ?_))))
    refine v146_5c _ _ _ _ _ _ (needJ e5 (needJ (by decide) (needJ (by decide) (needJ e5 ?_))))
    refine v146_5d _ _ _ _ _ _ ?_
    rw [tdv hp.1, tdv hp.1, tdv hp.1, wrap64 (x := p / 1000000) (by omega) (by omega), wrap64 (x := p / 1000) (by omega) (by omega), wrap64 (x := p / 1) (by omega) (by omega), tmd (by omega), tmd (by omega), tmd (by omega)]
    unfold partsM; rw [if_pos hp, Int.ediv_one, Int.emod_eq_of_lt (a := p / 1000000) (by omega) (by omega)]

theorem decD {n : Nat} (h : n < 1000) : Go.Lib.decDigits n = dg n := by
  unfold dg
  by_cases h10 : n < 10
  · rw [Go.Lib.decDigits, dif_pos h10, if_pos h10]
  · rw [Go.Lib.decDigits, dif_neg h10, if_neg h10]
    by_cases h100 : n < 100
    · rw [if_pos h100, Go.Lib.decDigits, dif_pos (show n / 10 < 10 by omega)]; rfl
    · rw [if_neg h100, Go.Lib.decDigits, dif_neg (show ¬ n / 10 < 10 by omega), Go.Lib.decDigits, dif_pos (show n / 10 / 10 < 10 by omega), show n / 10 / 10 = n / 100 by omega]; rfl

theorem tabIs {M : Mem} {w : World} (h : Tabs Tryd.prog M w) : Lib.TabIs Tryd.prog w "internal/strconv.uint64pow10" .u64 Lib.pow10Tab := by
  have hg : (Tryd.prog.globalNamed "internal/strconv.uint64pow10").isSome = true := by kernel_rfl
  obtain ⟨g, hg⟩ := Option.isSome_iff_exists.1 hg
  obtain ⟨_, T, fr, hc⟩ := h.pow g hg
  unfold Lib.TabIs World.var?
  rw [hg]
  simp only [Option.bind_some, hc]
  congr 1

theorem itoa_spec {n : Int} (h0 : 0 ≤ n) (h1 : n < 1000) (H : List AObj) : ASpec Tryd.prog 86 [.int .i64 n] H (fun r H' => r = .str (B (dg n.toNat)) ∧ H' = H) := by
  refine ASpec.of_calls fun M loc w vs ht hv => ?_
  obtain ⟨hs, hv⟩ := hv
  have hv0 := hv 0 (by simp)
  have hvs : vs = #[vs[0]'(by simp at hs; omega)] := by
    apply Array.ext
    · simpa using hs
    · intro i h1 h2
      have : i < 1 := by simpa using h2
      match i, this with
      | 0, _ => rfl
  rw [hvs]
  simp only [List.getElem_cons_zero] at hv0
  generalize vs[0]'(by simp at hs; omega) = v0 at hv0
  cases hv0
  refine (Tryd.strconv_Itoa n (by omega) (by omega) w (tabIs ht)).mono fun e w' ⟨he, k, os, hw⟩ => ?_
  refine ⟨_, he, ?_, ?_⟩
  · have : Go.Lib.itoa n = dg n.toNat := by unfold Go.Lib.itoa; rw [if_neg (by omega), decD (by omega)]
    rw [this]
    exact .str _
  · subst hw
    refine ⟨by simp [Sort.grow, World.drewN], fun b hb => ?_, rfl, rfl, rfl⟩
    simp only [Sort.grow, World.drewN]
    rw [Array.getElem?_append_left hb]

theorem txt_le (a b c : Nat) : (dg a).length + (dg b).length + (dg c).length ≤ 9 := by
  have h1 := dg_len a; have h2 := dg_len b; have h3 := dg_len c; omega

theorem cat3 (a b c : List UInt8) : B a ++ ⟨#[46]⟩ ++ B b ++ ⟨#[46]⟩ ++ B c = B (a ++ 46 :: (b ++ 46 :: c)) := by
  rw [show (⟨#[46]⟩ : ByteArray) = B [46] from rfl, B_append, B_append, B_append, B_append]; simp

theorem text_spec (p : Int) (H : List AObj) : ASpec Tryd.prog 121 [.int .i64 p] H (fun r H' => r = .str (B (textM p)) ∧ H' = H) := by
  have e3 : (0 : Int) ≤ 0 ∧ (0 : Int) < 3 := by decide
  have e4 : (0 : Int) ≤ 1 ∧ (1 : Int) < 3 := by decide
  have e5 : (0 : Int) ≤ 2 ∧ (2 : Int) < 3 := by decide
  refine pd (.str (B (textM p))) (fun _ => rfl) (fun _ => rfl) H (s121 _ _ (ASpec.call (parts_spec p _) (Les.refl _) ⟨_, rfl, rfl, condBn (fun h => ?_) fun h => ?_⟩))
  · have : ¬ (0 ≤ p ∧ p < 1000000000) := by intro hp; unfold partsM at h; rw [if_pos hp] at h; cases h
    unfold textM; rw [if_neg this]
  · have hp : 0 ≤ p ∧ p < 1000000000 := by
      by_cases hp : 0 ≤ p ∧ p < 1000000000
      · exact hp
      · unfold partsM at h; rw [if_neg hp] at h; cases h
    have hM : partsM p = ((p / 1000000, p / 1000 % 1000, p % 1000), true) := by unfold partsM; rw [if_pos hp]
    rw [hM]
    have ht := txt_le (p / 1000000).toNat (p / 1000 % 1000).toNat (p % 1000).toNat
    refine needJ e3 (needJ e4 (needJ e5 ?_))
    refine ASpec.call (itoa_spec (n := p / 1000000) (by omega) (by omega) _) (Les.refl _) ⟨_, rfl, rfl, ⟨rfl, rfl⟩, ⟨rfl, rfl⟩, needJ ?_ ?_⟩
    · rw [B_size]; omega
    refine ASpec.call (itoa_spec (n := p / 1000 % 1000) (by omega) (by omega) _) (Les.refl _) ⟨_, rfl, rfl, ⟨rfl, rfl⟩, needJ ?_ (needJ ?_ ?_)⟩
    · rw [show (⟨#[46]⟩ : ByteArray) = B [46] from rfl, B_append, B_size, B_size]; simp; omega
    · rw [show (⟨#[46]⟩ : ByteArray) = B [46] from rfl, B_append, B_append, B_size]; simp; omega
    refine ASpec.call (itoa_spec (n := p % 1000) (by omega) (by omega) _) (Les.refl _) ⟨_, rfl, rfl, needJ ?_ ?_⟩
    · rw [show (⟨#[46]⟩ : ByteArray) = B [46] from rfl, B_append, B_append, B_append, B_size, B_size]; simp; omega
    · rw [cat3]
      unfold textM text3; rw [if_pos hp]

/-! ### strings.Join -/
theorem join_spec (o : List (List UInt8)) (sep : List UInt8) (hN : o.length ≤ 1000000) (hlen : (Go.Lib.join o sep).length ≤ 140737488355328) (H : List AObj) :
    ASpec Tryd.prog 118 [.sl 1 (.map T.encL [] o) .none, .str (B sep)] H (fun r H' => r = .str (B (Go.Lib.join o sep)) ∧ H' = H) := by
  refine ASpec.of_calls fun M loc w vs ht hv => ?_
  obtain ⟨hs, hv⟩ := hv
  have hv0 := hv 0 (by simp)
  have hv1 := hv 1 (by simp)
  have hvs : vs = #[vs[0]'(by simp at hs; omega), vs[1]'(by simp at hs; omega)] := by
    apply Array.ext
    · simpa using hs
    · intro i h1 h2
      have : i < 2 := by simpa using h2
      match i, this with
      | 0, _ | 1, _ => rfl
  rw [hvs]
  simp only [List.getElem_cons_zero, List.getElem_cons_succ] at hv0 hv1
  generalize vs[0]'(by simp at hs; omega) = v0 at hv0
  generalize vs[1]'(by simp at hs; omega) = v1 at hv1
  have e1 : v1 = .string (B sep) := by cases hv1; rfl
  subst e1
  have fin : ∀ {e : Ending} {w' : World}, e = .returned (.string ⟨(Go.Lib.join o sep).toArray⟩) → Below w.heap.size w w' → ∃ v, e = .returned v ∧ VRel M w' loc (.str (B (Go.Lib.join o sep))) v ∧ Grown w w' := fun he hb =>
    ⟨_, he, .str _, hb.size, hb.block, hb.os, hb.tape, hb.output⟩
  have none : o = [] → ∀ a, Calls Tryd.prog 118 #[.slice a 0 0, .string (B sep)] w fun e w' => ∃ v, e = .returned v ∧ VRel M w' loc (.str (B (Go.Lib.join o sep))) v ∧ Grown w w' := fun ho a =>
    (Tryd.strings_Join_none a 0 (B sep) w).mono fun e w' ⟨he, hw⟩ => by
      subst ho
      exact fin (by rw [he]; rfl) (hw ▸ Below.refl _ _)
  cases hv0 with
  | slnil _ _ _ hn _ => exact none (by simpa [Ab.Seq.toList] using hn) _
  | slz _ _ _ a hn _ _ => exact none (by simpa [Ab.Seq.toList] using hn) _
  | sl _ _ _ b of cap vals hz h1 h2 hcap hnil hfull htok =>
    by_cases ho : o = []
    · subst ho
      refine (Tryd.strings_Join_none (some ⟨b, of, Option.none⟩) cap (B sep) w).mono fun e w' ⟨he, hw⟩ => fin (by rw [he]; rfl) (hw ▸ Below.refl _ _)
    have hL : (Ab.Seq.map T.encL [] o).toList.length = o.length := by simp [Ab.Seq.toList]
    have hcell : ∀ (j : Nat) x, (o.map B)[j]? = some x → w.cell? ⟨b, of + j, Option.none⟩ = some (.string x) := by
      intro j x hx
      have hj : j < o.length := by
        have := (List.getElem?_eq_some_iff.1 hx).1
        simpa using this
      have hi := h1 j 0 (by rw [hL]; exact hj) (by omega)
      have hr := h2 j 0 (by rw [hL]; exact hj) (by simp [Ab.Seq.toList, T.encL])
      have e2 : ((Ab.Seq.map T.encL [] o).toList[j]'(by rw [hL]; exact hj))[0]'(by simp [Ab.Seq.toList, T.encL]) = .str (B o[j]) := by simp [Ab.Seq.toList, T.encL]
      rw [e2] at hr
      have e3 : vals j 0 = .string (B o[j]) := by
        generalize vals j 0 = v at hr
        cases hr; rfl
      have e4 : x = B o[j] := by
        rw [List.getElem?_map, List.getElem?_eq_getElem hj] at hx
        exact (Option.some.inj hx).symm
      rw [e3] at hi
      subst e4
      have := hi.1
      simpa using this
    have hbk : b < w.heap.size := by
      have hp : 0 < o.length := List.length_pos_iff.2 ho
      have := hcell 0 (B o[0]) (by simp [List.getElem?_eq_getElem hp])
      simp only [World.cell?] at this
      cases hb : w.heap[b]? with
      | none => rw [hb] at this; cases this
      | some q => exact (Array.getElem?_eq_some_iff.1 hb).1
    have key := Tryd.strings_Join b of cap (o.map B) (B sep) w hcell hbk (by simp; omega) (by simp; rw [hL] at hcap; exact hcap) (by
      have : (o.map B).map (fun x : ByteArray => x.data.toList) = o := by simp [Function.comp_def]
      rw [this]; exact hlen)
    have e5 : (o.map B).map (fun x : ByteArray => x.data.toList) = o := by simp [Function.comp_def]
    rw [e5] at key
    rw [hL]
    rw [List.length_map] at key
    exact key.mono fun e w' ⟨he, hb⟩ => fin he hb
end D
end

section
/- Answers: which may be, which are alike, how they are written; the program's way and the document's. -/

set_option linter.unusedVariables false
set_option linter.unusedSimpArgs false
set_option linter.unusedSectionVars false
set_option maxRecDepth 100000
open Go Go.Ab Go.Proofs V S T C
namespace An
open E (PA pa)
open Dk (Nm fitP chkF chk_spec rchk_spec rsameP_spec large_spec largeK chk_fit getD_mem nameEq)
open Dk (sepP join_cons)
open Pc (slK slKLe)
open Pr (slP checkM okS check_spec rcheck_spec rsame_spec)
open Ve (textM dg dg_len)
open D (fitB pd itoa_spec text_spec join_spec txt_le cat3)
noncomputable abbrev sl1 (l : List UInt8) : AV := .sl 1 (.map encB 0 l) .none
noncomputable abbrev agA (a : Ans) : AV := .agg (encAn a)

def txt (p : Pk) : Nm := p.1 ++ 32 :: textM p.2
theorem cat2 (a b : List UInt8) : ({ data := List.toArray a } : ByteArray) ++ { data := #[(32 : UInt8)] } ++ B b = B (a ++ 32 :: b) := by
  show B a ++ B [32] ++ B b = _
  rw [D.B_append, D.B_append]; simp
theorem textM_len (v : Int) : (textM v).length ≤ 11 := by
  unfold Ve.textM
  split
  · exact (Ve.text3_len _ _ _).2
  · simp

/-! ### the document's digits -/
/-! ### picks' texts -/
theorem fitP_parts {p : Pk} (h : fitP p = true) : fitM p.1 = true ∧ 0 ≤ p.2 ∧ p.2 < 1000000000 := by
  unfold Dk.fitP at h
  rw [Bool.and_eq_true] at h
  exact ⟨h.1, of_decide_eq_true h.2⟩
theorem txt_len {p : Pk} (h : fitP p = true) : (txt p).length ≤ 36 := by
  have h1 := fitM_short (fitP_parts h).1
  have h2 := textM_len p.2
  simp [An.txt]; omega
theorem join_le : ∀ (ps : List Nm), (∀ p ∈ ps, p.length ≤ 36) → (Go.Lib.join ps sepP).length ≤ ps.length * 38
  | [], _ => by simp [Go.Lib.join_nil]
  | [p], h => by rw [Go.Lib.join_one]; have := h p (by simp); simp; omega
  | p :: q :: r, h => by
    rw [join_cons]
    have h1 := h p (by simp)
    have h2 := join_le (q :: r) fun x hx => h x (by simp [hx])
    simp at h2 ⊢; omega
def nothing : List UInt8 := [110, 111, 116, 104, 105, 110, 103]
noncomputable def picksT (s : List Pk) : List UInt8 := if s = [] then nothing else Go.Lib.join (s.map txt) sepP
section
variable {s : List Pk} (hl : s.length ≤ 1100) (hc : chkF none s = true)
include hl hc
theorem joins_len (i : Nat) : (Go.Lib.join ((s.take i).map txt) sepP).length ≤ 41800 := by
  have := join_le ((s.take i).map txt) (fun x hx => by
    obtain ⟨p, hp, rfl⟩ := List.mem_map.1 hx
    exact txt_len (chk_fit hc p (List.mem_of_mem_take hp)))
  rw [List.length_map, List.length_take] at this
  omega
theorem name_le {p : Pk} (hp : p ∈ s) : p.1.length ≤ 24 := fitM_short (fitP_parts (chk_fit hc p hp)).1
theorem show7 : ∀ (m i : Nat) (o : List Nm), m + i = s.length → o = (s.take i).map txt →
    AWP Tryd.prog 33 0 c85_7 [(3, .sl 1 (.map encL [] o) (.tok 0)), (14, slK s), (15, .int .i64 s.length), (16, .int .i64 i)] [.tok] (q85_2 0 (PA (.str (B (Go.Lib.join (s.map txt) sepP))))) := by
  intro m
  induction m with
  | zero =>
    intro i o hm ho
    have hj := joins_len hl hc s.length
    rw [List.take_of_length_le (Nat.le_refl _)] at hj
    rw [List.take_of_length_le (by omega)] at ho
    subst ho
    refine v85_7 _ _ _ _ _ _ (condD (fun hc => by omega) fun _ => ?_)
    refine ASpec.call (join_spec (s.map txt) [44, 32] (by simp; omega) (Nat.le_trans hj (by omega)) _) ⟨Le.sl (s' := .map encL [] (s.map txt)) rfl (.inl rfl) (.inr rfl), Le.refl _, trivial⟩ ⟨_, rfl, rfl, pa (Le.refl _)⟩
  | succ m ih =>
    intro i o hm ho
    have hp := name_le hl hc (getD_mem (d := noPk) (show i < s.length by omega))
    have hti : s.take (i + 1) = s.take i ++ [s.getD i noPk] := by
      rw [List.take_add_one, List.getD_eq_getElem?_getD, List.getElem?_eq_getElem (show i < s.length by omega)]; rfl
    have hol : o.length ≤ 1100 := by rw [ho]; simp; omega
    refine v85_7 _ _ _ _ _ _ (condD (fun hc => needJ ⟨by omega, by omega⟩ ?_) fun hc => by omega)
    rw [Int.toNat_natCast, succ64 (by omega)]
    generalize s.getD i noPk = p at hp hti ⊢
    have ht := textM_len p.2
    refine needJ (by rw [B_size]; omega) (ASpec.call (text_spec p.2 _) (Les.refl _) ⟨_, rfl, rfl, ⟨rfl, rfl⟩, needJ ?_ (needJ (by omega) ?_)⟩)
    · have e : (({ data := List.toArray p.1 } : ByteArray) ++ { data := #[(32 : UInt8)] }).size = p.1.length + 1 := by
        show (B p.1 ++ B [32]).size = _
        rw [D.B_append, B_size]; simp
      rw [e]
      have e2 : (D.B (textM p.2)).size = (textM p.2).length := by simp [ByteArray.size]
      rw [e2]; omega
    · rw [cat2]
      refine AWP.shape [2] [(3, .sl 1 (.map encL [] (o ++ [txt p])) (.tok 0)), (14, slK s), (15, .int .i64 s.length), (16, .int .i64 (i + 1 : Nat))] [.tok] (Sel.mk0 (by decide) ⟨rfl, trivial⟩)
        ⟨rfl, leAppE (Les.refl _), rfl, slKLe _ _, rfl, Le.refl _, rfl, Le.refl _, trivial⟩ (ih (i + 1) _ (by omega) ?_)
      rw [hti, List.map_append, ← ho]; rfl
theorem show_spec (H : List AObj) : ASpec Tryd.prog 85 [slK s] H (fun r H' => r = .str (B (picksT s)) ∧ H' = H) := by
  have hn : ∀ p ∈ s, p.1.length ≤ 10 * big := fun p hp => by
    have := name_le hl hc hp
    unfold big; omega
  have k : ASpec Tryd.prog 85 [slK s] [] (fun r H' => r = .str (B (picksT s)) ∧ H' = []) := by
    refine ASpec.sel (s85 _ _ (ASpec.call (chk_spec (s := s) (by omega) hn _) (Les.refl _) ⟨_, rfl, rfl, ?_⟩))
    rw [hc]
    refine condBn (fun h => by cases h) fun _ => condE (fun h => ?_) fun h => v85_5 _ _ _ ?_
    · have : s = [] := List.length_eq_zero_iff.1 (by omega)
      unfold picksT
      rw [if_pos this]
      exact pa (Le.refl _)
    · have hne : ¬ s = [] := fun e => h (by rw [e]; rfl)
      have key := show7 hl hc s.length 0 [] (by omega) (by simp)
      unfold picksT
      rw [if_neg hne]
      refine AWP.re (ReSt.tok (k := 3) (q' := .map encL [] []) (sz' := 1) (s2 := [(3, .sl 1 (.map encL [] []) (.tok 0)), (14, slK s), (15, .int .i64 s.length), (16, .int .i64 (0 : Nat))]) rfl (.inl rfl) rfl (.inr rfl) (fun d hd => ?_) rfl) key
      simp only [Ab.get]
      have e : Nat.beq 3 d = false := by
        cases hx : Nat.beq 3 d with
        | false => rfl
        | true => exact absurd (Nat.eq_of_beq_eq_true hx).symm hd
      rw [e]; rfl
  exact ASpec.pureH H k _ _ rfl rfl

end
end An
end

section
/- AnswerTells: the law's function returns true. -/

set_option linter.unusedVariables false
set_option linter.unusedSimpArgs false
set_option linter.unusedSectionVars false
set_option maxRecDepth 100000
open Go Go.Ab Go.Proofs V S T C
namespace An
open E (PA pa)
open Dk (Nm fitP chkF chk_spec rchk_spec rsameP_spec large_spec largeK chk_fit getD_mem nameEq)
open Pc (slK slKLe)
open Pr (slP checkM okS check_spec rcheck_spec rsame_spec)
open Ve (textM dg dg_len)
open D (itoa_spec)
/-- what an answer is like that is looked at -/
structure OkA (a : Ans) : Prop where
  pl : a.2.1.length ≤ 1100
  pn : a.2.1.length ≤ 1000 → ∀ p ∈ a.2.1, p.1.length ≤ 10 * big
  sl : a.2.2.length ≤ 1048586
  sk : ∀ x ∈ a.2.2, okS x

noncomputable def CA (a : Ans) : Bool :=
  if a.1 = 1 then decide (a.2.2.length = 0) && (decide (a.2.1.length ≤ 1000) && chkF none a.2.1)
  else if a.1 = 2 then decide (a.2.1.length = 0) && checkM a.2.2
  else if a.1 = 3 ∨ a.1 = 4 ∨ a.1 = 5 then decide (a.2.1.length = 0) && decide (a.2.2.length = 0) else false

theorem eqZ {n : Nat} : ((n : Int) == 0) = decide (n = 0) := by
  by_cases h : n = 0
  · subst h; rfl
  · rw [decide_eq_false h]; exact beq_eq_false_iff_ne.2 (by omega)
section
variable {a : Ans} (ok : OkA a)
include ok
theorem checkA_spec (H : List AObj) : ASpec Tryd.prog 40 [agA a] H (fun r H' => r = .bool (CA a) ∧ H' = H) := by
  have h1 := ok.pl
  have h2 := ok.sl
  have k : ASpec Tryd.prog 40 [agA a] [] (fun r H' => r = .bool (CA a) ∧ H' = []) := by
    refine ASpec.sel (s40 a (PA (.bool (CA a))) ?_)
    unfold CA
    refine condE (fun e1 => ?_) fun e1 => ?_
    · rw [if_pos e1]
      refine condE (fun e2 => condD (fun e3 => ?_) fun e3 => pa ?_) fun e2 => pa ?_
      · refine ASpec.call (chk_spec (by omega) (ok.pn (by omega)) _) (Les.refl _) ⟨_, rfl, rfl, pa ?_⟩
        rw [decide_eq_true (show a.2.2.length = 0 by omega), decide_eq_true (show a.2.1.length ≤ 1000 by omega)]
        exact Le.refl _
      · rw [decide_eq_false (show ¬ a.2.1.length ≤ 1000 by omega), Bool.false_and, Bool.and_false]; exact Le.refl _
      · rw [decide_eq_false (show ¬ a.2.2.length = 0 by omega), Bool.false_and]; exact Le.refl _
    · rw [if_neg e1]
      refine condE (fun e2 => ?_) fun e2 => ?_
      · rw [if_pos e2]
        refine condE (fun e3 => ?_) fun e3 => pa ?_
        · refine ASpec.call (check_spec a.2.2 (by unfold maxLen; omega) ok.sk _) (Les.refl _) ⟨_, rfl, rfl, pa ?_⟩
          rw [decide_eq_true (show a.2.1.length = 0 by omega)]; exact Le.refl _
        · rw [decide_eq_false (show ¬ a.2.1.length = 0 by omega), Bool.false_and]; exact Le.refl _
      · rw [if_neg e2]
        have leaf : (a.1 = 3 ∨ a.1 = 4 ∨ a.1 = 5) → condP (((a.2.1.length : Int)) == 0) (PA (.bool (if a.1 = 3 ∨ a.1 = 4 ∨ a.1 = 5 then decide (a.2.1.length = 0) && decide (a.2.2.length = 0) else false)) (.bool (((a.2.2.length : Int)) == 0)) [.cells (encAn a)])
            (PA (.bool (if a.1 = 3 ∨ a.1 = 4 ∨ a.1 = 5 then decide (a.2.1.length = 0) && decide (a.2.2.length = 0) else false)) (.bool false) [.cells (encAn a)]) := by
          intro h
          rw [if_pos h]
          refine condE (fun e3 => pa ?_) fun e3 => pa ?_
          · rw [decide_eq_true (show a.2.1.length = 0 by omega), eqZ]; exact Le.refl _
          · rw [decide_eq_false (show ¬ a.2.1.length = 0 by omega), Bool.false_and]; exact Le.refl _
        refine condE (fun e3 => condE (fun _ => leaf (.inl e3)) fun h => (h e3).elim) fun e3 => condE (fun e4 => condE (fun _ => leaf (.inr (.inl e4))) fun h => (h e4).elim) fun e4 => condE (fun e5 => leaf (.inr (.inr e5))) fun e5 => pa ?_
        rw [if_neg (by omega)]; exact Le.refl _
  exact ASpec.pureH H k _ _ rfl rfl
theorem rcheckA_spec (H : List AObj) : ASpec Tryd.prog 41 [agA a] H (fun r H' => r = .bool (CA a) ∧ H' = H) := by
  have h1 := ok.pl
  have h2 := ok.sl
  have k : ASpec Tryd.prog 41 [agA a] [] (fun r H' => r = .bool (CA a) ∧ H' = []) := by
    refine ASpec.sel (s41 a (PA (.bool (CA a))) ?_)
    unfold CA
    refine condD (fun e => pa ?_) fun e => condD (fun e2 => pa ?_) fun e2 => ?_
    · rw [if_neg (by omega), if_neg (by omega), if_neg (by omega)]; exact Le.refl _
    · rw [if_neg (by omega), if_neg (by omega), if_neg (by omega)]; exact Le.refl _
    refine ASpec.call (rchk_spec (by omega) _) (Les.refl _) ⟨_, rfl, rfl, ?_⟩
    have nilc : ∀ {s : List Pk}, s.length = 0 → chkF none s = true := fun h => by rw [List.length_eq_zero_iff.1 h]; rfl
    refine condBn (fun hc => pa ?_) fun hc => ?_
    · have hz : ¬ a.2.1.length = 0 := fun h => by rw [nilc h] at hc; cases hc
      split
      · rw [hc, Bool.and_false, Bool.and_false]; exact Le.refl _
      · rw [decide_eq_false hz, Bool.false_and, Bool.false_and]
        split
        · exact Le.refl _
        · split <;> exact Le.refl _
    refine condD (fun e3 => pa ?_) fun e3 => ?_
    · split
      · rw [decide_eq_false (show ¬ a.2.1.length ≤ 1000 by omega), Bool.false_and, Bool.and_false]; exact Le.refl _
      · rw [decide_eq_false (show ¬ a.2.1.length = 0 by omega), Bool.false_and, Bool.false_and]
        split
        · exact Le.refl _
        · split <;> exact Le.refl _
    have two : ∀ {z : Bool}, a.1 = 2 → checkM a.2.2 = z → ∀ H, ASpec Tryd.prog 81 [slP a.2.2] H (fun r H' => ∃ x : Bool, r = .bool x ∧ H' = H ∧ PA (.bool z) (.bool x) H) := fun h2 hz H =>
      ASpec.call (rcheck_spec a.2.2 (by unfold maxLen; omega) ok.sk _) (Les.refl _) ⟨_, rfl, rfl, pa (by rw [hz]; exact Le.refl _)⟩
    refine condNe (fun e4 => ?_) fun e4 => ?_
    · rw [if_neg e4]
      refine condD (fun e5 => pa ?_) fun e5 => ?_
      · rw [decide_eq_false (show ¬ a.2.1.length = 0 by omega), Bool.false_and, Bool.false_and]
        split
        · exact Le.refl _
        · split <;> exact Le.refl _
      · rw [decide_eq_true (show a.2.1.length = 0 by omega), Bool.true_and, Bool.true_and]
        refine condE (fun e6 => ?_) fun e6 => pa ?_
        · rw [if_pos e6]; exact two e6 rfl _
        · rw [if_neg e6, if_pos (by omega), eqZ]; exact Le.refl _
    · rw [if_pos e4]
      refine condE (fun e6 => by omega) fun e6 => pa ?_
      rw [decide_eq_true (show a.2.1.length ≤ 1000 by omega), hc, eqZ]
      simp only [Bool.and_true]; exact Le.refl _
  exact ASpec.pureH H k _ _ rfl rfl
end

/-! ### Same -/
theorem eqP4 {a b : List Pk} {c : Bool} (hl : a.length ≤ 2000000) (he : a.length = b.length) : ∀ (m i : Nat), m + i = a.length → decide (a.drop i = b.drop i) = c →
    AWP Tryd.prog 26 0 c82_4 [(0, slK a), (1, slK b), (12, .int .i64 a.length), (13, .int .i64 i)] [] (q82_2 0 (PA (.bool c))) := by
  intro m
  induction m with
  | zero =>
    intro i hm h
    refine v82_4 _ _ _ _ _ _ (condD (fun hc => by omega) fun _ => pa ?_)
    rw [List.drop_eq_nil_of_le (by omega), List.drop_eq_nil_of_le (by omega)] at h
    rw [← h]; simp; exact Le.refl _
  | succ m ih =>
    intro i hm h
    rw [dropD a noPk i (by omega), dropD b noPk i (by omega), W.cons_dec] at h
    refine v82_4 _ _ _ _ _ _ (condD (fun hc => needJ ⟨by omega, by omega⟩ (needJ ⟨by omega, by omega⟩ ?_)) fun hc => by omega)
    rw [Int.toNat_natCast]
    generalize a.getD i noPk = x at h ⊢
    generalize b.getD i noPk = y at h ⊢
    rw [B_beq]
    have e : (x.1 == y.1 && (x.2 == y.2 && true)) = decide (x = y) := by
      rw [Bool.eq_iff_iff]
      simp only [Bool.and_eq_true, beq_iff_eq, decide_eq_true_eq, Prod.ext_iff, and_true]
    refine condBn (fun h1 => pa ?_) fun h1 => ?_
    · have h2 : decide (x = y) = false := by rw [← e]; simpa using h1
      rw [h2] at h; subst h; exact Le.refl _
    · have h2 : decide (x = y) = true := by rw [← e]; simpa using h1
      rw [h2, Bool.true_and] at h
      rw [succ64 (by omega)]
      exact ih (i + 1) (by omega) h
theorem eqP_spec (a b : List Pk) (hl : a.length ≤ 2000000) (H : List AObj) : ASpec Tryd.prog 82 [slK a, slK b] H (fun r H' => r = .bool (decide (a = b)) ∧ H' = H) := by
  have k : ASpec Tryd.prog 82 [slK a, slK b] [] (fun r H' => r = .bool (decide (a = b)) ∧ H' = []) := by
    refine ASpec.sel (s82 _ _ _ (condNe (fun h => pa ?_) fun h => eqP4 hl (by omega) a.length 0 (by omega) (by simp)))
    rw [decide_eq_false (fun e => h (by rw [e]))]; exact Le.refl _
  exact ASpec.pureH H k _ _ rfl rfl
theorem eqS4 {a b : List St} {c : Bool} (hl : a.length ≤ 2000000) (he : a.length = b.length) : ∀ (m i : Nat), m + i = a.length → decide (a.drop i = b.drop i) = c →
    AWP Tryd.prog 26 0 c83_4 [(0, slP a), (1, slP b), (12, .int .i64 a.length), (13, .int .i64 i)] [] (q83_2 0 (PA (.bool c))) := by
  intro m
  induction m with
  | zero =>
    intro i hm h
    refine v83_4 _ _ _ _ _ _ (condD (fun hc => by omega) fun _ => pa ?_)
    rw [List.drop_eq_nil_of_le (by omega), List.drop_eq_nil_of_le (by omega)] at h
    rw [← h]; simp; exact Le.refl _
  | succ m ih =>
    intro i hm h
    rw [dropD a noSt i (by omega), dropD b noSt i (by omega), W.cons_dec] at h
    refine v83_4 _ _ _ _ _ _ (condD (fun hc => needJ ⟨by omega, by omega⟩ (needJ ⟨by omega, by omega⟩ ?_)) fun hc => by omega)
    rw [Int.toNat_natCast]
    generalize a.getD i noSt = x at h ⊢
    generalize b.getD i noSt = y at h ⊢
    rw [B_beq, B_beq]
    have e : (x.1 == y.1 && (x.2.1 == y.2.1 && (x.2.2.1 == y.2.2.1 && (x.2.2.2.1 == y.2.2.2.1 && (x.2.2.2.2.1 == y.2.2.2.2.1 && (x.2.2.2.2.2 == y.2.2.2.2.2 && true)))))) = decide (x = y) := by
      rw [Bool.eq_iff_iff]
      simp only [Bool.and_eq_true, beq_iff_eq, decide_eq_true_eq, Prod.ext_iff, and_true]
    refine condBn (fun h1 => pa ?_) fun h1 => ?_
    · have h2 : decide (x = y) = false := by rw [← e]; simpa using h1
      rw [h2] at h; subst h; exact Le.refl _
    · have h2 : decide (x = y) = true := by rw [← e]; simpa using h1
      rw [h2, Bool.true_and] at h
      rw [succ64 (by omega)]
      exact ih (i + 1) (by omega) h
theorem eqS_spec (a b : List St) (hl : a.length ≤ 2000000) (H : List AObj) : ASpec Tryd.prog 83 [slP a, slP b] H (fun r H' => r = .bool (decide (a = b)) ∧ H' = H) := by
  have k : ASpec Tryd.prog 83 [slP a, slP b] [] (fun r H' => r = .bool (decide (a = b)) ∧ H' = []) := by
    refine ASpec.sel (s83 _ _ _ (condNe (fun h => pa ?_) fun h => eqS4 hl (by omega) a.length 0 (by omega) (by simp)))
    rw [decide_eq_false (fun e => h (by rw [e]))]; exact Le.refl _
  exact ASpec.pureH H k _ _ rfl rfl
theorem sameE {a b : Ans} : decide (a = b) = (decide (a.1 = b.1) && (decide (a.2.1 = b.2.1) && decide (a.2.2 = b.2.2))) := by
  rw [Bool.eq_iff_iff]
  simp only [Bool.and_eq_true, decide_eq_true_eq, Prod.ext_iff]
section
variable {a b : Ans} (h1 : a.2.1.length ≤ 1100) (h2 : a.2.2.length ≤ 1048586)
include h1 h2
theorem sameA_spec (H : List AObj) : ASpec Tryd.prog 42 [agA a, agA b] H (fun r H' => r = .bool (decide (a = b)) ∧ H' = H) := by
  have k : ASpec Tryd.prog 42 [agA a, agA b] [] (fun r H' => r = .bool (decide (a = b)) ∧ H' = []) := by
    refine ASpec.sel (s42 a b (PA (.bool (decide (a = b)))) ?_)
    rw [sameE]
    refine condE (fun e => ?_) fun e => pa ?_
    · rw [decide_eq_true e, Bool.true_and]
      refine ASpec.call (eqP_spec _ _ (by omega) _) (Les.refl _) ⟨_, rfl, rfl, condB (fun e2 => ?_) fun e2 => pa ?_⟩
      · rw [e2, Bool.true_and]
        exact ASpec.call (eqS_spec _ _ (by omega) _) (Les.refl _) ⟨_, rfl, rfl, pa (Le.refl _)⟩
      · rw [e2, Bool.false_and]; exact Le.refl _
    · rw [decide_eq_false e, Bool.false_and]; exact Le.refl _
  exact ASpec.pureH H k _ _ rfl rfl
theorem rsameA_spec (H : List AObj) : ASpec Tryd.prog 43 [agA a, agA b] H (fun r H' => r = .bool (decide (a = b)) ∧ H' = H) := by
  have k : ASpec Tryd.prog 43 [agA a, agA b] [] (fun r H' => r = .bool (decide (a = b)) ∧ H' = []) := by
    refine ASpec.sel (s43 a b (PA (.bool (decide (a = b)))) ?_)
    rw [sameE]
    refine condE (fun e => ?_) fun e => pa ?_
    · rw [decide_eq_true e, Bool.true_and]
      refine ASpec.call (rsameP_spec _ _ (by omega) _) (Les.refl _) ⟨_, rfl, rfl, condB (fun e2 => ?_) fun e2 => pa ?_⟩
      · rw [e2, Bool.true_and]
        exact ASpec.call (rsame_spec _ _ (by omega) _) (Les.refl _) ⟨_, rfl, rfl, pa (Le.refl _)⟩
      · rw [e2, Bool.false_and]; exact Le.refl _
    · rw [decide_eq_false e, Bool.false_and]; exact Le.refl _
  exact ASpec.pureH H k _ _ rfl rfl
end
end An
end

section
/- AnswerTells: the law's function returns true. -/

set_option linter.unusedVariables false
set_option linter.unusedSimpArgs false
set_option linter.unusedSectionVars false
set_option maxRecDepth 100000
open Go Go.Ab Go.Proofs V S T C
namespace An
open E (PA pa)
open Dk (Nm chkF large_spec largeK largeK_ok)
open Pc (slK slKLe)
open Pr (slP checkM okS largeM largeM_ok)
open Ve (textM dg dg_len)
open D (itoa_spec)
/-! ### how they are written -/
def solvedW : List UInt8 := [115, 111, 108, 118, 101, 100, 32]
def unsatW : List UInt8 := [117, 110, 115, 97, 116, 32, 98, 121, 32]
def stepsW : List UInt8 := [32, 115, 116, 101, 112, 115]
noncomputable def showA (a : Ans) : List UInt8 :=
  if CA a = true then
    if a.1 = 1 then solvedW ++ picksT a.2.1
    else if a.1 = 2 then unsatW ++ dg a.2.2.length ++ stepsW
    else if a.1 = 3 then [98, 97, 100] else if a.1 = 4 then [100, 101, 97, 100, 108, 105, 110, 101] else [114, 101, 106, 101, 99, 116, 101, 100]
  else []
theorem CA1 {a : Ans} (h : CA a = true) (e : a.1 = 1) : a.2.2 = [] ∧ a.2.1.length ≤ 1000 ∧ chkF none a.2.1 = true := by
  unfold CA at h
  rw [if_pos e, Bool.and_eq_true, Bool.and_eq_true] at h
  exact ⟨List.length_eq_zero_iff.1 (of_decide_eq_true h.1), of_decide_eq_true h.2.1, h.2.2⟩
theorem CA3 {a : Ans} (h : CA a = true) (e1 : ¬ a.1 = 1) (e2 : ¬ a.1 = 2) : a.1 = 3 ∨ a.1 = 4 ∨ a.1 = 5 := by
  unfold CA at h
  rw [if_neg e1, if_neg e2] at h
  split at h
  · assumption
  · cases h
theorem picksT_len {s : List Pk} (hl : s.length ≤ 1100) (hc : chkF none s = true) : (picksT s).length ≤ 41800 := by
  unfold picksT
  split
  · simp [nothing]
  · have := joins_len hl hc s.length
    rw [List.take_of_length_le (Nat.le_refl _)] at this
    exact this
theorem catS (a b : List UInt8) : ({ data := List.toArray a } : ByteArray) ++ B b = B (a ++ b) := D.B_append a b
theorem h87 (H : List AObj) : ASpec Tryd.prog 87 [] H (fun r H' => r = .agg [.str ⟨#[]⟩, .str ⟨#[]⟩, .str ⟨#[]⟩, .str ⟨#[98, 97, 100]⟩, .str ⟨#[100, 101, 97, 100, 108, 105, 110, 101]⟩, .str ⟨#[114, 101, 106, 101, 99, 116, 101, 100]⟩] ∧ H' = H) :=
  D.pd _ (fun _ => rfl) (fun _ => rfl) H (s87 _ rfl)
section
variable {a : Ans} (ok : OkA a) (h300 : a.2.2.length ≤ 300)
include ok h300
theorem showA_spec (H : List AObj) : ASpec Tryd.prog 44 [agA a] H (fun r H' => r = .str (B (showA a)) ∧ H' = H) := by
  have h1 := ok.pl
  have h2 := ok.sl
  have k : ASpec Tryd.prog 44 [agA a] [] (fun r H' => r = .str (B (showA a)) ∧ H' = []) := by
    refine ASpec.sel ?_
    by_cases hk : a.1 = 3 ∨ a.1 = 4 ∨ a.1 = 5
    · obtain ⟨kd, ps, ss⟩ := a
      rcases hk with e | e | e
      · have e : kd = 3 := e
        subst e
        refine s44c ps ss (PA (.str (B (showA (3, ps, ss))))) (ASpec.call (checkA_spec ok _) (Les.refl _) ⟨_, rfl, rfl, condBn (fun hc => pa ?_) fun hc => ASpec.call (h87 _) (Les.refl _) ⟨(), rfl, rfl, ⟨rfl, rfl⟩, needJ (by omega) (pa ?_)⟩⟩)
        · unfold showA; rw [if_neg (by rw [hc]; simp)]; exact Le.refl _
        · unfold showA; rw [if_pos hc]; exact Le.refl _
      · have e : kd = 4 := e
        subst e
        refine s44d ps ss (PA (.str (B (showA (4, ps, ss))))) (ASpec.call (checkA_spec ok _) (Les.refl _) ⟨_, rfl, rfl, condBn (fun hc => pa ?_) fun hc => ASpec.call (h87 _) (Les.refl _) ⟨(), rfl, rfl, ⟨rfl, rfl⟩, needJ (by omega) (pa ?_)⟩⟩)
        · unfold showA; rw [if_neg (by rw [hc]; simp)]; exact Le.refl _
        · unfold showA; rw [if_pos hc]; exact Le.refl _
      · have e : kd = 5 := e
        subst e
        refine s44e ps ss (PA (.str (B (showA (5, ps, ss))))) (ASpec.call (checkA_spec ok _) (Les.refl _) ⟨_, rfl, rfl, condBn (fun hc => pa ?_) fun hc => ASpec.call (h87 _) (Les.refl _) ⟨(), rfl, rfl, ⟨rfl, rfl⟩, needJ (by omega) (pa ?_)⟩⟩)
        · unfold showA; rw [if_neg (by rw [hc]; simp)]; exact Le.refl _
        · unfold showA; rw [if_pos hc]; exact Le.refl _
    refine s44 a (PA (.str (B (showA a)))) (ASpec.call (checkA_spec ok _) (Les.refl _) ⟨_, rfl, rfl, condBn (fun hc => pa ?_) fun hc => condE (fun e1 => ?_) fun e1 => condE (fun e2 => ?_) fun e2 => (hk (CA3 hc e1 e2)).elim⟩)
    · unfold showA; rw [if_neg (by rw [hc]; simp)]; exact Le.refl _
    · obtain ⟨_, k2, k3⟩ := CA1 hc e1
      have hl := picksT_len (s := a.2.1) (by omega) k3
      refine ASpec.call (show_spec (s := a.2.1) (by omega) k3 _) (Les.refl _) ⟨_, rfl, rfl, needJ (by rw [B_size]; omega) (pa ?_)⟩
      unfold showA
      rw [if_pos hc, if_pos e1]
      have e : (⟨#[115, 111, 108, 118, 101, 100, 32]⟩ : ByteArray) ++ B (picksT a.2.1) = B (solvedW ++ picksT a.2.1) := catS solvedW _
      rw [e]; exact Le.refl _
    · have hd := dg_len a.2.2.length
      refine ASpec.call (itoa_spec (n := (a.2.2.length : Int)) (by omega) (by omega) _) (Les.refl _) ⟨_, rfl, rfl, ?_⟩
      rw [Int.toNat_natCast]
      have e : (⟨#[117, 110, 115, 97, 116, 32, 98, 121, 32]⟩ : ByteArray) ++ B (dg a.2.2.length) = B (unsatW ++ dg a.2.2.length) := catS unsatW _
      refine needJ (by rw [B_size]; omega) ?_
      rw [e]
      refine needJ (by rw [B_size]; simp [unsatW]; omega) (pa ?_)
      unfold showA
      rw [if_pos hc, if_neg e1, if_pos e2]
      have e3 : B (unsatW ++ dg a.2.2.length) ++ (⟨#[32, 115, 116, 101, 112, 115]⟩ : ByteArray) = B (unsatW ++ dg a.2.2.length ++ stepsW) := D.B_append _ stepsW
      rw [e3]; exact Le.refl _
  exact ASpec.pureH H k _ _ rfl rfl
end

/-! ### Large -/
def largeA (a : Ans) : Bool :=
  if 60 < a.2.1.length ∧ a.2.1.length ≤ 1000 then true else if 1100 < a.2.1.length then true else if largeM a.2.2 = true then true else if 300 < a.2.2.length then true
  else if a.2.1.length ≤ 60 then largeK a.2.1 else false
theorem largeA_300 {a : Ans} (h : largeA a = false) : a.2.2.length ≤ 300 := by
  unfold largeA at h
  split at h
  · cases h
  · split at h
    · cases h
    · split at h
      · cases h
      · split at h
        · cases h
        · omega
theorem largeA_ok {a : Ans} (h : largeA a = false) : OkA a := by
  unfold largeA at h
  split at h
  · cases h
  · rename_i h1
    split at h
    · cases h
    · split at h
      · cases h
      · rename_i h3
        split at h
        · cases h
        · have hk := (largeM_ok (by simpa using h3)).2.2
          refine ⟨by omega, fun hp => ?_, by omega, hk⟩
          rw [if_pos (by omega)] at h
          intro p hp2
          have := (largeK_ok h).2 p hp2
          unfold big; omega
theorem largeA_spec (a : Ans) (H : List AObj) : ASpec Tryd.prog 38 [agA a] H (fun r H' => r = .bool (largeA a) ∧ H' = H) := by
  have k : ASpec Tryd.prog 38 [agA a] [] (fun r H' => r = .bool (largeA a) ∧ H' = []) := by
    refine ASpec.sel (s38 a (PA (.bool (largeA a))) ?_)
    have tl : ¬ (60 < a.2.1.length ∧ a.2.1.length ≤ 1000) → ¬ 1100 < a.2.1.length → ∀ H, ASpec Tryd.prog 78 [slP a.2.2] H (fun r H' => ∃ x : Bool, r = .bool x ∧ H' = H ∧ condP x (PA (.bool (largeA a)) (.bool true) H)
        (condP (decide ((a.2.2.length : Int) > 300)) (PA (.bool (largeA a)) (.bool true) H) (condP (decide ((a.2.1.length : Int) ≤ 60)) (ASpec Tryd.prog 30 [slK a.2.1] H (fun r H' => ∃ x : Bool, r = .bool x ∧ H' = H ∧ PA (.bool (largeA a)) (.bool x) H)) (PA (.bool (largeA a)) (.bool false) H)))) := by
      intro e1 e2 H
      refine ASpec.call (Pr.large_spec a.2.2 H) (Les.refl _) ⟨_, rfl, rfl, ?_⟩
      unfold largeA
      rw [if_neg e1, if_neg e2]
      refine condB (fun h => ?_) fun h => condD (fun h2 => ?_) fun h2 => condD (fun h3 => ?_) fun h3 => ?_
      · rw [if_pos h]; exact pa (Le.refl _)
      · rw [if_neg (by rw [h]; simp), if_pos (by omega)]; exact pa (Le.refl _)
      · rw [if_neg (by rw [h]; simp), if_neg (by omega), if_pos (by omega)]
        exact ASpec.call (large_spec a.2.1 H) (Les.refl _) ⟨_, rfl, rfl, pa (Le.refl _)⟩
      · rw [if_neg (by rw [h]; simp), if_neg (by omega), if_neg (by omega)]; exact pa (Le.refl _)
    refine condD (fun h1 => condD (fun h2 => pa ?_) fun h2 => condD (fun h3 => pa ?_) fun h3 => tl (by omega) (by omega) _) fun h1 => condD (fun h3 => pa ?_) fun h3 => tl (by omega) (by omega) _
    · unfold largeA; rw [if_pos (by omega)]; exact Le.refl _
    · unfold largeA; rw [if_neg (by omega), if_pos (by omega)]; exact Le.refl _
    · unfold largeA; rw [if_neg (by omega), if_pos (by omega)]; exact Le.refl _
  exact ASpec.pureH H k _ _ rfl rfl

/-! ### Put, of an answer that is solved -/
theorem putv (bs : List UInt8) (ns : List Int) (hb : bs.length + 7 * ns.length ≤ big) (H : List AObj) : ASpec Tryd.prog 90 [sl1 bs, .sl 1 (.map encI 0 ns) .none] H (fun r H' => r = sl1 (putM bs ns) ∧ H' = H) := by
  have k : ASpec Tryd.prog 90 [sl1 bs, .sl 1 (.map encI 0 ns) .none] [] (fun r H' => r = sl1 (putM bs ns) ∧ H' = []) :=
    ASpec.sel ((put_spec bs ns hb []).mono fun r H' hh => ⟨[], [], sl1 (putM bs ns), Sel.none, by rw [hh.1]; exact Le.sl rfl (.inl rfl) (.inr rfl), rfl, rfl⟩)
  exact ASpec.pureH H k _ _ rfl rfl
theorem textv (bs s : List UInt8) (hb : bs.length + s.length + 100 ≤ big) (H : List AObj) : ASpec Tryd.prog 91 [sl1 bs, .str (B s)] H (fun r H' => r = sl1 (bs ++ enc (held s.length) ++ s) ∧ H' = H) := by
  have k : ASpec Tryd.prog 91 [sl1 bs, .str (B s)] [] (fun r H' => r = sl1 (bs ++ enc (held s.length) ++ s) ∧ H' = []) :=
    ASpec.sel ((V.text_spec bs s hb []).mono fun r H' hh => ⟨[], [], sl1 (bs ++ enc (held s.length) ++ s), Sel.none, by rw [hh.1]; exact Le.sl rfl (.inl rfl) (.inr rfl), rfl, rfl⟩)
  exact ASpec.pureH H k _ _ rfl rfl
abbrev wakeA : Ans := (1, [([97], 1000000)], [])
theorem wakeA_ok : OkA wakeA := ⟨by simp, fun _ p hp => by simp at hp; subst hp; unfold big; simp, by simp, fun x hx => by simp at hx⟩
theorem wakeA_check : CA wakeA = true := by
  have h1 : fitM [97] = true := by decide +kernel
  have h2 : chkF none wakeA.2.1 = true := by
    have hf : Dk.fitP ([97], 1000000) = true := by unfold Dk.fitP; rw [h1]; decide
    simp only [Dk.chkF, hf, Bool.true_eq_false, if_false]
  unfold CA
  rw [if_pos rfl, h2]; decide
theorem wakeA_show : showA wakeA = [115, 111, 108, 118, 101, 100, 32, 97, 32, 49, 46, 48, 46, 48] := by
  unfold showA
  rw [wakeA_check, if_pos rfl, if_pos rfl]
  unfold picksT
  rw [if_neg (by simp), List.map_singleton, Go.Lib.join_one]
  decide
theorem awakeA_spec (H : List AObj) : ASpec Tryd.prog 39 [] H (fun r H' => r = .bool true ∧ H' = H) := by
  have k : ASpec Tryd.prog 39 [] [] (fun r H' => r = .bool true ∧ H' = []) := by
    have hle : Le (.agg [.int .i64 1, .sl 2 (.raw [[.str (B [97]), .int .i64 1000000]]) .full, .sl 0 (.raw []) .nil]) (agA wakeA) :=
      Le.agg ⟨Le.refl _, Le.sl rfl (.inl rfl) (.inr rfl), Le.sl rfl (.inr ⟨rfl, fun _ h => by cases h⟩) (.inr rfl), trivial⟩
    refine ASpec.sel (s39 (PA (.bool true)) (ASpec.call (showA_spec wakeA_ok (by simp) _) ⟨hle, trivial⟩ ⟨_, rfl, rfl, ?_⟩))
    rw [wakeA_show]
    refine condB (fun _ => ?_) fun h => ?_
    · have hput : ∀ H, ASpec Tryd.prog 46 [agA wakeA] H (fun r H' => r = sl1 [1, 1, 1, 97, 189, 132, 64] ∧ H' = H) := fun H => by
        have k : ASpec Tryd.prog 46 [agA wakeA] [] (fun r H' => r = sl1 [1, 1, 1, 97, 189, 132, 64] ∧ H' = []) := by
          refine ASpec.sel (s46 wakeA (PA (sl1 [1, 1, 1, 97, 189, 132, 64])) (ASpec.call (checkA_spec wakeA_ok _) (Les.refl _) ⟨_, rfl, rfl, ?_⟩))
          rw [wakeA_check]
          refine condBn (fun h => by cases h) fun _ => ?_
          refine ASpec.call (putv [] [1] (by unfold big; simp) _) ⟨leNil, leOne 1, trivial⟩ ⟨_, rfl, rfl, condE (fun _ => ?_) fun h => (h rfl).elim⟩
          rw [show putM [] [1] = [1] from by decide +kernel]
          refine ASpec.call (putv [1] [1] (by unfold big; simp) _) ⟨Le.refl _, leOne 1, trivial⟩ ⟨_, rfl, rfl, ?_⟩
          rw [show putM [1] [1] = [1, 1] from by decide +kernel]
          refine AWP.shape [] [(3, sl1 [1, 1]), (24, slK wakeA.2.1), (25, .int .i64 1), (26, .int .i64 0)] [] Sel.none ⟨rfl, Le.refl _, rfl, slKLe _ _, rfl, Le.refl _, rfl, Le.refl _, trivial⟩ ?_
          refine v46_8 [1, 1] wakeA.2.1 1 0 0 _ (condD (fun _ => needJ ⟨by omega, by simp⟩ ?_) fun h => by omega)
          refine ASpec.call (textv [1, 1] [97] (by unfold big; simp) _) (Les.refl _) ⟨_, rfl, rfl, ⟨rfl, rfl⟩, ?_⟩
          rw [show [1, 1] ++ enc (held ([97] : List UInt8).length) ++ [97] = [1, 1, 1, 97] from by decide +kernel]
          refine ASpec.call (putv [1, 1, 1, 97] [1000000] (by unfold big; simp) _) ⟨Le.refl _, leOne 1000000, trivial⟩ ⟨_, rfl, rfl, ?_⟩
          rw [show putM [1, 1, 1, 97] [1000000] = [1, 1, 1, 97, 189, 132, 64] from by decide +kernel]
          refine AWP.shape [] [(3, sl1 [1, 1, 1, 97, 189, 132, 64]), (24, slK wakeA.2.1), (25, .int .i64 1), (26, .int .i64 1)] [] Sel.none ⟨rfl, Le.sl rfl (.inl rfl) (.inr rfl), rfl, slKLe _ _, rfl, Le.refl _, rfl, Le.refl _, trivial⟩ ?_
          refine v46_8 [1, 1, 1, 97, 189, 132, 64] wakeA.2.1 1 1 0 _ (condD (fun h => by omega) fun _ => v46_14 _ _ _ (pa (Le.sl rfl (.inl rfl) (.inr rfl))))
        exact ASpec.pureH H k _ _ rfl rfl
      refine ASpec.call (hput _) ⟨hle, trivial⟩ ⟨_, rfl, rfl, needJ (allBytes_map _) (pa ?_)⟩
      rw [bytesOf_map]
      have e : ((B [1, 1, 1, 97, 189, 132, 64]).toList == (B [1, 1, 1, 97, 189, 132, 64]).toList) = true := by rw [B_toList]; rfl
      have e2 : ((B [1, 1, 1, 97, 189, 132, 64]).toList == ByteArray.toList { data := #[1, 1, 1, 97, 189, 132, 64] }) = true := e
      rw [e2]; exact Le.refl _
    · have e : ((B [115, 111, 108, 118, 101, 100, 32, 97, 32, 49, 46, 48, 46, 48]).toList == (B [115, 111, 108, 118, 101, 100, 32, 97, 32, 49, 46, 48, 46, 48]).toList) = false := h
      rw [B_toList] at e; cases e
  exact ASpec.pureH H k _ _ rfl rfl

/-! ### the law -/
end An
end

section
/- Answers out of bytes, the program's and the document's. -/

set_option linter.unusedVariables false
set_option linter.unusedSimpArgs false
set_option linter.unusedSectionVars false
set_option maxRecDepth 100000
open Go Go.Ab Go.Proofs V S T C
open W (sl1 numB text lenL leTwo leTok put1M put2M numB_len text_len flat_len cons_dec listR listM Inside listR_p listM_p listR_len listM_len listR_all numM_p strM_p numM_most strM_len Back Canon num_back text_back listM_back num_canon text_canon listM_canon closeM_zero Alike)
open E (PA pa dG alikeG)
namespace An
open Dk (Nm chkF)
open Pc (slK slKLe)
open Pr (slP checkM okS readP readP_ok read_specP rread_specP proofB putP read_putP put_readP put_specP rput_specP)
open Nb (zA s47 v47_6 v47_18 c47_6 c47_18 q47_0 q47_3 s48 v48_6 v48_11 v48_17 c48_6 c48_11 c48_17 q48_0 q48_2 s98)
/-! ### the model -/
abbrev noA : Ans := (0, [], [])
def pkR (bs : List UInt8) (p : Nat) (e : Int) : Pk × Nat × Int :=
  (((strM bs p e 24).1, (numM bs (strM bs p e 24).2.1 (strM bs p e 24).2.2 1000000000).1), (numM bs (strM bs p e 24).2.1 (strM bs p e 24).2.2 1000000000).2)
def bodyR (bs : List UInt8) (k : Int) (p : Nat) (e : Int) : Ans × Nat × Int :=
  if k = 1 then ((k, (listM (pkR bs) bs p e 1000).1, []), (listM (pkR bs) bs p e 1000).2)
  else if k = 2 then (if (strM bs p e 1099511627776).2.2 = 0 then ((k, [], (readP (strM bs p e 1099511627776).1).1), (strM bs p e 1099511627776).2.1, (readP (strM bs p e 1099511627776).1).2)
    else ((k, [], []), (strM bs p e 1099511627776).2.1, (strM bs p e 1099511627776).2.2))
  else ((k, [], []), p, e)
def ansR (bs : List UInt8) : Ans × Nat × Int := bodyR bs (numM bs 0 0 5).1 (numM bs 0 0 5).2.1 (numM bs 0 0 5).2.2
noncomputable def endA (a : Ans) (c : Int) : Ans × Int := if c ≠ 0 then (noA, c) else if CA a = true then (a, 0) else (noA, 3)
noncomputable def readA (bs : List UInt8) : Ans × Int := endA (ansR bs).1 (closeM (ansR bs).2.2 (bs.length - (ansR bs).2.1))

theorem pkR_p (bs : List UInt8) : Inside bs (pkR bs) := fun p e hp => numM_p (strM_p hp)
theorem pkR_ok (bs : List UInt8) (p : Nat) (e : Int) : (pkR bs p e).1.1.length ≤ 24 := by
  have := strM_len bs p e 24 (by omega)
  show (strM bs p e 24).1.length ≤ 24
  omega
theorem bodyR_p (bs : List UInt8) (k : Int) (p : Nat) (e : Int) (hp : p ≤ bs.length) : (bodyR bs k p e).2.1 ≤ bs.length := by
  unfold bodyR
  split
  · exact listM_p (pkR_p bs) hp
  · split
    · split
      · exact strM_p hp
      · exact strM_p hp
    · exact hp
theorem okA_picks {l : List Pk} (h1 : l.length ≤ 1000) (h2 : ∀ x ∈ l, x.1.length ≤ 24) (k : Int) : OkA (k, l, []) :=
  ⟨by show l.length ≤ 1100; omega, fun _ p hp => by have := h2 p hp; unfold big; omega, by simp, fun x hx => by simp at hx⟩
theorem okA_steps {l : List St} (h1 : l.length ≤ 1048576) (h2 : ∀ x ∈ l, okS x) (k : Int) : OkA (k, [], l) :=
  ⟨by simp, fun _ p hp => by simp at hp, by show l.length ≤ 1048586; omega, h2⟩
theorem bodyR_ok (bs : List UInt8) (k : Int) (p : Nat) (e : Int) : OkA (bodyR bs k p e).1 := by
  unfold bodyR
  split
  · have := listM_len (pkR bs) bs p e 1000 (by omega)
    exact okA_picks (by simp only [listM] at this ⊢; omega) (fun x hx => listR_all (Q := fun x => x.1.length ≤ 24) (pkR_ok bs) _ _ _ x hx) _
  · split
    · split
      · exact okA_steps (readP_ok _).1 (readP_ok _).2 _
      · exact okA_steps (by simp) (fun x hx => by simp at hx) _
    · exact okA_steps (by simp) (fun x hx => by simp at hx) _
theorem readA_ok (bs : List UInt8) : OkA (readA bs).1 := by
  unfold readA endA
  have z : OkA noA := okA_steps (by simp) (fun x hx => by simp at hx) _
  split
  · exact z
  · split
    · exact bodyR_ok _ _ _ _
    · exact z

/-! ### what is handed back -/
theorem renPk (ρ : Nat → Nat) (x : Pk) : renL ρ (encPk x) = encPk x := rfl
theorem renSt (ρ : Nat → Nat) (x : St) : renL ρ (encSt x) = encSt x := rfl
theorem leAn (ρ : Nat → Nat) (a : Ans) : Le (agA a) (AV.ren ρ (agA a)) := by
  refine Le.agg ⟨Le.refl _, Le.sl (s' := Seq.ren ρ (.map encPk noPk a.2.1)) ?_ (.inl rfl) (.inr rfl), Le.sl (s' := Seq.ren ρ (.map encSt noSt a.2.2)) ?_ (.inl rfl) (.inr rfl), trivial⟩
  · simp [Ab.Seq.toList, Seq.ren, renPk]
  · simp [Ab.Seq.toList, Seq.ren, renSt]
theorem leZ : Le (.agg zA) (agA noA) := Le.agg ⟨Le.refl _, Le.sl rfl (.inr ⟨rfl, fun _ h => by cases h⟩) (.inr rfl), Le.sl rfl (.inr ⟨rfl, fun _ h => by cases h⟩) (.inr rfl), trivial⟩
abbrev PR (v : Ans × Int) : AV → List AObj → Prop := PA (.tup [agA v.1, .int .i64 v.2])
theorem prZ {v : Ans × Int} {c : Int} {H' : List AObj} (h : v = (noA, c)) : PR v (.tup [.agg zA, .int .i64 c]) H' := by
  subst h
  exact pa (Le.tup (r := [AV.ren _ (agA noA), .int .i64 c]) ⟨Le.trans leZ (leAn _ _), Le.refl _, trivial⟩)
theorem prV {v : Ans × Int} {a : Ans} {H' : List AObj} (h : v = (a, 0)) : PR v (.tup [agA a, .int .i64 0]) H' := by
  subst h
  exact pa (Le.tup (r := [AV.ren _ (agA a), .int .i64 0]) ⟨leAn _ _, Le.refl _, trivial⟩)

theorem strM_fits (bs : List UInt8) (p : Nat) (e most : Int) : (strM bs p e most).1.length ≤ bs.length := by
  unfold strM
  split
  · simp
  · split
    · simp
    · split
      · simp
      · simp only [List.length_take, List.length_drop]; omega
/-! ### the program's -/
abbrev sP3 : Slots := [(2, .ptr 0 0), (4, .ptr 1 0), (5, .ptr 2 0)]
theorem bad_spec {H : List AObj} {id : Nat} {bs : List UInt8} {p : Nat} {e x : Int} (h : H[id]? = some (rd bs p e)) :
    ASpec Tryd.prog 98 [.ptr id 0, .int .i64 x] H (fun r H' => r = .tup [] ∧ H' = H.set id (rd bs p (if e = 0 then x else e))) := by
  have k : ASpec Tryd.prog 98 [.ptr 0 0, .int .i64 x] [rd bs p e] (fun r H' => r = .tup [] ∧ H' = [rd bs p (if e = 0 then x else e)]) := by
    refine s98 _ _ _ _ _ (condE (fun h => ?_) fun h => ?_)
    · rw [if_pos h]; exact ⟨rfl, rfl⟩
    · rw [if_neg h]; exact ⟨rfl, rfl⟩
  exact ASpec.oneH H id k _ _ _ rfl rfl h rfl
theorem a18 {bs : List UInt8} {p : Nat} {e : Int} {a : Ans} (hb : bs.length ≤ big) (hp : p ≤ bs.length) (ok : OkA a) {v : Ans × Int} (hv : v = endA a (closeM e (bs.length - p))) :
    AWP Tryd.prog 78 0 c47_18 sP3 [.cells zA, rd bs p e, .cells (encAn a)] (q47_0 0 (PR v)) := by
  refine v47_18 _ _ _ _ _ _ (ASpec.call (close_spec (id := 1) (bs := bs) (p := p) (e := e) hb hp rfl) (Les.refl _) ⟨_, rfl, rfl, ?_⟩)
  generalize closeM e (bs.length - p) = c at hv
  refine condE (fun h0 => ?_) fun h0 => condNe (fun _ => prZ (by rw [hv, endA, if_pos h0])) fun h => (h0 h).elim
  refine ASpec.call (checkA_spec ok _) (Les.refl _) ⟨_, rfl, rfl, condBn (fun h => prZ ?_) fun h => condNe (fun h1 => (h1 h0).elim) fun _ => prV ?_⟩
  · rw [hv, endA, if_neg (by simpa using h0), if_neg (by simp [h])]
  · rw [hv, endA, if_neg (by simpa using h0), if_pos h]
theorem leNilP : Le (.sl 0 (.raw []) .nil) (slP []) := Le.sl rfl (.inr ⟨rfl, fun _ h => by cases h⟩) (.inr rfl)
theorem leNilP2 : Le (.sl 0 (.raw []) .nil) (slK []) := Le.sl rfl (.inr ⟨rfl, fun _ h => by cases h⟩) (.inr rfl)
theorem a18t {bs : List UInt8} {p : Nat} {e : Int} {acc : List Pk} {v : Ans × Int}
    (k : AWP Tryd.prog 78 0 c47_18 sP3 [.cells zA, rd bs p e, .cells (encAn (1, acc, []))] (q47_0 0 (PR v))) :
    AWP Tryd.prog 78 0 c47_18 sP3 [.cells zA, rd bs p e, .cells [.int .i64 1, .sl 2 (.map encPk noPk acc) (.tok 3), .sl 0 (.raw []) .nil], .tok] (q47_0 0 (PR v)) := by
  refine AWP.re (ReSt.leCell (id := 2) (cs' := encAn (1, acc, [])) rfl ⟨Le.refl _, Le.sl rfl (.inl rfl) (.inr rfl), leNilP, trivial⟩) ?_
  exact AWP.shape [0, 1, 2] sP3 [.cells zA, rd bs p e, .cells (encAn (1, acc, []))] (Sel.mk0 (by decide) ⟨rfl, rfl, rfl, trivial⟩) ⟨rfl, Le.refl _, rfl, Le.refl _, rfl, Le.refl _, trivial⟩ k

theorem a6 {bs : List UInt8} (hb : bs.length ≤ big) {v : Ans × Int} {R : List Pk × Nat × Int} (hR : v = endA (1, R.1, []) (closeM R.2.2 (bs.length - R.2.1))) (hok : OkA (1, R.1, [])) (hRp : R.2.1 ≤ bs.length) :
    ∀ (k p : Nat) (e : Int) (acc : List Pk), p ≤ bs.length → acc.length + k ≤ 1000 → R = (acc ++ (listR (pkR bs) k p e).1, (listR (pkR bs) k p e).2) →
    AWP Tryd.prog 78 0 c47_6 [(2, .ptr 0 0), (4, .ptr 1 0), (5, .ptr 2 0), (6, .int .i64 k)] [.cells zA, rd bs p e, .cells [.int .i64 1, .sl 2 (.map encPk noPk acc) (.tok 3), .sl 0 (.raw []) .nil], .tok] (q47_3 0 (PR v)) := by
  intro k
  induction k with
  | zero =>
    intro p e acc hp ha h
    simp only [listR, List.append_nil] at h
    subst h
    exact v47_6 _ _ _ _ _ _ _ _ (condD (fun hc => by omega) fun _ => a18t (a18 hb hp hok hR))
  | succ k ih =>
    intro p e acc hp ha h
    refine v47_6 _ _ _ _ _ _ _ _ (condD (fun _ => ?_) fun hc => by omega)
    refine ASpec.call (err_spec (id := 1) (bs := bs) (p := p) (e := e) rfl) (Les.refl _) ⟨e, rfl, rfl, condE (fun he => ?_) fun he => ?_⟩
    · simp only [listR, if_pos he] at h
      have hnext := ih (pkR bs p e).2.1 (pkR bs p e).2.2 (acc ++ [(pkR bs p e).1]) (pkR_p bs p e hp) (by simp; omega) (by rw [h]; simp)
      have h1 := strM_p (e := e) (most := 24) hp
      refine ASpec.call (str_spec (id := 1) (bs := bs) (p := p) (e := e) 24 hb hp rfl) (Les.refl _) ⟨(B (strM bs p e 24).1, ((strM bs p e 24).2.1 : Nat), (strM bs p e 24).2.2), rfl, rfl, ?_⟩
      refine ASpec.call (num_spec (id := 1) (bs := bs) (p := (strM bs p e 24).2.1) (e := (strM bs p e 24).2.2) 1000000000 hb h1 rfl) (Les.refl _) ⟨((numM bs (strM bs p e 24).2.1 (strM bs p e 24).2.2 1000000000).1, ((numM bs (strM bs p e 24).2.1 (strM bs p e 24).2.2 1000000000).2.1 : Nat), (numM bs (strM bs p e 24).2.1 (strM bs p e 24).2.2 1000000000).2.2), rfl, rfl, needJ (by omega) ?_⟩
      rw [show IntKind.wrap .i64 (((k + 1 : Nat) : Int) - 1) = (k : Int) by rw [wrap64 (by omega) (by omega)]; omega]
      refine AWP.re (ReSt.leCell (id := 2) (cs' := [.int .i64 1, .sl 2 (.map encPk noPk (acc ++ [(pkR bs p e).1])) (.tok 5), .sl 0 (.raw []) .nil]) rfl ⟨Le.refl _, leAppE (Les.refl _), Le.refl _, trivial⟩) ?_
      exact AWP.shape [0, 1, 2, 5] [(2, .ptr 0 0), (4, .ptr 1 0), (5, .ptr 2 0), (6, .int .i64 k)] [.cells zA, rd bs (pkR bs p e).2.1 (pkR bs p e).2.2, .cells [.int .i64 1, .sl 2 (.map encPk noPk (acc ++ [(pkR bs p e).1])) (.tok 3), .sl 0 (.raw []) .nil], .tok]
        (Sel.mk0 (by decide) ⟨rfl, rfl, rfl, rfl, trivial⟩) ⟨rfl, Le.refl _, rfl, Le.refl _, rfl, Le.refl _, rfl, Le.refl _, trivial⟩ hnext
    · simp only [listR, if_neg he, List.append_nil] at h
      subst h
      exact a18t (a18 hb hp hok hR)

theorem readA_spec (bs : List UInt8) (hb : bs.length ≤ 1000000) (H : List AObj) : ASpec Tryd.prog 47 [sl1 bs] H (fun r H' => r = .tup [agA (readA bs).1, .int .i64 (readA bs).2] ∧ H' = H) := by
  have k : ASpec Tryd.prog 47 [sl1 bs] [] (fun r H' => r = .tup [agA (readA bs).1, .int .i64 (readA bs).2] ∧ H' = []) := by
    have hb' : bs.length ≤ big := by unfold big; omega
    have hkp : ∀ k p e, p ≤ bs.length → (bodyR bs k p e).2.1 ≤ bs.length := bodyR_p bs
    refine ASpec.sel (s47 _ (PR (readA bs)) (ASpec.call (V.open_spec bs hb' _) (Les.refl _) ⟨bs, rfl, rfl, ?_⟩))
    refine ASpec.call (num_spec (id := 1) (bs := bs) (p := 0) (e := 0) 5 hb' (by omega) rfl) (Les.refl _) ⟨((numM bs 0 0 5).1, ((numM bs 0 0 5).2.1 : Nat), (numM bs 0 0 5).2.2), rfl, rfl, ?_⟩
    have hp := numM_p (bs := bs) (p := 0) (e := 0) (most := 5) (by omega)
    have hv : readA bs = endA (bodyR bs (numM bs 0 0 5).1 (numM bs 0 0 5).2.1 (numM bs 0 0 5).2.2).1 (closeM (bodyR bs (numM bs 0 0 5).1 (numM bs 0 0 5).2.1 (numM bs 0 0 5).2.2).2.2 (bs.length - (bodyR bs (numM bs 0 0 5).1 (numM bs 0 0 5).2.1 (numM bs 0 0 5).2.2).2.1)) := rfl
    generalize readA bs = v at hv ⊢
    generalize (numM bs 0 0 5).2.1 = p at hp hv ⊢
    generalize (numM bs 0 0 5).2.2 = e at hv ⊢
    generalize (numM bs 0 0 5).1 = kd at hv ⊢
    have hok := bodyR_ok bs kd p e
    have hpp := bodyR_p bs kd p e hp
    unfold bodyR at hv hok hpp
    refine condE (fun e1 => ?_) fun e1 => condE (fun e2 => ?_) fun e2 => ?_
    · simp only [if_pos e1] at hv hok hpp
      replace e1 : kd = 1 := e1
      subst e1
      have h2 := numM_most bs p e 1000 (by omega)
      refine ASpec.call (num_spec (id := 1) (bs := bs) (p := p) (e := e) 1000 hb' hp rfl) (Les.refl _) ⟨((numM bs p e 1000).1, ((numM bs p e 1000).2.1 : Nat), (numM bs p e 1000).2.2), rfl, rfl, ?_⟩
      refine AWP.re (ReSt.tokCell (id := 2) (j := 1) (q' := .map encPk noPk []) (sz' := 2) rfl rfl (.inl rfl) rfl (.inr rfl)) ?_
      obtain ⟨c, hc⟩ := Int.eq_ofNat_of_zero_le h2.1
      rw [hc]
      refine a6 hb' (R := listM (pkR bs) bs p e 1000) hv hok hpp c _ _ [] (numM_p hp) (by simp; omega) ?_
      simp only [listM, hc]; rfl
    · simp only [if_neg e1, if_pos e2] at hv hok hpp
      have h1 := strM_p (e := e) (most := 1099511627776) hp
      have h3 := strM_fits bs p e 1099511627776
      refine ASpec.call (str_spec (id := 1) (bs := bs) (p := p) (e := e) 1099511627776 hb' hp rfl) (Les.refl _) ⟨(B (strM bs p e 1099511627776).1, ((strM bs p e 1099511627776).2.1 : Nat), (strM bs p e 1099511627776).2.2), rfl, rfl, ?_⟩
      generalize (strM bs p e 1099511627776).1 = t at hv hok hpp h3 ⊢
      generalize (strM bs p e 1099511627776).2.1 = q at hv hpp h1 ⊢
      generalize (strM bs p e 1099511627776).2.2 = e' at hv hok hpp ⊢
      refine ASpec.call (err_spec (id := 1) (bs := bs) (p := q) (e := e') rfl) (Les.refl _) ⟨e', rfl, rfl, condE (fun he => ?_) fun he => ?_⟩
      · simp only [if_pos he] at hv hok hpp
        refine ASpec.call (read_specP t (by omega) _) ⟨Le.sl rfl (.inl rfl) (.inr rfl), trivial⟩ ⟨((readP t).1, (readP t).2), rfl, rfl, ?_⟩
        have tail : ∀ e2, e2 = (readP t).2 → AWP Tryd.prog 78 0 c47_18 sP3 [.cells zA, rd bs q e2, .cells [.int .i64 kd, .sl 0 (.raw []) .nil, .sl 6 (.map encSt noSt (readP t).1) .none]] (q47_0 0 (PR v)) := by
          intro e2 h2
          subst h2
          exact AWP.re (ReSt.leCell (id := 2) (cs' := encAn (kd, [], (readP t).1)) rfl ⟨Le.refl _, leNilP2, Le.refl _, trivial⟩) (a18 hb' h1 hok hv)
        refine condNe (fun h => ?_) fun h => tail _ (by rw [h]; exact he)
        refine ASpec.call (bad_spec (id := 1) (bs := bs) (p := q) (e := e') rfl) (Les.refl _) ⟨((q : Nat), if e' = 0 then (readP t).2 else e'), rfl, rfl, ?_⟩
        exact tail _ (by rw [if_pos he])
      · simp only [if_neg he] at hv hok hpp
        exact AWP.re (ReSt.leCell (id := 2) (cs' := encAn (kd, [], [])) rfl ⟨Le.refl _, leNilP2, leNilP, trivial⟩) (a18 hb' h1 hok hv)
    · simp only [if_neg e1, if_neg e2] at hv hok hpp
      exact AWP.re (ReSt.leCell (id := 2) (cs' := encAn (kd, [], [])) rfl ⟨Le.refl _, leNilP2, leNilP, trivial⟩) (a18 hb' hp hok hv)
  exact ASpec.pureH H k _ _ rfl rfl

/-! ### the document's -/
def dPk (l : List UInt8) (e : Int) : Pk × List UInt8 × Int :=
  (((dstrM l e 24).1, (dnumM (dstrM l e 24).2.1 (dstrM l e 24).2.2 1000000000).1), (dnumM (dstrM l e 24).2.1 (dstrM l e 24).2.2 1000000000).2)
def dPks (l : List UInt8) (e : Int) : List Pk × List UInt8 × Int := dG dPk (dnumM l e 1000).1.toNat (dnumM l e 1000).2.1 (dnumM l e 1000).2.2
def dBody (l : List UInt8) (k : Int) (e : Int) : Ans × List UInt8 × Int :=
  if k = 1 then ((k, (dPks l e).1, []), (dPks l e).2)
  else if k = 2 then (if (dstrM l e 1099511627776).2.2 = 0 then ((k, [], (readP (dstrM l e 1099511627776).1).1), (dstrM l e 1099511627776).2.1, (readP (dstrM l e 1099511627776).1).2)
    else ((k, [], []), (dstrM l e 1099511627776).2.1, (dstrM l e 1099511627776).2.2))
  else ((k, [], []), l, e)
def dAns (l : List UInt8) : Ans × List UInt8 × Int := dBody (dnumM l 0 5).2.1 (dnumM l 0 5).1 (dnumM l 0 5).2.2
theorem dPk_len (l : List UInt8) (e : Int) : (dPk l e).2.1.length ≤ l.length := Nat.le_trans (W.dnumM_len _ _ _) (W.dstrM_len _ _ _)
theorem alikePk (bs : List UInt8) (p : Nat) (e : Int) (hp : p ≤ bs.length) : Alike bs (pkR bs p e) (dPk (bs.drop p) e) := by
  obtain ⟨hd, hq⟩ := str_doc bs p e 24 hp
  obtain ⟨hd2, hq2⟩ := num_doc bs (strM bs p e 24).2.1 (strM bs p e 24).2.2 1000000000 hq
  unfold pkR dPk
  rw [hd, hd2]
  exact ⟨rfl, rfl, fun _ => rfl⟩
theorem alikePks (bs : List UInt8) (p : Nat) (e : Int) (hp : p ≤ bs.length) : Alike bs (listM (pkR bs) bs p e 1000) (dPks (bs.drop p) e) := by
  obtain ⟨hd, hq⟩ := num_doc bs p e 1000 hp
  unfold dPks listM
  rw [hd]
  exact alikeG (alikePk bs) (pkR_p bs) _ _ _ hq
theorem alikeBody (bs : List UInt8) (k : Int) (p : Nat) (e : Int) (hp : p ≤ bs.length) : Alike bs (bodyR bs k p e) (dBody (bs.drop p) k e) := by
  unfold bodyR dBody
  by_cases h1 : k = 1
  · rw [if_pos h1, if_pos h1]
    obtain ⟨a, b, c⟩ := alikePks bs p e hp
    exact ⟨a, b, fun h => by rw [c h]⟩
  · rw [if_neg h1, if_neg h1]
    by_cases h2 : k = 2
    · rw [if_pos h2, if_pos h2]
      obtain ⟨hd, hq⟩ := str_doc bs p e 1099511627776 hp
      rw [hd]
      by_cases h3 : (strM bs p e 1099511627776).2.2 = 0
      · rw [if_pos h3, if_pos h3]; exact ⟨rfl, rfl, fun _ => rfl⟩
      · rw [if_neg h3, if_neg h3]; exact ⟨rfl, rfl, fun _ => rfl⟩
    · rw [if_neg h2, if_neg h2]; exact ⟨rfl, rfl, fun _ => rfl⟩
theorem alikeAns (bs : List UInt8) : Alike bs (ansR bs) (dAns bs) := by
  obtain ⟨hd, hq⟩ := num_doc bs 0 0 5 (Nat.zero_le _)
  rw [List.drop_zero] at hd
  unfold ansR dAns
  rw [hd]
  exact alikeBody bs _ _ _ hq
theorem dRead_eq (bs : List UInt8) : endA (dAns bs).1 (closeM (dAns bs).2.2 (dAns bs).2.1.length) = readA bs := by
  obtain ⟨a1, a2, a3⟩ := alikeAns bs
  unfold readA
  rw [a1, a2, List.length_drop]
  by_cases h : (ansR bs).2.2 = 0
  · rw [a3 h]
  · have hc : ∀ n, closeM (ansR bs).2.2 n = (ansR bs).2.2 := fun n => by simp only [closeM, if_pos h]
    rw [hc]
    unfold endA
    rw [if_pos h, if_pos h]
theorem dRead_ok (bs : List UInt8) (h0 : closeM (dAns bs).2.2 (dAns bs).2.1.length = 0) : OkA (dAns bs).1 := by
  obtain ⟨a1, a2, a3⟩ := alikeAns bs
  have he : (ansR bs).2.2 = 0 := by
    by_cases he : (ansR bs).2.2 = 0
    · exact he
    · rw [a2] at h0
      simp only [closeM, if_pos he] at h0
      exact h0
  rw [a3 he]
  exact bodyR_ok _ _ _ _

theorem b17 {a : Ans} {s : List UInt8} {e : Int} (ok : closeM e s.length = 0 → OkA a) {v : Ans × Int} (hv : v = endA a (closeM e s.length)) :
    AWP Tryd.prog 83 0 c48_17 sP3 [.cells zA, dr s e, .cells (encAn a)] (q48_0 0 (PR v)) := by
  refine v48_17 _ _ _ _ _ (ASpec.call (dclose_spec (id := 1) (l := s) (e := e) rfl) (Les.refl _) ⟨_, rfl, rfl, ?_⟩)
  generalize closeM e s.length = c at hv ok
  refine condE (fun h0 => ?_) fun h0 => condNe (fun _ => prZ (by rw [hv, endA, if_pos h0])) fun h => (h0 h).elim
  refine ASpec.call (rcheckA_spec (ok h0) _) (Les.refl _) ⟨_, rfl, rfl, condBn (fun h => prZ ?_) fun h => condNe (fun h1 => (h1 h0).elim) fun _ => prV ?_⟩
  · rw [hv, endA, if_neg (by simpa using h0), if_neg (by simp [h])]
  · rw [hv, endA, if_neg (by simpa using h0), if_pos h]
theorem b11t {s : List UInt8} {e : Int} {acc : List Pk} {v : Ans × Int} (ok : closeM e s.length = 0 → OkA (1, acc, [])) (hv : v = endA (1, acc, []) (closeM e s.length)) :
    AWP Tryd.prog 83 0 c48_11 sP3 [.cells zA, dr s e, .cells [.int .i64 1, .sl 2 (.map encPk noPk acc) (.tok 3), .sl 0 (.raw []) .nil], .tok] (q48_0 0 (PR v)) := by
  refine AWP.re (ReSt.leCell (id := 2) (cs' := encAn (1, acc, [])) rfl ⟨Le.refl _, Le.sl rfl (.inl rfl) (.inr rfl), leNilP, trivial⟩) ?_
  refine AWP.shape [0, 1, 2] sP3 [.cells zA, dr s e, .cells (encAn (1, acc, []))] (Sel.mk0 (by decide) ⟨rfl, rfl, rfl, trivial⟩) ⟨rfl, Le.refl _, rfl, Le.refl _, rfl, Le.refl _, trivial⟩ ?_
  exact v48_11 _ _ _ _ _ (condE (fun h => absurd h (by show ¬ (1 : Int) = 2; omega)) fun _ => b17 ok hv)

theorem b6 {n : Nat} {v : Ans × Int} {R : List Pk × List UInt8 × Int} (hR : v = endA (1, R.1, []) (closeM R.2.2 R.2.1.length)) (hok : closeM R.2.2 R.2.1.length = 0 → OkA (1, R.1, [])) :
    ∀ (m i : Nat) (l : List UInt8) (e : Int) (acc : List Pk), m + i = n → n ≤ 1000 → l.length ≤ 10 * big → acc.length + m ≤ 1000 → R = (acc ++ (dG dPk m l e).1, (dG dPk m l e).2) →
    AWP Tryd.prog 83 0 c48_6 [(2, .ptr 0 0), (4, .ptr 1 0), (5, .ptr 2 0), (6, .int .i64 n), (7, .int .i64 i)] [.cells zA, dr l e, .cells [.int .i64 1, .sl 2 (.map encPk noPk acc) (.tok 3), .sl 0 (.raw []) .nil], .tok] (q48_2 0 (PR v)) := by
  intro m
  induction m with
  | zero =>
    intro i l e acc hm hn hl ha h
    simp only [dG, List.append_nil] at h
    subst h
    exact v48_6 _ _ _ _ _ _ _ _ (condD (fun hc => by omega) fun _ => b11t hok hR)
  | succ m ih =>
    intro i l e acc hm hn hl ha h
    refine v48_6 _ _ _ _ _ _ _ _ (condD (fun _ => condE (fun he => ?_) fun he => ?_) fun hc => by omega)
    · simp only [dG, if_pos he] at h
      have hnext := ih (i + 1) (dPk l e).2.1 (dPk l e).2.2 (acc ++ [(dPk l e).1]) (by omega) hn (Nat.le_trans (dPk_len l e) hl) (by simp; omega) (by rw [h]; simp)
      have h1 := W.dstrM_len l e 24
      refine ASpec.call (dstr_spec (id := 1) (l := l) (e := e) 24 hl rfl) (Les.refl _) ⟨(B (dstrM l e 24).1, B (dstrM l e 24).2.1, (dstrM l e 24).2.2), rfl, rfl, ?_⟩
      refine ASpec.call (dnum_spec (id := 1) (l := (dstrM l e 24).2.1) (e := (dstrM l e 24).2.2) 1000000000 (by omega) rfl) (Les.refl _) ⟨((dnumM (dstrM l e 24).2.1 (dstrM l e 24).2.2 1000000000).1, B (dnumM (dstrM l e 24).2.1 (dstrM l e 24).2.2 1000000000).2.1, (dnumM (dstrM l e 24).2.1 (dstrM l e 24).2.2 1000000000).2.2), rfl, rfl, needJ (by omega) ?_⟩
      rw [succ64 (by omega)]
      refine AWP.re (ReSt.leCell (id := 2) (cs' := [.int .i64 1, .sl 2 (.map encPk noPk (acc ++ [(dPk l e).1])) (.tok 5), .sl 0 (.raw []) .nil]) rfl ⟨Le.refl _, leAppE (Les.refl _), Le.refl _, trivial⟩) ?_
      exact AWP.shape [0, 1, 2, 5] [(2, .ptr 0 0), (4, .ptr 1 0), (5, .ptr 2 0), (6, .int .i64 n), (7, .int .i64 (i + 1 : Nat))] [.cells zA, dr (dPk l e).2.1 (dPk l e).2.2, .cells [.int .i64 1, .sl 2 (.map encPk noPk (acc ++ [(dPk l e).1])) (.tok 3), .sl 0 (.raw []) .nil], .tok]
        (Sel.mk0 (by decide) ⟨rfl, rfl, rfl, rfl, trivial⟩) ⟨rfl, Le.refl _, rfl, Le.refl _, rfl, Le.refl _, rfl, Le.refl _, rfl, Le.refl _, trivial⟩ hnext
    · simp only [dG, if_neg he, List.append_nil] at h
      subst h
      exact b11t hok hR

theorem dstrM_fits (l : List UInt8) (e most : Int) : (dstrM l e most).1.length ≤ l.length := by
  unfold dstrM
  repeat' split
  all_goals simp
  all_goals omega
theorem rreadA_spec (bs : List UInt8) (hb : bs.length ≤ 1000000) (H : List AObj) : ASpec Tryd.prog 48 [.str (B bs)] H (fun r H' => r = .tup [agA (readA bs).1, .int .i64 (readA bs).2] ∧ H' = H) := by
  have k : ASpec Tryd.prog 48 [.str (B bs)] [] (fun r H' => r = .tup [agA (readA bs).1, .int .i64 (readA bs).2] ∧ H' = []) := by
    have hl : bs.length ≤ 10 * big := by unfold big; omega
    refine ASpec.sel (s48 _ (PR (readA bs)) (ASpec.call (dnum_spec (id := 1) (l := bs) (e := 0) 5 hl rfl) (Les.refl _) ⟨((dnumM bs 0 5).1, B (dnumM bs 0 5).2.1, (dnumM bs 0 5).2.2), rfl, rfl, ?_⟩))
    have h1 := W.dnumM_len bs 0 5
    have hv := (dRead_eq bs).symm
    have hok := dRead_ok bs
    unfold dAns at hv hok
    generalize readA bs = v at hv ⊢
    generalize (dnumM bs 0 5).2.1 = l at h1 hv hok ⊢
    generalize (dnumM bs 0 5).2.2 = e at hv hok ⊢
    generalize (dnumM bs 0 5).1 = kd at hv hok ⊢
    unfold dBody at hv hok
    have hl2 : l.length ≤ 10 * big := by omega
    have step : ∀ {H : List AObj}, H = [.cells zA, dr l e, .cells [.int .i64 kd, .sl 0 (.raw []) .nil, .sl 0 (.raw []) .nil]] → kd ≠ 1 → AWP Tryd.prog 83 0 c48_11 sP3 H (q48_0 0 (PR v)) := by
      intro H hH e1
      subst hH
      simp only [if_neg e1] at hv hok
      refine AWP.re (ReSt.leCell (id := 2) (cs' := encAn (kd, [], [])) rfl ⟨Le.refl _, leNilP2, leNilP, trivial⟩) ?_
      refine v48_11 _ _ _ _ _ (condE (fun e2 => ?_) fun e2 => ?_)
      · replace e2 : kd = 2 := e2
        simp only [if_pos e2] at hv hok
        have h3 := dstrM_fits l e 1099511627776
        refine ASpec.call (dstr_spec (id := 1) (l := l) (e := e) 1099511627776 hl2 rfl) (Les.refl _) ⟨(B (dstrM l e 1099511627776).1, B (dstrM l e 1099511627776).2.1, (dstrM l e 1099511627776).2.2), rfl, rfl, ?_⟩
        generalize (dstrM l e 1099511627776).1 = t at hv hok h3 ⊢
        generalize (dstrM l e 1099511627776).2.1 = l' at hv hok ⊢
        generalize (dstrM l e 1099511627776).2.2 = e' at hv hok ⊢
        refine condE (fun he => ?_) fun he => ?_
        · replace he : e' = 0 := he
          simp only [if_pos he] at hv hok
          refine ASpec.call (rread_specP t (by omega) _) (Les.refl _) ⟨((readP t).1, (readP t).2), rfl, rfl, ?_⟩
          exact b17 (a := (kd, [], (readP t).1)) hok hv
        · replace he : e' ≠ 0 := he
          simp only [if_neg he] at hv hok
          exact b17 (a := (kd, [], [])) hok hv
      · replace e2 : kd ≠ 2 := e2
        simp only [if_neg e2] at hv hok
        exact b17 (a := (kd, [], [])) hok hv
    refine condE (fun e1 => ?_) fun e1 => step rfl e1
    replace e1 : kd = 1 := e1
    subst e1
    simp only [if_true] at hv hok
    have h2 := W.dnumM_most l e 1000 (by omega)
    have h3 := W.dnumM_len l e 1000
    refine ASpec.call (dnum_spec (id := 1) (l := l) (e := e) 1000 hl2 rfl) (Les.refl _) ⟨((dnumM l e 1000).1, B (dnumM l e 1000).2.1, (dnumM l e 1000).2.2), rfl, rfl, ?_⟩
    refine AWP.re (ReSt.tokCell (id := 2) (j := 1) (q' := .map encPk noPk []) (sz' := 2) rfl rfl (.inl rfl) rfl (.inr rfl)) ?_
    obtain ⟨c, hc⟩ := Int.eq_ofNat_of_zero_le h2.1
    rw [hc]
    refine b6 (n := c) (R := dPks l e) hv hok c 0 _ _ [] (by omega) (by omega) (by omega) (by simp; omega) ?_
    simp only [dPks, hc]; rfl
  exact ASpec.pureH H k _ _ rfl rfl
end An
end

section
/- AnswerBytes: the law's function returns true. -/

set_option linter.unusedVariables false
set_option linter.unusedSimpArgs false
set_option linter.unusedSectionVars false
set_option maxRecDepth 100000
open Go Go.Ab Go.Proofs V S T C
open W (sl1 numB text lenL leTwo leTok put1M put2M numB_len text_len flat_len cons_dec listR listM Inside numM_p strM_p numM_most strM_len Back Canon num_back text_back listM_back num_canon text_canon listM_canon closeM_zero)
open E (PA pa)
namespace An
open Dk (Nm chkF chk_fit)
open Pc (slK slKLe)
open Pr (slP checkM okS readP readP_ok proofB putP read_putP put_readP put_specP rput_specP proofB_len checkM_okS checkM_may)
open Nb (s49 v49_7 v49_10 c49_7 c49_10 q49_0 q49_2 s7 v7_3 v7_8 c7_3 c7_8 q7_0)
def pkB (p : Pk) : List UInt8 := text p.1 ++ numB p.2
def bodyB (a : Ans) : List UInt8 := if a.1 = 1 then numB a.2.1.length ++ a.2.1.flatMap pkB else if a.1 = 2 then text (proofB a.2.2) else []
def ansB (a : Ans) : List UInt8 := numB a.1 ++ bodyB a
noncomputable def putA (a : Ans) : List UInt8 := if CA a = true then ansB a else []

theorem CA2 {a : Ans} (h : CA a = true) (e : a.1 = 2) : a.2.1 = [] ∧ checkM a.2.2 = true := by
  unfold CA at h
  rw [if_neg (by omega), if_pos e, Bool.and_eq_true] at h
  exact ⟨List.length_eq_zero_iff.1 (of_decide_eq_true h.1), h.2⟩
theorem CA345 {a : Ans} (h : CA a = true) (e1 : ¬ a.1 = 1) (e2 : ¬ a.1 = 2) : a.2.1 = [] ∧ a.2.2 = [] := by
  unfold CA at h
  rw [if_neg e1, if_neg e2] at h
  split at h
  · rw [Bool.and_eq_true] at h
    exact ⟨List.length_eq_zero_iff.1 (of_decide_eq_true h.1), List.length_eq_zero_iff.1 (of_decide_eq_true h.2)⟩
  · cases h
theorem CAk {a : Ans} (h : CA a = true) : 1 ≤ a.1 ∧ a.1 ≤ 5 := by
  unfold CA at h
  split at h
  · omega
  · split at h
    · omega
    · split at h
      · omega
      · cases h
theorem pk_fit {s : List Pk} (hc : chkF none s = true) {p : Pk} (hp : p ∈ s) : p.1.length ≤ 24 ∧ 0 ≤ p.2 ∧ p.2 < 1000000000 := by
  have h := chk_fit hc p hp
  unfold Dk.fitP at h
  rw [Bool.and_eq_true] at h
  exact ⟨fitM_short h.1, of_decide_eq_true h.2⟩
theorem pkB_len {p : Pk} (h : p.1.length ≤ 24) : (pkB p).length ≤ 40 := by
  have n1 := numB_len p.2
  have n2 := text_len p.1
  unfold pkB
  simp only [List.length_append]; omega
theorem pkBs_len {s : List Pk} (hl : s.length ≤ 1000) (hc : chkF none s = true) : (s.flatMap pkB).length ≤ 40000 := by
  have := flat_len pkB 40 s (fun p hp => pkB_len (pk_fit hc hp).1)
  have := Nat.mul_le_mul_right 40 hl
  omega

/-! ### what is put, the program's -/
abbrev PW (x : List UInt8) : AV → List AObj → Prop := PA (sl1 x)
theorem pw {l x : List UInt8} {tip : Tip} {H' : List AObj} (h : l = x) : PW x (.sl 1 (.map encB 0 l) tip) H' := h ▸ pa (sealLe _ rfl)
open An in
theorem put8 {s : List Pk} (hl : s.length ≤ 1000) (hc : chkF none s = true) {P : List UInt8} (hP : P.length ≤ 100000000) :
    ∀ (m i : Nat) (b : List UInt8), m + i = s.length → b ++ (s.drop i).flatMap pkB = P →
    AWP Tryd.prog 48 0 c46_8 [(3, sl1 b), (24, slK s), (25, .int .i64 s.length), (26, .int .i64 i)] [] (q46_3 0 (PW P)) := by
  intro m
  induction m with
  | zero =>
    intro i b hm hb
    refine v46_8 _ _ _ _ _ _ (condD (fun h => by omega) fun _ => v46_14 _ _ _ (pw ?_))
    rw [List.drop_eq_nil_of_le (by omega)] at hb
    simpa using hb
  | succ m ih =>
    intro i b hm hb
    have hbl : b.length ≤ P.length := lenL hb
    obtain ⟨o1, o2, o3⟩ := pk_fit hc (memD s noPk i (by omega))
    rw [dropD s noPk i (by omega), List.flatMap_cons, ← List.append_assoc] at hb
    refine v46_8 _ _ _ _ _ _ (condD (fun _ => needJ ⟨by omega, by omega⟩ ?_) fun h => by omega)
    rw [Int.toNat_natCast]
    generalize s.getD i noPk = x at hb o1 o2 o3 ⊢
    have hb2 : (b ++ pkB x).length ≤ P.length := lenL hb
    refine ASpec.call (textv b x.1 (by unfold big; omega) _) (Les.refl _) ⟨_, rfl, rfl, ⟨rfl, rfl⟩, ?_⟩
    refine ASpec.call (putv (b ++ enc (held x.1.length) ++ x.1) [x.2] (by have n := text_len x.1; unfold big; simp only [text, List.length_append, List.length_cons, List.length_nil] at n ⊢; omega) _) ⟨Le.refl _, leOne _, trivial⟩ ⟨_, rfl, rfl, ?_⟩
    rw [put1M, succ64 (by omega)]
    have e2 : b ++ enc (held x.1.length) ++ x.1 ++ numB x.2 = b ++ pkB x := by simp [pkB, text]
    rw [e2]
    exact AWP.shape [] [(3, sl1 (b ++ pkB x)), (24, slK s), (25, .int .i64 s.length), (26, .int .i64 (i + 1 : Nat))] [] Sel.none ⟨rfl, Le.refl _, rfl, slKLe _ _, rfl, Le.refl _, rfl, Le.refl _, trivial⟩ (ih (i + 1) _ (by omega) hb)
theorem ansB_len {a : Ans} (h : CA a = true) : (ansB a).length ≤ 100000100 ∧ (a.2.2.length ≤ 300 → (ansB a).length ≤ 100000) := by
  have n1 := numB_len a.1
  unfold ansB bodyB
  rw [List.length_append]
  split
  · rename_i e
    obtain ⟨_, h2, h3⟩ := CA1 h e
    have := pkBs_len h2 h3
    have := numB_len a.2.1.length
    rw [List.length_append]
    exact ⟨by omega, fun _ => by omega⟩
  · split
    · rename_i e1 e
      obtain ⟨_, h3⟩ := CA2 h e
      have l1 := proofB_len h3
      have l2 := text_len (proofB a.2.2)
      refine ⟨by omega, fun hs => ?_⟩
      have n1 := numB_len a.2.2.length
      have := flat_len Pr.stB 80 a.2.2 (checkM_okS h3)
      have := Nat.mul_le_mul_right 80 hs
      have : (proofB a.2.2).length ≤ 30000 := by
        unfold proofB
        rw [List.length_append]; omega
      omega
    · simp; omega
theorem putA_spec {a : Ans} (ok : OkA a) (H : List AObj) : ASpec Tryd.prog 46 [agA a] H (fun r H' => r = sl1 (putA a) ∧ H' = H) := by
  have h1 := ok.pl
  have h2 := ok.sl
  have k : ASpec Tryd.prog 46 [agA a] [] (fun r H' => r = sl1 (putA a) ∧ H' = []) := by
    refine ASpec.sel (s46 a (PW (putA a)) (ASpec.call (checkA_spec ok _) (Les.refl _) ⟨_, rfl, rfl, condBn (fun h => ?_) fun h => ?_⟩))
    · rw [putA, if_neg (by simp [h])]
      exact pa (Le.sl (s' := Seq.ren _ (.map encB 0 [])) rfl (.inr ⟨rfl, fun _ h => by cases h⟩) (.inr rfl))
    · rw [putA, if_pos h]
      have hL := (ansB_len h).1
      refine ASpec.call (putv [] [a.1] (by unfold big; simp) _) ⟨leNil, leOne _, trivial⟩ ⟨_, rfl, rfl, ?_⟩
      rw [put1M, List.nil_append]
      have n1 := numB_len a.1
      refine condE (fun e1 => ?_) fun e1 => condE (fun e2 => ?_) fun e2 => ?_
      · obtain ⟨_, k2, k3⟩ := CA1 h e1
        refine ASpec.call (putv (numB a.1) [(a.2.1.length : Int)] (by unfold big; simp; omega) _) ⟨Le.refl _, leOne _, trivial⟩ ⟨_, rfl, rfl, ?_⟩
        rw [put1M]
        refine AWP.shape [] [(3, sl1 (numB a.1 ++ numB a.2.1.length)), (24, slK a.2.1), (25, .int .i64 a.2.1.length), (26, .int .i64 (0 : Nat))] [] Sel.none ⟨rfl, Le.refl _, rfl, slKLe _ _, rfl, Le.refl _, rfl, Le.refl _, trivial⟩ ?_
        refine put8 k2 k3 (P := ansB a) (by have := numB_len a.2.1.length; have := pkBs_len k2 k3; unfold ansB bodyB; rw [if_pos e1]; simp only [List.length_append]; omega) a.2.1.length 0 _ (by omega) ?_
        unfold ansB bodyB; rw [if_pos e1, List.drop_zero, List.append_assoc]
      · obtain ⟨_, k3⟩ := CA2 h e2
        have hp := proofB_len k3
        refine ASpec.call (put_specP a.2.2 (by unfold maxLen; omega) ok.sk _) (Les.refl _) ⟨_, rfl, rfl, needJ (allBytes_map _) ?_⟩
        rw [bytesOf_map, putP, if_pos k3]
        refine ASpec.call (textv (numB a.1) (proofB a.2.2) (by unfold big; omega) _) (Les.refl _) ⟨_, rfl, rfl, ?_⟩
        refine AWP.shape [] [(3, sl1 (numB a.1 ++ enc (held (proofB a.2.2).length) ++ proofB a.2.2))] [] Sel.none ⟨rfl, Le.refl _, trivial⟩ (v46_14 _ _ _ (pw ?_))
        unfold ansB bodyB; rw [if_neg e1, if_pos e2]; simp [text]
      · refine AWP.shape [] [(3, sl1 (numB a.1))] [] Sel.none ⟨rfl, Le.refl _, trivial⟩ (v46_14 _ _ _ (pw ?_))
        unfold ansB bodyB; rw [if_neg e1, if_neg e2, List.append_nil]
  exact ASpec.pureH H k _ _ rfl rfl

/-! ### the document's -/
abbrev PS (x : List UInt8) : AV → List AObj → Prop := PA (.str (B x))
theorem rput10 {a : Ans} (h : CA a = true) (ok : OkA a) {s : List UInt8} (hs : s.length ≤ 100000000) {x : List UInt8} (hx : s ++ (if a.1 = 2 then text (proofB a.2.2) else []) = x) :
    AWP Tryd.prog 54 0 c49_10 [(1, .ptr 0 0), (3, .str (B s))] [.cells (encAn a)] (q49_0 0 (PS x)) := by
  have h2 := ok.sl
  refine v49_10 _ _ _ _ (condE (fun e2 => ?_) fun e2 => ?_)
  · rw [if_pos e2] at hx
    obtain ⟨_, k3⟩ := CA2 h e2
    have hp := proofB_len k3
    have ht := text_len (proofB a.2.2)
    refine ASpec.call (rput_specP a.2.2 (by unfold maxLen; omega) ok.sk _) (Les.refl _) ⟨_, rfl, rfl, ?_⟩
    rw [putP, if_pos k3]
    refine ASpec.call (V.rtext_spec (proofB a.2.2) (by unfold big; omega) _) (Les.refl _) ⟨B (text (proofB a.2.2)), rfl, rfl, needJ (by rw [B_size, B_size]; omega) (pa ?_)⟩
    rw [B_append, hx]; exact Le.refl _
  · rw [if_neg e2, List.append_nil] at hx
    subst hx; exact pa (Le.refl _)
theorem rput7 {a : Ans} (h : CA a = true) (ok : OkA a) (e1 : a.1 = 1) {P : List UInt8} (hP : P.length ≤ 100000000) :
    ∀ (m i : Nat) (b : List UInt8), m + i = a.2.1.length → b ++ (a.2.1.drop i).flatMap pkB = P →
    AWP Tryd.prog 54 0 c49_7 [(1, .ptr 0 0), (3, .str (B b)), (4, .int .i64 i)] [.cells (encAn a)] (q49_2 0 (PS P)) := by
  obtain ⟨_, hl, hc⟩ := CA1 h e1
  intro m
  induction m with
  | zero =>
    intro i b hm hb
    have hbl : b.length ≤ P.length := lenL hb
    refine v49_7 _ _ _ _ _ (condD (fun h => by omega) fun _ => rput10 h ok (by omega) ?_)
    rw [List.drop_eq_nil_of_le (by omega)] at hb
    rw [if_neg (by omega)]
    simpa using hb
  | succ m ih =>
    intro i b hm hb
    have hbl : b.length ≤ P.length := lenL hb
    obtain ⟨o1, o2, o3⟩ := pk_fit hc (memD a.2.1 noPk i (by omega))
    rw [dropD a.2.1 noPk i (by omega), List.flatMap_cons, ← List.append_assoc] at hb
    refine v49_7 _ _ _ _ _ (condD (fun _ => needJ ⟨by omega, by omega⟩ (needJ ⟨by omega, by omega⟩ ?_)) fun h => by omega)
    rw [Int.toNat_natCast]
    generalize a.2.1.getD i noPk = x at hb o1 o2 o3 ⊢
    have hb2 : (b ++ pkB x).length ≤ P.length := lenL hb
    have hb3 : b.length + (pkB x).length ≤ P.length := by rw [← List.length_append]; exact hb2
    have hst : (pkB x).length = (text x.1).length + (numB x.2).length := by simp [pkB]
    refine ASpec.call (V.rtext_spec x.1 (by unfold big; omega) _) (Les.refl _) ⟨B (text x.1), rfl, rfl, ?_⟩
    repeat refine ⟨⟨rfl, rfl⟩, ?_⟩
    refine needJ (by rw [B_size, B_size]; omega) ?_
    rw [B_append]
    refine ASpec.call (rnum_spec _ _) (Les.refl _) ⟨B (numB x.2), rfl, rfl, needJ (by rw [B_size, B_size, List.length_append]; omega) ?_⟩
    rw [B_append, succ64 (by omega)]
    have e2 : b ++ text x.1 ++ numB x.2 = b ++ pkB x := by simp [pkB]
    rw [e2]
    exact ih (i + 1) _ (by omega) hb
theorem rputA_spec {a : Ans} (ok : OkA a) (H : List AObj) : ASpec Tryd.prog 49 [agA a] H (fun r H' => r = .str (B (putA a)) ∧ H' = H) := by
  have h1 := ok.pl
  have h2 := ok.sl
  have k : ASpec Tryd.prog 49 [agA a] [] (fun r H' => r = .str (B (putA a)) ∧ H' = []) := by
    refine ASpec.sel (s49 a (PS (putA a)) (ASpec.call (rcheckA_spec ok _) (Les.refl _) ⟨_, rfl, rfl, condBn (fun h => ?_) fun h => ?_⟩))
    · rw [putA, if_neg (by simp [h])]; exact pa (Le.refl _)
    · rw [putA, if_pos h]
      have n1 := numB_len a.1
      refine ASpec.call (rnum_spec _ _) (Les.refl _) ⟨B (numB a.1), rfl, rfl, condE (fun e1 => ?_) fun e1 => ?_⟩
      · obtain ⟨_, k2, k3⟩ := CA1 h e1
        have n2 := numB_len a.2.1.length
        refine ASpec.call (rnum_spec _ _) (Les.refl _) ⟨B (numB a.2.1.length), rfl, rfl, needJ (by rw [B_size, B_size]; omega) ?_⟩
        rw [B_append]
        refine rput7 h ok e1 (P := ansB a) (by have := pkBs_len k2 k3; unfold ansB bodyB; rw [if_pos e1]; simp only [List.length_append]; omega) a.2.1.length 0 _ (by omega) ?_
        unfold ansB bodyB; rw [if_pos e1, List.drop_zero, List.append_assoc]
      · refine rput10 h ok (by omega) ?_
        unfold ansB bodyB; rw [if_neg e1]
  exact ASpec.pureH H k _ _ rfl rfl

/-! ### there and back -/
theorem pk_back {p : Pk} (h1 : p.1.length ≤ 24) (h2 : 0 ≤ p.2) (h3 : p.2 < 1000000000) : Back pkB pkR p := by
  intro pre rest
  have e1 := text_back (s := p.1) (most := 24) (by omega) (by omega) pre (numB p.2 ++ rest)
  have e2 := num_back (x := p.2) (most := 1000000000) h2 (by omega) (by omega) (pre ++ text p.1) rest
  simp only [List.append_assoc, List.length_append] at e1 e2
  simp only [pkR, pkB, List.append_assoc, e1, e2, List.length_append, Nat.add_assoc]
theorem read_putA {a : Ans} (h : CA a = true) (hs : a.2.2.length ≤ 300) : readA (ansB a) = (a, 0) := by
  obtain ⟨k1, k5⟩ := CAk h
  have n1 := num_back (x := a.1) (most := 5) (by omega) (by omega) (by omega) [] (bodyB a)
  simp only [List.nil_append, List.length_nil, Nat.zero_add] at n1
  have key : bodyR (ansB a) a.1 (numB a.1).length 0 = (a, (ansB a).length, 0) := by
    unfold bodyR
    split
    · rename_i e
      obtain ⟨z, h2, h3⟩ := CA1 h e
      have := listM_back (bytes := pkB) (one := pkR) (most := 1000) a.2.1 (fun p hp => by obtain ⟨o1, o2, o3⟩ := pk_fit h3 hp; exact pk_back o1 o2 o3) (by omega) (by omega) (numB a.1) []
      rw [List.append_nil] at this
      have eb : ansB a = numB a.1 ++ (numB a.2.1.length ++ a.2.1.flatMap pkB) := by unfold ansB bodyB; rw [if_pos e]
      rw [eb, this]
      simp only [List.length_append]
      obtain ⟨kd, ps, ss⟩ := a
      replace z : ss = [] := z
      subst z; rfl
    · split
      · rename_i e1 e
        obtain ⟨z, h3⟩ := CA2 h e
        have hl : (proofB a.2.2).length ≤ 100000 := by
          have := (ansB_len h).2 hs
          have eb : ansB a = numB a.1 ++ text (proofB a.2.2) := by unfold ansB bodyB; rw [if_neg e1, if_pos e]
          rw [eb] at this
          simp only [text, List.length_append] at this
          omega
        have := text_back (s := proofB a.2.2) (most := 1099511627776) (by omega) (by omega) (numB a.1) []
        rw [List.append_nil] at this
        have eb : ansB a = numB a.1 ++ text (proofB a.2.2) := by unfold ansB bodyB; rw [if_neg e1, if_pos e]
        simp only at this
        rw [eb, this]
        simp only [if_true, read_putP h3, List.length_append]
        obtain ⟨kd, ps, ss⟩ := a
        replace z : ps = [] := z
        subst z; rfl
      · rename_i e1 e2
        obtain ⟨z1, z2⟩ := CA345 h e1 e2
        have eb : ansB a = numB a.1 := by unfold ansB bodyB; rw [if_neg e1, if_neg e2, List.append_nil]
        rw [eb]
        obtain ⟨kd, ps, ss⟩ := a
        replace z1 : ps = [] := z1
        replace z2 : ss = [] := z2
        subst z1 z2; rfl
  have hr : ansR (ansB a) = (a, (ansB a).length, 0) := by
    unfold ansR
    have : numM (ansB a) 0 0 5 = (a.1, (numB a.1).length, 0) := n1
    rw [this]
    exact key
  unfold readA
  rw [hr]
  simp only [Nat.sub_self]
  show endA a (closeM 0 0) = _
  simp [endA, closeM, h]
theorem pk_canon : Canon pkB pkR := by
  intro bs p e h
  simp only [pkR] at h ⊢
  obtain ⟨a, b⟩ := num_canon 1000000000 bs _ _ h
  obtain ⟨c, d⟩ := text_canon 24 bs p e a
  simp only at b d
  refine ⟨c, ?_⟩
  rw [d, b, pkB]
  simp only [List.append_assoc]
theorem readA_parts {bs : List UInt8} (h : (readA bs).2 = 0) : closeM (ansR bs).2.2 (bs.length - (ansR bs).2.1) = 0 ∧ CA (ansR bs).1 = true ∧ (readA bs).1 = (ansR bs).1 := by
  unfold readA endA at h ⊢
  split at h
  · rename_i hc; exact absurd h hc
  · rename_i hc
    split at h
    · rename_i hm
      rw [if_neg hc, if_pos hm]
      exact ⟨by simpa using hc, hm, rfl⟩
    · simp at h
theorem put_readA {bs : List UInt8} (h : (readA bs).2 = 0) : ansB (readA bs).1 = bs ∧ CA (readA bs).1 = true := by
  obtain ⟨hc, hm, e⟩ := readA_parts h
  rw [e]
  refine ⟨?_, hm⟩
  obtain ⟨h1, h2⟩ := closeM_zero hc
  unfold ansR at h1 h2 ⊢
  have hd : ∀ q, bs.length - q = 0 → bs.drop q = [] := fun q hq => List.drop_eq_nil_of_le (by omega)
  have step : (numM bs 0 0 5).2.2 = 0 → bs = numB (numM bs 0 0 5).1 ++ bs.drop (numM bs 0 0 5).2.1 := fun h => by
    obtain ⟨_, b⟩ := num_canon 5 bs 0 0 h
    simpa using b
  generalize (numM bs 0 0 5).1 = k at h1 h2 step ⊢
  generalize (numM bs 0 0 5).2.1 = p at h1 h2 step ⊢
  generalize (numM bs 0 0 5).2.2 = er at h1 h2 step ⊢
  unfold bodyR at h1 h2 ⊢
  by_cases e1 : k = 1
  · simp only [if_pos e1] at h1 h2 ⊢
    obtain ⟨a, b⟩ := listM_canon pk_canon (by omega) bs p er h1
    rw [hd _ h2, List.append_nil] at b
    unfold ansB bodyB
    rw [if_pos e1]
    show numB k ++ _ = bs
    rw [← b]
    exact (step a).symm
  · simp only [if_neg e1] at h1 h2 ⊢
    by_cases e2 : k = 2
    · simp only [if_pos e2] at h1 h2 ⊢
      by_cases e3 : (strM bs p er 1099511627776).2.2 = 0
      · simp only [if_pos e3] at h1 h2 ⊢
        obtain ⟨a, b⟩ := text_canon 1099511627776 bs p er e3
        simp only at b
        rw [hd _ h2, List.append_nil] at b
        unfold ansB bodyB
        rw [if_neg e1, if_pos e2]
        show numB k ++ text (proofB (readP _).1) = bs
        rw [(put_readP h1).1, ← b]
        exact (step a).symm
      · simp only [if_neg e3] at h1
        exact absurd h1 e3
    · simp only [if_neg e2] at h1 h2 ⊢
      unfold ansB bodyB
      rw [if_neg e1, if_neg e2]
      have := step h1
      rw [hd _ h2] at this
      exact this.symm

/-! ### the law -/
theorem bytes_spec (a : Ans) (b : List UInt8) : ASpec Tryd.prog 7 [agA a, sl1 b] [] (fun r H' => r = .bool true ∧ H' = []) := by
  have wake : ∀ H, ASpec Tryd.prog 39 [] H (fun r H' => ∃ x : Unit, r = .bool true ∧ H' = H ∧ PA (.bool true) (.bool true) H) := fun H => ASpec.call (awakeA_spec _) (Les.refl _) ⟨(), rfl, rfl, pa (Le.refl _)⟩
  refine ASpec.sel (s7 a b (PA (.bool true)) (ASpec.call (largeA_spec a _) (Les.refl _) ⟨_, rfl, rfl, condB (fun _ => wake _) fun hlg => condD (fun _ => wake _) fun h8 => ?_⟩))
  have ok := largeA_ok hlg
  have h300 := largeA_300 hlg
  have h8' : b.length ≤ 1000000 := by omega
  refine v7_3 _ _ _ _ ?_
  refine ASpec.call (putA_spec ok _) (Les.refl _) ⟨_, rfl, rfl, ?_⟩
  refine ASpec.call (readA_spec b h8' _) (Les.refl _) ⟨((readA b).1, (readA b).2), rfl, rfl, needJ (allBytes_map _) ?_⟩
  rw [bytesOf_map]
  refine ASpec.call (rreadA_spec b h8' _) (Les.refl _) ⟨((readA b).1, (readA b).2), rfl, rfl, needJ (allBytes_map _) ?_⟩
  repeat refine ⟨⟨rfl, rfl⟩, ?_⟩
  refine ASpec.call (rputA_spec ok _) (Les.refl _) ⟨_, rfl, rfl, ?_⟩
  repeat refine ⟨⟨rfl, rfl⟩, ?_⟩
  rw [bytesOf_map]
  refine condSn (fun h => (h rfl).elim) fun _ => ?_
  have hr := readA_ok b
  refine ASpec.call (rsameA_spec hr.pl hr.sl _) (Les.refl _) ⟨_, rfl, rfl, condBn (fun h => by simp at h) fun _ => condNe (fun h => (h rfl).elim) fun _ => ?_⟩
  have fin : AWP Tryd.prog 81 0 c7_8 [(2, .ptr 0 0), (5, sl1 (putA a))] [.cells (encAn a)] (q7_0 0 (PA (.bool true))) := by
    have hpl : (putA a).length ≤ 1000000 := by
      unfold putA
      split
      · rename_i h; have := (ansB_len h).2 h300; omega
      · simp
    refine v7_8 _ _ _ _ (ASpec.call (readA_spec (putA a) hpl _) (Les.refl _) ⟨((readA (putA a)).1, (readA (putA a)).2), rfl, rfl, ?_⟩)
    repeat refine ⟨⟨rfl, rfl⟩, ?_⟩
    refine ASpec.call (rcheckA_spec ok _) (Les.refl _) ⟨_, rfl, rfl, ?_⟩
    repeat refine ⟨⟨rfl, rfl⟩, ?_⟩
    refine condBn (fun _ => wake _) fun hc => ?_
    rw [show readA (putA a) = (a, 0) by rw [putA, if_pos hc]; exact read_putA hc h300]
    refine condE (fun _ => ?_) fun h => (h rfl).elim
    exact ASpec.call (rsameA_spec ok.pl ok.sl _) (Les.refl _) ⟨_, rfl, rfl, condB (fun _ => wake _) fun h => by simp at h⟩
  have fin2 : ∀ {y z : Ans}, AWP Tryd.prog 81 0 c7_8 [(2, .ptr 0 0), (5, sl1 (putA a))] [.cells (encAn a), .cells (encAn y), .cells (encAn z)] (q7_0 0 (PA (.bool true))) := fun {y z} =>
    AWP.shape [0] [(2, .ptr 0 0), (5, sl1 (putA a))] [.cells (encAn a)] (Sel.mk0 (by decide) ⟨rfl, trivial⟩) ⟨rfl, Le.refl _, rfl, Le.refl _, trivial⟩ fin
  refine condE (fun h0 => needJ (allBytes_map _) ?_) fun _ => fin2
  obtain ⟨e1, e2⟩ := put_readA h0
  refine ASpec.call (putA_spec hr _) (Les.refl _) ⟨_, rfl, rfl, needJ (allBytes_map _) ?_⟩
  rw [bytesOf_map, putA, if_pos e2, e1]
  exact condSn (fun h => (h rfl).elim) fun _ => fin2
end An
end

section
/- The codecs of picks; what the row's condition gives. -/

open Go Go.Ab Go.Proofs
namespace Go.Ab
noncomputable def cPk : Codec Tryd.prog 68 T.Pk :=
  (Codec.struct (n := 2) Tryd.underlying68 (FC.cons (k := 1) (n := 1) cName rfl (by kernel_rfl) (FC.cons (k := 1) (n := 0) cInt rfl (by kernel_rfl) FC.nil)) (by kernel_rfl)).iso (fun x => (x.1, x.2.1)) T.encPk (fun _ => True) (fun _ => rfl) (fun _ _ => trivial)
noncomputable def cPks : Codec Tryd.prog 33 (List T.Pk) := Codec.slice (sz := 2) cPk Tryd.underlying33 (by kernel_rfl) (by omega) (fun _ => rfl)
end Go.Ab
namespace D
theorem gT : Tryd.prog.globalNamed "internal/strconv.uint64pow10" = some 0 := by kernel_rfl
theorem gTy : (Tryd.prog.globals[0]?).map (·.type) = some 163 := by kernel_rfl
abbrev laid5 : List (String × DataW Unit) := [("math/bits.deBruijn32tab", YtkkdhnhgfbddeaaDoor.Rows.laid_math_bits_deBruijn32tab), ("math/bits.deBruijn64tab", YtkkdhnhgfbddeaaDoor.Rows.laid_math_bits_deBruijn64tab), ("internal/strconv.uint64pow10", YtkkdhnhgfbddeaaDoor.Rows.laid_internal_strconv_uint64pow10)]
theorem tab_data : (YtkkdhnhgfbddeaaDoor.Rows.laid_internal_strconv_uint64pow10 : DataW Unit) = Lib.tabData .u64 Lib.pow10Tab := by rfl

/-- what the row's condition and the world's shape give -/
theorem tabs_of {W : World} (h : laidMetH Tryd.prog laid5 W) (hsh : W.ShapedOpen Tryd.prog) : Tabs Tryd.prog (mem0 W) W := by
  rw [MakeChecks.laidMetH_plain _ _ _ (by kernel_rfl)] at h
  have h3 := laidMet.tail (laidMet.tail h)
  rw [tab_data] at h3
  have ht : Lib.TabIs Tryd.prog W "internal/strconv.uint64pow10" .u64 Lib.pow10Tab := Lib.tabIs_of_head gT gTy Tryd.underlying163 Tryd.underlying155 (by kernel_rfl) (by kernel_rfl) h3
  refine tabs0 (fun g hg => ?_) fun g hg => ?_
  · rw [gT] at hg
    cases hg
    unfold Lib.TabIs World.var? at ht
    rw [gT] at ht
    simp only [Option.bind_some] at ht
    split at ht
    case h_2 => cases ht
    case h_1 cs T fr hc =>
    simp only [Option.some.injEq] at ht
    subst ht
    exact ⟨T, fr, hc⟩
  · have hM : Tryd.prog.globalNamed "internal/bytealg.MaxLen" = some 1 := by kernel_rfl
    rw [hM] at hg
    cases hg
    obtain ⟨m, hm⟩ := Go.Proofs.cell_of_shapedOpen_int (g := 1) (k := .i64) (zero := #[.int .i64 0]) (t := 3) hsh (of_decide_eq_true (by kernel_rfl)) (by kernel_rfl) rfl (by kernel_rfl) (by kernel_rfl) Tryd.underlying3
    obtain ⟨cs, hh, hs, _⟩ := hsh.1 1 #[.int .i64 0] 3 (of_decide_eq_true (by kernel_rfl)) (by kernel_rfl)
    have h1 : cs.size = 1 := hs
    have hm2 : cs[0]? = some (.int .i64 m) := by
      simp only [World.cell?, hh] at hm
      exact hm
    refine ⟨m, 3, (0, 0), ?_⟩
    rw [hh]
    have : cs = #[.int .i64 m] := by
      apply Array.ext
      · simpa using h1
      · intro i h2 h3
        have : i = 0 := by omega
        subst this
        have := Array.getElem?_eq_getElem h2
        rw [hm2] at this
        simpa using this.symm
    rw [this]

/-- a row's wrap, the world's shape kept -/
theorem handed_shaped {H : Type} {enc : TypeId × Value → H} {a : Assume} {C : Checked} {os : Os} {f : FuncId} {fn : Func} {s : ChangeSpec} {conds : List PathCond} {apart fresh handsOn again : Bool} {X : World → Array Value → Prop}
    (hX : ∀ (w w' : World) (args : Array Value), w.heap = w'.heap → X w args → X w' args)
    (own : ownKnob C.prog.godebug = none) (started : os.Started) (noInit : C.prog.inits.idxOf? f = none) (hfn : C.prog.funcs[f]? = some fn)
    (witness : ∃ (w : World) (tape : Tape) (i : Input), w.os = os ∧ (w.forCall tape i).Shaped C.prog ∧ i.vars = [] ∧ Input.okWide C.prog (w.forCall tape i) .any w.heap.size f i ∧
      ((s.pre enc C.prog fn conds apart (w.forCall tape i).memory i.args ∧ X (w.forCall tape i).memory i.args) ∧ sizedMet enc C.prog fn (OpenSpec.ofChange s) apart (w.forCall tape i).memory i.args) ∧ a.holds C.prog (lone (Frame.enter C.prog f i.args .normal) [] (w.forCall tape i)))
    (contract : ∀ (W : World) (base : Nat) (args : Array Value) (ds gs : List (DataW H)) (before : List MemPlace),
      (∀ (j : Nat) t v, fn.params[j]? = some t → args[j]? = some v → Value.okWide C.prog W .any base t v) →
      DataW.Whole enc C.prog fn.params.toList s.vars apart W args.toList ds gs before →
      conds.all (PathCond.test C.prog ⟨fn.params.toList, ds, s.plain.varTypes C.prog, gs⟩) = true →
      (DataW.weightsEach C.prog (fn.params.toList ++ s.plain.varTypes C.prog) (ds ++ gs)).all (· ≤ reachBytes) = true → X W args →
      W.ShapedOpen C.prog →
      a.holds C.prog (lone (Frame.enter C.prog f args .normal) [] W) →
      Calls C.prog f args W fun e W' => ∃ v, e = .returned v ∧ s.post enc C.prog fn apart fresh handsOn again W args v W') :
    ReturnsInHanded a C os f .any (fun w args => (s.pre enc C.prog fn conds apart w args ∧ X w args) ∧ sizedMet enc C.prog fn (OpenSpec.ofChange s) apart w args) (s.post enc C.prog fn apart fresh handsOn again) := by
  refine returnsInHanded_of_calls own started noInit witness ?_
  intro w tape i _ hsh _ hok hpre hholds
  obtain ⟨_, _, _, fn', hfn', _, _, _, _, hval⟩ := hok
  have e : fn' = fn := Option.some.inj (hfn'.symm.trans hfn)
  subst e
  obtain ⟨⟨⟨ds, gs, before, hw, hc⟩, hx⟩, hz⟩ := hpre
  have hw' := DataW.Whole.of_heap (w' := w.forCall tape i) (by rfl) hw
  refine (contract (w.forCall tape i) w.heap.size i.args ds gs before hval hw' hc (hz.weights hw) (hX _ _ _ (by rfl) hx) hsh hholds).mono fun e W' ⟨v, he, hp⟩ => ?_
  subst he
  exact ChangeSpec.post_blind hp

/-- a heap that meets the condition -/
theorem all_met (os : Os) (args : Array Value) : laidMetH Tryd.prog laid5 ((World.laidAll Tryd.prog os laid5).forCall (fun _ _ => 0) ⟨#[], args, []⟩).memory := by
  rw [MakeChecks.laidMetH_plain _ _ _ (by kernel_rfl)]
  exact laidMet_laidAll _ (by kernel_rfl) (by kernel_rfl)
end D
end

section
/- The codec of answers. -/

open Go Go.Ab Go.Proofs
namespace Go.Ab
noncomputable def cSt : Codec Tryd.prog 80 T.St :=
  (Codec.struct (n := 6) Tryd.underlying80 (FC.cons (k := 1) (n := 5) cInt rfl (by kernel_rfl) (FC.cons (k := 1) (n := 4) cName rfl (by kernel_rfl) (FC.cons (k := 1) (n := 3) cInt rfl (by kernel_rfl) (FC.cons (k := 1) (n := 2) cName rfl (by kernel_rfl)
    (FC.cons (k := 1) (n := 1) cInt rfl (by kernel_rfl) (FC.cons (k := 1) (n := 0) cInt rfl (by kernel_rfl) FC.nil)))))) (by kernel_rfl)).iso (fun x => (x.1, x.2.1, x.2.2.1, x.2.2.2.1, x.2.2.2.2.1, x.2.2.2.2.2.1)) T.encSt (fun _ => True) (fun _ => rfl) (fun _ _ => trivial)
noncomputable def cSts : Codec Tryd.prog 42 (List T.St) := Codec.slice (sz := 6) cSt Tryd.underlying42 (by kernel_rfl) (by omega) (fun _ => rfl)
noncomputable def cAns : Codec Tryd.prog 44 T.Ans :=
  (Codec.struct (n := 3) Tryd.underlying44 (FC.cons (k := 1) (n := 2) cInt rfl (by kernel_rfl) (FC.cons (k := 1) (n := 1) cPks rfl (by kernel_rfl) (FC.cons (k := 1) (n := 0) cSts rfl (by kernel_rfl) FC.nil))) (by kernel_rfl)).iso (fun x => (x.1, x.2.1, x.2.2.1)) T.encAn (fun _ => True) (fun _ => rfl) (fun _ _ => trivial)
end Go.Ab
end
