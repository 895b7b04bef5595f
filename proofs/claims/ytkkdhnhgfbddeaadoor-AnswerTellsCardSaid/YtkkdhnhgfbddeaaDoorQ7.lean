/- Q7: several of this proof's own texts, one behind the other: what each proves stands at its head. -/
import Derived.Shelf.LaysM
import Derived.Shelf.Strconv.Itoa3
import Derived.Shelf.Strings.OnBuilder
import Derived.Test.YtkkdhnhgfbddeaaDoorProg
import Derived.Test.YtkkdhnhgfbddeaaDoorQ6
import Derived.Test.YtkkdhnhgfbddeaaDoorA3
import Derived.Test.YtkkdhnhgfbddeaaDoorQ5
import Derived.Test.YtkkdhnhgfbddeaaDoorRows
import Derived.ProofKit
import Derived.LaidMore
import Derived.Lay
import Derived.HandedShaped
import Derived.OpenShut
import Derived.Stop.Joined
import Derived.Stop.LaidErr
import Derived.Lib.LaidTab
import Derived.Lib.ItoaNum
section
/-
  DERIVED: THE SHELF's CONTRACTS AT THIS DUMP, IN PLAIN WORDS (tools/lay-plain.mjs out of 'PShelf.lean', which tools/lay-shelf.mjs wrote): THE SAME DECLARATIONS UNDER THE SAME NAMES: 'import', 'namespace', 'open', 'def', 'theorem' AND NOTHING ELSE: no command of the shelf's: FOR A HAND-IN. Each laying: the table of numbers ('.._ren') and one theorem, a field a fact of the dump's own or the kernel's comparison; each contract: ONE APPLICATION.
-/

namespace Go.Proofs
open Go.Shelf
def Tryd.lays156_ren : Go.Shelf.Ren := ⟨fun | 156 => 118 | 165 => 143 | 166 => 122 | 169 => 123 | 240 => 147 | 241 => 153 | 276 => 157 | 277 => 163 | n => n, fun | 31 => 107 | 9 => 9 | 3 => 3 | 4 => 4 | 0 => 0 | 20 => 20 | 72 => 113 | 76 => 116 | 70 => 111 | 37 => 48 | 75 => 115 | 127 => 144 | 164 => 152 | 5 => 5 | 80 => 118 | n => n, fun | n => n⟩
theorem Tryd.lays156 : Go.Proofs.Lays.n156 Tryd.prog Tryd.lays156_ren := {
  mixed := by kernel_rfl
  f156 := Tryd.func118.trans (congrArg some (by kernel_rfl))
  f165 := Tryd.func143.trans (congrArg some (by kernel_rfl))
  f166 := Tryd.func122.trans (congrArg some (by kernel_rfl))
  f169 := Tryd.func123.trans (congrArg some (by kernel_rfl))
  f240 := Tryd.func147.trans (congrArg some (by kernel_rfl))
  f241 := Tryd.func153.trans (congrArg some (by kernel_rfl))
  f276 := Tryd.func157.trans (congrArg some (by kernel_rfl))
  f277 := Tryd.func163.trans (congrArg some (by kernel_rfl))
  t0 := Tryd.underlying0
  a0 := Tryd.isAgg0
  z0 := Tryd.sizeOf0
  v0 := Tryd.zeroValue0
  t3 := Tryd.underlying3
  a3 := Tryd.isAgg3
  z3 := Tryd.sizeOf3
  v3 := Tryd.zeroValue3
  t4 := Tryd.underlying4
  a4 := Tryd.isAgg4
  z4 := Tryd.sizeOf4
  v4 := Tryd.zeroValue4
  t9 := Tryd.underlying9
  a9 := Tryd.isAgg9
  z9 := Tryd.sizeOf9
  v9 := Tryd.zeroValue9
  t20 := Tryd.underlying20
  a20 := Tryd.isAgg20
  z20 := Tryd.sizeOf20
  v20 := Tryd.zeroValue20
  t31 := Tryd.underlying107
  a31 := Tryd.isAgg107
  z31 := Tryd.sizeOf107
  v31 := Tryd.zeroValue107
  t37 := Tryd.underlying48
  a37 := Tryd.isAgg48
  z37 := Tryd.sizeOf48
  v37 := Tryd.zeroValue48
  t70 := Tryd.underlying111
  a70 := Tryd.isAgg111
  z70 := Tryd.sizeOf111
  v70 := Tryd.zeroValue111
  t72 := Tryd.underlying113
  a72 := Tryd.isAgg113
  z72 := Tryd.sizeOf113
  v72 := Tryd.zeroValue113
  t75 := Tryd.underlying115
  a75 := Tryd.isAgg115
  z75 := Tryd.sizeOf115
  v75 := Tryd.zeroValue115
  t76 := Tryd.underlying116
  a76 := Tryd.isAgg116
  z76 := Tryd.sizeOf116
  v76 := Tryd.zeroValue116
  t127 := Tryd.underlying144
  a127 := Tryd.isAgg144
  z127 := Tryd.sizeOf144
  v127 := Tryd.zeroValue144
  t164 := Tryd.underlying152
  a164 := Tryd.isAgg152
  z164 := Tryd.sizeOf152
  v164 := Tryd.zeroValue152 }
theorem Tryd.Builder_Extra_156 : Builder.Extra Tryd.prog Tryd.lays156_ren := {
  sizeBuilder := by kernel_rfl
  liesBuilder := by kernel_rfl
  t5 := Tryd.underlying5
  a5 := Tryd.isAgg5
  z5 := Tryd.sizeOf5
  v5 := Tryd.zeroValue5
  infoByte := by kernel_rfl
  cellsByte := by kernel_rfl
  sizeByte := by kernel_rfl
  neB5 := by decide }
open Go.RowKit in
/-- No element: the empty string; the world is as it was. (Whatever the slice's address and capacity: a nil slice too.) (LAID: no walk: one application.) -/
theorem Tryd.strings_Join_none (a : Option Addr) (c : Nat) (sep : ByteArray) (w : World) :
    Calls Tryd.prog 118 #[.slice a 0 c, .string sep] w fun e w' => e = .returned (.string ⟨#[]⟩) ∧ w' = w := Any.strings_Join_none Tryd.lays156 Tryd.Builder_Extra_156 a c sep w
open Go.RowKit in
/-- strings.Join: "Join concatenates the elements of its first argument to create a single string. The separator string sep is placed between elements in the resulting string.": HOWEVER MANY ELEMENTS. Below the heap's end the world is as it was. (LAID: no walk: one application.) -/
theorem Tryd.strings_Join (bk o c : Nat) (xs : List ByteArray) (sep : ByteArray) (w : World) (hcells : ∀ (j : Nat) x, xs[j]? = some x → w.cell? ⟨bk, o + j, none⟩ = some (.string x)) (hbk : bk < w.heap.size) (hN : xs.length ≤ 140737488355328) (hcap : xs.length ≤ c) (hlen : (Lib.join (xs.map (·.data.toList)) sep.data.toList).length ≤ 140737488355328) :
    Calls Tryd.prog 118 #[.slice (some ⟨bk, o, none⟩) xs.length c, .string sep] w fun e w' => e = .returned (.string ⟨(Lib.join (xs.map (·.data.toList)) sep.data.toList).toArray⟩) ∧ Below w.heap.size w w' := Any.strings_Join Tryd.lays156 Tryd.Builder_Extra_156 bk o c xs sep w hcells hbk hN hcap hlen
def Tryd.laysM171_ren : Go.Shelf.Ren := ⟨fun | 171 => 86 | 243 => 133 | 246 => 151 | 283 => 159 | 284 => 160 | 285 => 161 | 286 => 162 | 129 => 166 | 317 => 165 | 318 => 167 | 319 => 168 | 320 => 169 | 337 => 170 | 338 => 171 | n => n, fun | 3 => 3 | 9 => 9 | 2 => 2 | 4 => 4 | 171 => 154 | 0 => 0 | 53 => 155 | 37 => 48 | 5 => 5 | 173 => 158 | 212 => 163 | 51 => 164 | 20 => 20 | 213 => 165 | 46 => 148 | 232 => 168 | 233 => 169 | n => n, fun | 17 => 0 | 18 => 2 | 19 => 3 | n => n⟩
theorem Tryd.laysM171 : Go.Proofs.LaysM.n171 Tryd.prog Tryd.laysM171_ren := {
  mixed := by kernel_rfl
  f129 := Tryd.func166.trans (congrArg some (by kernel_rfl))
  f171 := Tryd.func86.trans (congrArg some (by kernel_rfl))
  f243 := Tryd.func133.trans (congrArg some (by kernel_rfl))
  f246 := Tryd.func151.trans (congrArg some (by kernel_rfl))
  f283 := Tryd.func159.trans (congrArg some (by kernel_rfl))
  f284 := Tryd.func160.trans (congrArg some (by kernel_rfl))
  f285 := Tryd.func161.trans (congrArg some (by kernel_rfl))
  f286 := Tryd.func162.trans (congrArg some (by kernel_rfl))
  f317 := Tryd.func165.trans (congrArg some (by kernel_rfl))
  f318 := Tryd.func167.trans (congrArg some (by kernel_rfl))
  f319 := Tryd.func168.trans (congrArg some (by kernel_rfl))
  f320 := Tryd.func169.trans (congrArg some (by kernel_rfl))
  f337 := Tryd.func170.trans (congrArg some (by kernel_rfl))
  f338 := Tryd.func171.trans (congrArg some (by kernel_rfl))
  t0 := Tryd.underlying0
  a0 := Tryd.isAgg0
  z0 := Tryd.sizeOf0
  v0 := Tryd.zeroValue0
  t2 := Tryd.underlying2
  a2 := Tryd.isAgg2
  z2 := Tryd.sizeOf2
  v2 := Tryd.zeroValue2
  t3 := Tryd.underlying3
  a3 := Tryd.isAgg3
  z3 := Tryd.sizeOf3
  v3 := Tryd.zeroValue3
  t4 := Tryd.underlying4
  a4 := Tryd.isAgg4
  z4 := Tryd.sizeOf4
  v4 := Tryd.zeroValue4
  t5 := Tryd.underlying5
  a5 := Tryd.isAgg5
  z5 := Tryd.sizeOf5
  v5 := Tryd.zeroValue5
  t9 := Tryd.underlying9
  a9 := Tryd.isAgg9
  z9 := Tryd.sizeOf9
  v9 := Tryd.zeroValue9
  t20 := Tryd.underlying20
  a20 := Tryd.isAgg20
  z20 := Tryd.sizeOf20
  v20 := Tryd.zeroValue20
  t37 := Tryd.underlying48
  a37 := Tryd.isAgg48
  z37 := Tryd.sizeOf48
  v37 := Tryd.zeroValue48
  t46 := Tryd.underlying148
  a46 := Tryd.isAgg148
  z46 := Tryd.sizeOf148
  v46 := Tryd.zeroValue148
  t51 := Tryd.underlying164
  a51 := Tryd.isAgg164
  z51 := Tryd.sizeOf164
  v51 := Tryd.zeroValue164
  t53 := Tryd.underlying155
  a53 := Tryd.isAgg155
  z53 := Tryd.sizeOf155
  v53 := Tryd.zeroValue155
  t171 := Tryd.underlying154
  a171 := Tryd.isAgg154
  z171 := Tryd.sizeOf154
  v171 := Tryd.zeroValue154
  t173 := Tryd.underlying158
  a173 := Tryd.isAgg158
  z173 := Tryd.sizeOf158
  v173 := Tryd.zeroValue158
  t212 := Tryd.underlying163
  a212 := Tryd.isAgg163
  z212 := Tryd.sizeOf163
  v212 := Tryd.zeroValue163
  t213 := Tryd.underlying165
  a213 := Tryd.isAgg165
  z213 := Tryd.sizeOf165
  t232 := Tryd.underlying168
  a232 := Tryd.isAgg168
  z232 := Tryd.sizeOf168
  v232 := Tryd.zeroValue168
  t233 := Tryd.underlying169
  a233 := Tryd.isAgg169
  z233 := Tryd.sizeOf169
  v233 := Tryd.zeroValue169
  g17 := by kernel_rfl
  g18 := by kernel_rfl
  g19 := by kernel_rfl
  i0 := by kernel_rfl
  i2 := by kernel_rfl
  i3 := by kernel_rfl
  i4 := by kernel_rfl
  i5 := by kernel_rfl
  i9 := by kernel_rfl
  i20 := by kernel_rfl
  i37 := by kernel_rfl
  i46 := by kernel_rfl
  i51 := by kernel_rfl
  i53 := by kernel_rfl
  i171 := by kernel_rfl
  i173 := by kernel_rfl
  i212 := by kernel_rfl
  i232 := by kernel_rfl
  i233 := by kernel_rfl
  m17 := by kernel_rfl
  m18 := by kernel_rfl
  m19 := by kernel_rfl }
open Go.RowKit Go.Sort Go.Lib in
/-- strconv.Itoa: "Itoa is equivalent to FormatInt(int64(i), 10).": i's DECIMAL NUMERAL ('Lib.itoa': a '-' where i is negative, then the digits), FOR EVERY int. The world behind the call: the world before it, new blocks behind the heap (the library's 'var a [24]byte'), draws. (LAID: no walk: one application.) -/
theorem Tryd.strconv_Itoa (n : Int) (h0 : -9223372036854775808 ≤ n) (h1 : n ≤ 9223372036854775807) (w : World) (htab : Lib.TabIs Tryd.prog w "internal/strconv.uint64pow10" .u64 Lib.pow10Tab) :
    Calls Tryd.prog 86 #[.int .i64 n] w fun e w' => e = .returned (.string ⟨(Lib.itoa n).toArray⟩) ∧ ∃ k os, w' = grow (w.drewN k) os := Any.strconv_Itoa Tryd.laysM171 n h0 h1 w htab
end Go.Proofs
end

section
/- The texts of versions, and texts put together, at this seat. -/

set_option linter.unusedVariables false
set_option linter.unusedSimpArgs false
set_option maxRecDepth 100000
open Go Go.Ab Go.Proofs Ve
open Go.RowKit (Below)
namespace D

theorem tdv {p : Int} (h : 0 ≤ p) (d : Int) : Int.tdiv p d = p / d := Int.tdiv_eq_ediv_of_nonneg h
theorem tmd {p : Int} (h : 0 ≤ p) (d : Int) : Int.tmod p d = p % d := Int.tmod_eq_emod_of_nonneg h
theorem condBn {b : Bool} {A C : Prop} (h1 : b = false → A) (h2 : b = true → C) : condP (!b) A C := by cases b <;> simp_all [condP]

/-- what is left behind in the heap is nobody's -/
theorem drop0 {P : Program} {f : FuncId} {args : List AV} {r0 : AV} (hren : ∀ n, AV.ren (selR [] n) r0 = r0) (k : ASpec P f args [] (fun r _ => r = r0)) : ASpec P f args [] (fun r H' => r = r0 ∧ H' = []) :=
  ASpec.sel (k.mono fun r H' e => ⟨[], [], r0, Sel.none, by subst e; rw [hren]; exact Le.refl _, rfl, rfl⟩)

theorem pd {f : FuncId} {args : List AV} (r0 : AV) (hr : ∀ q, AV.ren q r0 = r0) (ha : ∀ q, args.map (AV.ren q) = args) (H : List AObj) (k : ASpec Tryd.prog f args [] (fun r _ => r = r0)) :
    ASpec Tryd.prog f args H (fun r H' => r = r0 ∧ H' = H) :=
  ASpec.pureH H (drop0 (fun _ => hr _) k) _ _ (ha _) (hr _)

def fitB (p : Int) : Bool := decide (0 ≤ p ∧ p < 1000000000)
def partsM (p : Int) : (Int × Int × Int) × Bool := if 0 ≤ p ∧ p < 1000000000 then ((p / 1000000, p / 1000 % 1000, p % 1000), true) else ((0, 0, 0), false)
theorem weights_spec (H : List AObj) : ASpec Tryd.prog 156 [] H (fun r H' => r = .agg [.int .i64 1000000, .int .i64 1000, .int .i64 1] ∧ H' = H) :=
  pd (.agg [.int .i64 1000000, .int .i64 1000, .int .i64 1]) (fun _ => rfl) (fun _ => rfl) H (s156 _ rfl)

theorem fit_spec (p : Int) (H : List AObj) : ASpec Tryd.prog 155 [.int .i64 p] H (fun r H' => r = .bool (fitB p) ∧ H' = H) := by
  refine pd (.bool (fitB p)) (fun _ => rfl) (fun _ => rfl) H (s155 _ _ (condD (fun h => ?_) fun h => ?_))
  all_goals (congr 1; unfold fitB)
  · apply decide_eq_decide.2; omega
  · exact (decide_eq_false (by omega)).symm

abbrev a3 (x : Int × Int × Int) : AV := .agg [.int .i64 x.1, .int .i64 x.2.1, .int .i64 x.2.2]
abbrev tup3 (x : (Int × Int × Int) × Bool) : AV := .tup [a3 x.1, .bool x.2]

theorem parts_spec (p : Int) (H : List AObj) : ASpec Tryd.prog 146 [.int .i64 p] H (fun r H' => r = tup3 (partsM p) ∧ H' = H) := by
  have e3 : (0 : Int) ≤ 0 ∧ (0 : Int) < 3 := by decide
  have e4 : (0 : Int) ≤ 1 ∧ (1 : Int) < 3 := by decide
  have e5 : (0 : Int) ≤ 2 ∧ (2 : Int) < 3 := by decide
  refine pd (tup3 (partsM p)) (fun _ => rfl) (fun _ => rfl) H (s146 _ _ (ASpec.call (fit_spec p _) (Les.refl _) ⟨_, rfl, rfl, condBn (fun h => ?_) fun h => ?_⟩))
  · have : ¬ (0 ≤ p ∧ p < 1000000000) := by simpa [fitB] using h
    unfold partsM; rw [if_neg this]
  · have hp : 0 ≤ p ∧ p < 1000000000 := by simpa [fitB] using h
    refine ASpec.call (weights_spec _) (Les.refl _) ⟨(), rfl, rfl, ?_⟩
    refine v146_5a _ _ _ _ _ _ (needJ e3 (needJ (by decide) (needJ (by decide) (needJ e3 ?_))))
    refine v146_5b _ _ _ _ _ _ (needJ e4 (needJ (by decide) (needJ (by decide) (needJ e4 ?_))))
    refine v146_5c _ _ _ _ _ _ (needJ e5 (needJ (by decide) (needJ (by decide) (needJ e5 ?_))))
    refine v146_5d _ _ _ _ _ _ ?_
    rw [tdv hp.1, tdv hp.1, tdv hp.1, wrap64 (x := p / 1000000) (by omega) (by omega), wrap64 (x := p / 1000) (by omega) (by omega), wrap64 (x := p / 1) (by omega) (by omega), tmd (by omega), tmd (by omega), tmd (by omega)]
    unfold partsM; rw [if_pos hp, Int.ediv_one, Int.emod_eq_of_lt (a := p / 1000000) (by omega) (by omega)]

theorem decD {n : Nat} (h : n < 1000) : Go.Lib.decDigits n = dg n := by
  unfold dg
  by_cases h10 : n < 10
  · rw [Go.Lib.decDigits, dif_pos h10, if_pos h10]
  · rw [Go.Lib.decDigits, dif_neg h10, if_neg h10]
    by_cases h100 : n < 100
    · rw [if_pos h100, Go.Lib.decDigits, dif_pos (show n / 10 < 10 by omega)]; rfl
    · rw [if_neg h100, Go.Lib.decDigits, dif_neg (show ¬ n / 10 < 10 by omega), Go.Lib.decDigits, dif_pos (show n / 10 / 10 < 10 by omega), show n / 10 / 10 = n / 100 by omega]; rfl

theorem tabIs {M : Mem} {w : World} (h : Tabs Tryd.prog M w) : Lib.TabIs Tryd.prog w "internal/strconv.uint64pow10" .u64 Lib.pow10Tab := by
  have hg : (Tryd.prog.globalNamed "internal/strconv.uint64pow10").isSome = true := by kernel_rfl
  obtain ⟨g, hg⟩ := Option.isSome_iff_exists.1 hg
  obtain ⟨_, T, fr, hc⟩ := h.pow g hg
  unfold Lib.TabIs World.var?
  rw [hg]
  simp only [Option.bind_some, hc]
  congr 1

theorem itoa_spec {n : Int} (h0 : 0 ≤ n) (h1 : n < 1000) (H : List AObj) : ASpec Tryd.prog 86 [.int .i64 n] H (fun r H' => r = .str (B (dg n.toNat)) ∧ H' = H) := by
  refine ASpec.of_calls fun M loc w vs ht hv => ?_
  obtain ⟨hs, hv⟩ := hv
  have hv0 := hv 0 (by simp)
  have hvs : vs = #[vs[0]'(by simp at hs; omega)] := by
    apply Array.ext
    · simpa using hs
    · intro i h1 h2
      have : i < 1 := by simpa using h2
      match i, this with
      | 0, _ => rfl
  rw [hvs]
  simp only [List.getElem_cons_zero] at hv0
  generalize vs[0]'(by simp at hs; omega) = v0 at hv0
  cases hv0
  refine (Tryd.strconv_Itoa n (by omega) (by omega) w (tabIs ht)).mono fun e w' ⟨he, k, os, hw⟩ => ?_
  refine ⟨_, he, ?_, ?_⟩
  · have : Go.Lib.itoa n = dg n.toNat := by unfold Go.Lib.itoa; rw [if_neg (by omega), decD (by omega)]
    rw [this]
    exact .str _
  · subst hw
    refine ⟨by simp [Sort.grow, World.drewN], fun b hb => ?_, rfl, rfl, rfl⟩
    simp only [Sort.grow, World.drewN]
    rw [Array.getElem?_append_left hb]

theorem txt_le (a b c : Nat) : (dg a).length + (dg b).length + (dg c).length ≤ 9 := by
  have h1 := dg_len a; have h2 := dg_len b; have h3 := dg_len c; omega

theorem cat3 (a b c : List UInt8) : B a ++ ⟨#[46]⟩ ++ B b ++ ⟨#[46]⟩ ++ B c = B (a ++ 46 :: (b ++ 46 :: c)) := by
  rw [show (⟨#[46]⟩ : ByteArray) = B [46] from rfl, B_append, B_append, B_append, B_append]; simp

theorem text_spec (p : Int) (H : List AObj) : ASpec Tryd.prog 121 [.int .i64 p] H (fun r H' => r = .str (B (textM p)) ∧ H' = H) := by
  have e3 : (0 : Int) ≤ 0 ∧ (0 : Int) < 3 := by decide
  have e4 : (0 : Int) ≤ 1 ∧ (1 : Int) < 3 := by decide
  have e5 : (0 : Int) ≤ 2 ∧ (2 : Int) < 3 := by decide
  refine pd (.str (B (textM p))) (fun _ => rfl) (fun _ => rfl) H (s121 _ _ (ASpec.call (parts_spec p _) (Les.refl _) ⟨_, rfl, rfl, condBn (fun h => ?_) fun h => ?_⟩))
  · have : ¬ (0 ≤ p ∧ p < 1000000000) := by intro hp; unfold partsM at h; rw [if_pos hp] at h; cases h
    unfold textM; rw [if_neg this]
  · have hp : 0 ≤ p ∧ p < 1000000000 := by
      by_cases hp : 0 ≤ p ∧ p < 1000000000
      · exact hp
      · unfold partsM at h; rw [if_neg hp] at h; cases h
    have hM : partsM p = ((p / 1000000, p / 1000 % 1000, p % 1000), true) := by unfold partsM; rw [if_pos hp]
    rw [hM]
    have ht := txt_le (p / 1000000).toNat (p / 1000 % 1000).toNat (p % 1000).toNat
    refine needJ e3 (needJ e4 (needJ e5 ?_))
    refine ASpec.call (itoa_spec (n := p / 1000000) (by omega) (by omega) _) (Les.refl _) ⟨_, rfl, rfl, ⟨rfl, rfl⟩, ⟨rfl, rfl⟩, needJ ?_ ?_⟩
    · rw [B_size]; omega
    refine ASpec.call (itoa_spec (n := p / 1000 % 1000) (by omega) (by omega) _) (Les.refl _) ⟨_, rfl, rfl, ⟨rfl, rfl⟩, needJ ?_ (needJ ?_ ?_)⟩
    · rw [show (⟨#[46]⟩ : ByteArray) = B [46] from rfl, B_append, B_size, B_size]; simp; omega
    · rw [show (⟨#[46]⟩ : ByteArray) = B [46] from rfl, B_append, B_append, B_size]; simp; omega
    refine ASpec.call (itoa_spec (n := p % 1000) (by omega) (by omega) _) (Les.refl _) ⟨_, rfl, rfl, needJ ?_ ?_⟩
    · rw [show (⟨#[46]⟩ : ByteArray) = B [46] from rfl, B_append, B_append, B_append, B_size, B_size]; simp; omega
    · rw [cat3]
      unfold textM text3; rw [if_pos hp]

/-! ### strings.Join -/
theorem join_spec (o : List (List UInt8)) (sep : List UInt8) (hN : o.length ≤ 1000000) (hlen : (Go.Lib.join o sep).length ≤ 140737488355328) (H : List AObj) :
    ASpec Tryd.prog 118 [.sl 1 (.map T.encL [] o) .none, .str (B sep)] H (fun r H' => r = .str (B (Go.Lib.join o sep)) ∧ H' = H) := by
  refine ASpec.of_calls fun M loc w vs ht hv => ?_
  obtain ⟨hs, hv⟩ := hv
  have hv0 := hv 0 (by simp)
  have hv1 := hv 1 (by simp)
  have hvs : vs = #[vs[0]'(by simp at hs; omega), vs[1]'(by simp at hs; omega)] := by
    apply Array.ext
    · simpa using hs
    · intro i h1 h2
      have : i < 2 := by simpa using h2
      match i, this with
      | 0, _ | 1, _ => rfl
  rw [hvs]
  simp only [List.getElem_cons_zero, List.getElem_cons_succ] at hv0 hv1
  generalize vs[0]'(by simp at hs; omega) = v0 at hv0
  generalize vs[1]'(by simp at hs; omega) = v1 at hv1
  have e1 : v1 = .string (B sep) := by cases hv1; rfl
  subst e1
  have fin : ∀ {e : Ending} {w' : World}, e = .returned (.string ⟨(Go.Lib.join o sep).toArray⟩) → Below w.heap.size w w' → ∃ v, e = .returned v ∧ VRel M w' loc (.str (B (Go.Lib.join o sep))) v ∧ Grown w w' := fun he hb =>
    ⟨_, he, .str _, hb.size, hb.block, hb.os, hb.tape, hb.output⟩
  have none : o = [] → ∀ a, Calls Tryd.prog 118 #[.slice a 0 0, .string (B sep)] w fun e w' => ∃ v, e = .returned v ∧ VRel M w' loc (.str (B (Go.Lib.join o sep))) v ∧ Grown w w' := fun ho a =>
    (Tryd.strings_Join_none a 0 (B sep) w).mono fun e w' ⟨he, hw⟩ => by
      subst ho
      exact fin (by rw [he]; rfl) (hw ▸ Below.refl _ _)
  cases hv0 with
  | slnil _ _ _ hn _ => exact none (by simpa [Ab.Seq.toList] using hn) _
  | slz _ _ _ a hn _ _ => exact none (by simpa [Ab.Seq.toList] using hn) _
  | sl _ _ _ b of cap vals hz h1 h2 hcap hnil hfull htok =>
    by_cases ho : o = []
    · subst ho
      refine (Tryd.strings_Join_none (some ⟨b, of, Option.none⟩) cap (B sep) w).mono fun e w' ⟨he, hw⟩ => fin (by rw [he]; rfl) (hw ▸ Below.refl _ _)
    have hL : (Ab.Seq.map T.encL [] o).toList.length = o.length := by simp [Ab.Seq.toList]
    have hcell : ∀ (j : Nat) x, (o.map B)[j]? = some x → w.cell? ⟨b, of + j, Option.none⟩ = some (.string x) := by
      intro j x hx
      have hj : j < o.length := by
        have := (List.getElem?_eq_some_iff.1 hx).1
        simpa using this
      have hi := h1 j 0 (by rw [hL]; exact hj) (by omega)
      have hr := h2 j 0 (by rw [hL]; exact hj) (by simp [Ab.Seq.toList, T.encL])
      have e2 : ((Ab.Seq.map T.encL [] o).toList[j]'(by rw [hL]; exact hj))[0]'(by simp [Ab.Seq.toList, T.encL]) = .str (B o[j]) := by simp [Ab.Seq.toList, T.encL]
      rw [e2] at hr
      have e3 : vals j 0 = .string (B o[j]) := by
        generalize vals j 0 = v at hr
        cases hr; rfl
      have e4 : x = B o[j] := by
        rw [List.getElem?_map, List.getElem?_eq_getElem hj] at hx
        exact (Option.some.inj hx).symm
      rw [e3] at hi
      subst e4
      have := hi.1
      simpa using this
    have hbk : b < w.heap.size := by
      have hp : 0 < o.length := List.length_pos_iff.2 ho
      have := hcell 0 (B o[0]) (by simp [List.getElem?_eq_getElem hp])
      simp only [World.cell?] at this
      cases hb : w.heap[b]? with
      | none => rw [hb] at this; cases this
      | some q => exact (Array.getElem?_eq_some_iff.1 hb).1
    have key := Tryd.strings_Join b of cap (o.map B) (B sep) w hcell hbk (by simp; omega) (by simp; rw [hL] at hcap; exact hcap) (by
      have : (o.map B).map (fun x : ByteArray => x.data.toList) = o := by simp [Function.comp_def]
      rw [this]; exact hlen)
    have e5 : (o.map B).map (fun x : ByteArray => x.data.toList) = o := by simp [Function.comp_def]
    rw [e5] at key
    rw [hL]
    rw [List.length_map] at key
    exact key.mono fun e w' ⟨he, hb⟩ => fin he hb
end D
end

section
/- Answers: which may be, which are alike, how they are written; the program's way and the document's. -/

set_option linter.unusedVariables false
set_option linter.unusedSimpArgs false
set_option linter.unusedSectionVars false
set_option maxRecDepth 100000
open Go Go.Ab Go.Proofs V S T C
namespace An
open E (PA pa)
open Dk (Nm fitP chkF chk_spec rchk_spec rsameP_spec large_spec largeK chk_fit getD_mem nameEq)
open Dk (sepP join_cons)
open Pc (slK slKLe)
open Pr (slP checkM okS check_spec rcheck_spec rsame_spec)
open Ve (textM dg dg_len)
open D (fitB pd itoa_spec text_spec join_spec txt_le cat3)
noncomputable abbrev sl1 (l : List UInt8) : AV := .sl 1 (.map encB 0 l) .none
noncomputable abbrev agA (a : Ans) : AV := .agg (encAn a)

def txt (p : Pk) : Nm := p.1 ++ 32 :: textM p.2
theorem cat2 (a b : List UInt8) : ({ data := List.toArray a } : ByteArray) ++ { data := #[(32 : UInt8)] } ++ B b = B (a ++ 32 :: b) := by
  show B a ++ B [32] ++ B b = _
  rw [D.B_append, D.B_append]; simp
theorem textM_len (v : Int) : (textM v).length ≤ 11 := by
  unfold Ve.textM
  split
  · exact (Ve.text3_len _ _ _).2
  · simp

/-! ### the document's digits -/
theorem tdv {n : Int} {k : Int} (h : 0 ≤ n) : Int.tdiv n k = n / k := Int.tdiv_eq_ediv_of_nonneg h
theorem tmd {n : Int} {k : Int} (h : 0 ≤ n) : Int.tmod n k = n % k := Int.tmod_eq_emod_of_nonneg h
theorem allBytes_one {n : Int} : allBytes (.raw [[.int .u8 n]]) := by
  intro c hc
  simp [Ab.Seq.toList] at hc
  exact ⟨n, hc⟩
theorem bytesOf_one {x : Int} : bytesOf (.raw [[.int .u8 x]]) = B [UInt8.ofNat x.toNat] := rfl
theorem rfit_spec (p : Int) (H : List AObj) : ASpec Tryd.prog 71 [.int .i64 p] H (fun r H' => r = .bool (fitB p) ∧ H' = H) := by
  refine pd (.bool (fitB p)) (fun _ => rfl) (fun _ => rfl) H (C.s71 _ _ (condD (fun h => ?_) fun h => ?_))
  · unfold fitB
    congr 1
    rw [decide_eq_decide]; omega
  · unfold fitB
    rw [decide_eq_false (by omega)]
theorem digits_spec {n : Int} (h0 : 0 ≤ n) (h1 : n < 1000) (H : List AObj) : ASpec Tryd.prog 89 [.int .i64 n] H (fun r H' => r = .str (B (dg n.toNat)) ∧ H' = H) := by
  have hb : ∀ n : Int, 0 ≤ n → bytesOf (.raw [[.int .u8 (IntKind.wrap .u8 (IntKind.wrap .i64 (48 + Int.tmod n 10)))]]) = B [UInt8.ofNat (48 + n.toNat % 10)] := by
    intro n h
    rw [tmd h, wrap64 (by omega) (by omega), wrapU8, Int.emod_eq_of_lt (by omega) (by omega), bytesOf_one]
    congr 2; congr 1; omega
  have k1 : ∀ n : Int, 0 ≤ n → n < 10 → ∀ H, ASpec Tryd.prog 89 [.int .i64 n] H (fun r H' => r = .str (B (dg n.toNat)) ∧ H' = H) := by
    intro n h0 h1 H
    refine pd (.str (B (dg n.toNat))) (fun _ => rfl) (fun _ => rfl) H (s89 _ _ (needJ (by decide) (needJ allBytes_one (condD (fun _ => ?_) fun h => absurd h1 h))))
    rw [hb n h0]
    unfold dg; rw [if_pos (by omega), show n.toNat % 10 = n.toNat by omega]
  have k2 : ∀ n : Int, 0 ≤ n → n < 100 → ∀ H, ASpec Tryd.prog 89 [.int .i64 n] H (fun r H' => r = .str (B (dg n.toNat)) ∧ H' = H) := by
    intro n h0 h1 H
    by_cases h10 : n < 10
    · exact k1 n h0 h10 H
    refine pd (.str (B (dg n.toNat))) (fun _ => rfl) (fun _ => rfl) H (s89 _ _ (needJ (by decide) (needJ allBytes_one (condD (fun h => absurd h h10) fun h => needJ (by decide) ?_))))
    rw [tdv h0, wrap64 (by omega) (by omega)]
    refine ASpec.call (k1 (n / 10) (by omega) (by omega) _) (Les.refl _) ⟨_, rfl, rfl, ?_⟩
    rw [hb n h0, D.B_append]
    refine needJ ?_ ?_
    · rw [B_size, B_size]; have := (dg_len (n / 10).toNat); simp; omega
    · congr 2
      unfold dg; rw [if_pos (by omega), if_neg (by omega), if_pos (by omega), show (n / 10).toNat = n.toNat / 10 by omega]; rfl
  by_cases h100 : n < 100
  · exact k2 n h0 h100 H
  refine pd (.str (B (dg n.toNat))) (fun _ => rfl) (fun _ => rfl) H (s89 _ _ (needJ (by decide) (needJ allBytes_one (condD (fun h => by omega) fun h => needJ (by decide) ?_))))
  rw [tdv h0, wrap64 (by omega) (by omega)]
  refine ASpec.call (k2 (n / 10) (by omega) (by omega) _) (Les.refl _) ⟨_, rfl, rfl, ?_⟩
  rw [hb n h0, D.B_append]
  refine needJ ?_ ?_
  · rw [B_size, B_size]; have := (dg_len (n / 10).toNat); simp; omega
  · congr 2
    unfold dg; rw [if_neg (by omega), if_pos (by omega), if_neg (by omega), if_neg (by omega), show (n / 10).toNat = n.toNat / 10 by omega, show n.toNat / 10 / 10 = n.toNat / 100 by omega]; rfl
theorem rtext_spec (p : Int) (H : List AObj) : ASpec Tryd.prog 134 [.int .i64 p] H (fun r H' => r = .str (B (textM p)) ∧ H' = H) := by
  refine pd (.str (B (textM p))) (fun _ => rfl) (fun _ => rfl) H (s134 _ _ (ASpec.call (rfit_spec p _) (Les.refl _) ⟨_, rfl, rfl, condBn (fun h => ?_) fun h => ?_⟩))
  · have : ¬ (0 ≤ p ∧ p < 1000000000) := by simpa [fitB] using h
    unfold textM; rw [if_neg this]
  · have hp : 0 ≤ p ∧ p < 1000000000 := by simpa [fitB] using h
    have ht := txt_le (p / 1000000).toNat (p / 1000 % 1000).toNat (p % 1000).toNat
    refine needJ (by decide) ?_
    rw [tdv hp.1, tdv hp.1, wrap64 (x := p / 1000000) (by omega) (by omega), wrap64 (x := p / 1000) (by omega) (by omega), tmd (by omega), tmd (by omega)]
    refine ASpec.call (digits_spec (n := p / 1000000) (by omega) (by omega) _) (Les.refl _) ⟨_, rfl, rfl, needJ ?_ (needJ (by decide) (needJ (by decide) ?_))⟩
    · rw [B_size]; omega
    refine ASpec.call (digits_spec (n := p / 1000 % 1000) (by omega) (by omega) _) (Les.refl _) ⟨_, rfl, rfl, needJ ?_ (needJ ?_ (needJ (by decide) ?_))⟩
    · rw [show (⟨#[46]⟩ : ByteArray) = B [46] from rfl, D.B_append, B_size, B_size]; simp; omega
    · rw [show (⟨#[46]⟩ : ByteArray) = B [46] from rfl, D.B_append, D.B_append, B_size]; simp; omega
    refine ASpec.call (digits_spec (n := p % 1000) (by omega) (by omega) _) (Les.refl _) ⟨_, rfl, rfl, needJ ?_ ?_⟩
    · rw [show (⟨#[46]⟩ : ByteArray) = B [46] from rfl, D.B_append, D.B_append, D.B_append, B_size, B_size]; simp; omega
    · rw [cat3]
      unfold textM Ve.text3; rw [if_pos hp]

/-! ### picks' texts -/
theorem fitP_parts {p : Pk} (h : fitP p = true) : fitM p.1 = true ∧ 0 ≤ p.2 ∧ p.2 < 1000000000 := by
  unfold Dk.fitP at h
  rw [Bool.and_eq_true] at h
  exact ⟨h.1, of_decide_eq_true h.2⟩
theorem txt_len {p : Pk} (h : fitP p = true) : (txt p).length ≤ 36 := by
  have h1 := fitM_short (fitP_parts h).1
  have h2 := textM_len p.2
  simp [An.txt]; omega
theorem join_le : ∀ (ps : List Nm), (∀ p ∈ ps, p.length ≤ 36) → (Go.Lib.join ps sepP).length ≤ ps.length * 38
  | [], _ => by simp [Go.Lib.join_nil]
  | [p], h => by rw [Go.Lib.join_one]; have := h p (by simp); simp; omega
  | p :: q :: r, h => by
    rw [join_cons]
    have h1 := h p (by simp)
    have h2 := join_le (q :: r) fun x hx => h x (by simp [hx])
    simp at h2 ⊢; omega
theorem join_snoc : ∀ (ps : List Nm) (x : Nm), ps ≠ [] → Go.Lib.join (ps ++ [x]) sepP = Go.Lib.join ps sepP ++ 44 :: 32 :: x
  | [], _, h => (h rfl).elim
  | [p], x, _ => by rw [List.singleton_append, join_cons, Go.Lib.join_one, Go.Lib.join_one]
  | p :: q :: r, x, _ => by
    have := join_snoc (q :: r) x (by simp)
    simp only [List.cons_append] at this ⊢
    rw [join_cons, join_cons, this]; simp
def nothing : List UInt8 := [110, 111, 116, 104, 105, 110, 103]
noncomputable def picksT (s : List Pk) : List UInt8 := if s = [] then nothing else Go.Lib.join (s.map txt) sepP
section
variable {s : List Pk} (hl : s.length ≤ 1100) (hc : chkF none s = true)
include hl hc
theorem joins_len (i : Nat) : (Go.Lib.join ((s.take i).map txt) sepP).length ≤ 41800 := by
  have := join_le ((s.take i).map txt) (fun x hx => by
    obtain ⟨p, hp, rfl⟩ := List.mem_map.1 hx
    exact txt_len (chk_fit hc p (List.mem_of_mem_take hp)))
  rw [List.length_map, List.length_take] at this
  omega
theorem name_le {p : Pk} (hp : p ∈ s) : p.1.length ≤ 24 := fitM_short (fitP_parts (chk_fit hc p hp)).1
theorem show7 : ∀ (m i : Nat) (o : List Nm), m + i = s.length → o = (s.take i).map txt →
    AWP Tryd.prog 33 0 c85_7 [(3, .sl 1 (.map encL [] o) (.tok 0)), (14, slK s), (15, .int .i64 s.length), (16, .int .i64 i)] [.tok] (q85_2 0 (PA (.str (B (Go.Lib.join (s.map txt) sepP))))) := by
  intro m
  induction m with
  | zero =>
    intro i o hm ho
    have hj := joins_len hl hc s.length
    rw [List.take_of_length_le (Nat.le_refl _)] at hj
    rw [List.take_of_length_le (by omega)] at ho
    subst ho
    refine v85_7 _ _ _ _ _ _ (condD (fun hc => by omega) fun _ => ?_)
    refine ASpec.call (join_spec (s.map txt) [44, 32] (by simp; omega) (Nat.le_trans hj (by omega)) _) ⟨Le.sl (s' := .map encL [] (s.map txt)) rfl (.inl rfl) (.inr rfl), Le.refl _, trivial⟩ ⟨_, rfl, rfl, pa (Le.refl _)⟩
  | succ m ih =>
    intro i o hm ho
    have hp := name_le hl hc (getD_mem (d := noPk) (show i < s.length by omega))
    have hti : s.take (i + 1) = s.take i ++ [s.getD i noPk] := by
      rw [List.take_add_one, List.getD_eq_getElem?_getD, List.getElem?_eq_getElem (show i < s.length by omega)]; rfl
    have hol : o.length ≤ 1100 := by rw [ho]; simp; omega
    refine v85_7 _ _ _ _ _ _ (condD (fun hc => needJ ⟨by omega, by omega⟩ ?_) fun hc => by omega)
    rw [Int.toNat_natCast, succ64 (by omega)]
    generalize s.getD i noPk = p at hp hti ⊢
    have ht := textM_len p.2
    refine needJ (by rw [B_size]; omega) (ASpec.call (text_spec p.2 _) (Les.refl _) ⟨_, rfl, rfl, ⟨rfl, rfl⟩, needJ ?_ (needJ (by omega) ?_)⟩)
    · have e : (({ data := List.toArray p.1 } : ByteArray) ++ { data := #[(32 : UInt8)] }).size = p.1.length + 1 := by
        show (B p.1 ++ B [32]).size = _
        rw [D.B_append, B_size]; simp
      rw [e]
      have e2 : (D.B (textM p.2)).size = (textM p.2).length := by simp [ByteArray.size]
      rw [e2]; omega
    · rw [cat2]
      refine AWP.shape [2] [(3, .sl 1 (.map encL [] (o ++ [txt p])) (.tok 0)), (14, slK s), (15, .int .i64 s.length), (16, .int .i64 (i + 1 : Nat))] [.tok] (Sel.mk0 (by decide) ⟨rfl, trivial⟩)
        ⟨rfl, leAppE (Les.refl _), rfl, slKLe _ _, rfl, Le.refl _, rfl, Le.refl _, trivial⟩ (ih (i + 1) _ (by omega) ?_)
      rw [hti, List.map_append, ← ho]; rfl
theorem show_spec (H : List AObj) : ASpec Tryd.prog 85 [slK s] H (fun r H' => r = .str (B (picksT s)) ∧ H' = H) := by
  have hn : ∀ p ∈ s, p.1.length ≤ 10 * big := fun p hp => by
    have := name_le hl hc hp
    unfold big; omega
  have k : ASpec Tryd.prog 85 [slK s] [] (fun r H' => r = .str (B (picksT s)) ∧ H' = []) := by
    refine ASpec.sel (s85 _ _ (ASpec.call (chk_spec (s := s) (by omega) hn _) (Les.refl _) ⟨_, rfl, rfl, ?_⟩))
    rw [hc]
    refine condBn (fun h => by cases h) fun _ => condE (fun h => ?_) fun h => v85_5 _ _ _ ?_
    · have : s = [] := List.length_eq_zero_iff.1 (by omega)
      unfold picksT
      rw [if_pos this]
      exact pa (Le.refl _)
    · have hne : ¬ s = [] := fun e => h (by rw [e]; rfl)
      have key := show7 hl hc s.length 0 [] (by omega) (by simp)
      unfold picksT
      rw [if_neg hne]
      refine AWP.re (ReSt.tok (k := 3) (q' := .map encL [] []) (sz' := 1) (s2 := [(3, .sl 1 (.map encL [] []) (.tok 0)), (14, slK s), (15, .int .i64 s.length), (16, .int .i64 (0 : Nat))]) rfl (.inl rfl) rfl (.inr rfl) (fun d hd => ?_) rfl) key
      simp only [Ab.get]
      have e : Nat.beq 3 d = false := by
        cases hx : Nat.beq 3 d with
        | false => rfl
        | true => exact absurd (Nat.eq_of_beq_eq_true hx).symm hd
      rw [e]; rfl
  exact ASpec.pureH H k _ _ rfl rfl

/-- what is written, so far -/
noncomputable def soFar (s : List Pk) (i : Nat) : List UInt8 := Go.Lib.join ((s.take i).map txt) sepP
theorem rshow7 : ∀ (m i : Nat), m + i = s.length →
    AWP Tryd.prog 37 0 c88_7 [(0, slK s), (3, .str (B (soFar s i))), (4, .int .i64 i)] [] (q88_2 0 (PA (.str (B (soFar s s.length))))) := by
  intro m
  induction m with
  | zero =>
    intro i hm
    have : i = s.length := by omega
    subst this
    exact v88_7 _ _ _ _ _ (condD (fun hc => by omega) fun _ => pa (Le.refl _))
  | succ m ih =>
    intro i hm
    have hp := name_le hl hc (getD_mem (d := noPk) (show i < s.length by omega))
    have hj : (soFar s i).length ≤ 41800 := joins_len hl hc i
    have hti : s.take (i + 1) = s.take i ++ [s.getD i noPk] := by
      rw [List.take_add_one, List.getD_eq_getElem?_getD, List.getElem?_eq_getElem (show i < s.length by omega)]; rfl
    have nxt : ∀ t : List UInt8, t.length ≤ 41802 → t ++ txt (s.getD i noPk) = soFar s (i + 1) →
        AWP Tryd.prog 37 0 c88_11 [(0, slK s), (3, .str (B t)), (4, .int .i64 i)] [] (q88_5 0 (PA (.str (B (soFar s s.length))))) := by
      intro t htl he
      refine v88_11 _ _ _ _ _ (needJ ⟨by omega, by omega⟩ ?_)
      rw [Int.toNat_natCast, succ64 (by omega)]
      generalize s.getD i noPk = p at hp he ⊢
      have ht := textM_len p.2
      refine needJ (by rw [B_size, B_size]; omega) (needJ ?_ (needJ ⟨by omega, by omega⟩ ?_))
      · rw [D.B_append, B_size]; simp; omega
      refine ASpec.call (rtext_spec p.2 _) (Les.refl _) ⟨_, rfl, rfl, ⟨rfl, rfl⟩, needJ ?_ ?_⟩
      · rw [show (⟨#[32]⟩ : ByteArray) = B [32] from rfl, D.B_append, D.B_append, B_size, B_size]; simp; omega
      · have e : B t ++ B p.1 ++ ⟨#[32]⟩ ++ B (textM p.2) = B (soFar s (i + 1)) := by
          rw [show (⟨#[32]⟩ : ByteArray) = B [32] from rfl, D.B_append, D.B_append, D.B_append, ← he]
          simp [An.txt]
        rw [e]
        exact ih (i + 1) (by omega)
    refine v88_7 _ _ _ _ _ (condD (fun _ => condD (fun hi => needJ ?_ ?_) fun hi => ?_) fun hc => by omega)
    · rw [B_size]; omega
    · rw [show (⟨#[44, 32]⟩ : ByteArray) = B [44, 32] from rfl, D.B_append]
      refine nxt _ (by simp; omega) ?_
      unfold soFar
      rw [hti, List.map_append, List.map_singleton, join_snoc _ _ (by
        intro e
        have := congrArg List.length e
        rw [List.length_map, List.length_take, List.length_nil] at this
        omega)]
      simp
    · have : i = 0 := by omega
      subst this
      refine nxt _ (by omega) ?_
      unfold soFar
      rw [hti]
      simp [Go.Lib.join_nil, Go.Lib.join_one]
theorem rshow_spec (H : List AObj) : ASpec Tryd.prog 88 [slK s] H (fun r H' => r = .str (B (picksT s)) ∧ H' = H) := by
  have hn : ∀ p ∈ s, p.1.length ≤ 10 * big := fun p hp => by
    have := name_le hl hc hp
    unfold big; omega
  have k : ASpec Tryd.prog 88 [slK s] [] (fun r H' => r = .str (B (picksT s)) ∧ H' = []) := by
    refine ASpec.sel (s88 _ _ (ASpec.call (rchk_spec (s := s) (by omega) _) (Les.refl _) ⟨_, rfl, rfl, ?_⟩))
    rw [hc]
    refine condBn (fun h => by cases h) fun _ => condE (fun h => ?_) fun h => ?_
    · have : s = [] := List.length_eq_zero_iff.1 (by omega)
      unfold picksT
      rw [if_pos this]
      exact pa (Le.refl _)
    · have hne : ¬ s = [] := fun e => h (by rw [e]; rfl)
      have key := rshow7 hl hc s.length 0 (by omega)
      have e1 : soFar s s.length = picksT s := by
        unfold soFar picksT
        rw [if_neg hne, List.take_of_length_le (Nat.le_refl _)]
      have e0 : soFar s 0 = [] := by unfold soFar; simp [Go.Lib.join_nil]
      rw [e1, e0] at key
      exact key
  exact ASpec.pureH H k _ _ rfl rfl
end
end An
end

section
/- AnswerTells: the law's function returns true. -/

set_option linter.unusedVariables false
set_option linter.unusedSimpArgs false
set_option linter.unusedSectionVars false
set_option maxRecDepth 100000
open Go Go.Ab Go.Proofs V S T C
namespace An
open E (PA pa)
open Dk (Nm fitP chkF chk_spec rchk_spec rsameP_spec large_spec largeK chk_fit getD_mem nameEq)
open Pc (slK slKLe)
open Pr (slP checkM okS check_spec rcheck_spec rsame_spec)
open Ve (textM dg dg_len)
open D (itoa_spec)
/-- what an answer is like that is looked at -/
structure OkA (a : Ans) : Prop where
  pl : a.2.1.length ≤ 1100
  pn : a.2.1.length ≤ 1000 → ∀ p ∈ a.2.1, p.1.length ≤ 10 * big
  sl : a.2.2.length ≤ 300
  sk : ∀ x ∈ a.2.2, okS x

noncomputable def CA (a : Ans) : Bool :=
  if a.1 = 1 then decide (a.2.2.length = 0) && (decide (a.2.1.length ≤ 1000) && chkF none a.2.1)
  else if a.1 = 2 then decide (a.2.1.length = 0) && checkM a.2.2
  else if a.1 = 3 ∨ a.1 = 4 ∨ a.1 = 5 then decide (a.2.1.length = 0) && decide (a.2.2.length = 0) else false

theorem eqZ {n : Nat} : ((n : Int) == 0) = decide (n = 0) := by
  by_cases h : n = 0
  · subst h; rfl
  · rw [decide_eq_false h]; exact beq_eq_false_iff_ne.2 (by omega)
section
variable {a : Ans} (ok : OkA a)
include ok
theorem checkA_spec (H : List AObj) : ASpec Tryd.prog 40 [agA a] H (fun r H' => r = .bool (CA a) ∧ H' = H) := by
  have h1 := ok.pl
  have h2 := ok.sl
  have k : ASpec Tryd.prog 40 [agA a] [] (fun r H' => r = .bool (CA a) ∧ H' = []) := by
    refine ASpec.sel (s40 a (PA (.bool (CA a))) ?_)
    unfold CA
    refine condE (fun e1 => ?_) fun e1 => ?_
    · rw [if_pos e1]
      refine condE (fun e2 => condD (fun e3 => ?_) fun e3 => pa ?_) fun e2 => pa ?_
      · refine ASpec.call (chk_spec (by omega) (ok.pn (by omega)) _) (Les.refl _) ⟨_, rfl, rfl, pa ?_⟩
        rw [decide_eq_true (show a.2.2.length = 0 by omega), decide_eq_true (show a.2.1.length ≤ 1000 by omega)]
        exact Le.refl _
      · rw [decide_eq_false (show ¬ a.2.1.length ≤ 1000 by omega), Bool.false_and, Bool.and_false]; exact Le.refl _
      · rw [decide_eq_false (show ¬ a.2.2.length = 0 by omega), Bool.false_and]; exact Le.refl _
    · rw [if_neg e1]
      refine condE (fun e2 => ?_) fun e2 => ?_
      · rw [if_pos e2]
        refine condE (fun e3 => ?_) fun e3 => pa ?_
        · refine ASpec.call (check_spec a.2.2 (by unfold maxLen; omega) ok.sk _) (Les.refl _) ⟨_, rfl, rfl, pa ?_⟩
          rw [decide_eq_true (show a.2.1.length = 0 by omega)]; exact Le.refl _
        · rw [decide_eq_false (show ¬ a.2.1.length = 0 by omega), Bool.false_and]; exact Le.refl _
      · rw [if_neg e2]
        have leaf : (a.1 = 3 ∨ a.1 = 4 ∨ a.1 = 5) → condP (((a.2.1.length : Int)) == 0) (PA (.bool (if a.1 = 3 ∨ a.1 = 4 ∨ a.1 = 5 then decide (a.2.1.length = 0) && decide (a.2.2.length = 0) else false)) (.bool (((a.2.2.length : Int)) == 0)) [.cells (encAn a)])
            (PA (.bool (if a.1 = 3 ∨ a.1 = 4 ∨ a.1 = 5 then decide (a.2.1.length = 0) && decide (a.2.2.length = 0) else false)) (.bool false) [.cells (encAn a)]) := by
          intro h
          rw [if_pos h]
          refine condE (fun e3 => pa ?_) fun e3 => pa ?_
          · rw [decide_eq_true (show a.2.1.length = 0 by omega), eqZ]; exact Le.refl _
          · rw [decide_eq_false (show ¬ a.2.1.length = 0 by omega), Bool.false_and]; exact Le.refl _
        refine condE (fun e3 => condE (fun _ => leaf (.inl e3)) fun h => (h e3).elim) fun e3 => condE (fun e4 => condE (fun _ => leaf (.inr (.inl e4))) fun h => (h e4).elim) fun e4 => condE (fun e5 => leaf (.inr (.inr e5))) fun e5 => pa ?_
        rw [if_neg (by omega)]; exact Le.refl _
  exact ASpec.pureH H k _ _ rfl rfl
theorem rcheckA_spec (H : List AObj) : ASpec Tryd.prog 41 [agA a] H (fun r H' => r = .bool (CA a) ∧ H' = H) := by
  have h1 := ok.pl
  have h2 := ok.sl
  have k : ASpec Tryd.prog 41 [agA a] [] (fun r H' => r = .bool (CA a) ∧ H' = []) := by
    refine ASpec.sel (s41 a (PA (.bool (CA a))) ?_)
    unfold CA
    refine condD (fun e => pa ?_) fun e => condD (fun e2 => pa ?_) fun e2 => ?_
    · rw [if_neg (by omega), if_neg (by omega), if_neg (by omega)]; exact Le.refl _
    · rw [if_neg (by omega), if_neg (by omega), if_neg (by omega)]; exact Le.refl _
    refine ASpec.call (rchk_spec (by omega) _) (Les.refl _) ⟨_, rfl, rfl, ?_⟩
    have nilc : ∀ {s : List Pk}, s.length = 0 → chkF none s = true := fun h => by rw [List.length_eq_zero_iff.1 h]; rfl
    refine condBn (fun hc => pa ?_) fun hc => ?_
    · have hz : ¬ a.2.1.length = 0 := fun h => by rw [nilc h] at hc; cases hc
      split
      · rw [hc, Bool.and_false, Bool.and_false]; exact Le.refl _
      · rw [decide_eq_false hz, Bool.false_and, Bool.false_and]
        split
        · exact Le.refl _
        · split <;> exact Le.refl _
    refine condD (fun e3 => pa ?_) fun e3 => ?_
    · split
      · rw [decide_eq_false (show ¬ a.2.1.length ≤ 1000 by omega), Bool.false_and, Bool.and_false]; exact Le.refl _
      · rw [decide_eq_false (show ¬ a.2.1.length = 0 by omega), Bool.false_and, Bool.false_and]
        split
        · exact Le.refl _
        · split <;> exact Le.refl _
    have two : ∀ {z : Bool}, a.1 = 2 → checkM a.2.2 = z → ∀ H, ASpec Tryd.prog 81 [slP a.2.2] H (fun r H' => ∃ x : Bool, r = .bool x ∧ H' = H ∧ PA (.bool z) (.bool x) H) := fun h2 hz H =>
      ASpec.call (rcheck_spec a.2.2 (by unfold maxLen; omega) ok.sk _) (Les.refl _) ⟨_, rfl, rfl, pa (by rw [hz]; exact Le.refl _)⟩
    refine condNe (fun e4 => ?_) fun e4 => ?_
    · rw [if_neg e4]
      refine condD (fun e5 => pa ?_) fun e5 => ?_
      · rw [decide_eq_false (show ¬ a.2.1.length = 0 by omega), Bool.false_and, Bool.false_and]
        split
        · exact Le.refl _
        · split <;> exact Le.refl _
      · rw [decide_eq_true (show a.2.1.length = 0 by omega), Bool.true_and, Bool.true_and]
        refine condE (fun e6 => ?_) fun e6 => pa ?_
        · rw [if_pos e6]; exact two e6 rfl _
        · rw [if_neg e6, if_pos (by omega), eqZ]; exact Le.refl _
    · rw [if_pos e4]
      refine condE (fun e6 => by omega) fun e6 => pa ?_
      rw [decide_eq_true (show a.2.1.length ≤ 1000 by omega), hc, eqZ]
      simp only [Bool.and_true]; exact Le.refl _
  exact ASpec.pureH H k _ _ rfl rfl
end

/-! ### Same -/
theorem eqP4 {a b : List Pk} {c : Bool} (hl : a.length ≤ 2000000) (he : a.length = b.length) : ∀ (m i : Nat), m + i = a.length → decide (a.drop i = b.drop i) = c →
    AWP Tryd.prog 26 0 c82_4 [(0, slK a), (1, slK b), (12, .int .i64 a.length), (13, .int .i64 i)] [] (q82_2 0 (PA (.bool c))) := by
  intro m
  induction m with
  | zero =>
    intro i hm h
    refine v82_4 _ _ _ _ _ _ (condD (fun hc => by omega) fun _ => pa ?_)
    rw [List.drop_eq_nil_of_le (by omega), List.drop_eq_nil_of_le (by omega)] at h
    rw [← h]; simp; exact Le.refl _
  | succ m ih =>
    intro i hm h
    rw [dropD a noPk i (by omega), dropD b noPk i (by omega), W.cons_dec] at h
    refine v82_4 _ _ _ _ _ _ (condD (fun hc => needJ ⟨by omega, by omega⟩ (needJ ⟨by omega, by omega⟩ ?_)) fun hc => by omega)
    rw [Int.toNat_natCast]
    generalize a.getD i noPk = x at h ⊢
    generalize b.getD i noPk = y at h ⊢
    rw [B_beq]
    have e : (x.1 == y.1 && (x.2 == y.2 && true)) = decide (x = y) := by
      rw [Bool.eq_iff_iff]
      simp only [Bool.and_eq_true, beq_iff_eq, decide_eq_true_eq, Prod.ext_iff, and_true]
    refine condBn (fun h1 => pa ?_) fun h1 => ?_
    · have h2 : decide (x = y) = false := by rw [← e]; simpa using h1
      rw [h2] at h; subst h; exact Le.refl _
    · have h2 : decide (x = y) = true := by rw [← e]; simpa using h1
      rw [h2, Bool.true_and] at h
      rw [succ64 (by omega)]
      exact ih (i + 1) (by omega) h
theorem eqP_spec (a b : List Pk) (hl : a.length ≤ 2000000) (H : List AObj) : ASpec Tryd.prog 82 [slK a, slK b] H (fun r H' => r = .bool (decide (a = b)) ∧ H' = H) := by
  have k : ASpec Tryd.prog 82 [slK a, slK b] [] (fun r H' => r = .bool (decide (a = b)) ∧ H' = []) := by
    refine ASpec.sel (s82 _ _ _ (condNe (fun h => pa ?_) fun h => eqP4 hl (by omega) a.length 0 (by omega) (by simp)))
    rw [decide_eq_false (fun e => h (by rw [e]))]; exact Le.refl _
  exact ASpec.pureH H k _ _ rfl rfl
theorem eqS4 {a b : List St} {c : Bool} (hl : a.length ≤ 2000000) (he : a.length = b.length) : ∀ (m i : Nat), m + i = a.length → decide (a.drop i = b.drop i) = c →
    AWP Tryd.prog 26 0 c83_4 [(0, slP a), (1, slP b), (12, .int .i64 a.length), (13, .int .i64 i)] [] (q83_2 0 (PA (.bool c))) := by
  intro m
  induction m with
  | zero =>
    intro i hm h
    refine v83_4 _ _ _ _ _ _ (condD (fun hc => by omega) fun _ => pa ?_)
    rw [List.drop_eq_nil_of_le (by omega), List.drop_eq_nil_of_le (by omega)] at h
    rw [← h]; simp; exact Le.refl _
  | succ m ih =>
    intro i hm h
    rw [dropD a noSt i (by omega), dropD b noSt i (by omega), W.cons_dec] at h
    refine v83_4 _ _ _ _ _ _ (condD (fun hc => needJ ⟨by omega, by omega⟩ (needJ ⟨by omega, by omega⟩ ?_)) fun hc => by omega)
    rw [Int.toNat_natCast]
    generalize a.getD i noSt = x at h ⊢
    generalize b.getD i noSt = y at h ⊢
    rw [B_beq, B_beq]
    have e : (x.1 == y.1 && (x.2.1 == y.2.1 && (x.2.2.1 == y.2.2.1 && (x.2.2.2.1 == y.2.2.2.1 && (x.2.2.2.2.1 == y.2.2.2.2.1 && (x.2.2.2.2.2 == y.2.2.2.2.2 && true)))))) = decide (x = y) := by
      rw [Bool.eq_iff_iff]
      simp only [Bool.and_eq_true, beq_iff_eq, decide_eq_true_eq, Prod.ext_iff, and_true]
    refine condBn (fun h1 => pa ?_) fun h1 => ?_
    · have h2 : decide (x = y) = false := by rw [← e]; simpa using h1
      rw [h2] at h; subst h; exact Le.refl _
    · have h2 : decide (x = y) = true := by rw [← e]; simpa using h1
      rw [h2, Bool.true_and] at h
      rw [succ64 (by omega)]
      exact ih (i + 1) (by omega) h
theorem eqS_spec (a b : List St) (hl : a.length ≤ 2000000) (H : List AObj) : ASpec Tryd.prog 83 [slP a, slP b] H (fun r H' => r = .bool (decide (a = b)) ∧ H' = H) := by
  have k : ASpec Tryd.prog 83 [slP a, slP b] [] (fun r H' => r = .bool (decide (a = b)) ∧ H' = []) := by
    refine ASpec.sel (s83 _ _ _ (condNe (fun h => pa ?_) fun h => eqS4 hl (by omega) a.length 0 (by omega) (by simp)))
    rw [decide_eq_false (fun e => h (by rw [e]))]; exact Le.refl _
  exact ASpec.pureH H k _ _ rfl rfl
theorem sameE {a b : Ans} : decide (a = b) = (decide (a.1 = b.1) && (decide (a.2.1 = b.2.1) && decide (a.2.2 = b.2.2))) := by
  rw [Bool.eq_iff_iff]
  simp only [Bool.and_eq_true, decide_eq_true_eq, Prod.ext_iff]
section
variable {a b : Ans} (h1 : a.2.1.length ≤ 1100) (h2 : a.2.2.length ≤ 300)
include h1 h2
theorem sameA_spec (H : List AObj) : ASpec Tryd.prog 42 [agA a, agA b] H (fun r H' => r = .bool (decide (a = b)) ∧ H' = H) := by
  have k : ASpec Tryd.prog 42 [agA a, agA b] [] (fun r H' => r = .bool (decide (a = b)) ∧ H' = []) := by
    refine ASpec.sel (s42 a b (PA (.bool (decide (a = b)))) ?_)
    rw [sameE]
    refine condE (fun e => ?_) fun e => pa ?_
    · rw [decide_eq_true e, Bool.true_and]
      refine ASpec.call (eqP_spec _ _ (by omega) _) (Les.refl _) ⟨_, rfl, rfl, condB (fun e2 => ?_) fun e2 => pa ?_⟩
      · rw [e2, Bool.true_and]
        exact ASpec.call (eqS_spec _ _ (by omega) _) (Les.refl _) ⟨_, rfl, rfl, pa (Le.refl _)⟩
      · rw [e2, Bool.false_and]; exact Le.refl _
    · rw [decide_eq_false e, Bool.false_and]; exact Le.refl _
  exact ASpec.pureH H k _ _ rfl rfl
theorem rsameA_spec (H : List AObj) : ASpec Tryd.prog 43 [agA a, agA b] H (fun r H' => r = .bool (decide (a = b)) ∧ H' = H) := by
  have k : ASpec Tryd.prog 43 [agA a, agA b] [] (fun r H' => r = .bool (decide (a = b)) ∧ H' = []) := by
    refine ASpec.sel (s43 a b (PA (.bool (decide (a = b)))) ?_)
    rw [sameE]
    refine condE (fun e => ?_) fun e => pa ?_
    · rw [decide_eq_true e, Bool.true_and]
      refine ASpec.call (rsameP_spec _ _ (by omega) _) (Les.refl _) ⟨_, rfl, rfl, condB (fun e2 => ?_) fun e2 => pa ?_⟩
      · rw [e2, Bool.true_and]
        exact ASpec.call (rsame_spec _ _ (by omega) _) (Les.refl _) ⟨_, rfl, rfl, pa (Le.refl _)⟩
      · rw [e2, Bool.false_and]; exact Le.refl _
    · rw [decide_eq_false e, Bool.false_and]; exact Le.refl _
  exact ASpec.pureH H k _ _ rfl rfl
end
end An
end

section
/- AnswerTells: the law's function returns true. -/

set_option linter.unusedVariables false
set_option linter.unusedSimpArgs false
set_option linter.unusedSectionVars false
set_option maxRecDepth 100000
open Go Go.Ab Go.Proofs V S T C
namespace An
open E (PA pa)
open Dk (Nm chkF large_spec largeK largeK_ok)
open Pc (slK slKLe)
open Pr (slP checkM okS largeM largeM_ok)
open Ve (textM dg dg_len)
open D (itoa_spec)
/-! ### how they are written -/
def solvedW : List UInt8 := [115, 111, 108, 118, 101, 100, 32]
def unsatW : List UInt8 := [117, 110, 115, 97, 116, 32, 98, 121, 32]
def stepsW : List UInt8 := [32, 115, 116, 101, 112, 115]
noncomputable def showA (a : Ans) : List UInt8 :=
  if CA a = true then
    if a.1 = 1 then solvedW ++ picksT a.2.1
    else if a.1 = 2 then unsatW ++ dg a.2.2.length ++ stepsW
    else if a.1 = 3 then [98, 97, 100] else if a.1 = 4 then [100, 101, 97, 100, 108, 105, 110, 101] else [114, 101, 106, 101, 99, 116, 101, 100]
  else []
theorem CA1 {a : Ans} (h : CA a = true) (e : a.1 = 1) : a.2.2 = [] ∧ a.2.1.length ≤ 1000 ∧ chkF none a.2.1 = true := by
  unfold CA at h
  rw [if_pos e, Bool.and_eq_true, Bool.and_eq_true] at h
  exact ⟨List.length_eq_zero_iff.1 (of_decide_eq_true h.1), of_decide_eq_true h.2.1, h.2.2⟩
theorem CA3 {a : Ans} (h : CA a = true) (e1 : ¬ a.1 = 1) (e2 : ¬ a.1 = 2) : a.1 = 3 ∨ a.1 = 4 ∨ a.1 = 5 := by
  unfold CA at h
  rw [if_neg e1, if_neg e2] at h
  split at h
  · assumption
  · cases h
theorem picksT_len {s : List Pk} (hl : s.length ≤ 1100) (hc : chkF none s = true) : (picksT s).length ≤ 41800 := by
  unfold picksT
  split
  · simp [nothing]
  · have := joins_len hl hc s.length
    rw [List.take_of_length_le (Nat.le_refl _)] at this
    exact this
theorem catS (a b : List UInt8) : ({ data := List.toArray a } : ByteArray) ++ B b = B (a ++ b) := D.B_append a b
theorem h87 (H : List AObj) : ASpec Tryd.prog 87 [] H (fun r H' => r = .agg [.str ⟨#[]⟩, .str ⟨#[]⟩, .str ⟨#[]⟩, .str ⟨#[98, 97, 100]⟩, .str ⟨#[100, 101, 97, 100, 108, 105, 110, 101]⟩, .str ⟨#[114, 101, 106, 101, 99, 116, 101, 100]⟩] ∧ H' = H) :=
  D.pd _ (fun _ => rfl) (fun _ => rfl) H (s87 _ rfl)
section
variable {a : Ans} (ok : OkA a)
include ok
theorem showA_spec (H : List AObj) : ASpec Tryd.prog 44 [agA a] H (fun r H' => r = .str (B (showA a)) ∧ H' = H) := by
  have h1 := ok.pl
  have h2 := ok.sl
  have k : ASpec Tryd.prog 44 [agA a] [] (fun r H' => r = .str (B (showA a)) ∧ H' = []) := by
    refine ASpec.sel ?_
    by_cases hk : a.1 = 3 ∨ a.1 = 4 ∨ a.1 = 5
    · obtain ⟨kd, ps, ss⟩ := a
      rcases hk with e | e | e
      · have e : kd = 3 := e
        subst e
        refine s44c ps ss (PA (.str (B (showA (3, ps, ss))))) (ASpec.call (checkA_spec ok _) (Les.refl _) ⟨_, rfl, rfl, condBn (fun hc => pa ?_) fun hc => ASpec.call (h87 _) (Les.refl _) ⟨(), rfl, rfl, ⟨rfl, rfl⟩, needJ (by omega) (pa ?_)⟩⟩)
        · unfold showA; rw [if_neg (by rw [hc]; simp)]; exact Le.refl _
        · unfold showA; rw [if_pos hc]; exact Le.refl _
      · have e : kd = 4 := e
        subst e
        refine s44d ps ss (PA (.str (B (showA (4, ps, ss))))) (ASpec.call (checkA_spec ok _) (Les.refl _) ⟨_, rfl, rfl, condBn (fun hc => pa ?_) fun hc => ASpec.call (h87 _) (Les.refl _) ⟨(), rfl, rfl, ⟨rfl, rfl⟩, needJ (by omega) (pa ?_)⟩⟩)
        · unfold showA; rw [if_neg (by rw [hc]; simp)]; exact Le.refl _
        · unfold showA; rw [if_pos hc]; exact Le.refl _
      · have e : kd = 5 := e
        subst e
        refine s44e ps ss (PA (.str (B (showA (5, ps, ss))))) (ASpec.call (checkA_spec ok _) (Les.refl _) ⟨_, rfl, rfl, condBn (fun hc => pa ?_) fun hc => ASpec.call (h87 _) (Les.refl _) ⟨(), rfl, rfl, ⟨rfl, rfl⟩, needJ (by omega) (pa ?_)⟩⟩)
        · unfold showA; rw [if_neg (by rw [hc]; simp)]; exact Le.refl _
        · unfold showA; rw [if_pos hc]; exact Le.refl _
    refine s44 a (PA (.str (B (showA a)))) (ASpec.call (checkA_spec ok _) (Les.refl _) ⟨_, rfl, rfl, condBn (fun hc => pa ?_) fun hc => condE (fun e1 => ?_) fun e1 => condE (fun e2 => ?_) fun e2 => (hk (CA3 hc e1 e2)).elim⟩)
    · unfold showA; rw [if_neg (by rw [hc]; simp)]; exact Le.refl _
    · obtain ⟨_, k2, k3⟩ := CA1 hc e1
      have hl := picksT_len (s := a.2.1) (by omega) k3
      refine ASpec.call (show_spec (s := a.2.1) (by omega) k3 _) (Les.refl _) ⟨_, rfl, rfl, needJ (by rw [B_size]; omega) (pa ?_)⟩
      unfold showA
      rw [if_pos hc, if_pos e1]
      have e : (⟨#[115, 111, 108, 118, 101, 100, 32]⟩ : ByteArray) ++ B (picksT a.2.1) = B (solvedW ++ picksT a.2.1) := catS solvedW _
      rw [e]; exact Le.refl _
    · have hd := dg_len a.2.2.length
      refine ASpec.call (itoa_spec (n := (a.2.2.length : Int)) (by omega) (by omega) _) (Les.refl _) ⟨_, rfl, rfl, ?_⟩
      rw [Int.toNat_natCast]
      have e : (⟨#[117, 110, 115, 97, 116, 32, 98, 121, 32]⟩ : ByteArray) ++ B (dg a.2.2.length) = B (unsatW ++ dg a.2.2.length) := catS unsatW _
      refine needJ (by rw [B_size]; omega) ?_
      rw [e]
      refine needJ (by rw [B_size]; simp [unsatW]; omega) (pa ?_)
      unfold showA
      rw [if_pos hc, if_neg e1, if_pos e2]
      have e3 : B (unsatW ++ dg a.2.2.length) ++ (⟨#[32, 115, 116, 101, 112, 115]⟩ : ByteArray) = B (unsatW ++ dg a.2.2.length ++ stepsW) := D.B_append _ stepsW
      rw [e3]; exact Le.refl _
  exact ASpec.pureH H k _ _ rfl rfl
theorem rshowA_spec (H : List AObj) : ASpec Tryd.prog 45 [agA a] H (fun r H' => r = .str (B (showA a)) ∧ H' = H) := by
  have h1 := ok.pl
  have h2 := ok.sl
  have k : ASpec Tryd.prog 45 [agA a] [] (fun r H' => r = .str (B (showA a)) ∧ H' = []) := by
    refine ASpec.sel (s45 a (PA (.str (B (showA a)))) (ASpec.call (rcheckA_spec ok _) (Les.refl _) ⟨_, rfl, rfl, condBn (fun hc => pa ?_) fun hc => condE (fun e1 => ?_) fun e1 => condE (fun e2 => ?_) fun e2 => condE (fun e3 => pa ?_) fun e3 => condE (fun e4 => pa ?_) fun e4 => pa ?_⟩))
    · unfold showA; rw [if_neg (by rw [hc]; simp)]; exact Le.refl _
    · obtain ⟨_, k2, k3⟩ := CA1 hc e1
      have hl := picksT_len (s := a.2.1) (by omega) k3
      refine ASpec.call (rshow_spec (s := a.2.1) (by omega) k3 _) (Les.refl _) ⟨_, rfl, rfl, needJ (by rw [B_size]; omega) (pa ?_)⟩
      unfold showA
      rw [if_pos hc, if_pos e1]
      have e : (⟨#[115, 111, 108, 118, 101, 100, 32]⟩ : ByteArray) ++ B (picksT a.2.1) = B (solvedW ++ picksT a.2.1) := catS solvedW _
      rw [e]; exact Le.refl _
    · have hd := dg_len a.2.2.length
      refine ASpec.call (digits_spec (n := (a.2.2.length : Int)) (by omega) (by omega) _) (Les.refl _) ⟨_, rfl, rfl, ?_⟩
      rw [Int.toNat_natCast]
      have e : (⟨#[117, 110, 115, 97, 116, 32, 98, 121, 32]⟩ : ByteArray) ++ B (dg a.2.2.length) = B (unsatW ++ dg a.2.2.length) := catS unsatW _
      refine needJ (by rw [B_size]; omega) ?_
      rw [e]
      refine needJ (by rw [B_size]; simp [unsatW]; omega) (pa ?_)
      unfold showA
      rw [if_pos hc, if_neg e1, if_pos e2]
      have e3 : B (unsatW ++ dg a.2.2.length) ++ (⟨#[32, 115, 116, 101, 112, 115]⟩ : ByteArray) = B (unsatW ++ dg a.2.2.length ++ stepsW) := D.B_append _ stepsW
      rw [e3]; exact Le.refl _
    · unfold showA; rw [if_pos hc, if_neg e1, if_neg e2, if_pos e3]; exact Le.refl _
    · unfold showA; rw [if_pos hc, if_neg e1, if_neg e2, if_neg e3, if_pos e4]; exact Le.refl _
    · unfold showA; rw [if_pos hc, if_neg e1, if_neg e2, if_neg e3, if_neg e4]; exact Le.refl _
  exact ASpec.pureH H k _ _ rfl rfl
end

/-! ### Large -/
def largeA (a : Ans) : Bool :=
  if 60 < a.2.1.length ∧ a.2.1.length ≤ 1000 then true else if 1100 < a.2.1.length then true else if largeM a.2.2 = true then true else if 300 < a.2.2.length then true
  else if a.2.1.length ≤ 60 then largeK a.2.1 else false
theorem largeA_ok {a : Ans} (h : largeA a = false) : OkA a := by
  unfold largeA at h
  split at h
  · cases h
  · rename_i h1
    split at h
    · cases h
    · split at h
      · cases h
      · rename_i h3
        split at h
        · cases h
        · have hk := (largeM_ok (by simpa using h3)).2.2
          refine ⟨by omega, fun hp => ?_, by omega, hk⟩
          rw [if_pos (by omega)] at h
          intro p hp2
          have := (largeK_ok h).2 p hp2
          unfold big; omega
theorem largeA_spec (a : Ans) (H : List AObj) : ASpec Tryd.prog 38 [agA a] H (fun r H' => r = .bool (largeA a) ∧ H' = H) := by
  have k : ASpec Tryd.prog 38 [agA a] [] (fun r H' => r = .bool (largeA a) ∧ H' = []) := by
    refine ASpec.sel (s38 a (PA (.bool (largeA a))) ?_)
    have tl : ¬ (60 < a.2.1.length ∧ a.2.1.length ≤ 1000) → ¬ 1100 < a.2.1.length → ∀ H, ASpec Tryd.prog 78 [slP a.2.2] H (fun r H' => ∃ x : Bool, r = .bool x ∧ H' = H ∧ condP x (PA (.bool (largeA a)) (.bool true) H)
        (condP (decide ((a.2.2.length : Int) > 300)) (PA (.bool (largeA a)) (.bool true) H) (condP (decide ((a.2.1.length : Int) ≤ 60)) (ASpec Tryd.prog 30 [slK a.2.1] H (fun r H' => ∃ x : Bool, r = .bool x ∧ H' = H ∧ PA (.bool (largeA a)) (.bool x) H)) (PA (.bool (largeA a)) (.bool false) H)))) := by
      intro e1 e2 H
      refine ASpec.call (Pr.large_spec a.2.2 H) (Les.refl _) ⟨_, rfl, rfl, ?_⟩
      unfold largeA
      rw [if_neg e1, if_neg e2]
      refine condB (fun h => ?_) fun h => condD (fun h2 => ?_) fun h2 => condD (fun h3 => ?_) fun h3 => ?_
      · rw [if_pos h]; exact pa (Le.refl _)
      · rw [if_neg (by rw [h]; simp), if_pos (by omega)]; exact pa (Le.refl _)
      · rw [if_neg (by rw [h]; simp), if_neg (by omega), if_pos (by omega)]
        exact ASpec.call (large_spec a.2.1 H) (Les.refl _) ⟨_, rfl, rfl, pa (Le.refl _)⟩
      · rw [if_neg (by rw [h]; simp), if_neg (by omega), if_neg (by omega)]; exact pa (Le.refl _)
    refine condD (fun h1 => condD (fun h2 => pa ?_) fun h2 => condD (fun h3 => pa ?_) fun h3 => tl (by omega) (by omega) _) fun h1 => condD (fun h3 => pa ?_) fun h3 => tl (by omega) (by omega) _
    · unfold largeA; rw [if_pos (by omega)]; exact Le.refl _
    · unfold largeA; rw [if_neg (by omega), if_pos (by omega)]; exact Le.refl _
    · unfold largeA; rw [if_neg (by omega), if_pos (by omega)]; exact Le.refl _
  exact ASpec.pureH H k _ _ rfl rfl

/-! ### Put, of an answer that is solved -/
theorem putv (bs : List UInt8) (ns : List Int) (hb : bs.length + 7 * ns.length ≤ big) (H : List AObj) : ASpec Tryd.prog 90 [sl1 bs, .sl 1 (.map encI 0 ns) .none] H (fun r H' => r = sl1 (putM bs ns) ∧ H' = H) := by
  have k : ASpec Tryd.prog 90 [sl1 bs, .sl 1 (.map encI 0 ns) .none] [] (fun r H' => r = sl1 (putM bs ns) ∧ H' = []) :=
    ASpec.sel ((put_spec bs ns hb []).mono fun r H' hh => ⟨[], [], sl1 (putM bs ns), Sel.none, by rw [hh.1]; exact Le.sl rfl (.inl rfl) (.inr rfl), rfl, rfl⟩)
  exact ASpec.pureH H k _ _ rfl rfl
theorem textv (bs s : List UInt8) (hb : bs.length + s.length + 100 ≤ big) (H : List AObj) : ASpec Tryd.prog 91 [sl1 bs, .str (B s)] H (fun r H' => r = sl1 (bs ++ enc (held s.length) ++ s) ∧ H' = H) := by
  have k : ASpec Tryd.prog 91 [sl1 bs, .str (B s)] [] (fun r H' => r = sl1 (bs ++ enc (held s.length) ++ s) ∧ H' = []) :=
    ASpec.sel ((V.text_spec bs s hb []).mono fun r H' hh => ⟨[], [], sl1 (bs ++ enc (held s.length) ++ s), Sel.none, by rw [hh.1]; exact Le.sl rfl (.inl rfl) (.inr rfl), rfl, rfl⟩)
  exact ASpec.pureH H k _ _ rfl rfl
abbrev wakeA : Ans := (1, [([97], 1000000)], [])
theorem wakeA_ok : OkA wakeA := ⟨by simp, fun _ p hp => by simp at hp; subst hp; unfold big; simp, by simp, fun x hx => by simp at hx⟩
theorem wakeA_check : CA wakeA = true := by
  have h1 : fitM [97] = true := by decide +kernel
  have h2 : chkF none wakeA.2.1 = true := by
    have hf : Dk.fitP ([97], 1000000) = true := by unfold Dk.fitP; rw [h1]; decide
    simp only [Dk.chkF, hf, Bool.true_eq_false, if_false]
  unfold CA
  rw [if_pos rfl, h2]; decide
theorem wakeA_show : showA wakeA = [115, 111, 108, 118, 101, 100, 32, 97, 32, 49, 46, 48, 46, 48] := by
  unfold showA
  rw [wakeA_check, if_pos rfl, if_pos rfl]
  unfold picksT
  rw [if_neg (by simp), List.map_singleton, Go.Lib.join_one]
  decide
theorem awakeA_spec (H : List AObj) : ASpec Tryd.prog 39 [] H (fun r H' => r = .bool true ∧ H' = H) := by
  have k : ASpec Tryd.prog 39 [] [] (fun r H' => r = .bool true ∧ H' = []) := by
    have hle : Le (.agg [.int .i64 1, .sl 2 (.raw [[.str (B [97]), .int .i64 1000000]]) .full, .sl 0 (.raw []) .nil]) (agA wakeA) :=
      Le.agg ⟨Le.refl _, Le.sl rfl (.inl rfl) (.inr rfl), Le.sl rfl (.inr ⟨rfl, fun _ h => by cases h⟩) (.inr rfl), trivial⟩
    refine ASpec.sel (s39 (PA (.bool true)) (ASpec.call (showA_spec wakeA_ok _) ⟨hle, trivial⟩ ⟨_, rfl, rfl, ?_⟩))
    rw [wakeA_show]
    refine condB (fun _ => ?_) fun h => ?_
    · have hput : ∀ H, ASpec Tryd.prog 46 [agA wakeA] H (fun r H' => r = sl1 [1, 1, 1, 97, 189, 132, 64] ∧ H' = H) := fun H => by
        have k : ASpec Tryd.prog 46 [agA wakeA] [] (fun r H' => r = sl1 [1, 1, 1, 97, 189, 132, 64] ∧ H' = []) := by
          refine ASpec.sel (s46 wakeA (PA (sl1 [1, 1, 1, 97, 189, 132, 64])) (ASpec.call (checkA_spec wakeA_ok _) (Les.refl _) ⟨_, rfl, rfl, ?_⟩))
          rw [wakeA_check]
          refine condBn (fun h => by cases h) fun _ => ?_
          refine ASpec.call (putv [] [1] (by unfold big; simp) _) ⟨leNil, leOne 1, trivial⟩ ⟨_, rfl, rfl, condE (fun _ => ?_) fun h => (h rfl).elim⟩
          rw [show putM [] [1] = [1] from by decide +kernel]
          refine ASpec.call (putv [1] [1] (by unfold big; simp) _) ⟨Le.refl _, leOne 1, trivial⟩ ⟨_, rfl, rfl, ?_⟩
          rw [show putM [1] [1] = [1, 1] from by decide +kernel]
          refine AWP.shape [] [(3, sl1 [1, 1]), (24, slK wakeA.2.1), (25, .int .i64 1), (26, .int .i64 0)] [] Sel.none ⟨rfl, Le.refl _, rfl, slKLe _ _, rfl, Le.refl _, rfl, Le.refl _, trivial⟩ ?_
          refine v46_8 [1, 1] wakeA.2.1 1 0 0 _ (condD (fun _ => needJ ⟨by omega, by simp⟩ ?_) fun h => by omega)
          refine ASpec.call (textv [1, 1] [97] (by unfold big; simp) _) (Les.refl _) ⟨_, rfl, rfl, ⟨rfl, rfl⟩, ?_⟩
          rw [show [1, 1] ++ enc (held ([97] : List UInt8).length) ++ [97] = [1, 1, 1, 97] from by decide +kernel]
          refine ASpec.call (putv [1, 1, 1, 97] [1000000] (by unfold big; simp) _) ⟨Le.refl _, leOne 1000000, trivial⟩ ⟨_, rfl, rfl, ?_⟩
          rw [show putM [1, 1, 1, 97] [1000000] = [1, 1, 1, 97, 189, 132, 64] from by decide +kernel]
          refine AWP.shape [] [(3, sl1 [1, 1, 1, 97, 189, 132, 64]), (24, slK wakeA.2.1), (25, .int .i64 1), (26, .int .i64 1)] [] Sel.none ⟨rfl, Le.sl rfl (.inl rfl) (.inr rfl), rfl, slKLe _ _, rfl, Le.refl _, rfl, Le.refl _, trivial⟩ ?_
          refine v46_8 [1, 1, 1, 97, 189, 132, 64] wakeA.2.1 1 1 0 _ (condD (fun h => by omega) fun _ => v46_14 _ _ _ (pa (Le.sl rfl (.inl rfl) (.inr rfl))))
        exact ASpec.pureH H k _ _ rfl rfl
      refine ASpec.call (hput _) ⟨hle, trivial⟩ ⟨_, rfl, rfl, needJ (allBytes_map _) (pa ?_)⟩
      rw [bytesOf_map]
      have e : ((B [1, 1, 1, 97, 189, 132, 64]).toList == (B [1, 1, 1, 97, 189, 132, 64]).toList) = true := by rw [B_toList]; rfl
      have e2 : ((B [1, 1, 1, 97, 189, 132, 64]).toList == ByteArray.toList { data := #[1, 1, 1, 97, 189, 132, 64] }) = true := e
      rw [e2]; exact Le.refl _
    · have e : ((B [115, 111, 108, 118, 101, 100, 32, 97, 32, 49, 46, 48, 46, 48]).toList == (B [115, 111, 108, 118, 101, 100, 32, 97, 32, 49, 46, 48, 46, 48]).toList) = false := h
      rw [B_toList] at e; cases e
  exact ASpec.pureH H k _ _ rfl rfl

/-! ### the law -/
theorem tells_spec (a b : Ans) : ASpec Tryd.prog 6 [agA a, agA b] [] (fun r H' => r = .bool true ∧ H' = []) := by
  have wake : ∀ H, ASpec Tryd.prog 39 [] H (fun r H' => ∃ x : Unit, r = .bool true ∧ H' = H ∧ PA (.bool true) (.bool true) H) := fun H => ASpec.call (awakeA_spec _) (Les.refl _) ⟨(), rfl, rfl, pa (Le.refl _)⟩
  refine ASpec.sel (s6 a b (PA (.bool true)) (ASpec.call (largeA_spec a _) (Les.refl _) ⟨_, rfl, rfl, condB (fun _ => wake _) fun h1 => ?_⟩))
  refine ASpec.call (largeA_spec b _) (Les.refl _) ⟨_, rfl, rfl, condB (fun _ => wake _) fun h2 => ?_⟩
  have ok := largeA_ok h1
  refine ASpec.call (checkA_spec ok _) (Les.refl _) ⟨_, rfl, rfl, ?_⟩
  repeat refine ⟨⟨rfl, rfl⟩, ?_⟩
  refine ASpec.call (rcheckA_spec ok _) (Les.refl _) ⟨_, rfl, rfl, condB (fun _ => ?_) fun h => by simp at h⟩
  refine ASpec.call (sameA_spec ok.pl ok.sl _) (Les.refl _) ⟨_, rfl, rfl, ?_⟩
  repeat refine ⟨⟨rfl, rfl⟩, ?_⟩
  refine ASpec.call (rsameA_spec ok.pl ok.sl _) (Les.refl _) ⟨_, rfl, rfl, condB (fun _ => ?_) fun h => by simp at h⟩
  refine ASpec.call (showA_spec ok _) (Les.refl _) ⟨_, rfl, rfl, ?_⟩
  repeat refine ⟨⟨rfl, rfl⟩, ?_⟩
  refine ASpec.call (rshowA_spec ok _) (Les.refl _) ⟨_, rfl, rfl, condB (fun _ => wake _) fun h => by simp at h⟩
end An
end

section
/- The codecs of picks; what the row's condition gives. -/

open Go Go.Ab Go.Proofs
namespace Go.Ab
noncomputable def cPk : Codec Tryd.prog 68 T.Pk :=
  (Codec.struct (n := 2) Tryd.underlying68 (FC.cons (k := 1) (n := 1) cName rfl (by kernel_rfl) (FC.cons (k := 1) (n := 0) cInt rfl (by kernel_rfl) FC.nil)) (by kernel_rfl)).iso (fun x => (x.1, x.2.1)) T.encPk (fun _ => True) (fun _ => rfl) (fun _ _ => trivial)
noncomputable def cPks : Codec Tryd.prog 33 (List T.Pk) := Codec.slice (sz := 2) cPk Tryd.underlying33 (by kernel_rfl) (by omega) (fun _ => rfl)
end Go.Ab
namespace D
theorem gT : Tryd.prog.globalNamed "internal/strconv.uint64pow10" = some 0 := by kernel_rfl
theorem gTy : (Tryd.prog.globals[0]?).map (·.type) = some 163 := by kernel_rfl
abbrev laid5 : List (String × DataW Unit) := [("math/bits.deBruijn32tab", YtkkdhnhgfbddeaaDoor.Rows.laid_math_bits_deBruijn32tab), ("math/bits.deBruijn64tab", YtkkdhnhgfbddeaaDoor.Rows.laid_math_bits_deBruijn64tab), ("internal/strconv.uint64pow10", YtkkdhnhgfbddeaaDoor.Rows.laid_internal_strconv_uint64pow10)]
theorem tab_data : (YtkkdhnhgfbddeaaDoor.Rows.laid_internal_strconv_uint64pow10 : DataW Unit) = Lib.tabData .u64 Lib.pow10Tab := by rfl

/-- what the row's condition and the world's shape give -/
theorem tabs_of {W : World} (h : laidMetH Tryd.prog laid5 W) (hsh : W.ShapedOpen Tryd.prog) : Tabs Tryd.prog (mem0 W) W := by
  rw [MakeChecks.laidMetH_plain _ _ _ (by kernel_rfl)] at h
  have h3 := laidMet.tail (laidMet.tail h)
  rw [tab_data] at h3
  have ht : Lib.TabIs Tryd.prog W "internal/strconv.uint64pow10" .u64 Lib.pow10Tab := Lib.tabIs_of_head gT gTy Tryd.underlying163 Tryd.underlying155 (by kernel_rfl) (by kernel_rfl) h3
  refine tabs0 (fun g hg => ?_) fun g hg => ?_
  · rw [gT] at hg
    cases hg
    unfold Lib.TabIs World.var? at ht
    rw [gT] at ht
    simp only [Option.bind_some] at ht
    split at ht
    case h_2 => cases ht
    case h_1 cs T fr hc =>
    simp only [Option.some.injEq] at ht
    subst ht
    exact ⟨T, fr, hc⟩
  · have hM : Tryd.prog.globalNamed "internal/bytealg.MaxLen" = some 1 := by kernel_rfl
    rw [hM] at hg
    cases hg
    obtain ⟨m, hm⟩ := Go.Proofs.cell_of_shapedOpen_int (g := 1) (k := .i64) (zero := #[.int .i64 0]) (t := 3) hsh (of_decide_eq_true (by kernel_rfl)) (by kernel_rfl) rfl (by kernel_rfl) (by kernel_rfl) Tryd.underlying3
    obtain ⟨cs, hh, hs, _⟩ := hsh.1 1 #[.int .i64 0] 3 (of_decide_eq_true (by kernel_rfl)) (by kernel_rfl)
    have h1 : cs.size = 1 := hs
    have hm2 : cs[0]? = some (.int .i64 m) := by
      simp only [World.cell?, hh] at hm
      exact hm
    refine ⟨m, 3, (0, 0), ?_⟩
    rw [hh]
    have : cs = #[.int .i64 m] := by
      apply Array.ext
      · simpa using h1
      · intro i h2 h3
        have : i = 0 := by omega
        subst this
        have := Array.getElem?_eq_getElem h2
        rw [hm2] at this
        simpa using this.symm
    rw [this]

/-- a row's wrap, the world's shape kept -/
theorem handed_shaped {H : Type} {enc : TypeId × Value → H} {a : Assume} {C : Checked} {os : Os} {f : FuncId} {fn : Func} {s : ChangeSpec} {conds : List PathCond} {apart fresh handsOn again : Bool} {X : World → Array Value → Prop}
    (hX : ∀ (w w' : World) (args : Array Value), w.heap = w'.heap → X w args → X w' args)
    (own : ownKnob C.prog.godebug = none) (started : os.Started) (noInit : C.prog.inits.idxOf? f = none) (hfn : C.prog.funcs[f]? = some fn)
    (witness : ∃ (w : World) (tape : Tape) (i : Input), w.os = os ∧ (w.forCall tape i).Shaped C.prog ∧ i.vars = [] ∧ Input.okWide C.prog (w.forCall tape i) .any w.heap.size f i ∧
      ((s.pre enc C.prog fn conds apart (w.forCall tape i).memory i.args ∧ X (w.forCall tape i).memory i.args) ∧ sizedMet enc C.prog fn (OpenSpec.ofChange s) apart (w.forCall tape i).memory i.args) ∧ a.holds C.prog (lone (Frame.enter C.prog f i.args .normal) [] (w.forCall tape i)))
    (contract : ∀ (W : World) (base : Nat) (args : Array Value) (ds gs : List (DataW H)) (before : List MemPlace),
      (∀ (j : Nat) t v, fn.params[j]? = some t → args[j]? = some v → Value.okWide C.prog W .any base t v) →
      DataW.Whole enc C.prog fn.params.toList s.vars apart W args.toList ds gs before →
      conds.all (PathCond.test C.prog ⟨fn.params.toList, ds, s.plain.varTypes C.prog, gs⟩) = true →
      (DataW.weightsEach C.prog (fn.params.toList ++ s.plain.varTypes C.prog) (ds ++ gs)).all (· ≤ reachBytes) = true → X W args →
      W.ShapedOpen C.prog →
      a.holds C.prog (lone (Frame.enter C.prog f args .normal) [] W) →
      Calls C.prog f args W fun e W' => ∃ v, e = .returned v ∧ s.post enc C.prog fn apart fresh handsOn again W args v W') :
    ReturnsInHanded a C os f .any (fun w args => (s.pre enc C.prog fn conds apart w args ∧ X w args) ∧ sizedMet enc C.prog fn (OpenSpec.ofChange s) apart w args) (s.post enc C.prog fn apart fresh handsOn again) := by
  refine returnsInHanded_of_calls own started noInit witness ?_
  intro w tape i _ hsh _ hok hpre hholds
  obtain ⟨_, _, _, fn', hfn', _, _, _, _, hval⟩ := hok
  have e : fn' = fn := Option.some.inj (hfn'.symm.trans hfn)
  subst e
  obtain ⟨⟨⟨ds, gs, before, hw, hc⟩, hx⟩, hz⟩ := hpre
  have hw' := DataW.Whole.of_heap (w' := w.forCall tape i) (by rfl) hw
  refine (contract (w.forCall tape i) w.heap.size i.args ds gs before hval hw' hc (hz.weights hw) (hX _ _ _ (by rfl) hx) hsh hholds).mono fun e W' ⟨v, he, hp⟩ => ?_
  subst he
  exact ChangeSpec.post_blind hp

/-- a heap that meets the condition -/
theorem all_met (os : Os) (args : Array Value) : laidMetH Tryd.prog laid5 ((World.laidAll Tryd.prog os laid5).forCall (fun _ _ => 0) ⟨#[], args, []⟩).memory := by
  rw [MakeChecks.laidMetH_plain _ _ _ (by kernel_rfl)]
  exact laidMet_laidAll _ (by kernel_rfl) (by kernel_rfl)
end D
end

section
/- The codec of answers. -/

open Go Go.Ab Go.Proofs
namespace Go.Ab
noncomputable def cSt : Codec Tryd.prog 80 T.St :=
  (Codec.struct (n := 6) Tryd.underlying80 (FC.cons (k := 1) (n := 5) cInt rfl (by kernel_rfl) (FC.cons (k := 1) (n := 4) cName rfl (by kernel_rfl) (FC.cons (k := 1) (n := 3) cInt rfl (by kernel_rfl) (FC.cons (k := 1) (n := 2) cName rfl (by kernel_rfl)
    (FC.cons (k := 1) (n := 1) cInt rfl (by kernel_rfl) (FC.cons (k := 1) (n := 0) cInt rfl (by kernel_rfl) FC.nil)))))) (by kernel_rfl)).iso (fun x => (x.1, x.2.1, x.2.2.1, x.2.2.2.1, x.2.2.2.2.1, x.2.2.2.2.2.1)) T.encSt (fun _ => True) (fun _ => rfl) (fun _ _ => trivial)
noncomputable def cSts : Codec Tryd.prog 42 (List T.St) := Codec.slice (sz := 6) cSt Tryd.underlying42 (by kernel_rfl) (by omega) (fun _ => rfl)
noncomputable def cAns : Codec Tryd.prog 44 T.Ans :=
  (Codec.struct (n := 3) Tryd.underlying44 (FC.cons (k := 1) (n := 2) cInt rfl (by kernel_rfl) (FC.cons (k := 1) (n := 1) cPks rfl (by kernel_rfl) (FC.cons (k := 1) (n := 0) cSts rfl (by kernel_rfl) FC.nil))) (by kernel_rfl)).iso (fun x => (x.1, x.2.1, x.2.2.1)) T.encAn (fun _ => True) (fun _ => rfl) (fun _ _ => trivial)
end Go.Ab
end
