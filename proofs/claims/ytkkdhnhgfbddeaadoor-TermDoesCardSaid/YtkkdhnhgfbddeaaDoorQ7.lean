/- Q7: several of this proof's own texts, one behind the other: what each proves stands at its head. -/
import Derived.Shelf.LaysM
import Derived.Shelf.Strconv.Itoa3
import Derived.Shelf.Strings.OnBuilder
import Derived.Test.YtkkdhnhgfbddeaaDoorProg
import Derived.Test.YtkkdhnhgfbddeaaDoorQ6
import Derived.Test.YtkkdhnhgfbddeaaDoorA3
import Derived.Test.YtkkdhnhgfbddeaaDoorQ5
import Derived.Test.YtkkdhnhgfbddeaaDoorRows
import Derived.ProofKit
import Derived.LaidMore
import Derived.Lay
import Derived.HandedShaped
import Derived.OpenShut
import Derived.Stop.Joined
import Derived.Stop.LaidErr
import Derived.Lib.LaidTab
import Derived.Lib.ItoaNum
section
/-
  DERIVED: THE SHELF's CONTRACTS AT THIS DUMP, IN PLAIN WORDS (tools/lay-plain.mjs out of 'PShelf.lean', which tools/lay-shelf.mjs wrote): THE SAME DECLARATIONS UNDER THE SAME NAMES: 'import', 'namespace', 'open', 'def', 'theorem' AND NOTHING ELSE: no command of the shelf's: FOR A HAND-IN. Each laying: the table of numbers ('.._ren') and one theorem, a field a fact of the dump's own or the kernel's comparison; each contract: ONE APPLICATION.
-/

namespace Go.Proofs
open Go.Shelf
def Tryd.lays156_ren : Go.Shelf.Ren := ⟨fun | 156 => 118 | 165 => 143 | 166 => 122 | 169 => 123 | 240 => 147 | 241 => 153 | 276 => 157 | 277 => 163 | n => n, fun | 31 => 107 | 9 => 9 | 3 => 3 | 4 => 4 | 0 => 0 | 20 => 20 | 72 => 113 | 76 => 116 | 70 => 111 | 37 => 48 | 75 => 115 | 127 => 144 | 164 => 152 | 5 => 5 | 80 => 118 | n => n, fun | n => n⟩
theorem Tryd.lays156 : Go.Proofs.Lays.n156 Tryd.prog Tryd.lays156_ren := {
  mixed := by kernel_rfl
  f156 := Tryd.func118.trans (congrArg some (by kernel_rfl))
  f165 := Tryd.func143.trans (congrArg some (by kernel_rfl))
  f166 := Tryd.func122.trans (congrArg some (by kernel_rfl))
  f169 := Tryd.func123.trans (congrArg some (by kernel_rfl))
  f240 := Tryd.func147.trans (congrArg some (by kernel_rfl))
  f241 := Tryd.func153.trans (congrArg some (by kernel_rfl))
  f276 := Tryd.func157.trans (congrArg some (by kernel_rfl))
  f277 := Tryd.func163.trans (congrArg some (by kernel_rfl))
  t0 := Tryd.underlying0
  a0 := Tryd.isAgg0
  z0 := Tryd.sizeOf0
  v0 := Tryd.zeroValue0
  t3 := Tryd.underlying3
  a3 := Tryd.isAgg3
  z3 := Tryd.sizeOf3
  v3 := Tryd.zeroValue3
  t4 := Tryd.underlying4
  a4 := Tryd.isAgg4
  z4 := Tryd.sizeOf4
  v4 := Tryd.zeroValue4
  t9 := Tryd.underlying9
  a9 := Tryd.isAgg9
  z9 := Tryd.sizeOf9
  v9 := Tryd.zeroValue9
  t20 := Tryd.underlying20
  a20 := Tryd.isAgg20
  z20 := Tryd.sizeOf20
  v20 := Tryd.zeroValue20
  t31 := Tryd.underlying107
  a31 := Tryd.isAgg107
  z31 := Tryd.sizeOf107
  v31 := Tryd.zeroValue107
  t37 := Tryd.underlying48
  a37 := Tryd.isAgg48
  z37 := Tryd.sizeOf48
  v37 := Tryd.zeroValue48
  t70 := Tryd.underlying111
  a70 := Tryd.isAgg111
  z70 := Tryd.sizeOf111
  v70 := Tryd.zeroValue111
  t72 := Tryd.underlying113
  a72 := Tryd.isAgg113
  z72 := Tryd.sizeOf113
  v72 := Tryd.zeroValue113
  t75 := Tryd.underlying115
  a75 := Tryd.isAgg115
  z75 := Tryd.sizeOf115
  v75 := Tryd.zeroValue115
  t76 := Tryd.underlying116
  a76 := Tryd.isAgg116
  z76 := Tryd.sizeOf116
  v76 := Tryd.zeroValue116
  t127 := Tryd.underlying144
  a127 := Tryd.isAgg144
  z127 := Tryd.sizeOf144
  v127 := Tryd.zeroValue144
  t164 := Tryd.underlying152
  a164 := Tryd.isAgg152
  z164 := Tryd.sizeOf152
  v164 := Tryd.zeroValue152 }
theorem Tryd.Builder_Extra_156 : Builder.Extra Tryd.prog Tryd.lays156_ren := {
  sizeBuilder := by kernel_rfl
  liesBuilder := by kernel_rfl
  t5 := Tryd.underlying5
  a5 := Tryd.isAgg5
  z5 := Tryd.sizeOf5
  v5 := Tryd.zeroValue5
  infoByte := by kernel_rfl
  cellsByte := by kernel_rfl
  sizeByte := by kernel_rfl
  neB5 := by decide }
open Go.RowKit in
/-- No element: the empty string; the world is as it was. (Whatever the slice's address and capacity: a nil slice too.) (LAID: no walk: one application.) -/
theorem Tryd.strings_Join_none (a : Option Addr) (c : Nat) (sep : ByteArray) (w : World) :
    Calls Tryd.prog 118 #[.slice a 0 c, .string sep] w fun e w' => e = .returned (.string ⟨#[]⟩) ∧ w' = w := Any.strings_Join_none Tryd.lays156 Tryd.Builder_Extra_156 a c sep w
open Go.RowKit in
/-- strings.Join: "Join concatenates the elements of its first argument to create a single string. The separator string sep is placed between elements in the resulting string.": HOWEVER MANY ELEMENTS. Below the heap's end the world is as it was. (LAID: no walk: one application.) -/
theorem Tryd.strings_Join (bk o c : Nat) (xs : List ByteArray) (sep : ByteArray) (w : World) (hcells : ∀ (j : Nat) x, xs[j]? = some x → w.cell? ⟨bk, o + j, none⟩ = some (.string x)) (hbk : bk < w.heap.size) (hN : xs.length ≤ 140737488355328) (hcap : xs.length ≤ c) (hlen : (Lib.join (xs.map (·.data.toList)) sep.data.toList).length ≤ 140737488355328) :
    Calls Tryd.prog 118 #[.slice (some ⟨bk, o, none⟩) xs.length c, .string sep] w fun e w' => e = .returned (.string ⟨(Lib.join (xs.map (·.data.toList)) sep.data.toList).toArray⟩) ∧ Below w.heap.size w w' := Any.strings_Join Tryd.lays156 Tryd.Builder_Extra_156 bk o c xs sep w hcells hbk hN hcap hlen
def Tryd.laysM171_ren : Go.Shelf.Ren := ⟨fun | 171 => 86 | 243 => 133 | 246 => 151 | 283 => 159 | 284 => 160 | 285 => 161 | 286 => 162 | 129 => 166 | 317 => 165 | 318 => 167 | 319 => 168 | 320 => 169 | 337 => 170 | 338 => 171 | n => n, fun | 3 => 3 | 9 => 9 | 2 => 2 | 4 => 4 | 171 => 154 | 0 => 0 | 53 => 155 | 37 => 48 | 5 => 5 | 173 => 158 | 212 => 163 | 51 => 164 | 20 => 20 | 213 => 165 | 46 => 148 | 232 => 168 | 233 => 169 | n => n, fun | 17 => 0 | 18 => 2 | 19 => 3 | n => n⟩
theorem Tryd.laysM171 : Go.Proofs.LaysM.n171 Tryd.prog Tryd.laysM171_ren := {
  mixed := by kernel_rfl
  f129 := Tryd.func166.trans (congrArg some (by kernel_rfl))
  f171 := Tryd.func86.trans (congrArg some (by kernel_rfl))
  f243 := Tryd.func133.trans (congrArg some (by kernel_rfl))
  f246 := Tryd.func151.trans (congrArg some (by kernel_rfl))
  f283 := Tryd.func159.trans (congrArg some (by kernel_rfl))
  f284 := Tryd.func160.trans (congrArg some (by kernel_rfl))
  f285 := Tryd.func161.trans (congrArg some (by kernel_rfl))
  f286 := Tryd.func162.trans (congrArg some (by kernel_rfl))
  f317 := Tryd.func165.trans (congrArg some (by kernel_rfl))
  f318 := Tryd.func167.trans (congrArg some (by kernel_rfl))
  f319 := Tryd.func168.trans (congrArg some (by kernel_rfl))
  f320 := Tryd.func169.trans (congrArg some (by kernel_rfl))
  f337 := Tryd.func170.trans (congrArg some (by kernel_rfl))
  f338 := Tryd.func171.trans (congrArg some (by kernel_rfl))
  t0 := Tryd.underlying0
  a0 := Tryd.isAgg0
  z0 := Tryd.sizeOf0
  v0 := Tryd.zeroValue0
  t2 := Tryd.underlying2
  a2 := Tryd.isAgg2
  z2 := Tryd.sizeOf2
  v2 := Tryd.zeroValue2
  t3 := Tryd.underlying3
  a3 := Tryd.isAgg3
  z3 := Tryd.sizeOf3
  v3 := Tryd.zeroValue3
  t4 := Tryd.underlying4
  a4 := Tryd.isAgg4
  z4 := Tryd.sizeOf4
  v4 := Tryd.zeroValue4
  t5 := Tryd.underlying5
  a5 := Tryd.isAgg5
  z5 := Tryd.sizeOf5
  v5 := Tryd.zeroValue5
  t9 := Tryd.underlying9
  a9 := Tryd.isAgg9
  z9 := Tryd.sizeOf9
  v9 := Tryd.zeroValue9
  t20 := Tryd.underlying20
  a20 := Tryd.isAgg20
  z20 := Tryd.sizeOf20
  v20 := Tryd.zeroValue20
  t37 := Tryd.underlying48
  a37 := Tryd.isAgg48
  z37 := Tryd.sizeOf48
  v37 := Tryd.zeroValue48
  t46 := Tryd.underlying148
  a46 := Tryd.isAgg148
  z46 := Tryd.sizeOf148
  v46 := Tryd.zeroValue148
  t51 := Tryd.underlying164
  a51 := Tryd.isAgg164
  z51 := Tryd.sizeOf164
  v51 := Tryd.zeroValue164
  t53 := Tryd.underlying155
  a53 := Tryd.isAgg155
  z53 := Tryd.sizeOf155
  v53 := Tryd.zeroValue155
  t171 := Tryd.underlying154
  a171 := Tryd.isAgg154
  z171 := Tryd.sizeOf154
  v171 := Tryd.zeroValue154
  t173 := Tryd.underlying158
  a173 := Tryd.isAgg158
  z173 := Tryd.sizeOf158
  v173 := Tryd.zeroValue158
  t212 := Tryd.underlying163
  a212 := Tryd.isAgg163
  z212 := Tryd.sizeOf163
  v212 := Tryd.zeroValue163
  t213 := Tryd.underlying165
  a213 := Tryd.isAgg165
  z213 := Tryd.sizeOf165
  t232 := Tryd.underlying168
  a232 := Tryd.isAgg168
  z232 := Tryd.sizeOf168
  v232 := Tryd.zeroValue168
  t233 := Tryd.underlying169
  a233 := Tryd.isAgg169
  z233 := Tryd.sizeOf169
  v233 := Tryd.zeroValue169
  g17 := by kernel_rfl
  g18 := by kernel_rfl
  g19 := by kernel_rfl
  i0 := by kernel_rfl
  i2 := by kernel_rfl
  i3 := by kernel_rfl
  i4 := by kernel_rfl
  i5 := by kernel_rfl
  i9 := by kernel_rfl
  i20 := by kernel_rfl
  i37 := by kernel_rfl
  i46 := by kernel_rfl
  i51 := by kernel_rfl
  i53 := by kernel_rfl
  i171 := by kernel_rfl
  i173 := by kernel_rfl
  i212 := by kernel_rfl
  i232 := by kernel_rfl
  i233 := by kernel_rfl
  m17 := by kernel_rfl
  m18 := by kernel_rfl
  m19 := by kernel_rfl }
open Go.RowKit Go.Sort Go.Lib in
/-- strconv.Itoa: "Itoa is equivalent to FormatInt(int64(i), 10).": i's DECIMAL NUMERAL ('Lib.itoa': a '-' where i is negative, then the digits), FOR EVERY int. The world behind the call: the world before it, new blocks behind the heap (the library's 'var a [24]byte'), draws. (LAID: no walk: one application.) -/
theorem Tryd.strconv_Itoa (n : Int) (h0 : -9223372036854775808 ≤ n) (h1 : n ≤ 9223372036854775807) (w : World) (htab : Lib.TabIs Tryd.prog w "internal/strconv.uint64pow10" .u64 Lib.pow10Tab) :
    Calls Tryd.prog 86 #[.int .i64 n] w fun e w' => e = .returned (.string ⟨(Lib.itoa n).toArray⟩) ∧ ∃ k os, w' = grow (w.drewN k) os := Any.strconv_Itoa Tryd.laysM171 n h0 h1 w htab
end Go.Proofs
end

section
/- The texts of versions, and texts put together, at this seat. -/

set_option linter.unusedVariables false
set_option linter.unusedSimpArgs false
set_option maxRecDepth 100000
open Go Go.Ab Go.Proofs Ve
open Go.RowKit (Below)
namespace D

theorem tdv {p : Int} (h : 0 ≤ p) (d : Int) : Int.tdiv p d = p / d := Int.tdiv_eq_ediv_of_nonneg h
theorem tmd {p : Int} (h : 0 ≤ p) (d : Int) : Int.tmod p d = p % d := Int.tmod_eq_emod_of_nonneg h
theorem condBn {b : Bool} {A C : Prop} (h1 : b = false → A) (h2 : b = true → C) : condP (!b) A C := by cases b <;> simp_all [condP]

/-- what is left behind in the heap is nobody's -/
theorem drop0 {P : Program} {f : FuncId} {args : List AV} {r0 : AV} (hren : ∀ n, AV.ren (selR [] n) r0 = r0) (k : ASpec P f args [] (fun r _ => r = r0)) : ASpec P f args [] (fun r H' => r = r0 ∧ H' = []) :=
  ASpec.sel (k.mono fun r H' e => ⟨[], [], r0, Sel.none, by subst e; rw [hren]; exact Le.refl _, rfl, rfl⟩)

theorem pd {f : FuncId} {args : List AV} (r0 : AV) (hr : ∀ q, AV.ren q r0 = r0) (ha : ∀ q, args.map (AV.ren q) = args) (H : List AObj) (k : ASpec Tryd.prog f args [] (fun r _ => r = r0)) :
    ASpec Tryd.prog f args H (fun r H' => r = r0 ∧ H' = H) :=
  ASpec.pureH H (drop0 (fun _ => hr _) k) _ _ (ha _) (hr _)

def fitB (p : Int) : Bool := decide (0 ≤ p ∧ p < 1000000000)
def partsM (p : Int) : (Int × Int × Int) × Bool := if 0 ≤ p ∧ p < 1000000000 then ((p / 1000000, p / 1000 % 1000, p % 1000), true) else ((0, 0, 0), false)
theorem weights_spec (H : List AObj) : ASpec Tryd.prog 156 [] H (fun r H' => r = .agg [.int .i64 1000000, .int .i64 1000, .int .i64 1] ∧ H' = H) :=
  pd (.agg [.int .i64 1000000, .int .i64 1000, .int .i64 1]) (fun _ => rfl) (fun _ => rfl) H (s156 _ rfl)

theorem fit_spec (p : Int) (H : List AObj) : ASpec Tryd.prog 155 [.int .i64 p] H (fun r H' => r = .bool (fitB p) ∧ H' = H) := by
  refine pd (.bool (fitB p)) (fun _ => rfl) (fun _ => rfl) H (s155 _ _ (condD (fun h => ?_) fun h => ?_))
  all_goals (congr 1; unfold fitB)
  · apply decide_eq_decide.2; omega
  · exact (decide_eq_false (by omega)).symm

abbrev a3 (x : Int × Int × Int) : AV := .agg [.int .i64 x.1, .int .i64 x.2.1, .int .i64 x.2.2]
abbrev tup3 (x : (Int × Int × Int) × Bool) : AV := .tup [a3 x.1, .bool x.2]

theorem parts_spec (p : Int) (H : List AObj) : ASpec Tryd.prog 146 [.int .i64 p] H (fun r H' => r = tup3 (partsM p) ∧ H' = H) := by
  have e3 : (0 : Int) ≤ 0 ∧ (0 : Int) < 3 := by decide
  have e4 : (0 : Int) ≤ 1 ∧ (1 : Int) < 3 := by decide
  have e5 : (0 : Int) ≤ 2 ∧ (2 : Int) < 3 := by decide
  refine pd (tup3 (partsM p)) (fun _ => rfl) (fun _ => rfl) H (s146 _ _ (ASpec.call (fit_spec p _) (Les.refl _) ⟨_, rfl, rfl, condBn (fun h => ?_) fun h => ?_⟩))
  · have : ¬ (0 ≤ p ∧ p < 1000000000) := by simpa [fitB] using h
    unfold partsM; rw [if_neg this]
  · have hp : 0 ≤ p ∧ p < 1000000000 := by simpa [fitB] using h
    refine ASpec.call (weights_spec _) (Les.refl _) ⟨(), rfl, rfl, ?_⟩
    refine v146_5a _ _ _ _ _ _ (needJ e3 (needJ (by decide) (needJ (by decide) (needJ e3 ?_))))
    refine v146_5b _ _ _ _ _ _ (needJ e4 (needJ (by decide) (needJ (by decide) (needJ e4 ?_))))
    refine v146_5c _ _ _ _ _ _ (needJ e5 (needJ (by decide) (needJ (by decide) (needJ e5 ?_))))
    refine v146_5d _ _ _ _ _ _ ?_
    rw [tdv hp.1, tdv hp.1, tdv hp.1, wrap64 (x := p / 1000000) (by omega) (by omega), wrap64 (x := p / 1000) (by omega) (by omega), wrap64 (x := p / 1) (by omega) (by omega), tmd (by omega), tmd (by omega), tmd (by omega)]
    unfold partsM; rw [if_pos hp, Int.ediv_one, Int.emod_eq_of_lt (a := p / 1000000) (by omega) (by omega)]

theorem decD {n : Nat} (h : n < 1000) : Go.Lib.decDigits n = dg n := by
  unfold dg
  by_cases h10 : n < 10
  · rw [Go.Lib.decDigits, dif_pos h10, if_pos h10]
  · rw [Go.Lib.decDigits, dif_neg h10, if_neg h10]
    by_cases h100 : n < 100
    · rw [if_pos h100, Go.Lib.decDigits, dif_pos (show n / 10 < 10 by omega)]; rfl
    · rw [if_neg h100, Go.Lib.decDigits, dif_neg (show ¬ n / 10 < 10 by omega), Go.Lib.decDigits, dif_pos (show n / 10 / 10 < 10 by omega), show n / 10 / 10 = n / 100 by omega]; rfl

theorem tabIs {M : Mem} {w : World} (h : Tabs Tryd.prog M w) : Lib.TabIs Tryd.prog w "internal/strconv.uint64pow10" .u64 Lib.pow10Tab := by
  have hg : (Tryd.prog.globalNamed "internal/strconv.uint64pow10").isSome = true := by kernel_rfl
  obtain ⟨g, hg⟩ := Option.isSome_iff_exists.1 hg
  obtain ⟨_, T, fr, hc⟩ := h.pow g hg
  unfold Lib.TabIs World.var?
  rw [hg]
  simp only [Option.bind_some, hc]
  congr 1

theorem itoa_spec {n : Int} (h0 : 0 ≤ n) (h1 : n < 1000) (H : List AObj) : ASpec Tryd.prog 86 [.int .i64 n] H (fun r H' => r = .str (B (dg n.toNat)) ∧ H' = H) := by
  refine ASpec.of_calls fun M loc w vs ht hv => ?_
  obtain ⟨hs, hv⟩ := hv
  have hv0 := hv 0 (by simp)
  have hvs : vs = #[vs[0]'(by simp at hs; omega)] := by
    apply Array.ext
    · simpa using hs
    · intro i h1 h2
      have : i < 1 := by simpa using h2
      match i, this with
      | 0, _ => rfl
  rw [hvs]
  simp only [List.getElem_cons_zero] at hv0
  generalize vs[0]'(by simp at hs; omega) = v0 at hv0
  cases hv0
  refine (Tryd.strconv_Itoa n (by omega) (by omega) w (tabIs ht)).mono fun e w' ⟨he, k, os, hw⟩ => ?_
  refine ⟨_, he, ?_, ?_⟩
  · have : Go.Lib.itoa n = dg n.toNat := by unfold Go.Lib.itoa; rw [if_neg (by omega), decD (by omega)]
    rw [this]
    exact .str _
  · subst hw
    refine ⟨by simp [Sort.grow, World.drewN], fun b hb => ?_, rfl, rfl, rfl⟩
    simp only [Sort.grow, World.drewN]
    rw [Array.getElem?_append_left hb]

theorem txt_le (a b c : Nat) : (dg a).length + (dg b).length + (dg c).length ≤ 9 := by
  have h1 := dg_len a; have h2 := dg_len b; have h3 := dg_len c; omega

theorem cat3 (a b c : List UInt8) : B a ++ ⟨#[46]⟩ ++ B b ++ ⟨#[46]⟩ ++ B c = B (a ++ 46 :: (b ++ 46 :: c)) := by
  rw [show (⟨#[46]⟩ : ByteArray) = B [46] from rfl, B_append, B_append, B_append, B_append]; simp

theorem text_spec (p : Int) (H : List AObj) : ASpec Tryd.prog 121 [.int .i64 p] H (fun r H' => r = .str (B (textM p)) ∧ H' = H) := by
  have e3 : (0 : Int) ≤ 0 ∧ (0 : Int) < 3 := by decide
  have e4 : (0 : Int) ≤ 1 ∧ (1 : Int) < 3 := by decide
  have e5 : (0 : Int) ≤ 2 ∧ (2 : Int) < 3 := by decide
  refine pd (.str (B (textM p))) (fun _ => rfl) (fun _ => rfl) H (s121 _ _ (ASpec.call (parts_spec p _) (Les.refl _) ⟨_, rfl, rfl, condBn (fun h => ?_) fun h => ?_⟩))
  · have : ¬ (0 ≤ p ∧ p < 1000000000) := by intro hp; unfold partsM at h; rw [if_pos hp] at h; cases h
    unfold textM; rw [if_neg this]
  · have hp : 0 ≤ p ∧ p < 1000000000 := by
      by_cases hp : 0 ≤ p ∧ p < 1000000000
      · exact hp
      · unfold partsM at h; rw [if_neg hp] at h; cases h
    have hM : partsM p = ((p / 1000000, p / 1000 % 1000, p % 1000), true) := by unfold partsM; rw [if_pos hp]
    rw [hM]
    have ht := txt_le (p / 1000000).toNat (p / 1000 % 1000).toNat (p % 1000).toNat
    refine needJ e3 (needJ e4 (needJ e5 ?_))
    refine ASpec.call (itoa_spec (n := p / 1000000) (by omega) (by omega) _) (Les.refl _) ⟨_, rfl, rfl, ⟨rfl, rfl⟩, ⟨rfl, rfl⟩, needJ ?_ ?_⟩
    · rw [B_size]; omega
    refine ASpec.call (itoa_spec (n := p / 1000 % 1000) (by omega) (by omega) _) (Les.refl _) ⟨_, rfl, rfl, ⟨rfl, rfl⟩, needJ ?_ (needJ ?_ ?_)⟩
    · rw [show (⟨#[46]⟩ : ByteArray) = B [46] from rfl, B_append, B_size, B_size]; simp; omega
    · rw [show (⟨#[46]⟩ : ByteArray) = B [46] from rfl, B_append, B_append, B_size]; simp; omega
    refine ASpec.call (itoa_spec (n := p % 1000) (by omega) (by omega) _) (Les.refl _) ⟨_, rfl, rfl, needJ ?_ ?_⟩
    · rw [show (⟨#[46]⟩ : ByteArray) = B [46] from rfl, B_append, B_append, B_append, B_size, B_size]; simp; omega
    · rw [cat3]
      unfold textM text3; rw [if_pos hp]

/-! ### strings.Join -/
theorem join_spec (o : List (List UInt8)) (sep : List UInt8) (hN : o.length ≤ 1000000) (hlen : (Go.Lib.join o sep).length ≤ 140737488355328) (H : List AObj) :
    ASpec Tryd.prog 118 [.sl 1 (.map T.encL [] o) .none, .str (B sep)] H (fun r H' => r = .str (B (Go.Lib.join o sep)) ∧ H' = H) := by
  refine ASpec.of_calls fun M loc w vs ht hv => ?_
  obtain ⟨hs, hv⟩ := hv
  have hv0 := hv 0 (by simp)
  have hv1 := hv 1 (by simp)
  have hvs : vs = #[vs[0]'(by simp at hs; omega), vs[1]'(by simp at hs; omega)] := by
    apply Array.ext
    · simpa using hs
    · intro i h1 h2
      have : i < 2 := by simpa using h2
      match i, this with
      | 0, _ | 1, _ => rfl
  rw [hvs]
  simp only [List.getElem_cons_zero, List.getElem_cons_succ] at hv0 hv1
  generalize vs[0]'(by simp at hs; omega) = v0 at hv0
  generalize vs[1]'(by simp at hs; omega) = v1 at hv1
  have e1 : v1 = .string (B sep) := by cases hv1; rfl
  subst e1
  have fin : ∀ {e : Ending} {w' : World}, e = .returned (.string ⟨(Go.Lib.join o sep).toArray⟩) → Below w.heap.size w w' → ∃ v, e = .returned v ∧ VRel M w' loc (.str (B (Go.Lib.join o sep))) v ∧ Grown w w' := fun he hb =>
    ⟨_, he, .str _, hb.size, hb.block, hb.os, hb.tape, hb.output⟩
  have none : o = [] → ∀ a, Calls Tryd.prog 118 #[.slice a 0 0, .string (B sep)] w fun e w' => ∃ v, e = .returned v ∧ VRel M w' loc (.str (B (Go.Lib.join o sep))) v ∧ Grown w w' := fun ho a =>
    (Tryd.strings_Join_none a 0 (B sep) w).mono fun e w' ⟨he, hw⟩ => by
      subst ho
      exact fin (by rw [he]; rfl) (hw ▸ Below.refl _ _)
  cases hv0 with
  | slnil _ _ _ hn _ => exact none (by simpa [Ab.Seq.toList] using hn) _
  | slz _ _ _ a hn _ _ => exact none (by simpa [Ab.Seq.toList] using hn) _
  | sl _ _ _ b of cap vals hz h1 h2 hcap hnil hfull htok =>
    by_cases ho : o = []
    · subst ho
      refine (Tryd.strings_Join_none (some ⟨b, of, Option.none⟩) cap (B sep) w).mono fun e w' ⟨he, hw⟩ => fin (by rw [he]; rfl) (hw ▸ Below.refl _ _)
    have hL : (Ab.Seq.map T.encL [] o).toList.length = o.length := by simp [Ab.Seq.toList]
    have hcell : ∀ (j : Nat) x, (o.map B)[j]? = some x → w.cell? ⟨b, of + j, Option.none⟩ = some (.string x) := by
      intro j x hx
      have hj : j < o.length := by
        have := (List.getElem?_eq_some_iff.1 hx).1
        simpa using this
      have hi := h1 j 0 (by rw [hL]; exact hj) (by omega)
      have hr := h2 j 0 (by rw [hL]; exact hj) (by simp [Ab.Seq.toList, T.encL])
      have e2 : ((Ab.Seq.map T.encL [] o).toList[j]'(by rw [hL]; exact hj))[0]'(by simp [Ab.Seq.toList, T.encL]) = .str (B o[j]) := by simp [Ab.Seq.toList, T.encL]
      rw [e2] at hr
      have e3 : vals j 0 = .string (B o[j]) := by
        generalize vals j 0 = v at hr
        cases hr; rfl
      have e4 : x = B o[j] := by
        rw [List.getElem?_map, List.getElem?_eq_getElem hj] at hx
        exact (Option.some.inj hx).symm
      rw [e3] at hi
      subst e4
      have := hi.1
      simpa using this
    have hbk : b < w.heap.size := by
      have hp : 0 < o.length := List.length_pos_iff.2 ho
      have := hcell 0 (B o[0]) (by simp [List.getElem?_eq_getElem hp])
      simp only [World.cell?] at this
      cases hb : w.heap[b]? with
      | none => rw [hb] at this; cases this
      | some q => exact (Array.getElem?_eq_some_iff.1 hb).1
    have key := Tryd.strings_Join b of cap (o.map B) (B sep) w hcell hbk (by simp; omega) (by simp; rw [hL] at hcap; exact hcap) (by
      have : (o.map B).map (fun x : ByteArray => x.data.toList) = o := by simp [Function.comp_def]
      rw [this]; exact hlen)
    have e5 : (o.map B).map (fun x : ByteArray => x.data.toList) = o := by simp [Function.comp_def]
    rw [e5] at key
    rw [hL]
    rw [List.length_map] at key
    exact key.mono fun e w' ⟨he, hb⟩ => fin he hb
end D
end

section
/- Answers: which may be, which are alike, how they are written; the program's way and the document's. -/

set_option linter.unusedVariables false
set_option linter.unusedSimpArgs false
set_option linter.unusedSectionVars false
set_option maxRecDepth 100000
open Go Go.Ab Go.Proofs V S T C
namespace An
open Dk (Nm fitP chkF)
open Dk (sepP join_cons)
open Ve (textM dg dg_len)
open D (fitB pd itoa_spec text_spec join_spec txt_le cat3)
theorem textM_len (v : Int) : (textM v).length ≤ 11 := by
  unfold Ve.textM
  split
  · exact (Ve.text3_len _ _ _).2
  · simp

/-! ### the document's digits -/
theorem tdv {n : Int} {k : Int} (h : 0 ≤ n) : Int.tdiv n k = n / k := Int.tdiv_eq_ediv_of_nonneg h
theorem tmd {n : Int} {k : Int} (h : 0 ≤ n) : Int.tmod n k = n % k := Int.tmod_eq_emod_of_nonneg h
theorem allBytes_one {n : Int} : allBytes (.raw [[.int .u8 n]]) := by
  intro c hc
  simp [Ab.Seq.toList] at hc
  exact ⟨n, hc⟩
theorem bytesOf_one {x : Int} : bytesOf (.raw [[.int .u8 x]]) = B [UInt8.ofNat x.toNat] := rfl
theorem rfit_spec (p : Int) (H : List AObj) : ASpec Tryd.prog 71 [.int .i64 p] H (fun r H' => r = .bool (fitB p) ∧ H' = H) := by
  refine pd (.bool (fitB p)) (fun _ => rfl) (fun _ => rfl) H (C.s71 _ _ (condD (fun h => ?_) fun h => ?_))
  · unfold fitB
    congr 1
    rw [decide_eq_decide]; omega
  · unfold fitB
    rw [decide_eq_false (by omega)]
theorem digits_spec {n : Int} (h0 : 0 ≤ n) (h1 : n < 1000) (H : List AObj) : ASpec Tryd.prog 89 [.int .i64 n] H (fun r H' => r = .str (B (dg n.toNat)) ∧ H' = H) := by
  have hb : ∀ n : Int, 0 ≤ n → bytesOf (.raw [[.int .u8 (IntKind.wrap .u8 (IntKind.wrap .i64 (48 + Int.tmod n 10)))]]) = B [UInt8.ofNat (48 + n.toNat % 10)] := by
    intro n h
    rw [tmd h, wrap64 (by omega) (by omega), wrapU8, Int.emod_eq_of_lt (by omega) (by omega), bytesOf_one]
    congr 2; congr 1; omega
  have k1 : ∀ n : Int, 0 ≤ n → n < 10 → ∀ H, ASpec Tryd.prog 89 [.int .i64 n] H (fun r H' => r = .str (B (dg n.toNat)) ∧ H' = H) := by
    intro n h0 h1 H
    refine pd (.str (B (dg n.toNat))) (fun _ => rfl) (fun _ => rfl) H (s89 _ _ (needJ (by decide) (needJ allBytes_one (condD (fun _ => ?_) fun h => absurd h1 h))))
    rw [hb n h0]
    unfold dg; rw [if_pos (by omega), show n.toNat % 10 = n.toNat by omega]
  have k2 : ∀ n : Int, 0 ≤ n → n < 100 → ∀ H, ASpec Tryd.prog 89 [.int .i64 n] H (fun r H' => r = .str (B (dg n.toNat)) ∧ H' = H) := by
    intro n h0 h1 H
    by_cases h10 : n < 10
    · exact k1 n h0 h10 H
    refine pd (.str (B (dg n.toNat))) (fun _ => rfl) (fun _ => rfl) H (s89 _ _ (needJ (by decide) (needJ allBytes_one (condD (fun h => absurd h h10) fun h => needJ (by decide) ?_))))
    rw [tdv h0, wrap64 (by omega) (by omega)]
    refine ASpec.call (k1 (n / 10) (by omega) (by omega) _) (Les.refl _) ⟨_, rfl, rfl, ?_⟩
    rw [hb n h0, D.B_append]
    refine needJ ?_ ?_
    · rw [B_size, B_size]; have := (dg_len (n / 10).toNat); simp; omega
    · congr 2
      unfold dg; rw [if_pos (by omega), if_neg (by omega), if_pos (by omega), show (n / 10).toNat = n.toNat / 10 by omega]; rfl
  by_cases h100 : n < 100
  · exact k2 n h0 h100 H
  refine pd (.str (B (dg n.toNat))) (fun _ => rfl) (fun _ => rfl) H (s89 _ _ (needJ (by decide) (needJ allBytes_one (condD (fun h => by omega) fun h => needJ (by decide) ?_))))
  rw [tdv h0, wrap64 (by omega) (by omega)]
  refine ASpec.call (k2 (n / 10) (by omega) (by omega) _) (Les.refl _) ⟨_, rfl, rfl, ?_⟩
  rw [hb n h0, D.B_append]
  refine needJ ?_ ?_
  · rw [B_size, B_size]; have := (dg_len (n / 10).toNat); simp; omega
  · congr 2
    unfold dg; rw [if_neg (by omega), if_pos (by omega), if_neg (by omega), if_neg (by omega), show (n / 10).toNat = n.toNat / 10 by omega, show n.toNat / 10 / 10 = n.toNat / 100 by omega]; rfl
theorem rtext_spec (p : Int) (H : List AObj) : ASpec Tryd.prog 134 [.int .i64 p] H (fun r H' => r = .str (B (textM p)) ∧ H' = H) := by
  refine pd (.str (B (textM p))) (fun _ => rfl) (fun _ => rfl) H (s134 _ _ (ASpec.call (rfit_spec p _) (Les.refl _) ⟨_, rfl, rfl, condBn (fun h => ?_) fun h => ?_⟩))
  · have : ¬ (0 ≤ p ∧ p < 1000000000) := by simpa [fitB] using h
    unfold textM; rw [if_neg this]
  · have hp : 0 ≤ p ∧ p < 1000000000 := by simpa [fitB] using h
    have ht := txt_le (p / 1000000).toNat (p / 1000 % 1000).toNat (p % 1000).toNat
    refine needJ (by decide) ?_
    rw [tdv hp.1, tdv hp.1, wrap64 (x := p / 1000000) (by omega) (by omega), wrap64 (x := p / 1000) (by omega) (by omega), tmd (by omega), tmd (by omega)]
    refine ASpec.call (digits_spec (n := p / 1000000) (by omega) (by omega) _) (Les.refl _) ⟨_, rfl, rfl, needJ ?_ (needJ (by decide) (needJ (by decide) ?_))⟩
    · rw [B_size]; omega
    refine ASpec.call (digits_spec (n := p / 1000 % 1000) (by omega) (by omega) _) (Les.refl _) ⟨_, rfl, rfl, needJ ?_ (needJ ?_ (needJ (by decide) ?_))⟩
    · rw [show (⟨#[46]⟩ : ByteArray) = B [46] from rfl, D.B_append, B_size, B_size]; simp; omega
    · rw [show (⟨#[46]⟩ : ByteArray) = B [46] from rfl, D.B_append, D.B_append, B_size]; simp; omega
    refine ASpec.call (digits_spec (n := p % 1000) (by omega) (by omega) _) (Les.refl _) ⟨_, rfl, rfl, needJ ?_ ?_⟩
    · rw [show (⟨#[46]⟩ : ByteArray) = B [46] from rfl, D.B_append, D.B_append, D.B_append, B_size, B_size]; simp; omega
    · rw [cat3]
      unfold textM Ve.text3; rw [if_pos hp]

/-! ### picks' texts -/
section
variable {s : List Pk} (hl : s.length ≤ 1100) (hc : chkF none s = true)
include hl hc
end
end An
end

section
/- Terms: how they are written, by the program and by the document. -/

set_option linter.unusedVariables false
set_option linter.unusedSimpArgs false
set_option linter.unusedSectionVars false
set_option maxRecDepth 100000
open Go Go.Ab Go.Proofs V S T C
open W (slS leNone cons_dec renS)
open Sp
namespace Tp
open Sg (ok ok_len meetS meet_ok meet_has leS0 pa PA same_spec suc64)
open Tm (okT agT meetT emptyT withinT hasT nameEq chkT all_spec empty_spec rempty_spec)
open Tq
open Ve (textM)
open D (text_spec join_spec)
open An (textM_len rtext_spec)
/-! ### a span's text -/
def partT (x : Span) : List UInt8 :=
  if x.2 - x.1 = 1 then [61] ++ textM x.1 else if x.1 = 0 then [60] ++ textM x.2 else if x.2 = 1000000000 then [62, 61] ++ textM x.1
  else [62, 61] ++ textM x.1 ++ [32, 60] ++ textM x.2
theorem partT_len (x : Span) : (partT x).length ≤ 26 := by
  have h1 := textM_len x.1
  have h2 := textM_len x.2
  unfold partT
  split
  · simp; omega
  · split
    · simp; omega
    · split <;> simp <;> omega
theorem lit (l r : List UInt8) : ({ data := List.toArray l } : ByteArray) ++ B r = B (l ++ r) := D.B_append l r
theorem litr (l r : List UInt8) : B l ++ ({ data := List.toArray r } : ByteArray) = B (l ++ r) := D.B_append l r
theorem part_spec {x : Span} (h1 : 0 ≤ x.1) (h2 : x.1 < x.2) (h3 : x.2 ≤ 1000000000) (H : List AObj) : ASpec Tryd.prog 117 [.agg (encS x)] H (fun r H' => r = .str (B (partT x)) ∧ H' = H) := by
  have t1 := textM_len x.1
  have t2 := textM_len x.2
  have k : ASpec Tryd.prog 117 [.agg (encS x)] [] (fun r H' => r = .str (B (partT x)) ∧ H' = []) := by
    refine ASpec.sel (s117 _ _ ?_)
    rw [wrap64 (by omega) (by omega)]
    refine condE (fun e1 => ?_) fun e1 => condE (fun e2 => ?_) fun e2 => condE (fun e3 => ?_) fun e3 => ?_
    · refine ASpec.call (text_spec x.1 _) (Les.refl _) ⟨_, rfl, rfl, needJ (by rw [B_size]; omega) (pa ?_)⟩
      rw [lit, partT, if_pos e1]; exact Le.refl _
    · refine ASpec.call (text_spec x.2 _) (Les.refl _) ⟨_, rfl, rfl, needJ (by rw [B_size]; omega) (pa ?_)⟩
      rw [lit, partT, if_neg e1, if_pos e2]; exact Le.refl _
    · refine ASpec.call (text_spec x.1 _) (Les.refl _) ⟨_, rfl, rfl, needJ (by rw [B_size]; omega) (pa ?_)⟩
      rw [lit, partT, if_neg e1, if_neg e2, if_pos e3]; exact Le.refl _
    · refine ASpec.call (text_spec x.1 _) (Les.refl _) ⟨_, rfl, rfl, ?_⟩
      repeat refine ⟨⟨rfl, rfl⟩, ?_⟩
      refine needJ (by rw [B_size]; omega) (needJ (by rw [lit, B_size]; simp; omega) ?_)
      refine ASpec.call (text_spec x.2 _) (Les.refl _) ⟨_, rfl, rfl, needJ (by rw [lit, litr, B_size, B_size]; simp; omega) (pa ?_)⟩
      rw [lit, litr, D.B_append, partT, if_neg e1, if_neg e2, if_neg e3]; exact Le.refl _
  exact ASpec.pureH H k _ _ rfl rfl
theorem rpart_spec {x : Span} (h1 : 0 ≤ x.1) (h2 : x.1 < x.2) (h3 : x.2 ≤ 1000000000) (H : List AObj) : ASpec Tryd.prog 119 [.agg (encS x)] H (fun r H' => r = .str (B (partT x)) ∧ H' = H) := by
  have t1 := textM_len x.1
  have t2 := textM_len x.2
  have k : ASpec Tryd.prog 119 [.agg (encS x)] [] (fun r H' => r = .str (B (partT x)) ∧ H' = []) := by
    refine ASpec.sel (s119 _ _ ?_)
    rw [wrap64 (by omega) (by omega)]
    refine condE (fun e1 => ?_) fun e1 => condE (fun e2 => ?_) fun e2 => condE (fun e3 => ?_) fun e3 => ?_
    · refine ASpec.call (rtext_spec x.1 _) (Les.refl _) ⟨_, rfl, rfl, needJ (by rw [B_size]; omega) (pa ?_)⟩
      rw [lit, partT, if_pos (by omega)]; exact Le.refl _
    · refine ASpec.call (rtext_spec x.2 _) (Les.refl _) ⟨_, rfl, rfl, needJ (by rw [B_size]; omega) (pa ?_)⟩
      rw [lit, partT, if_neg (by omega), if_pos e2]; exact Le.refl _
    · refine ASpec.call (rtext_spec x.1 _) (Les.refl _) ⟨_, rfl, rfl, needJ (by rw [B_size]; omega) (pa ?_)⟩
      rw [lit, partT, if_neg (by omega), if_neg e2, if_pos e3]; exact Le.refl _
    · refine ASpec.call (rtext_spec x.1 _) (Les.refl _) ⟨_, rfl, rfl, ?_⟩
      repeat refine ⟨⟨rfl, rfl⟩, ?_⟩
      refine needJ (by rw [B_size]; omega) (needJ (by rw [lit, B_size]; simp; omega) ?_)
      refine ASpec.call (rtext_spec x.2 _) (Les.refl _) ⟨_, rfl, rfl, needJ (by rw [lit, litr, B_size, B_size]; simp; omega) (pa ?_)⟩
      rw [lit, litr, D.B_append, partT, if_neg (by omega), if_neg e2, if_neg e3]; exact Le.refl _
  exact ASpec.pureH H k _ _ rfl rfl

/-! ### a set's text -/
abbrev sepR : List UInt8 := [32, 124, 32]
def noneW : List UInt8 := [110, 111, 110, 101]
def anyW : List UInt8 := [97, 110, 121]
def joinR (l : List Span) : List UInt8 := Go.Lib.join (l.map partT) sepR
def ruleT (l : List Span) : List UInt8 := if l = [] then noneW else if l = [(0, 1000000000)] then anyW else joinR l
theorem tail_len : ∀ (ps : List (List UInt8)), (∀ p ∈ ps, p.length ≤ 26) → (Go.Lib.joinTail sepR ps).length ≤ ps.length * 29
  | [], _ => by simp [Go.Lib.joinTail]
  | p :: r, h => by
    have h1 := h p (by simp)
    have h2 := tail_len r fun x hx => h x (by simp [hx])
    simp [Go.Lib.joinTail] at h2 ⊢; omega
theorem joinR_len {l : List Span} (h : l.length ≤ 1000) : (joinR l).length ≤ 30000 := by
  unfold joinR
  cases l with
  | nil => simp [Go.Lib.join_nil]
  | cons x r =>
    rw [List.map_cons, Go.Lib.join_cons]
    have h1 := partT_len x
    have h2 := tail_len (r.map partT) (fun p hp => by
      obtain ⟨y, _, rfl⟩ := List.mem_map.1 hp
      exact partT_len y)
    simp at h h2 ⊢; omega
theorem joinR_snoc {l : List Span} (x : Span) (h : l ≠ []) : joinR (l ++ [x]) = joinR l ++ sepR ++ partT x := by
  cases l with
  | nil => exact (h rfl).elim
  | cons y r =>
    unfold joinR
    rw [List.cons_append, List.map_cons, List.map_cons, Go.Lib.join_cons, Go.Lib.join_cons]
    simp [Go.Lib.joinTail]
theorem ruleT_len {l : List Span} (h : l.length ≤ 1000) : (ruleT l).length ≤ 30000 := by
  unfold ruleT
  split
  · simp [noneW]
  · split
    · simp [anyW]
    · exact joinR_len h
theorem leSl (l : List Span) {ρ : Nat → Nat} : Le (slS l) (AV.ren ρ (slS l)) := leNone renS
theorem take_snoc {l : List Span} {i : Nat} (h : i < l.length) : l.take (i + 1) = l.take i ++ [l.getD i (0, 0)] := by
  rw [List.take_add_one, List.getD_eq_getElem?_getD, List.getElem?_eq_getElem h]; rfl
section
variable {l : List Span} (hk : ok l) (hl : l.length ≤ 1000)
include hk hl
theorem show9 : ∀ (m i : Nat) (o : List (List UInt8)), m + i = l.length → o = (l.take i).map partT →
    AWP Tryd.prog 32 0 c62_9 [(3, .sl 1 (.map encL [] o) (.tok 0)), (18, slS l), (19, .int .i64 l.length), (20, .int .i64 i)] [.tok] (q62_2 0 (PA (.str (B (joinR l))))) := by
  intro m
  induction m with
  | zero =>
    intro i o hm ho
    have hj := joinR_len hl
    rw [List.take_of_length_le (by omega)] at ho
    subst ho
    refine v62_9 _ _ _ _ _ _ (condD (fun hc => by omega) fun _ => ?_)
    refine ASpec.call (join_spec (l.map partT) sepR (by simp; omega) (Nat.le_trans hj (by omega)) _) ⟨Le.sl (s' := .map encL [] (l.map partT)) rfl (.inl rfl) (.inr rfl), Le.refl _, trivial⟩ ⟨_, rfl, rfl, pa (Le.refl _)⟩
  | succ m ih =>
    intro i o hm ho
    have hti := take_snoc (show i < l.length by omega)
    obtain ⟨r1, r2, r3, _⟩ := chkS_rise hk i (by omega)
    have hol : o.length ≤ 1000 := by rw [ho]; simp; omega
    refine v62_9 _ _ _ _ _ _ (condD (fun hc => needJ ⟨by omega, by omega⟩ ?_) fun hc => by omega)
    rw [Int.toNat_natCast, suc64 (by omega)]
    generalize l.getD i (0, 0) = x at r1 r2 r3 hti ⊢
    refine ASpec.call (part_spec (x := x) (by omega) r2 r3 _) (Les.refl _) ⟨_, rfl, rfl, needJ (by omega) ?_⟩
    refine AWP.shape [2] [(3, .sl 1 (.map encL [] (o ++ [partT x])) (.tok 0)), (18, slS l), (19, .int .i64 l.length), (20, .int .i64 (i + 1 : Nat))] [.tok] (Sel.mk0 (by decide) ⟨rfl, trivial⟩)
      ⟨rfl, leAppE (Les.refl _), rfl, leSl l, rfl, Le.refl _, rfl, Le.refl _, trivial⟩ (ih (i + 1) _ (by omega) ?_)
    rw [hti, List.map_append, ← ho]; rfl
theorem rule_spec (H : List AObj) : ASpec Tryd.prog 62 [slS l] H (fun r H' => r = .str (B (ruleT l)) ∧ H' = H) := by
  have hko : spanOk l = true := hk
  have k : ASpec Tryd.prog 62 [slS l] [] (fun r H' => r = .str (B (ruleT l)) ∧ H' = []) := by
    refine ASpec.sel (s62 _ _ (ASpec.call (spanCheck_spec l (by unfold lim; omega) _) (Les.refl _) ⟨_, rfl, rfl, ?_⟩))
    rw [hko]
    refine condBn (fun h => by cases h) fun _ => condE (fun h => ?_) fun h => ?_
    · have : l = [] := List.length_eq_zero_iff.1 (by omega)
      unfold ruleT
      rw [if_pos this]; exact pa (Le.refl _)
    · have hne : ¬ l = [] := fun e => h (by rw [e]; rfl)
      refine ASpec.call (all_spec _) (Les.refl _) ⟨_, rfl, rfl, ?_⟩
      refine ASpec.call (eqS_spec l [(0, 1000000000)] (by omega) _) (Les.refl _) ⟨_, rfl, rfl, condB (fun ha => ?_) fun ha => v62_7 _ _ _ ?_⟩
      · unfold ruleT
        rw [if_neg hne, if_pos (of_decide_eq_true ha)]; exact pa (Le.refl _)
      · unfold ruleT
        rw [if_neg hne, if_neg (of_decide_eq_false ha)]
        refine AWP.re (ReSt.tok (k := 3) (q' := .map encL [] []) (sz' := 1) (s2 := [(3, .sl 1 (.map encL [] []) (.tok 0)), (18, slS l), (19, .int .i64 l.length), (20, .int .i64 (0 : Nat))]) rfl (.inl rfl) rfl (.inr rfl) (fun d hd => ?_) rfl) (show9 hk hl l.length 0 [] (by omega) (by simp))
        simp only [Ab.get]
        have e : Nat.beq 3 d = false := by
          cases hx : Nat.beq 3 d with
          | false => rfl
          | true => exact absurd (Nat.eq_of_beq_eq_true hx).symm hd
        rw [e]; rfl
  exact ASpec.pureH H k _ _ rfl rfl
theorem rshow9 : ∀ (m i : Nat), m + i = l.length → 1 ≤ i →
    AWP Tryd.prog 33 0 c63_9 [(0, slS l), (3, .str (B (joinR (l.take i)))), (4, .int .i64 i)] [] (q63_2 0 (PA (.str (B (joinR l))))) := by
  intro m
  induction m with
  | zero =>
    intro i hm hi
    rw [List.take_of_length_le (by omega)]
    exact v63_9 _ _ _ _ _ (condD (fun hc => by omega) fun _ => pa (Le.refl _))
  | succ m ih =>
    intro i hm hi
    have hti := take_snoc (show i < l.length by omega)
    obtain ⟨r1, r2, r3, _⟩ := chkS_rise hk i (by omega)
    have hj : (joinR (l.take i)).length ≤ 30000 := joinR_len (by rw [List.length_take]; omega)
    refine v63_9 _ _ _ _ _ (condD (fun _ => needJ (by rw [B_size]; omega) (needJ ⟨by omega, by omega⟩ ?_)) fun hc => by omega)
    rw [Int.toNat_natCast, suc64 (by omega)]
    have hne : l.take i ≠ [] := fun e => by have := congrArg List.length e; rw [List.length_take, List.length_nil] at this; omega
    have nxt := ih (i + 1) (by omega) (by omega)
    rw [hti, joinR_snoc _ hne] at nxt
    generalize l.getD i (0, 0) = x at r1 r2 r3 nxt ⊢
    have hp := partT_len x
    refine ASpec.call (rpart_spec (x := x) (by omega) r2 r3 _) (Les.refl _) ⟨_, rfl, rfl, needJ (by rw [litr, B_size, B_size]; simp; omega) ?_⟩
    rw [litr, D.B_append]; exact nxt
theorem rrule_spec (H : List AObj) : ASpec Tryd.prog 63 [slS l] H (fun r H' => r = .str (B (ruleT l)) ∧ H' = H) := by
  have hko : spanOk l = true := hk
  have k : ASpec Tryd.prog 63 [slS l] [] (fun r H' => r = .str (B (ruleT l)) ∧ H' = []) := by
    refine ASpec.sel (s63 _ _ (ASpec.call (rspanCheck_spec l (by unfold lim; omega) _) (Les.refl _) ⟨_, rfl, rfl, ?_⟩))
    rw [hko]
    refine condBn (fun h => by cases h) fun _ => condE (fun h => ?_) fun h => ?_
    · have : l = [] := List.length_eq_zero_iff.1 (by omega)
      unfold ruleT
      rw [if_pos this]; exact pa (Le.refl _)
    · have hne : ¬ l = [] := fun e => h (by rw [e]; rfl)
      have hpos : 0 < l.length := List.length_pos_iff.2 hne
      refine ASpec.call (rall_spec _) (Les.refl _) ⟨_, rfl, rfl, ?_⟩
      refine ASpec.call (same_spec l [(0, 1000000000)] (by omega) _) (Les.refl _) ⟨_, rfl, rfl, condB (fun ha => ?_) fun ha => v63_7 _ _ _ ?_⟩
      · unfold ruleT
        rw [if_neg hne, if_pos (of_decide_eq_true ha)]; exact pa (Le.refl _)
      · unfold ruleT
        rw [if_neg hne, if_neg (of_decide_eq_false ha)]
        have hti := take_snoc (show 0 < l.length by omega)
        obtain ⟨r1, r2, r3, _⟩ := chkS_rise hk 0 hpos
        have nxt := rshow9 hk hl (l.length - 1) 1 (by omega) (by omega)
        have e1 : joinR (l.take 1) = partT (l.getD 0 (0, 0)) := by
          rw [hti]; simp [joinR, Go.Lib.join_one]
        rw [e1] at nxt
        refine needJ ⟨by omega, by omega⟩ ?_
        exact ASpec.call (rpart_spec (x := l.getD 0 (0, 0)) (by omega) r2 r3 _) (Les.refl _) ⟨_, rfl, rfl, nxt⟩
  exact ASpec.pureH H k _ _ rfl rfl
end

/-! ### a term's text -/
def whateverW : List UInt8 := [32, 119, 104, 97, 116, 101, 118, 101, 114]
def nowhereW : List UInt8 := [32, 110, 111, 119, 104, 101, 114, 101]
def absentW : List UInt8 := [32, 97, 98, 115, 101, 110, 116]
def orW : List UInt8 := [32, 111, 114, 32, 97, 98, 115, 101, 110, 116]
def showT (t : Term) : List UInt8 :=
  if chkT t = true then (if fullB t = true then t.1 ++ whateverW else if emptyT t = true then t.1 ++ nowhereW else if t.2.1 = [] then t.1 ++ absentW
    else if t.2.2 = true then t.1 ++ [32] ++ ruleT t.2.1 ++ orW else t.1 ++ [32] ++ ruleT t.2.1) else []
theorem chk_ok {t : Term} (h : chkT t = true) : okT t := by
  unfold chkT at h
  rw [Bool.and_eq_true] at h
  exact h.2
theorem nil_of {t : Term} (h : ((t.2.1.length : Int)) = 0) : t.2.1 = [] := List.length_eq_zero_iff.1 (by omega)
section
variable {t : Term} (h1 : t.1.length ≤ lim) (h2 : t.2.1.length ≤ 1000)
include h1 h2
theorem showT_spec (H : List AObj) : ASpec Tryd.prog 20 [agT t] H (fun r H' => r = .str (B (showT t)) ∧ H' = H) := by
  have hr := ruleT_len h2
  unfold lim at h1
  have k : ASpec Tryd.prog 20 [agT t] [] (fun r H' => r = .str (B (showT t)) ∧ H' = []) := by
    refine ASpec.sel (s20 _ _ (ASpec.call (Tm.check_spec t (by unfold lim; omega) (by unfold lim; omega) _) (Les.refl _) ⟨_, rfl, rfl, condBn (fun h => ?_) fun h => ?_⟩))
    · unfold showT; rw [if_neg (by simp [h])]; exact pa (Le.refl _)
    have hk := chk_ok h
    refine ASpec.call (fullT_spec hk _) (Les.refl _) ⟨_, rfl, rfl, condB (fun hf => needJ (by rw [B_size]; omega) (pa ?_)) fun hf => ?_⟩
    · unfold showT; rw [if_pos h, if_pos hf, litr]; exact Le.refl _
    refine ASpec.call (empty_spec t _) (Les.refl _) ⟨_, rfl, rfl, condB (fun he => needJ (by rw [B_size]; omega) (pa ?_)) fun he => ?_⟩
    · unfold showT; rw [if_pos h, if_neg (by simp [hf]), if_pos he, litr]; exact Le.refl _
    refine condE (fun hn => needJ (by rw [B_size]; omega) (pa ?_)) fun hn => ?_
    · unfold showT; rw [if_pos h, if_neg (by simp [hf]), if_neg (by simp [he]), if_pos (nil_of hn), litr]; exact Le.refl _
    have hn' : ¬ t.2.1 = [] := fun e => hn (by rw [e]; rfl)
    refine condB (fun ht => needJ (by rw [B_size]; omega) ?_) fun ht => needJ (by rw [B_size]; omega) ?_
    · refine ASpec.call (rule_spec hk h2 _) (Les.refl _) ⟨_, rfl, rfl, ?_⟩
      repeat refine ⟨⟨rfl, rfl⟩, ?_⟩
      refine needJ (by rw [litr, B_size, B_size]; simp; omega) (needJ (by rw [litr, D.B_append, B_size]; simp; omega) (pa ?_))
      unfold showT; rw [if_pos h, if_neg (by simp [hf]), if_neg (by simp [he]), if_neg hn', if_pos ht, litr, D.B_append, litr]; exact Le.refl _
    · refine ASpec.call (rule_spec hk h2 _) (Les.refl _) ⟨_, rfl, rfl, ?_⟩
      repeat refine ⟨⟨rfl, rfl⟩, ?_⟩
      refine needJ (by rw [litr, B_size, B_size]; simp; omega) (pa ?_)
      unfold showT; rw [if_pos h, if_neg (by simp [hf]), if_neg (by simp [he]), if_neg hn', if_neg (by simp [ht]), litr, D.B_append]; exact Le.refl _
  exact ASpec.pureH H k _ _ rfl rfl
theorem rshowT_spec (H : List AObj) : ASpec Tryd.prog 21 [agT t] H (fun r H' => r = .str (B (showT t)) ∧ H' = H) := by
  have hr := ruleT_len h2
  unfold lim at h1
  have k : ASpec Tryd.prog 21 [agT t] [] (fun r H' => r = .str (B (showT t)) ∧ H' = []) := by
    refine ASpec.sel (s21 _ _ (ASpec.call (rchkT_spec t (by unfold lim; omega) (by unfold lim; omega) _) (Les.refl _) ⟨_, rfl, rfl, condBn (fun h => ?_) fun h => ?_⟩))
    · unfold showT; rw [if_neg (by simp [h])]; exact pa (Le.refl _)
    have hk := chk_ok h
    refine ASpec.call (rfullT_spec t (by omega) _) (Les.refl _) ⟨_, rfl, rfl, condB (fun hf => needJ (by rw [B_size]; omega) (pa ?_)) fun hf => ?_⟩
    · unfold showT; rw [if_pos h, if_pos hf, litr]; exact Le.refl _
    refine ASpec.call (rempty_spec t _) (Les.refl _) ⟨_, rfl, rfl, condB (fun he => needJ (by rw [B_size]; omega) (pa ?_)) fun he => ?_⟩
    · unfold showT; rw [if_pos h, if_neg (by simp [hf]), if_pos he, litr]; exact Le.refl _
    refine condE (fun hn => needJ (by rw [B_size]; omega) (pa ?_)) fun hn => ?_
    · unfold showT; rw [if_pos h, if_neg (by simp [hf]), if_neg (by simp [he]), if_pos (nil_of hn), litr]; exact Le.refl _
    have hn' : ¬ t.2.1 = [] := fun e => hn (by rw [e]; rfl)
    refine needJ (by rw [B_size]; omega) ?_
    refine ASpec.call (rrule_spec hk h2 _) (Les.refl _) ⟨_, rfl, rfl, ?_⟩
    repeat refine ⟨⟨rfl, rfl⟩, ?_⟩
    refine needJ (by rw [litr, B_size, B_size]; simp; omega) (condB (fun ht => needJ (by rw [litr, D.B_append, B_size]; simp; omega) (pa ?_)) fun ht => pa ?_)
    · unfold showT; rw [if_pos h, if_neg (by simp [hf]), if_neg (by simp [he]), if_neg hn', if_pos ht, litr, D.B_append, litr]; exact Le.refl _
    · unfold showT; rw [if_pos h, if_neg (by simp [hf]), if_neg (by simp [he]), if_neg hn', if_neg (by simp [ht]), litr, D.B_append]; exact Le.refl _
  exact ASpec.pureH H k _ _ rfl rfl
end
end Tp
end

section
/- TermLaws, TermDoes: the laws' functions return true. -/

set_option linter.unusedVariables false
set_option linter.unusedSimpArgs false
set_option linter.unusedSectionVars false
set_option maxRecDepth 100000
open Go Go.Ab Go.Proofs V S T C
open W (slS leNone cons_dec renS)
open Sp
namespace Tp
open Sg (ok ok_len meetS meet_ok meet_has leS0 pa PA subS subS_iff suc64 condQ condNq)
open Tm (okT agT meetT emptyT withinT hasT nameEq chkT largeT large_spec empty_spec rempty_spec within_specT rwithin_specT has_specT rsame_specT)
open Tq

/-! ### the plain laws -/
theorem not_ok {a : List Span} (h : ok a) : ok (notS a) := kept_ok h okNil
section
variable {a b : Term} (ha : okT a) (hb : okT b)
include ha
variable (e : a.1 = b.1)
include hb e
end

/-! ### the chapter's example -/
abbrev wakeT : Term := ([97], [(1000000, 1000001)], true)
abbrev wakeN : Term := ([97], [(0, 1000000), (1000001, 1000000000)], false)
theorem wake_not : notT wakeT = wakeN := by
  have h : notS [(1000000, 1000001)] = [(0, 1000000), (1000001, 1000000000)] := by
    have o1 : ok [(1000000, 1000001)] := by show chkS (-1) _ = true; decide
    have o2 : ok [(0, 1000000), (1000001, 1000000000)] := by show chkS (-1) _ = true; decide
    refine ext (not_ok o1) o2 fun p => ?_
    rw [not_has o1, Bool.eq_iff_iff]
    simp [hasS, inS]
    omega
  show ([97], notS [(1000000, 1000001)], !true) = _
  rw [h]; rfl
theorem wake_ok : okT wakeT := by show chkS (-1) _ = true; decide
theorem wake_show : showT wakeT = [97, 32, 61, 49, 46, 48, 46, 48, 32, 111, 114, 32, 97, 98, 115, 101, 110, 116] := by decide +kernel
theorem wake_show2 : showT wakeN = [97, 32, 60, 49, 46, 48, 46, 48, 32, 124, 32, 62, 61, 49, 46, 48, 46, 49] := by decide +kernel
theorem awakeT_spec (H : List AObj) : ASpec Tryd.prog 10 [] H (fun r H' => r = .bool true ∧ H' = H) := by
  have k : ASpec Tryd.prog 10 [] [] (fun r H' => r = .bool true ∧ H' = []) := by
    have hle : Les [.agg [.str (B [97]), .sl 2 (.raw [[.int .i64 1000000, .int .i64 1000001]]) .full, .bool true]] [agT wakeT] :=
      ⟨Le.agg ⟨Le.refl _, Le.sl rfl (.inl rfl) (.inr rfl), Le.refl _, trivial⟩, trivial⟩
    refine ASpec.sel (s10 (PA (.bool true)) (ASpec.call (showT_spec (t := wakeT) (by unfold lim; simp) (by simp) _) hle ⟨_, rfl, rfl, ?_⟩))
    rw [wake_show]
    refine condB (fun _ => ?_) fun h => ?_
    · refine ASpec.call (notT_spec wake_ok _) hle ⟨_, rfl, rfl, ?_⟩
      refine ASpec.call (showT_spec (t := notT wakeT) (by unfold lim; rw [wake_not]; simp) (by rw [wake_not]; simp) _) (Les.refl _) ⟨_, rfl, rfl, pa ?_⟩
      rw [wake_not, wake_show2]
      show Le (AV.bool ((B _).toList == (B _).toList)) _
      rw [B_beq]; exact Le.refl _
    · have e : ((B [97, 32, 61, 49, 46, 48, 46, 48, 32, 111, 114, 32, 97, 98, 115, 101, 110, 116]).toList == (B [97, 32, 61, 49, 46, 48, 46, 48, 32, 111, 114, 32, 97, 98, 115, 101, 110, 116]).toList) = false := h
      rw [B_beq] at e; simp at e
  exact ASpec.pureH H k _ _ rfl rfl

theorem largeT_len {t : Term} (h : largeT t = false) : t.1.length ≤ 200 ∧ t.2.1.length ≤ 60 := by
  unfold largeT at h
  rw [Bool.or_eq_false_iff] at h
  have h1 := of_decide_eq_false h.1
  have h2 := of_decide_eq_false h.2
  omega
end Tp
end

section
/- TermDoes: the law's function returns true. -/

set_option linter.unusedVariables false
set_option linter.unusedSimpArgs false
set_option linter.unusedSectionVars false
set_option maxRecDepth 100000
open Go Go.Ab Go.Proofs V S T C
open W (slS leNone cons_dec renS)
open Sp
namespace Tp
open Sg (ok ok_len meetS meet_ok meet_has leS0 pa PA subS subS_iff suc64 condQ condNq)
open Tm (okT agT meetT emptyT withinT hasT nameEq chkT largeT large_spec empty_spec rempty_spec within_specT rwithin_specT has_specT rsame_specT)
open Tq

theorem termDoes_spec (a b : Term) (v : Int) : ASpec Tryd.prog 4 [agT a, agT b, .int .i64 v] [] (fun r H' => r = .bool true ∧ H' = []) := by
  have wake : ∀ H, ASpec Tryd.prog 10 [] H (fun r H' => ∃ x : Unit, r = .bool true ∧ H' = H ∧ PA (.bool true) (.bool true) H) := fun H => ASpec.call (awakeT_spec _) (Les.refl _) ⟨(), rfl, rfl, pa (Le.refl _)⟩
  refine ASpec.sel (s4 a b v (PA (.bool true)) (ASpec.call (large_spec a _) (Les.refl _) ⟨_, rfl, rfl, condB (fun _ => wake _) fun g1 => ?_⟩))
  refine ASpec.call (large_spec b _) (Les.refl _) ⟨_, rfl, rfl, condB (fun _ => wake _) fun g2 => ?_⟩
  obtain ⟨n1, m1⟩ := largeT_len g1
  obtain ⟨n2, m2⟩ := largeT_len g2
  have hl : ∀ {t : Term}, okT t → t.2.1.length ≤ 2000000000 := fun h => Nat.le_trans (ok_len h) (by omega)
  have k1 : a.1.length ≤ lim := by unfold lim; omega
  have k2 : a.2.1.length ≤ lim := by unfold lim; omega
  have k3 : b.1.length ≤ lim := by unfold lim; omega
  have k4 : b.2.1.length ≤ lim := by unfold lim; omega
  refine v4_3 _ _ _ _ _ (ASpec.call (Tm.check_spec a k1 k2 _) (Les.refl _) ⟨_, rfl, rfl, ?_⟩)
  repeat refine ⟨⟨rfl, rfl⟩, ?_⟩
  refine ASpec.call (rchkT_spec a k1 k2 _) (Les.refl _) ⟨_, rfl, rfl, condNq (fun h => (h rfl).elim) fun _ => ?_⟩
  repeat refine ⟨⟨rfl, rfl⟩, ?_⟩
  refine ASpec.call (sameT_spec a b (by omega) _) (Les.refl _) ⟨_, rfl, rfl, ?_⟩
  repeat refine ⟨⟨rfl, rfl⟩, ?_⟩
  refine ASpec.call (rsame_specT a b (by omega) _) (Les.refl _) ⟨_, rfl, rfl, condNq (fun h => (h rfl).elim) fun _ => ?_⟩
  repeat refine ⟨⟨rfl, rfl⟩, ?_⟩
  refine ASpec.call (showT_spec (t := a) k1 (by omega) _) (Les.refl _) ⟨_, rfl, rfl, ?_⟩
  repeat refine ⟨⟨rfl, rfl⟩, ?_⟩
  refine ASpec.call (rshowT_spec (t := a) k1 (by omega) _) (Les.refl _) ⟨_, rfl, rfl, V.condSn (fun h => (h rfl).elim) fun _ => ?_⟩
  refine v4_5 _ _ _ _ _ (ASpec.call (rchkT_spec a k1 k2 _) (Les.refl _) ⟨_, rfl, rfl, condBn (fun _ => wake _) fun c1 => ?_⟩)
  refine ASpec.call (rchkT_spec b k3 k4 _) (Les.refl _) ⟨_, rfl, rfl, condBn (fun _ => wake _) fun c2 => ?_⟩
  have ha := chk_ok c1
  have hb := chk_ok c2
  refine v4_7 _ _ _ _ _ (ASpec.call (fullT_spec ha _) (Les.refl _) ⟨_, rfl, rfl, ?_⟩)
  repeat refine ⟨⟨rfl, rfl⟩, ?_⟩
  refine ASpec.call (rfullT_spec a (hl ha) _) (Les.refl _) ⟨_, rfl, rfl, condNq (fun h => (h rfl).elim) fun _ => ?_⟩
  repeat refine ⟨⟨rfl, rfl⟩, ?_⟩
  refine ASpec.call (empty_spec a _) (Les.refl _) ⟨_, rfl, rfl, ?_⟩
  repeat refine ⟨⟨rfl, rfl⟩, ?_⟩
  refine ASpec.call (rempty_spec a _) (Les.refl _) ⟨_, rfl, rfl, condNq (fun h => (h rfl).elim) fun _ => ?_⟩
  repeat refine ⟨⟨rfl, rfl⟩, ?_⟩
  refine ASpec.call (notT_spec ha _) (Les.refl _) ⟨_, rfl, rfl, ?_⟩
  repeat refine ⟨⟨rfl, rfl⟩, ?_⟩
  refine ASpec.call (rnotT_spec ha _) (Les.refl _) ⟨_, rfl, rfl, ?_⟩
  repeat refine ⟨⟨rfl, rfl⟩, ?_⟩
  refine ASpec.call (rsame_specT (notT a) (notT a) (hl (ok_not ha)) _) (Les.refl _) ⟨_, rfl, rfl, condBn (fun h => by simp at h) fun _ => ?_⟩
  repeat refine ⟨⟨rfl, rfl⟩, ?_⟩
  refine ASpec.call (has_specT a v true ha _) (Les.refl _) ⟨_, rfl, rfl, ?_⟩
  repeat refine ⟨⟨rfl, rfl⟩, ?_⟩
  refine ASpec.call (rhasT_spec a v true ha _) (Les.refl _) ⟨_, rfl, rfl, condNq (fun h => (h rfl).elim) fun _ => ?_⟩
  repeat refine ⟨⟨rfl, rfl⟩, ?_⟩
  refine ASpec.call (has_specT a v false ha _) (Les.refl _) ⟨_, rfl, rfl, ?_⟩
  repeat refine ⟨⟨rfl, rfl⟩, ?_⟩
  refine condNq (fun h => (h rfl).elim) fun _ => ?_
  have hm := Tm.ok_meet ha hb
  have hj := ok_join ha hb
  refine v4_9 _ _ _ _ (ASpec.call (meetT_spec a b ha hb _) (Les.refl _) ⟨_, rfl, rfl, ?_⟩)
  repeat refine ⟨⟨rfl, rfl⟩, ?_⟩
  refine ASpec.call (rmeetT_spec a b ha hb _) (Les.refl _) ⟨_, rfl, rfl, ?_⟩
  repeat refine ⟨⟨rfl, rfl⟩, ?_⟩
  refine ASpec.call (rsame_specT (meetT a b) (meetT a b) (hl hm) _) (Les.refl _) ⟨_, rfl, rfl, condB (fun _ => ?_) fun h => by simp at h⟩
  repeat refine ⟨⟨rfl, rfl⟩, ?_⟩
  refine ASpec.call (joinT_spec a b ha hb _) (Les.refl _) ⟨_, rfl, rfl, ?_⟩
  repeat refine ⟨⟨rfl, rfl⟩, ?_⟩
  refine ASpec.call (rjoinT_spec a b ha hb _) (Les.refl _) ⟨_, rfl, rfl, ?_⟩
  repeat refine ⟨⟨rfl, rfl⟩, ?_⟩
  refine ASpec.call (rsame_specT (joinT a b) (joinT a b) (hl hj) _) (Les.refl _) ⟨_, rfl, rfl, condB (fun _ => ?_) fun h => by simp at h⟩
  repeat refine ⟨⟨rfl, rfl⟩, ?_⟩
  refine ASpec.call (within_specT a b ha hb _) (Les.refl _) ⟨_, rfl, rfl, ?_⟩
  repeat refine ⟨⟨rfl, rfl⟩, ?_⟩
  refine ASpec.call (rwithin_specT a b ha hb _) (Les.refl _) ⟨_, rfl, rfl, condQ (fun _ => wake _) fun h => (h rfl).elim⟩
end Tp
end

section
/- The codecs of picks; what the row's condition gives. -/

open Go Go.Ab Go.Proofs
namespace Go.Ab
end Go.Ab
namespace D
theorem gT : Tryd.prog.globalNamed "internal/strconv.uint64pow10" = some 0 := by kernel_rfl
theorem gTy : (Tryd.prog.globals[0]?).map (·.type) = some 163 := by kernel_rfl
abbrev laid5 : List (String × DataW Unit) := [("math/bits.deBruijn32tab", YtkkdhnhgfbddeaaDoor.Rows.laid_math_bits_deBruijn32tab), ("math/bits.deBruijn64tab", YtkkdhnhgfbddeaaDoor.Rows.laid_math_bits_deBruijn64tab), ("internal/strconv.uint64pow10", YtkkdhnhgfbddeaaDoor.Rows.laid_internal_strconv_uint64pow10)]
theorem tab_data : (YtkkdhnhgfbddeaaDoor.Rows.laid_internal_strconv_uint64pow10 : DataW Unit) = Lib.tabData .u64 Lib.pow10Tab := by rfl

/-- what the row's condition and the world's shape give -/
theorem tabs_of {W : World} (h : laidMetH Tryd.prog laid5 W) (hsh : W.ShapedOpen Tryd.prog) : Tabs Tryd.prog (mem0 W) W := by
  rw [MakeChecks.laidMetH_plain _ _ _ (by kernel_rfl)] at h
  have h3 := laidMet.tail (laidMet.tail h)
  rw [tab_data] at h3
  have ht : Lib.TabIs Tryd.prog W "internal/strconv.uint64pow10" .u64 Lib.pow10Tab := Lib.tabIs_of_head gT gTy Tryd.underlying163 Tryd.underlying155 (by kernel_rfl) (by kernel_rfl) h3
  refine tabs0 (fun g hg => ?_) fun g hg => ?_
  · rw [gT] at hg
    cases hg
    unfold Lib.TabIs World.var? at ht
    rw [gT] at ht
    simp only [Option.bind_some] at ht
    split at ht
    case h_2 => cases ht
    case h_1 cs T fr hc =>
    simp only [Option.some.injEq] at ht
    subst ht
    exact ⟨T, fr, hc⟩
  · have hM : Tryd.prog.globalNamed "internal/bytealg.MaxLen" = some 1 := by kernel_rfl
    rw [hM] at hg
    cases hg
    obtain ⟨m, hm⟩ := Go.Proofs.cell_of_shapedOpen_int (g := 1) (k := .i64) (zero := #[.int .i64 0]) (t := 3) hsh (of_decide_eq_true (by kernel_rfl)) (by kernel_rfl) rfl (by kernel_rfl) (by kernel_rfl) Tryd.underlying3
    obtain ⟨cs, hh, hs, _⟩ := hsh.1 1 #[.int .i64 0] 3 (of_decide_eq_true (by kernel_rfl)) (by kernel_rfl)
    have h1 : cs.size = 1 := hs
    have hm2 : cs[0]? = some (.int .i64 m) := by
      simp only [World.cell?, hh] at hm
      exact hm
    refine ⟨m, 3, (0, 0), ?_⟩
    rw [hh]
    have : cs = #[.int .i64 m] := by
      apply Array.ext
      · simpa using h1
      · intro i h2 h3
        have : i = 0 := by omega
        subst this
        have := Array.getElem?_eq_getElem h2
        rw [hm2] at this
        simpa using this.symm
    rw [this]

/-- a row's wrap, the world's shape kept -/
theorem handed_shaped {H : Type} {enc : TypeId × Value → H} {a : Assume} {C : Checked} {os : Os} {f : FuncId} {fn : Func} {s : ChangeSpec} {conds : List PathCond} {apart fresh handsOn again : Bool} {X : World → Array Value → Prop}
    (hX : ∀ (w w' : World) (args : Array Value), w.heap = w'.heap → X w args → X w' args)
    (own : ownKnob C.prog.godebug = none) (started : os.Started) (noInit : C.prog.inits.idxOf? f = none) (hfn : C.prog.funcs[f]? = some fn)
    (witness : ∃ (w : World) (tape : Tape) (i : Input), w.os = os ∧ (w.forCall tape i).Shaped C.prog ∧ i.vars = [] ∧ Input.okWide C.prog (w.forCall tape i) .any w.heap.size f i ∧
      ((s.pre enc C.prog fn conds apart (w.forCall tape i).memory i.args ∧ X (w.forCall tape i).memory i.args) ∧ sizedMet enc C.prog fn (OpenSpec.ofChange s) apart (w.forCall tape i).memory i.args) ∧ a.holds C.prog (lone (Frame.enter C.prog f i.args .normal) [] (w.forCall tape i)))
    (contract : ∀ (W : World) (base : Nat) (args : Array Value) (ds gs : List (DataW H)) (before : List MemPlace),
      (∀ (j : Nat) t v, fn.params[j]? = some t → args[j]? = some v → Value.okWide C.prog W .any base t v) →
      DataW.Whole enc C.prog fn.params.toList s.vars apart W args.toList ds gs before →
      conds.all (PathCond.test C.prog ⟨fn.params.toList, ds, s.plain.varTypes C.prog, gs⟩) = true →
      (DataW.weightsEach C.prog (fn.params.toList ++ s.plain.varTypes C.prog) (ds ++ gs)).all (· ≤ reachBytes) = true → X W args →
      W.ShapedOpen C.prog →
      a.holds C.prog (lone (Frame.enter C.prog f args .normal) [] W) →
      Calls C.prog f args W fun e W' => ∃ v, e = .returned v ∧ s.post enc C.prog fn apart fresh handsOn again W args v W') :
    ReturnsInHanded a C os f .any (fun w args => (s.pre enc C.prog fn conds apart w args ∧ X w args) ∧ sizedMet enc C.prog fn (OpenSpec.ofChange s) apart w args) (s.post enc C.prog fn apart fresh handsOn again) := by
  refine returnsInHanded_of_calls own started noInit witness ?_
  intro w tape i _ hsh _ hok hpre hholds
  obtain ⟨_, _, _, fn', hfn', _, _, _, _, hval⟩ := hok
  have e : fn' = fn := Option.some.inj (hfn'.symm.trans hfn)
  subst e
  obtain ⟨⟨⟨ds, gs, before, hw, hc⟩, hx⟩, hz⟩ := hpre
  have hw' := DataW.Whole.of_heap (w' := w.forCall tape i) (by rfl) hw
  refine (contract (w.forCall tape i) w.heap.size i.args ds gs before hval hw' hc (hz.weights hw) (hX _ _ _ (by rfl) hx) hsh hholds).mono fun e W' ⟨v, he, hp⟩ => ?_
  subst he
  exact ChangeSpec.post_blind hp

/-- a heap that meets the condition -/
theorem all_met (os : Os) (args : Array Value) : laidMetH Tryd.prog laid5 ((World.laidAll Tryd.prog os laid5).forCall (fun _ _ => 0) ⟨#[], args, []⟩).memory := by
  rw [MakeChecks.laidMetH_plain _ _ _ (by kernel_rfl)]
  exact laidMet_laidAll _ (by kernel_rfl) (by kernel_rfl)
end D
end

section
/- The codec of terms. -/

open Go Go.Ab Go.Proofs
namespace Go.Ab
noncomputable def cSpn : Codec Tryd.prog 58 T.Span :=
  (Codec.struct (n := 2) Tryd.underlying58 (FC.cons (k := 1) (n := 1) cInt rfl (by kernel_rfl) (FC.cons (k := 1) (n := 0) cInt rfl (by kernel_rfl) FC.nil)) (by kernel_rfl)).iso (fun x => (x.1, x.2.1)) T.encS (fun _ => True) (fun _ => rfl) (fun _ _ => trivial)
noncomputable def cSpns : Codec Tryd.prog 22 (List T.Span) := Codec.slice (sz := 2) cSpn Tryd.underlying22 (by kernel_rfl) (by omega) (fun _ => rfl)
noncomputable def cBoolT : Codec Tryd.prog 4 Bool := Codec.bool Tryd.underlying4
noncomputable def cTerm : Codec Tryd.prog 24 T.Term :=
  (Codec.struct (n := 3) Tryd.underlying24 (FC.cons (k := 1) (n := 2) cName rfl (by kernel_rfl) (FC.cons (k := 1) (n := 1) cSpns rfl (by kernel_rfl) (FC.cons (k := 1) (n := 0) cBoolT rfl (by kernel_rfl) FC.nil))) (by kernel_rfl)).iso (fun x => (x.1, x.2.1, x.2.2.1)) T.encT (fun _ => True) (fun _ => rfl) (fun _ _ => trivial)
end Go.Ab
end
