/- The codec of arguments that are arrays of three; what the row's condition gives. -/
import Derived.Test.YtifbfcljgagacaaDoorRows
import Derived.Test.YtifbfcljgagacaaDoorAbArg
import Derived.Test.YtifbfcljgagacaaDoorAbRow
import Derived.ProofKit
import Derived.LaidMore
import Derived.OpenShut
import Derived.Stop.Joined
import Derived.Stop.LaidErr
import Derived.Lib.LaidTab
import Derived.Lib.ItoaNum
open Go Go.Ab Go.Proofs
namespace Go.Ab
section
variable {P : Program}

def Codec.arr3 {t e : TypeId} {α : Type} (c : Codec P e α) (ht : P.underlying t = some (.array 3 e)) (he : P.cellsOf e = 1) (hc : P.cellsOf t = 3) : Codec P t (α × α × α) where
  enc x := c.enc x.1 ++ (c.enc x.2.1 ++ c.enc x.2.2)
  ok x := c.ok x.1 ∧ c.ok x.2.1 ∧ c.ok x.2.2
  dflt := (c.dflt, c.dflt, c.dflt)
  opens := by
    intro H en w fuel cs x h
    obtain ⟨xs, m, rfl, _, hl, hn, hel⟩ := DataW.trod_array ht h
    rw [hc] at hl
    match cs, hl, xs, hn, hel with
    | [c0, c1, c2], _, [x0, x1, x2], _, hel =>
      have h0 := hel 0 (by decide)
      have h1 := hel 1 (by decide)
      have h2 := hel 2 (by decide)
      rw [he] at h0 h1 h2
      obtain ⟨a0, k0, r0⟩ := c.opens en w m _ _ h0
      obtain ⟨a1, k1, r1⟩ := c.opens en w m _ _ h1
      obtain ⟨a2, k2, r2⟩ := c.opens en w m _ _ h2
      exact ⟨(a0, a1, a2), ⟨k0, k1, k2⟩, VL.app r0 (VL.app r1 r2)⟩

def arrT (P : Program) (t : TypeId) : Bool := match P.underlying t with | some (.array _ _) => true | _ => false

/-- an argument that is an array -/
theorem Codec.argArr {t : TypeId} {α : Type} (c : Codec P t α) (ht : arrT P t = true) {H : Type} {en : TypeId × Value → H} {W : World} {r : Reach} {b : Nat} {v : Value} {d : DataW H} {ps : List MemPlace}
    (hval : Value.okWide P W r b t v) (h : DataW.Trod en P W 0 (fun _ => true) true t v d ps) : ∃ a, c.ok a ∧ VRel (mem0 W) W (fun _ => none) (.agg (c.enc a)) v := by
  obtain ⟨f, hf⟩ := h
  obtain ⟨a, h1, h2⟩ := c.opens en W f _ _ hf
  obtain ⟨cs, rfl⟩ : ∃ cs, v = .agg cs := by
    unfold arrT at ht
    split at ht
    case h_2 => cases ht
    case h_1 fs hu =>
    unfold Value.okWide at hval
    simp only [hu] at hval
    obtain ⟨cs, e, _⟩ := hval
    exact ⟨cs, e⟩
  have hc : (Value.agg cs).cells.toList = cs.toList := rfl
  rw [hc] at h2
  have hl := h2.len
  refine ⟨a, h1, .agg _ _ (by simp [hl]) (fun i hi => ?_)⟩
  have := h2.get i hi (by simpa [hl] using hi)
  simpa using this
end
end Go.Ab

namespace D
noncomputable def cI : Codec Tryd.prog 3 Int := Codec.int .i64 Tryd.underlying3
noncomputable def cA : Codec Tryd.prog 22 (Int × Int × Int) := Codec.arr3 cI Tryd.underlying22 (by kernel_rfl) (by kernel_rfl)
noncomputable def cS : Codec Tryd.prog 9 ByteArray := Codec.str Tryd.underlying9
noncomputable def cU8 : Codec Tryd.prog 5 Int := Codec.int .u8 Tryd.underlying5
theorem okU8 {n : Int} (h : cU8.ok n) : 0 ≤ n ∧ n < 256 := by
  have h' : (Lit.int .u8 n).wf = true := h
  simp [Lit.wf, IntKind.min, IntKind.max, IntKind.signed, IntKind.bits] at h'
  omega

theorem gT : Tryd.prog.globalNamed "internal/strconv.uint64pow10" = some 0 := by kernel_rfl
theorem gTy : (Tryd.prog.globals[0]?).map (·.type) = some 46 := by kernel_rfl

abbrev laid3 : List (String × DataW Unit) := [("math/bits.deBruijn32tab", YtifbfcljgagacaaDoor.Rows.laid_math_bits_deBruijn32tab), ("math/bits.deBruijn64tab", YtifbfcljgagacaaDoor.Rows.laid_math_bits_deBruijn64tab), ("internal/strconv.uint64pow10", YtifbfcljgagacaaDoor.Rows.laid_internal_strconv_uint64pow10)]

theorem tab_data : (YtifbfcljgagacaaDoor.Rows.laid_internal_strconv_uint64pow10 : DataW Unit) = Lib.tabData .u64 Lib.pow10Tab := by rfl

/-- what the row's condition gives -/
theorem tabs_of {W : World} (h : laidMetH Tryd.prog laid3 W) : Tabs Tryd.prog (mem0 W) W := by
  rw [MakeChecks.laidMetH_plain _ _ _ (by kernel_rfl)] at h
  have h3 := laidMet.tail (laidMet.tail h)
  rw [tab_data] at h3
  have ht : Lib.TabIs Tryd.prog W "internal/strconv.uint64pow10" .u64 Lib.pow10Tab := Lib.tabIs_of_head gT gTy Tryd.underlying46 Tryd.underlying39 (by kernel_rfl) (by kernel_rfl) h3
  refine tabs0 fun g hg => ?_
  rw [gT] at hg
  cases hg
  unfold Lib.TabIs World.var? at ht
  rw [gT] at ht
  simp only [Option.bind_some] at ht
  split at ht
  case h_2 => cases ht
  case h_1 cs T fr hc =>
  simp only [Option.some.injEq] at ht
  subst ht
  exact ⟨T, fr, hc⟩

/-- the door's own heap meets the condition -/
theorem door_met (os : Os) (args : Array Value) : laidMetH Tryd.prog laid3 ((World.doorLaid Tryd.prog 4000 os).forCall (fun _ _ => 0) ⟨#[], args, []⟩).memory :=
  laidMetH_of_parts3 (fuel := 8) (laidMet_of_run' 8 (by kernel_rfl) (by kernel_rfl)) (by kernel_rfl) (by kernel_rfl)
end D
