/- The codecs of this seat's plain arguments. -/
import Derived.Test.YtifbfcljgagacaaProg
import Derived.Test.YtifbfcljgagacaaAbArg
import Derived.Test.YtifbfcljgagacaaAbVc
open Go Go.Ab Go.Proofs
namespace Go.Ab

noncomputable def cInt : Codec Try.prog 3 Int := Codec.int .i64 Try.underlying3
noncomputable def cStr : Codec Try.prog 9 ByteArray := Codec.str Try.underlying9
noncomputable def cInts : Codec Try.prog 26 (List Int) := Codec.slice (sz := 1) cInt Try.underlying26 (by kernel_rfl) (by omega) (fun _ => rfl)
/-- a byte -/
noncomputable def cByte : Codec Try.prog 5 UInt8 where
  enc b := encB b
  ok _ := True
  dflt := 0
  opens := by
    intro H e w fuel cs x h
    obtain ⟨n, h1, h2⟩ := (Codec.int .u8 Try.underlying5).opens e w fuel cs x h
    have hn : 0 ≤ n ∧ n ≤ 255 := by simpa [Codec.int, Lit.wf, IntKind.min, IntKind.max, IntKind.signed, IntKind.bits] using h1
    refine ⟨UInt8.ofNat n.toNat, trivial, ?_⟩
    rw [← encB_ofNat hn.1 (by omega)]
    exact h2
noncomputable def cBytes : Codec Try.prog 23 (List UInt8) := Codec.slice (sz := 1) cByte Try.underlying23 (by kernel_rfl) (by omega) (fun _ => rfl)

end Go.Ab
