/- The codec of numbers of 16 bits. -/
import Derived.Test.YtifbfcljgagacaaVArgs
open Go Go.Ab Go.Proofs
namespace Go.Ab

noncomputable def cU16 : Codec Try.prog 54 Int := Codec.int .u16 Try.underlying54
theorem okU16 {n : Int} (h : cU16.ok n) : 0 ≤ n ∧ n < 65536 := by
  have h' : (Lit.int .u16 n).wf = true := h
  have hn : 0 ≤ n ∧ n ≤ 65535 := by simpa [Lit.wf, IntKind.min, IntKind.max, IntKind.signed, IntKind.bits] using h'
  omega

end Go.Ab
