/- The codec of reads. -/
import Derived.Test.YtifbfcljgagacaaVArgs
import Derived.Test.YtifbfcljgagacaaVVc
open Go Go.Ab Go.Proofs
namespace Go.Ab

noncomputable def cRead : Codec Try.prog 44 (Int × Int) :=
  (Codec.struct (n := 2) Try.underlying44 (FC.cons (k := 1) (n := 1) cInt rfl (by kernel_rfl) (FC.cons (k := 1) (n := 0) cInt rfl (by kernel_rfl) FC.nil)) (by kernel_rfl)).iso (fun x => (x.1, x.2.1)) V.encR (fun _ => True) (fun _ => rfl) (fun _ _ => trivial)
noncomputable def cReads : Codec Try.prog 39 (List (Int × Int)) := Codec.slice (sz := 2) cRead Try.underlying39 (by kernel_rfl) (by omega) (fun _ => rfl)

end Go.Ab
