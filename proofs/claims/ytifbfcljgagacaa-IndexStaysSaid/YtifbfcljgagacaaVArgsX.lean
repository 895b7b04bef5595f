/- The codec of entries. -/
import Derived.Test.YtifbfcljgagacaaVArgsW
import Derived.Test.YtifbfcljgagacaaVTypesX
open Go Go.Ab Go.Proofs
namespace Go.Ab

noncomputable def cEnt : Codec Try.prog 106 T.Ent :=
  (Codec.struct (n := 2) Try.underlying106 (FC.cons (k := 1) (n := 1) cName rfl (by kernel_rfl) (FC.cons (k := 1) (n := 0) cBytes rfl (by kernel_rfl) FC.nil)) (by kernel_rfl)).iso (fun x => (x.1, x.2.1)) T.encEn (fun _ => True) (fun _ => rfl) (fun _ _ => trivial)
noncomputable def cEnts : Codec Try.prog 101 (List T.Ent) := Codec.slice (sz := 2) cEnt Try.underlying101 (by kernel_rfl) (by omega) (fun _ => rfl)

end Go.Ab
