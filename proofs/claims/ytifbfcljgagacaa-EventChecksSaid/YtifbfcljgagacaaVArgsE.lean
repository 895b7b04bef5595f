/- The codec of events. -/
import Derived.Test.YtifbfcljgagacaaVArgsW
import Derived.Test.YtifbfcljgagacaaVTypesE
open Go Go.Ab Go.Proofs
namespace Go.Ab

noncomputable def cEv : Codec Try.prog 70 T.Ev :=
  (Codec.struct (n := 5) Try.underlying70 (FC.cons (k := 1) (n := 4) cInt rfl (by kernel_rfl) (FC.cons (k := 1) (n := 3) cNeeds rfl (by kernel_rfl) (FC.cons (k := 1) (n := 2) cInt rfl (by kernel_rfl) (FC.cons (k := 1) (n := 1) cInt rfl (by kernel_rfl)
    (FC.cons (k := 1) (n := 0) cBytes rfl (by kernel_rfl) FC.nil))))) (by kernel_rfl)).iso (fun x => (x.1, x.2.1, x.2.2.1, x.2.2.2.1, x.2.2.2.2.1)) T.encE (fun e => e.2.2.2.2.length ≤ maxLen) (fun _ => rfl) (fun _ h => h.2.2.2.2.1.1)
theorem okEv {e : T.Ev} (h : cEv.ok e) : e.2.2.2.2.length ≤ maxLen := h

end Go.Ab
