/- The codecs of manifests. -/
import Derived.Test.YtifbfcljgagacaaVArgs
import Derived.Test.YtifbfcljgagacaaVTypes
open Go Go.Ab Go.Proofs
namespace Go.Ab

noncomputable def cName : Codec Try.prog 9 (List UInt8) := cStr.iso (fun s => s.data.toList) (fun l => [.str ⟨l.toArray⟩]) (fun _ => True) (fun _ => rfl) (fun _ _ => trivial)
noncomputable def cSpan : Codec Try.prog 143 T.Span :=
  (Codec.struct (n := 2) Try.underlying143 (FC.cons (k := 1) (n := 1) cInt rfl (by kernel_rfl) (FC.cons (k := 1) (n := 0) cInt rfl (by kernel_rfl) FC.nil)) (by kernel_rfl)).iso (fun x => (x.1, x.2.1)) T.encS (fun _ => True) (fun _ => rfl) (fun _ _ => trivial)
noncomputable def cSpans : Codec Try.prog 88 (List T.Span) := Codec.slice (sz := 2) cSpan Try.underlying88 (by kernel_rfl) (by omega) (fun _ => rfl)
noncomputable def cNeed : Codec Try.prog 146 T.Need :=
  (Codec.struct (n := 2) Try.underlying146 (FC.cons (k := 1) (n := 1) cName rfl (by kernel_rfl) (FC.cons (k := 1) (n := 0) cSpans rfl (by kernel_rfl) FC.nil)) (by kernel_rfl)).iso (fun x => (x.1, x.2.1)) T.encN (fun _ => True) (fun _ => rfl) (fun _ _ => trivial)
noncomputable def cNeeds : Codec Try.prog 68 (List T.Need) := Codec.slice (sz := 2) cNeed Try.underlying68 (by kernel_rfl) (by omega) (fun _ => rfl)
noncomputable def cRel : Codec Try.prog 140 T.Rel :=
  (Codec.struct (n := 2) Try.underlying140 (FC.cons (k := 1) (n := 1) cInt rfl (by kernel_rfl) (FC.cons (k := 1) (n := 0) cNeeds rfl (by kernel_rfl) FC.nil)) (by kernel_rfl)).iso (fun x => (x.1, x.2.1)) T.encR (fun _ => True) (fun _ => rfl) (fun _ _ => trivial)
noncomputable def cRels : Codec Try.prog 57 (List T.Rel) := Codec.slice (sz := 2) cRel Try.underlying57 (by kernel_rfl) (by omega) (fun _ => rfl)
noncomputable def cMani : Codec Try.prog 59 T.Mani :=
  (Codec.struct (n := 2) Try.underlying59 (FC.cons (k := 1) (n := 1) cName rfl (by kernel_rfl) (FC.cons (k := 1) (n := 0) cRels rfl (by kernel_rfl) FC.nil)) (by kernel_rfl)).iso (fun x => (x.1, x.2.1)) T.encM (fun _ => True) (fun _ => rfl) (fun _ _ => trivial)

end Go.Ab
