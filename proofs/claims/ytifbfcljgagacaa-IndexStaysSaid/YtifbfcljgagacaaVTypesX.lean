/- Entries, and what an index knows. -/
import Derived.Test.YtifbfcljgagacaaVTypes
import Derived.Test.YtifbfcljgagacaaAbMaps
open Go Go.Ab Go.Proofs
namespace T
/-- name, body -/
abbrev Ent := List UInt8 × List UInt8
noncomputable def encEn (x : Ent) : List AV := [.str ⟨x.1.toArray⟩, .sl 1 (.map encB 0 x.2) .none]
/-- a manifest, or a name that is broken -/
abbrev Known := Option Mani
noncomputable def encK : Known → AV
  | some m => .iface 186 (.agg (encM m))
  | none => .iface 225 (.agg [])
noncomputable def EK : Enc Known := ⟨encK, fun a K => optionP a (fun m => K (.iface 186 (.agg (encM m)))) (K (.iface 225 (.agg []))), fun a K h => by cases a <;> exact h⟩
abbrev Kn := List (ByteArray × Known)
noncomputable def HX (es : Kn) : List AObj := [.mp (.typed EK es), .cells [.map 0]]
end T
