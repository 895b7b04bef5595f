/- Events as cells. -/
import Derived.Test.YtifbfcljgagacaaVTypes
open Go Go.Ab Go.Proofs
namespace T
/-- kind, needs, ticks, ticket, body -/
abbrev Ev := Int × List Need × Int × Int × List UInt8
noncomputable def encE (x : Ev) : List AV := [.int .i64 x.1, .sl 2 (.map encN ([], []) x.2.1) .none, .int .i64 x.2.2.1, .int .i64 x.2.2.2.1, .sl 1 (.map encB 0 x.2.2.2.2) .none]
abbrev noEv : Ev := (0, [], 0, 0, [])
end T
