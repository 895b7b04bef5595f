/- Q7: several of this proof's own texts, one behind the other: what each proves stands at its head. -/
import Derived.Test.YtihdijkpokccnaaChecked
import Derived.KernelRfl
import Derived.JoinedOf
section
/- What is asked of the program alone, once for all statements. -/

namespace Go.Proofs.Facts
open Go Go.Proofs
theorem andT {a b : Bool} (h : a = true) (k : b = true) : (a && b) = true := by rw [h, k]; rfl
theorem laid : laidOutB Try.prog = true := by kernel_rfl
theorem mapsRowed : Go.mapsRowed Try.prog = true := by kernel_rfl
theorem stops : (Try.prog.stops == []) = true := by kernel_rfl
theorem stopKnobs : (Try.prog.stopKnobs == []) = true := by kernel_rfl
theorem heard : Try.prog.stopsHeard = true := by kernel_rfl
theorem may : Try.prog.mayEnter = true := by kernel_rfl
theorem lifted : (false == Try.prog.liftsFinal) = true := by kernel_rfl
theorem plain : (true == Try.prog.plainKeys) = true := by kernel_rfl
theorem made : (Try.prog.make == some .cut) = true := by kernel_rfl
theorem own : ownKnob Try.prog.godebug = none := by kernel_rfl
end Go.Proofs.Facts
end
