/- A contract of the library's, as a specification. -/
import Derived.Test.YtifbfcljgagacaaDoorAbMaps
set_option linter.unusedVariables false
set_option linter.unusedSimpArgs false
namespace Go.Ab
section
variable {P : Program} {M : Mem} {w w' : World} {loc : Locs} {H : List AObj}

/-- a world with more blocks, and nothing else -/
structure Grown (w w' : World) : Prop where
  size : w.heap.size ≤ w'.heap.size
  same : ∀ b, b < w.heap.size → w'.heap[b]? = w.heap[b]?
  os : w'.os = w.os
  tape : w'.tape = w.tape
  output : w'.output = w.output

theorem Grown.refl (w : World) : Grown w w := ⟨Nat.le_refl _, fun _ _ => rfl, rfl, rfl, rfl⟩

theorem Rel.grown (hr : Rel M loc H w) (hg : Grown w w') : Rel M loc H w' ∧ Step M loc H w M loc H w' := by
  have hk : Keeps M w loc M w' loc := by
    refine ⟨fun b k v hi => ?_, fun b cs T fr hb => ⟨cs, fr, by rw [hg.same b (cells_lt hb)]; exact hb, rfl⟩, fun i l hl => hl⟩
    obtain ⟨h1, h2⟩ := hi
    exact ⟨by rw [cell_of_heap (hg.same b (cell_lt h1))]; exact h1, h2⟩
  have hfar : ∀ i o, H[i]? = some o → ORel M w' loc (loc i) o := by
    intro i o hi
    by_cases hgone : o = .gone
    · subst hgone; trivial
    · exact (hr.objs i o hi).keeps_far hk rfl (fun b hb => ⟨hg.same b ((hr.objs i o hi).block_lt hgone hb).1, rfl⟩)
  refine ⟨⟨Nat.le_trans hr.base hg.size, fun b hb => ?_, hr.dom, hfar, hr.inj⟩,
    ⟨rfl, hg.size, hg.os, hg.tape, hg.output, fun b hb _ => ⟨hg.same b hb, rfl⟩, hk.imm, hk.shape, fun b _ h => h, fun _ _ => rfl, Nat.le_refl _⟩⟩
  obtain ⟨h1, cs, T, fr, h2, h3⟩ := hr.ext b hb
  exact ⟨h1, cs, T, fr, by rw [hg.same b (cells_lt h2)]; exact h2, h3⟩

/-- what is called with values of one kind, and hands back one that stands to r0 -/
theorem ASpec.of_calls {f : FuncId} {args : List AV} {r0 : AV} (h : ∀ M loc w vs, Tabs P M w → VRels M w loc args vs → Calls P f vs w fun e w' => ∃ v, e = .returned v ∧ VRel M w' loc r0 v ∧ Grown w w') :
    ASpec P f args H (fun r H' => r = r0 ∧ H' = H) := by
  intro M loc w vs ht hr hv
  refine (h M loc w vs ht hv).mono fun e w' ⟨v, he, hvr, hg⟩ => ?_
  obtain ⟨r1, r2⟩ := hr.grown hg
  exact ⟨v, r0, H, M, loc, he, ⟨rfl, rfl⟩, r1, hvr, r2⟩

end
end Go.Ab
