/- PlainSolves: what is found, lacked or broken, and that nothing is, is the document's, with any fuel: for every list of entries, of needs and every fuel (that are not large, and needs that may be, else it is the example alone) the law returns true, and the input reads as it did. -/
import Derived.Test.YtkmolhmdikjmpaaGreatRows
import Derived.Test.YtkmolhmdikjmpaaGreatQ7
import Derived.Test.YtkmolhmdikjmpaaGreatQ6
namespace Go.Proofs.YtkmolhmdikjmpaaGreat.plainSolves
open Go.ChangeShapes Go.WideShapes Go.ChangeAt Go.RowKit Go.Ab
set_option linter.unusedVariables false

theorem own : ownKnob Tryz.prog.godebug = none := Facts.own
theorem laidOut : laidOutB Tryz.prog = true := Facts.laid

set_option maxRecDepth 100000 in
theorem lifted (os : Os) (started : os.Started) (H : Type) (enc : TypeId × Value → H) :
    ReturnsInHanded {} Tryz.checked os 5 .any (Rows.plainSolvesSpec.pre6 enc Tryz.prog Tryz.f5 Rows.plainSolvesRow.domain false) (Rows.plainSolvesSpec.post enc Tryz.prog Tryz.f5 false true false false) := by
  refine returnsInHanded_of_change (C := Tryz.checked) own started (by kernel_rfl) Tryz.func5
    (ChangeSpec.witness6 (enc := enc) (C := Tryz.checked) false ⟨#[], #[.slice none 0 0, .slice none 0 0, .int .i64 0], []⟩ 8 (by kernel_rfl) (by kernel_rfl) (by kernel_rfl) (by kernel_rfl)) ?_
  intro W base args ds gs before hval0 hW hcnd _
  have hval : ∀ (j : Nat) t v, Tryz.f5.params[j]? = some t → args[j]? = some v → Value.okWide Tryz.prog W .any base t v := hval0
  have hW' := hW
  obtain ⟨p, q, hA0, hV, rfl, hfz, hnd⟩ := hW
  have hA : DataW.TrodAll enc Tryz.prog W 0 (fun _ => true) true Tryz.f5.params.toList args.toList ds p := hA0
  rw [Tryz.params5] at hA hval
  obtain ⟨v0, vs0, d0, ds0, p0, q0, hargs, rfl, rfl, h0, r0⟩ := trodAll_cons hA
  obtain ⟨v1, vs1, d1, ds1, p1, q1, rfl, rfl, rfl, h1, r1⟩ := trodAll_cons r0
  obtain ⟨v2, vs2, d2, ds2, p2, q2, rfl, rfl, rfl, h2, r2⟩ := trodAll_cons r1
  obtain ⟨rfl, rfl, rfl⟩ := trodAll_nil r2
  obtain rfl : args = #[v0, v1, v2] := by cases args; simp_all
  obtain ⟨rfl, rfl⟩ := trodVars_none hV
  obtain ⟨a0, k0, e0⟩ := Codec.arg1 cEnts (by kernel_rfl) (hval 0 22 v0 rfl rfl) h0
  obtain ⟨a1, k1, e1⟩ := Codec.arg1 cNeeds (by kernel_rfl) (hval 1 23 v1 rfl rfl) h1
  obtain ⟨a2, k2, e2⟩ := Codec.arg1 cInt (by kernel_rfl) (hval 2 3 v2 rfl rfl) h2
  clear hA0 hval0
  refine (ASpec.run (_root_.Ps.plainSolves_spec a0 a1 a2) (tabsN (by kernel_rfl)) (vrels_cons (e0 _ rfl) (vrels_cons (e1 _ rfl) (vrels_cons (e2 _ rfl) vrels_nil)))).mono fun e W' ⟨he, hb⟩ => ?_
  subst he
  exact ⟨_, rfl, law_post laidOut (by kernel_rfl) rfl (by kernel_rfl) Tryz.underlying4 hW' ⟨rfl, rfl, rfl⟩ hb⟩

theorem inp : (Rows.plainSolvesRow.inPlace == Tryz.checked.prog.inPlace 5) = true := by kernel_rfl
theorem unf : (Rows.plainSolvesRow.unfollowed == Tryz.checked.prog.unfollowed 5) = true := by kernel_rfl
theorem rec : (Rows.plainSolvesRow.recurses == Tryz.checked.prog.recurses 5) = true := by kernel_rfl
theorem nam : (Rows.plainSolvesRow.named == Tryz.checked.prog.varsNamed 5) = true := by kernel_rfl
theorem nm : Tryz.checked.prog.funcNamed Rows.plainSolvesRow.func = some 5 := by kernel_rfl
theorem k0 : (Rows.plainSolvesRow.wf (OpenSpec.ofChange Rows.plainSolvesSpec)) = true := by kernel_rfl
theorem k3 : (Tryz.f5.params.all (Tryz.checked.prog.readableRec ·)) = true := by kernel_rfl
theorem k4 : (namedTie Tryz.checked.prog Rows.plainSolvesRow.named Rows.plainSolvesSpec.vars) = true := by kernel_rfl
theorem k5 : (Rows.plainSolvesRow.stops == []) = true := by kernel_rfl
theorem k7 : (Rows.plainSolvesRow.knobs == []) = true := by kernel_rfl
theorem k13 : (Rows.plainSolvesRow.maps == (Tryz.f5.params.toList ++ Rows.plainSolvesSpec.plain.varTypes Tryz.checked.prog).any (Tryz.checked.prog.mapsRec ·)) = true := by kernel_rfl
theorem k14 : (Rows.plainSolvesRow.ifaces == (Tryz.f5.params.toList ++ Rows.plainSolvesSpec.plain.varTypes Tryz.checked.prog).any (Tryz.checked.prog.ifacesRec ·)) = true := by kernel_rfl
theorem k15 : (Rows.plainSolvesRow.mapsOut == Tryz.checked.prog.mapsAmong Tryz.f5.resultTypes.toList) = true := by kernel_rfl
theorem k16 : (Rows.plainSolvesRow.loops == (Tryz.f5.params.toList ++ Rows.plainSolvesSpec.plain.varTypes Tryz.checked.prog).any (Tryz.checked.prog.loopsFrom ·)) = true := by kernel_rfl
theorem k17 : (Rows.plainSolvesRow.wideKeys == (Tryz.f5.params.toList ++ Rows.plainSolvesSpec.plain.varTypes Tryz.checked.prog ++ Tryz.f5.resultTypes.toList).any (Tryz.checked.prog.wideKeysFrom ·)) = true := by kernel_rfl
theorem k18 : (Rows.plainSolvesSpec.vars.all (Tryz.checked.prog.varReadable ·)) = true := by kernel_rfl
theorem k19 : (Tryz.f5.resultTypes.all (fun t => Tryz.checked.prog.readableRec t && decide (t < Tryz.checked.prog.types.size))) = true := by kernel_rfl
theorem k20 : (Rows.plainSolvesRow.ifacesOut == Tryz.f5.resultTypes.toList.any (Tryz.checked.prog.ifacesRec ·)) = true := by kernel_rfl
theorem k21 : (Rows.plainSolvesRow.loopsOut == Tryz.f5.resultTypes.toList.any (Tryz.checked.prog.loopsFrom ·)) = true := by kernel_rfl
theorem k23 : (Rows.plainSolvesRow.shortTexts.isNone) = true := by kernel_rfl
theorem k28 : (Rows.plainSolvesRow.kinds == (if Rows.plainSolvesRow.domain.isEmpty then [] else Tryz.f5.params.toList.map fun t => match Tryz.checked.prog.underlying t with | some (.int k) => some k | _ => none)) = true := by kernel_rfl
theorem k29 : (Rows.plainSolvesRow.pinned == Rows.plainSolvesRow.pinnedBy) = true := by kernel_rfl
theorem k30 : (Rows.plainSolvesRow.veiled == (Tryz.f5.params.toList ++ Rows.plainSolvesSpec.plain.varTypes Tryz.checked.prog ++ Tryz.f5.resultTypes.toList).any (Tryz.checked.prog.veiledRec ·)) = true := by kernel_rfl
theorem k31 : (Rows.plainSolvesRow.veiledFits Tryz.checked.prog Tryz.f5.params.toList (Tryz.f5.params.toList ++ Rows.plainSolvesSpec.plain.varTypes Tryz.checked.prog ++ Tryz.f5.resultTypes.toList)) = true := by kernel_rfl
set_option maxRecDepth 1000000 in
theorem closed : joinedFacts Tryz.checked.prog 5 Tryz.f5 Rows.plainSolvesSpec Rows.plainSolvesRow = true := by
  unfold joinedFacts
  exact (Facts.andT (Facts.andT (Facts.andT (Facts.andT (Facts.andT (Facts.andT (Facts.andT (Facts.andT (Facts.andT (Facts.andT (Facts.andT (Facts.andT (Facts.andT (Facts.andT (Facts.andT (Facts.andT (Facts.andT (Facts.andT (Facts.andT (Facts.andT (Facts.andT (Facts.andT (Facts.andT (Facts.andT (Facts.andT (Facts.andT (Facts.andT (Facts.andT (Facts.andT (Facts.andT (Facts.andT k0 Facts.laid) Facts.mapsRowed) k3) k4) k5) Facts.stops) k7) Facts.stopKnobs) inp) unf) rec) nam) k13) k14) k15) k16) k17) k18) k19) k20) k21) Facts.plain) k23) Facts.heard) Facts.may) Facts.lifted) Facts.made) k28) k29) k30) k31)
theorem over : Rows.plainSolvesRow.holds Tryz.pinned (OpenSpec.ofChange Rows.plainSolvesSpec) :=
  OpenClaim.holds_of_wide 5 Tryz.f5 rfl rfl rfl rfl rfl rfl rfl ⟨rfl, rfl, rfl, rfl, rfl⟩ rfl rfl rfl rfl rfl nm Tryz.func5 closed
    (of_decide_eq_true (by kernel_rfl)) (by unfold Func.isWrapper; first | (rw [if_pos (by decide +kernel)]; kernel_rfl) | (rw [if_neg (by decide +kernel)]; exact ⟨rfl, rfl⟩))
    (fun os started H enc _ => lifted os started H enc)

theorem proved : Rows.PlainSolvesSaid := over
#print axioms proved
end Go.Proofs.YtkmolhmdikjmpaaGreat.plainSolves
