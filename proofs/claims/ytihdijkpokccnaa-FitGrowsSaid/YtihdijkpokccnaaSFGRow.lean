/- FitGrows: a solution is one of any index that knows more; its names are those that are needed; without any one of its picks it is none: for every two lists of entries and choice (that are not large, and needs that may be, else it is the example alone) the law returns true, and the input reads as it did. -/
import Derived.Test.YtihdijkpokccnaaRows
import Derived.Test.YtihdijkpokccnaaQ8
import Derived.Test.YtihdijkpokccnaaQ7
namespace Go.Proofs.Ytihdijkpokccnaa.fitGrows
open Go.ChangeShapes Go.WideShapes Go.ChangeAt Go.RowKit Go.Ab
set_option linter.unusedVariables false

theorem own : ownKnob Try.prog.godebug = none := Facts.own
theorem laidOut : laidOutB Try.prog = true := Facts.laid

set_option maxRecDepth 100000 in
theorem lifted (os : Os) (started : os.Started) (H : Type) (enc : TypeId × Value → H) :
    ReturnsInHanded {} Try.checked os 7 .any (Rows.fitGrowsSpec.pre6 enc Try.prog Try.f7 Rows.fitGrowsRow.domain false) (Rows.fitGrowsSpec.post enc Try.prog Try.f7 false true false false) := by
  refine returnsInHanded_of_change (C := Try.checked) own started (by kernel_rfl) Try.func7
    (ChangeSpec.witness6 (enc := enc) (C := Try.checked) false ⟨#[], #[.slice none 0 0, .slice none 0 0, .agg #[.slice none 0 0, .slice none 0 0]], []⟩ 8 (by kernel_rfl) (by kernel_rfl) (by kernel_rfl) (by kernel_rfl)) ?_
  intro W base args ds gs before hval0 hW hcnd _
  have hval : ∀ (j : Nat) t v, Try.f7.params[j]? = some t → args[j]? = some v → Value.okWide Try.prog W .any base t v := hval0
  have hW' := hW
  obtain ⟨p, q, hA0, hV, rfl, hfz, hnd⟩ := hW
  have hA : DataW.TrodAll enc Try.prog W 0 (fun _ => true) true Try.f7.params.toList args.toList ds p := hA0
  rw [Try.params7] at hA hval
  obtain ⟨v0, vs0, d0, ds0, p0, q0, hargs, rfl, rfl, h0, r0⟩ := trodAll_cons hA
  obtain ⟨v1, vs1, d1, ds1, p1, q1, rfl, rfl, rfl, h1, r1⟩ := trodAll_cons r0
  obtain ⟨v2, vs2, d2, ds2, p2, q2, rfl, rfl, rfl, h2, r2⟩ := trodAll_cons r1
  obtain ⟨rfl, rfl, rfl⟩ := trodAll_nil r2
  obtain rfl : args = #[v0, v1, v2] := by cases args; simp_all
  obtain ⟨rfl, rfl⟩ := trodVars_none hV
  obtain ⟨a0, k0, e0⟩ := Codec.arg1 cEnts (by kernel_rfl) (hval 0 22 v0 rfl rfl) h0
  obtain ⟨a1, k1, e1⟩ := Codec.arg1 cEnts (by kernel_rfl) (hval 1 22 v1 rfl rfl) h1
  obtain ⟨a2, k2, e2⟩ := Codec.argAgg cCh (by kernel_rfl) (hval 2 58 v2 rfl rfl) h2
  clear hA0 hval0
  refine (ASpec.run (_root_.Ft.fitGrows_spec a0 a1 a2) (tabsN (by kernel_rfl)) (vrels_cons (e0 _ rfl) (vrels_cons (e1 _ rfl) (vrels_cons (e2) vrels_nil)))).mono fun e W' ⟨he, hb⟩ => ?_
  subst he
  exact ⟨_, rfl, law_post laidOut (by kernel_rfl) rfl (by kernel_rfl) Try.underlying4 hW' ⟨rfl, rfl, rfl⟩ hb⟩

theorem inp : (Rows.fitGrowsRow.inPlace == Try.checked.prog.inPlace 7) = true := by kernel_rfl
theorem unf : (Rows.fitGrowsRow.unfollowed == Try.checked.prog.unfollowed 7) = true := by kernel_rfl
theorem rec : (Rows.fitGrowsRow.recurses == Try.checked.prog.recurses 7) = true := by kernel_rfl
theorem nam : (Rows.fitGrowsRow.named == Try.checked.prog.varsNamed 7) = true := by kernel_rfl
theorem nm : Try.checked.prog.funcNamed Rows.fitGrowsRow.func = some 7 := by kernel_rfl
theorem k0 : (Rows.fitGrowsRow.wf (OpenSpec.ofChange Rows.fitGrowsSpec)) = true := by kernel_rfl
theorem k3 : (Try.f7.params.all (Try.checked.prog.readableRec ·)) = true := by kernel_rfl
theorem k4 : (namedTie Try.checked.prog Rows.fitGrowsRow.named Rows.fitGrowsSpec.vars) = true := by kernel_rfl
theorem k5 : (Rows.fitGrowsRow.stops == []) = true := by kernel_rfl
theorem k7 : (Rows.fitGrowsRow.knobs == []) = true := by kernel_rfl
theorem k13 : (Rows.fitGrowsRow.maps == (Try.f7.params.toList ++ Rows.fitGrowsSpec.plain.varTypes Try.checked.prog).any (Try.checked.prog.mapsRec ·)) = true := by kernel_rfl
theorem k14 : (Rows.fitGrowsRow.ifaces == (Try.f7.params.toList ++ Rows.fitGrowsSpec.plain.varTypes Try.checked.prog).any (Try.checked.prog.ifacesRec ·)) = true := by kernel_rfl
theorem k15 : (Rows.fitGrowsRow.mapsOut == Try.checked.prog.mapsAmong Try.f7.resultTypes.toList) = true := by kernel_rfl
theorem k16 : (Rows.fitGrowsRow.loops == (Try.f7.params.toList ++ Rows.fitGrowsSpec.plain.varTypes Try.checked.prog).any (Try.checked.prog.loopsFrom ·)) = true := by kernel_rfl
theorem k17 : (Rows.fitGrowsRow.wideKeys == (Try.f7.params.toList ++ Rows.fitGrowsSpec.plain.varTypes Try.checked.prog ++ Try.f7.resultTypes.toList).any (Try.checked.prog.wideKeysFrom ·)) = true := by kernel_rfl
theorem k18 : (Rows.fitGrowsSpec.vars.all (Try.checked.prog.varReadable ·)) = true := by kernel_rfl
theorem k19 : (Try.f7.resultTypes.all (fun t => Try.checked.prog.readableRec t && decide (t < Try.checked.prog.types.size))) = true := by kernel_rfl
theorem k20 : (Rows.fitGrowsRow.ifacesOut == Try.f7.resultTypes.toList.any (Try.checked.prog.ifacesRec ·)) = true := by kernel_rfl
theorem k21 : (Rows.fitGrowsRow.loopsOut == Try.f7.resultTypes.toList.any (Try.checked.prog.loopsFrom ·)) = true := by kernel_rfl
theorem k23 : (Rows.fitGrowsRow.shortTexts.isNone) = true := by kernel_rfl
theorem k28 : (Rows.fitGrowsRow.kinds == (if Rows.fitGrowsRow.domain.isEmpty then [] else Try.f7.params.toList.map fun t => match Try.checked.prog.underlying t with | some (.int k) => some k | _ => none)) = true := by kernel_rfl
theorem k29 : (Rows.fitGrowsRow.pinned == Rows.fitGrowsRow.pinnedBy) = true := by kernel_rfl
theorem k30 : (Rows.fitGrowsRow.veiled == (Try.f7.params.toList ++ Rows.fitGrowsSpec.plain.varTypes Try.checked.prog ++ Try.f7.resultTypes.toList).any (Try.checked.prog.veiledRec ·)) = true := by kernel_rfl
theorem k31 : (Rows.fitGrowsRow.veiledFits Try.checked.prog Try.f7.params.toList (Try.f7.params.toList ++ Rows.fitGrowsSpec.plain.varTypes Try.checked.prog ++ Try.f7.resultTypes.toList)) = true := by kernel_rfl
set_option maxRecDepth 1000000 in
theorem closed : joinedFacts Try.checked.prog 7 Try.f7 Rows.fitGrowsSpec Rows.fitGrowsRow = true := by
  unfold joinedFacts
  exact (Facts.andT (Facts.andT (Facts.andT (Facts.andT (Facts.andT (Facts.andT (Facts.andT (Facts.andT (Facts.andT (Facts.andT (Facts.andT (Facts.andT (Facts.andT (Facts.andT (Facts.andT (Facts.andT (Facts.andT (Facts.andT (Facts.andT (Facts.andT (Facts.andT (Facts.andT (Facts.andT (Facts.andT (Facts.andT (Facts.andT (Facts.andT (Facts.andT (Facts.andT (Facts.andT (Facts.andT k0 Facts.laid) Facts.mapsRowed) k3) k4) k5) Facts.stops) k7) Facts.stopKnobs) inp) unf) rec) nam) k13) k14) k15) k16) k17) k18) k19) k20) k21) Facts.plain) k23) Facts.heard) Facts.may) Facts.lifted) Facts.made) k28) k29) k30) k31)
theorem over : Rows.fitGrowsRow.holds Try.pinned (OpenSpec.ofChange Rows.fitGrowsSpec) :=
  OpenClaim.holds_of_wide 7 Try.f7 rfl rfl rfl rfl rfl rfl rfl ⟨rfl, rfl, rfl, rfl, rfl⟩ rfl rfl rfl rfl rfl nm Try.func7 closed
    (of_decide_eq_true (by kernel_rfl)) (by unfold Func.isWrapper; first | (rw [if_pos (by decide +kernel)]; kernel_rfl) | (rw [if_neg (by decide +kernel)]; exact ⟨rfl, rfl⟩))
    (fun os started H enc _ => lifted os started H enc)

theorem proved : Rows.FitGrowsSaid := over
#print axioms proved
end Go.Proofs.Ytihdijkpokccnaa.fitGrows
