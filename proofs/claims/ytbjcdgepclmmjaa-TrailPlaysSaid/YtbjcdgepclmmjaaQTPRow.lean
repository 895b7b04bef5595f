/- TrailPlays: whatever is decided, derived and taken back, each answer, the entries, what is known, and by how many entries a clash is, is the document's: for every list of deeds, clash, number and name (that are not large, and a clash that may be, else it is the examples alone) the law returns true, and the input reads as it did. -/
import Derived.Test.YtbjcdgepclmmjaaRows
import Derived.Test.YtbjcdgepclmmjaaQ7
namespace Go.Proofs.Ytbjcdgepclmmjaa.trailPlays
open Go.ChangeShapes Go.WideShapes Go.ChangeAt Go.RowKit Go.Ab
set_option linter.unusedVariables false

theorem own : ownKnob Try.prog.godebug = none := Facts.own
theorem laidOut : laidOutB Try.prog = true := Facts.laid

set_option maxRecDepth 100000 in
theorem lifted (os : Os) (started : os.Started) (H : Type) (enc : TypeId × Value → H) :
    ReturnsInHanded {} Try.checked os 10 .any (Rows.trailPlaysSpec.pre6 enc Try.prog Try.f10 Rows.trailPlaysRow.domain false) (Rows.trailPlaysSpec.post enc Try.prog Try.f10 false true false false) := by
  refine returnsInHanded_of_change (C := Try.checked) own started (by kernel_rfl) Try.func10
    (ChangeSpec.witness6 (enc := enc) (C := Try.checked) false ⟨#[], #[.slice none 0 0, .slice none 0 0, .agg #[.int .i64 0, .string ByteArray.empty]], []⟩ 8 (by kernel_rfl) (by kernel_rfl) (by kernel_rfl) (by kernel_rfl)) ?_
  intro W base args ds gs before hval0 hW hcnd _
  have hval : ∀ (j : Nat) t v, Try.f10.params[j]? = some t → args[j]? = some v → Value.okWide Try.prog W .any base t v := hval0
  have hW' := hW
  obtain ⟨p, q, hA0, hV, rfl, hfz, hnd⟩ := hW
  have hA : DataW.TrodAll enc Try.prog W 0 (fun _ => true) true Try.f10.params.toList args.toList ds p := hA0
  rw [Try.params10] at hA hval
  obtain ⟨v0, vs0, d0, ds0, p0, q0, hargs, rfl, rfl, h0, r0⟩ := trodAll_cons hA
  obtain ⟨v1, vs1, d1, ds1, p1, q1, rfl, rfl, rfl, h1, r1⟩ := trodAll_cons r0
  obtain ⟨v2, vs2, d2, ds2, p2, q2, rfl, rfl, rfl, h2, r2⟩ := trodAll_cons r1
  obtain ⟨rfl, rfl, rfl⟩ := trodAll_nil r2
  obtain rfl : args = #[v0, v1, v2] := by cases args; simp_all
  obtain ⟨rfl, rfl⟩ := trodVars_none hV
  obtain ⟨a0, k0, e0⟩ := Codec.arg1 cDts (by kernel_rfl) (hval 0 34 v0 rfl rfl) h0
  obtain ⟨a1, k1, e1⟩ := Codec.arg1 cTerms (by kernel_rfl) (hval 1 42 v1 rfl rfl) h1
  obtain ⟨a2, k2, e2⟩ := Codec.argAgg cWh (by kernel_rfl) (hval 2 116 v2 rfl rfl) h2
  clear hA0 hval0
  refine (ASpec.run (_root_.Tp.trailPlays_spec a0 a1 a2.1 a2.2 []) (tabsN (by kernel_rfl)) (vrels_cons (e0 _ rfl) (vrels_cons (e1 _ rfl) (vrels_cons (e2) vrels_nil)))).mono fun e W' ⟨he, hb⟩ => ?_
  subst he
  exact ⟨_, rfl, law_post laidOut (by kernel_rfl) rfl (by kernel_rfl) Try.underlying4 hW' ⟨rfl, rfl, rfl⟩ hb⟩

theorem inp : (Rows.trailPlaysRow.inPlace == Try.checked.prog.inPlace 10) = true := by kernel_rfl
theorem unf : (Rows.trailPlaysRow.unfollowed == Try.checked.prog.unfollowed 10) = true := by kernel_rfl
theorem rec : (Rows.trailPlaysRow.recurses == Try.checked.prog.recurses 10) = true := by kernel_rfl
theorem nam : (Rows.trailPlaysRow.named == Try.checked.prog.varsNamed 10) = true := by kernel_rfl
theorem nm : Try.checked.prog.funcNamed Rows.trailPlaysRow.func = some 10 := by kernel_rfl
theorem k0 : (Rows.trailPlaysRow.wf (OpenSpec.ofChange Rows.trailPlaysSpec)) = true := by kernel_rfl
theorem k3 : (Try.f10.params.all (Try.checked.prog.readableRec ·)) = true := by kernel_rfl
theorem k4 : (namedTie Try.checked.prog Rows.trailPlaysRow.named Rows.trailPlaysSpec.vars) = true := by kernel_rfl
theorem k5 : (Rows.trailPlaysRow.stops == []) = true := by kernel_rfl
theorem k7 : (Rows.trailPlaysRow.knobs == []) = true := by kernel_rfl
theorem k13 : (Rows.trailPlaysRow.maps == (Try.f10.params.toList ++ Rows.trailPlaysSpec.plain.varTypes Try.checked.prog).any (Try.checked.prog.mapsRec ·)) = true := by kernel_rfl
theorem k14 : (Rows.trailPlaysRow.ifaces == (Try.f10.params.toList ++ Rows.trailPlaysSpec.plain.varTypes Try.checked.prog).any (Try.checked.prog.ifacesRec ·)) = true := by kernel_rfl
theorem k15 : (Rows.trailPlaysRow.mapsOut == Try.checked.prog.mapsAmong Try.f10.resultTypes.toList) = true := by kernel_rfl
theorem k16 : (Rows.trailPlaysRow.loops == (Try.f10.params.toList ++ Rows.trailPlaysSpec.plain.varTypes Try.checked.prog).any (Try.checked.prog.loopsFrom ·)) = true := by kernel_rfl
theorem k17 : (Rows.trailPlaysRow.wideKeys == (Try.f10.params.toList ++ Rows.trailPlaysSpec.plain.varTypes Try.checked.prog ++ Try.f10.resultTypes.toList).any (Try.checked.prog.wideKeysFrom ·)) = true := by kernel_rfl
theorem k18 : (Rows.trailPlaysSpec.vars.all (Try.checked.prog.varReadable ·)) = true := by kernel_rfl
theorem k19 : (Try.f10.resultTypes.all (fun t => Try.checked.prog.readableRec t && decide (t < Try.checked.prog.types.size))) = true := by kernel_rfl
theorem k20 : (Rows.trailPlaysRow.ifacesOut == Try.f10.resultTypes.toList.any (Try.checked.prog.ifacesRec ·)) = true := by kernel_rfl
theorem k21 : (Rows.trailPlaysRow.loopsOut == Try.f10.resultTypes.toList.any (Try.checked.prog.loopsFrom ·)) = true := by kernel_rfl
theorem k23 : (Rows.trailPlaysRow.shortTexts.isNone) = true := by kernel_rfl
theorem k28 : (Rows.trailPlaysRow.kinds == (if Rows.trailPlaysRow.domain.isEmpty then [] else Try.f10.params.toList.map fun t => match Try.checked.prog.underlying t with | some (.int k) => some k | _ => none)) = true := by kernel_rfl
theorem k29 : (Rows.trailPlaysRow.pinned == Rows.trailPlaysRow.pinnedBy) = true := by kernel_rfl
theorem k30 : (Rows.trailPlaysRow.veiled == (Try.f10.params.toList ++ Rows.trailPlaysSpec.plain.varTypes Try.checked.prog ++ Try.f10.resultTypes.toList).any (Try.checked.prog.veiledRec ·)) = true := by kernel_rfl
theorem k31 : (Rows.trailPlaysRow.veiledFits Try.checked.prog Try.f10.params.toList (Try.f10.params.toList ++ Rows.trailPlaysSpec.plain.varTypes Try.checked.prog ++ Try.f10.resultTypes.toList)) = true := by kernel_rfl
set_option maxRecDepth 1000000 in
theorem closed : joinedFacts Try.checked.prog 10 Try.f10 Rows.trailPlaysSpec Rows.trailPlaysRow = true := by
  unfold joinedFacts
  exact (Facts.andT (Facts.andT (Facts.andT (Facts.andT (Facts.andT (Facts.andT (Facts.andT (Facts.andT (Facts.andT (Facts.andT (Facts.andT (Facts.andT (Facts.andT (Facts.andT (Facts.andT (Facts.andT (Facts.andT (Facts.andT (Facts.andT (Facts.andT (Facts.andT (Facts.andT (Facts.andT (Facts.andT (Facts.andT (Facts.andT (Facts.andT (Facts.andT (Facts.andT (Facts.andT (Facts.andT k0 Facts.laid) Facts.mapsRowed) k3) k4) k5) Facts.stops) k7) Facts.stopKnobs) inp) unf) rec) nam) k13) k14) k15) k16) k17) k18) k19) k20) k21) Facts.plain) k23) Facts.heard) Facts.may) Facts.lifted) Facts.made) k28) k29) k30) k31)
theorem over : Rows.trailPlaysRow.holds Try.pinned (OpenSpec.ofChange Rows.trailPlaysSpec) :=
  OpenClaim.holds_of_wide 10 Try.f10 rfl rfl rfl rfl rfl rfl rfl ⟨rfl, rfl, rfl, rfl, rfl⟩ rfl rfl rfl rfl rfl nm Try.func10 closed
    (of_decide_eq_true (by kernel_rfl)) (by unfold Func.isWrapper; first | (rw [if_pos (by decide +kernel)]; kernel_rfl) | (rw [if_neg (by decide +kernel)]; exact ⟨rfl, rfl⟩))
    (fun os started H enc _ => lifted os started H enc)

theorem proved : Rows.TrailPlaysSaid := over
#print axioms proved
end Go.Proofs.Ytbjcdgepclmmjaa.trailPlays
