/- ProofTrims: a proof that was trimmed is trimmed, its last step is the one that was last, and it has no step or leaf that was not there: for every list of steps (that is not large, and that may be, else it is the examples alone) the law returns true, and the input reads as it did. -/
import Derived.Test.YtbjcdgepclmmjaaRows
import Derived.Test.YtbjcdgepclmmjaaQ7
import Derived.Test.YtbjcdgepclmmjaaQ6
namespace Go.Proofs.Ytbjcdgepclmmjaa.proofTrims
open Go.ChangeShapes Go.WideShapes Go.ChangeAt Go.RowKit Go.Ab
set_option linter.unusedVariables false

theorem own : ownKnob Try.prog.godebug = none := Facts.own
theorem laidOut : laidOutB Try.prog = true := Facts.laid

set_option maxRecDepth 100000 in
theorem lifted (os : Os) (started : os.Started) (H : Type) (enc : TypeId × Value → H) :
    ReturnsInHanded {} Try.checked os 16 .any (Rows.proofTrimsSpec.pre6 enc Try.prog Try.f16 Rows.proofTrimsRow.domain false) (Rows.proofTrimsSpec.post enc Try.prog Try.f16 false true false false) := by
  refine returnsInHanded_of_change (C := Try.checked) own started (by kernel_rfl) Try.func16
    (ChangeSpec.witness6 (enc := enc) (C := Try.checked) false ⟨#[], #[.slice none 0 0], []⟩ 8 (by kernel_rfl) (by kernel_rfl) (by kernel_rfl) (by kernel_rfl)) ?_
  intro W base args ds gs before hval0 hW hcnd _
  have hval : ∀ (j : Nat) t v, Try.f16.params[j]? = some t → args[j]? = some v → Value.okWide Try.prog W .any base t v := hval0
  have hW' := hW
  obtain ⟨p, q, hA0, hV, rfl, hfz, hnd⟩ := hW
  have hA : DataW.TrodAll enc Try.prog W 0 (fun _ => true) true Try.f16.params.toList args.toList ds p := hA0
  rw [Try.params16] at hA hval
  obtain ⟨v0, vs0, d0, ds0, p0, q0, hargs, rfl, rfl, h0, r0⟩ := trodAll_cons hA
  obtain ⟨rfl, rfl, rfl⟩ := trodAll_nil r0
  obtain rfl : args = #[v0] := by cases args; simp_all
  obtain ⟨rfl, rfl⟩ := trodVars_none hV
  obtain ⟨a0, k0, e0⟩ := Codec.arg1 cSts (by kernel_rfl) (hval 0 22 v0 rfl rfl) h0
  clear hA0 hval0
  refine (ASpec.run (_root_.Pl.proofTrims_spec a0 []) (tabsN (by kernel_rfl)) (vrels_cons (e0 _ rfl) vrels_nil)).mono fun e W' ⟨he, hb⟩ => ?_
  subst he
  exact ⟨_, rfl, law_post laidOut (by kernel_rfl) rfl (by kernel_rfl) Try.underlying4 hW' ⟨rfl, rfl, rfl⟩ hb⟩

theorem inp : (Rows.proofTrimsRow.inPlace == Try.checked.prog.inPlace 16) = true := by kernel_rfl
theorem unf : (Rows.proofTrimsRow.unfollowed == Try.checked.prog.unfollowed 16) = true := by kernel_rfl
theorem rec : (Rows.proofTrimsRow.recurses == Try.checked.prog.recurses 16) = true := by kernel_rfl
theorem nam : (Rows.proofTrimsRow.named == Try.checked.prog.varsNamed 16) = true := by kernel_rfl
theorem nm : Try.checked.prog.funcNamed Rows.proofTrimsRow.func = some 16 := by kernel_rfl
theorem k0 : (Rows.proofTrimsRow.wf (OpenSpec.ofChange Rows.proofTrimsSpec)) = true := by kernel_rfl
theorem k3 : (Try.f16.params.all (Try.checked.prog.readableRec ·)) = true := by kernel_rfl
theorem k4 : (namedTie Try.checked.prog Rows.proofTrimsRow.named Rows.proofTrimsSpec.vars) = true := by kernel_rfl
theorem k5 : (Rows.proofTrimsRow.stops == []) = true := by kernel_rfl
theorem k7 : (Rows.proofTrimsRow.knobs == []) = true := by kernel_rfl
theorem k13 : (Rows.proofTrimsRow.maps == (Try.f16.params.toList ++ Rows.proofTrimsSpec.plain.varTypes Try.checked.prog).any (Try.checked.prog.mapsRec ·)) = true := by kernel_rfl
theorem k14 : (Rows.proofTrimsRow.ifaces == (Try.f16.params.toList ++ Rows.proofTrimsSpec.plain.varTypes Try.checked.prog).any (Try.checked.prog.ifacesRec ·)) = true := by kernel_rfl
theorem k15 : (Rows.proofTrimsRow.mapsOut == Try.checked.prog.mapsAmong Try.f16.resultTypes.toList) = true := by kernel_rfl
theorem k16 : (Rows.proofTrimsRow.loops == (Try.f16.params.toList ++ Rows.proofTrimsSpec.plain.varTypes Try.checked.prog).any (Try.checked.prog.loopsFrom ·)) = true := by kernel_rfl
theorem k17 : (Rows.proofTrimsRow.wideKeys == (Try.f16.params.toList ++ Rows.proofTrimsSpec.plain.varTypes Try.checked.prog ++ Try.f16.resultTypes.toList).any (Try.checked.prog.wideKeysFrom ·)) = true := by kernel_rfl
theorem k18 : (Rows.proofTrimsSpec.vars.all (Try.checked.prog.varReadable ·)) = true := by kernel_rfl
theorem k19 : (Try.f16.resultTypes.all (fun t => Try.checked.prog.readableRec t && decide (t < Try.checked.prog.types.size))) = true := by kernel_rfl
theorem k20 : (Rows.proofTrimsRow.ifacesOut == Try.f16.resultTypes.toList.any (Try.checked.prog.ifacesRec ·)) = true := by kernel_rfl
theorem k21 : (Rows.proofTrimsRow.loopsOut == Try.f16.resultTypes.toList.any (Try.checked.prog.loopsFrom ·)) = true := by kernel_rfl
theorem k23 : (Rows.proofTrimsRow.shortTexts.isNone) = true := by kernel_rfl
theorem k28 : (Rows.proofTrimsRow.kinds == (if Rows.proofTrimsRow.domain.isEmpty then [] else Try.f16.params.toList.map fun t => match Try.checked.prog.underlying t with | some (.int k) => some k | _ => none)) = true := by kernel_rfl
theorem k29 : (Rows.proofTrimsRow.pinned == Rows.proofTrimsRow.pinnedBy) = true := by kernel_rfl
theorem k30 : (Rows.proofTrimsRow.veiled == (Try.f16.params.toList ++ Rows.proofTrimsSpec.plain.varTypes Try.checked.prog ++ Try.f16.resultTypes.toList).any (Try.checked.prog.veiledRec ·)) = true := by kernel_rfl
theorem k31 : (Rows.proofTrimsRow.veiledFits Try.checked.prog Try.f16.params.toList (Try.f16.params.toList ++ Rows.proofTrimsSpec.plain.varTypes Try.checked.prog ++ Try.f16.resultTypes.toList)) = true := by kernel_rfl
set_option maxRecDepth 1000000 in
theorem closed : joinedFacts Try.checked.prog 16 Try.f16 Rows.proofTrimsSpec Rows.proofTrimsRow = true := by
  unfold joinedFacts
  exact (Facts.andT (Facts.andT (Facts.andT (Facts.andT (Facts.andT (Facts.andT (Facts.andT (Facts.andT (Facts.andT (Facts.andT (Facts.andT (Facts.andT (Facts.andT (Facts.andT (Facts.andT (Facts.andT (Facts.andT (Facts.andT (Facts.andT (Facts.andT (Facts.andT (Facts.andT (Facts.andT (Facts.andT (Facts.andT (Facts.andT (Facts.andT (Facts.andT (Facts.andT (Facts.andT (Facts.andT k0 Facts.laid) Facts.mapsRowed) k3) k4) k5) Facts.stops) k7) Facts.stopKnobs) inp) unf) rec) nam) k13) k14) k15) k16) k17) k18) k19) k20) k21) Facts.plain) k23) Facts.heard) Facts.may) Facts.lifted) Facts.made) k28) k29) k30) k31)
theorem over : Rows.proofTrimsRow.holds Try.pinned (OpenSpec.ofChange Rows.proofTrimsSpec) :=
  OpenClaim.holds_of_wide 16 Try.f16 rfl rfl rfl rfl rfl rfl rfl ⟨rfl, rfl, rfl, rfl, rfl⟩ rfl rfl rfl rfl rfl nm Try.func16 closed
    (of_decide_eq_true (by kernel_rfl)) (by unfold Func.isWrapper; first | (rw [if_pos (by decide +kernel)]; kernel_rfl) | (rw [if_neg (by decide +kernel)]; exact ⟨rfl, rfl⟩))
    (fun os started H enc _ => lifted os started H enc)

theorem proved : Rows.ProofTrimsSaid := over
#print axioms proved
end Go.Proofs.Ytbjcdgepclmmjaa.proofTrims
