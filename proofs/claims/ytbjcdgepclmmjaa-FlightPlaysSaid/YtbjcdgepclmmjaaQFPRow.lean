/- FlightPlays: whatever starts and ends, each answer, and what is under way, is the document's: for every window and list of deeds (that are not too many or too long, else it is the examples alone) the law returns true, and the input reads as it did. -/
import Derived.Test.YtbjcdgepclmmjaaRows
import Derived.Test.YtbjcdgepclmmjaaQ4
import Derived.Test.YtbjcdgepclmmjaaQ3
namespace Go.Proofs.Ytbjcdgepclmmjaa.flightPlays
open Go.ChangeShapes Go.WideShapes Go.ChangeAt Go.RowKit Go.Ab
set_option linter.unusedVariables false

theorem own : ownKnob Try.prog.godebug = none := Facts.own
theorem laidOut : laidOutB Try.prog = true := Facts.laid

set_option maxRecDepth 100000 in
theorem lifted (os : Os) (started : os.Started) (H : Type) (enc : TypeId × Value → H) :
    ReturnsInHanded {} Try.checked os 13 .any (Rows.flightPlaysSpec.pre6 enc Try.prog Try.f13 Rows.flightPlaysRow.domain false) (Rows.flightPlaysSpec.post enc Try.prog Try.f13 false true false false) := by
  refine returnsInHanded_of_change (C := Try.checked) own started (by kernel_rfl) Try.func13
    (ChangeSpec.witness6 (enc := enc) (C := Try.checked) false ⟨#[], #[.int .i64 0, .slice none 0 0], []⟩ 8 (by kernel_rfl) (by kernel_rfl) (by kernel_rfl) (by kernel_rfl)) ?_
  intro W base args ds gs before hval0 hW hcnd _
  have hval : ∀ (j : Nat) t v, Try.f13.params[j]? = some t → args[j]? = some v → Value.okWide Try.prog W .any base t v := hval0
  have hW' := hW
  obtain ⟨p, q, hA0, hV, rfl, hfz, hnd⟩ := hW
  have hA : DataW.TrodAll enc Try.prog W 0 (fun _ => true) true Try.f13.params.toList args.toList ds p := hA0
  rw [Try.params13] at hA hval
  obtain ⟨v0, vs0, d0, ds0, p0, q0, hargs, rfl, rfl, h0, r0⟩ := trodAll_cons hA
  obtain ⟨v1, vs1, d1, ds1, p1, q1, rfl, rfl, rfl, h1, r1⟩ := trodAll_cons r0
  obtain ⟨rfl, rfl, rfl⟩ := trodAll_nil r1
  obtain rfl : args = #[v0, v1] := by cases args; simp_all
  obtain ⟨rfl, rfl⟩ := trodVars_none hV
  obtain ⟨a0, k0, e0⟩ := Codec.arg1 cInt (by kernel_rfl) (hval 0 3 v0 rfl rfl) h0
  obtain ⟨a1, k1, e1⟩ := Codec.arg1 cFds (by kernel_rfl) (hval 1 137 v1 rfl rfl) h1
  clear hA0 hval0
  refine (ASpec.run (_root_.Fg.flightPlays_spec a0 a1 []) (tabsN (by kernel_rfl)) (vrels_cons (e0 _ rfl) (vrels_cons (e1 _ rfl) vrels_nil))).mono fun e W' ⟨he, hb⟩ => ?_
  subst he
  exact ⟨_, rfl, law_post laidOut (by kernel_rfl) rfl (by kernel_rfl) Try.underlying4 hW' ⟨rfl, rfl, rfl⟩ hb⟩

theorem inp : (Rows.flightPlaysRow.inPlace == Try.checked.prog.inPlace 13) = true := by kernel_rfl
theorem unf : (Rows.flightPlaysRow.unfollowed == Try.checked.prog.unfollowed 13) = true := by kernel_rfl
theorem rec : (Rows.flightPlaysRow.recurses == Try.checked.prog.recurses 13) = true := by kernel_rfl
theorem nam : (Rows.flightPlaysRow.named == Try.checked.prog.varsNamed 13) = true := by kernel_rfl
theorem nm : Try.checked.prog.funcNamed Rows.flightPlaysRow.func = some 13 := by kernel_rfl
theorem k0 : (Rows.flightPlaysRow.wf (OpenSpec.ofChange Rows.flightPlaysSpec)) = true := by kernel_rfl
theorem k3 : (Try.f13.params.all (Try.checked.prog.readableRec ·)) = true := by kernel_rfl
theorem k4 : (namedTie Try.checked.prog Rows.flightPlaysRow.named Rows.flightPlaysSpec.vars) = true := by kernel_rfl
theorem k5 : (Rows.flightPlaysRow.stops == []) = true := by kernel_rfl
theorem k7 : (Rows.flightPlaysRow.knobs == []) = true := by kernel_rfl
theorem k13 : (Rows.flightPlaysRow.maps == (Try.f13.params.toList ++ Rows.flightPlaysSpec.plain.varTypes Try.checked.prog).any (Try.checked.prog.mapsRec ·)) = true := by kernel_rfl
theorem k14 : (Rows.flightPlaysRow.ifaces == (Try.f13.params.toList ++ Rows.flightPlaysSpec.plain.varTypes Try.checked.prog).any (Try.checked.prog.ifacesRec ·)) = true := by kernel_rfl
theorem k15 : (Rows.flightPlaysRow.mapsOut == Try.checked.prog.mapsAmong Try.f13.resultTypes.toList) = true := by kernel_rfl
theorem k16 : (Rows.flightPlaysRow.loops == (Try.f13.params.toList ++ Rows.flightPlaysSpec.plain.varTypes Try.checked.prog).any (Try.checked.prog.loopsFrom ·)) = true := by kernel_rfl
theorem k17 : (Rows.flightPlaysRow.wideKeys == (Try.f13.params.toList ++ Rows.flightPlaysSpec.plain.varTypes Try.checked.prog ++ Try.f13.resultTypes.toList).any (Try.checked.prog.wideKeysFrom ·)) = true := by kernel_rfl
theorem k18 : (Rows.flightPlaysSpec.vars.all (Try.checked.prog.varReadable ·)) = true := by kernel_rfl
theorem k19 : (Try.f13.resultTypes.all (fun t => Try.checked.prog.readableRec t && decide (t < Try.checked.prog.types.size))) = true := by kernel_rfl
theorem k20 : (Rows.flightPlaysRow.ifacesOut == Try.f13.resultTypes.toList.any (Try.checked.prog.ifacesRec ·)) = true := by kernel_rfl
theorem k21 : (Rows.flightPlaysRow.loopsOut == Try.f13.resultTypes.toList.any (Try.checked.prog.loopsFrom ·)) = true := by kernel_rfl
theorem k23 : (Rows.flightPlaysRow.shortTexts.isNone) = true := by kernel_rfl
theorem k28 : (Rows.flightPlaysRow.kinds == (if Rows.flightPlaysRow.domain.isEmpty then [] else Try.f13.params.toList.map fun t => match Try.checked.prog.underlying t with | some (.int k) => some k | _ => none)) = true := by kernel_rfl
theorem k29 : (Rows.flightPlaysRow.pinned == Rows.flightPlaysRow.pinnedBy) = true := by kernel_rfl
theorem k30 : (Rows.flightPlaysRow.veiled == (Try.f13.params.toList ++ Rows.flightPlaysSpec.plain.varTypes Try.checked.prog ++ Try.f13.resultTypes.toList).any (Try.checked.prog.veiledRec ·)) = true := by kernel_rfl
theorem k31 : (Rows.flightPlaysRow.veiledFits Try.checked.prog Try.f13.params.toList (Try.f13.params.toList ++ Rows.flightPlaysSpec.plain.varTypes Try.checked.prog ++ Try.f13.resultTypes.toList)) = true := by kernel_rfl
set_option maxRecDepth 1000000 in
theorem closed : joinedFacts Try.checked.prog 13 Try.f13 Rows.flightPlaysSpec Rows.flightPlaysRow = true := by
  unfold joinedFacts
  exact (Facts.andT (Facts.andT (Facts.andT (Facts.andT (Facts.andT (Facts.andT (Facts.andT (Facts.andT (Facts.andT (Facts.andT (Facts.andT (Facts.andT (Facts.andT (Facts.andT (Facts.andT (Facts.andT (Facts.andT (Facts.andT (Facts.andT (Facts.andT (Facts.andT (Facts.andT (Facts.andT (Facts.andT (Facts.andT (Facts.andT (Facts.andT (Facts.andT (Facts.andT (Facts.andT (Facts.andT k0 Facts.laid) Facts.mapsRowed) k3) k4) k5) Facts.stops) k7) Facts.stopKnobs) inp) unf) rec) nam) k13) k14) k15) k16) k17) k18) k19) k20) k21) Facts.plain) k23) Facts.heard) Facts.may) Facts.lifted) Facts.made) k28) k29) k30) k31)
theorem over : Rows.flightPlaysRow.holds Try.pinned (OpenSpec.ofChange Rows.flightPlaysSpec) :=
  OpenClaim.holds_of_wide 13 Try.f13 rfl rfl rfl rfl rfl rfl rfl ⟨rfl, rfl, rfl, rfl, rfl⟩ rfl rfl rfl rfl rfl nm Try.func13 closed
    (of_decide_eq_true (by kernel_rfl)) (by unfold Func.isWrapper; first | (rw [if_pos (by decide +kernel)]; kernel_rfl) | (rw [if_neg (by decide +kernel)]; exact ⟨rfl, rfl⟩))
    (fun os started H enc _ => lifted os started H enc)

theorem proved : Rows.FlightPlaysSaid := over
#print axioms proved
end Go.Proofs.Ytbjcdgepclmmjaa.flightPlays
