/- ReachGrows: the more is known, the more may be needed; of what is whole nothing more becomes needed: for every list of entries, number and list of needs (that are not large, a number of entries, and needs that may be, else it is the example alone) the law returns true, and the input reads as it did. -/
import Derived.Test.YtihdijkpokccnaaRows
import Derived.Test.YtihdijkpokccnaaQ8
import Derived.Test.YtihdijkpokccnaaQ7
namespace Go.Proofs.Ytihdijkpokccnaa.reachGrows
open Go.ChangeShapes Go.WideShapes Go.ChangeAt Go.RowKit Go.Ab
set_option linter.unusedVariables false

theorem own : ownKnob Try.prog.godebug = none := Facts.own
theorem laidOut : laidOutB Try.prog = true := Facts.laid

set_option maxRecDepth 100000 in
theorem lifted (os : Os) (started : os.Started) (H : Type) (enc : TypeId × Value → H) :
    ReturnsInHanded {} Try.checked os 4 .any (Rows.reachGrowsSpec.pre6 enc Try.prog Try.f4 Rows.reachGrowsRow.domain false) (Rows.reachGrowsSpec.post enc Try.prog Try.f4 false true false false) := by
  refine returnsInHanded_of_change (C := Try.checked) own started (by kernel_rfl) Try.func4
    (ChangeSpec.witness6 (enc := enc) (C := Try.checked) false ⟨#[], #[.slice none 0 0, .int .i64 0, .slice none 0 0], []⟩ 8 (by kernel_rfl) (by kernel_rfl) (by kernel_rfl) (by kernel_rfl)) ?_
  intro W base args ds gs before hval0 hW hcnd _
  have hval : ∀ (j : Nat) t v, Try.f4.params[j]? = some t → args[j]? = some v → Value.okWide Try.prog W .any base t v := hval0
  have hW' := hW
  obtain ⟨p, q, hA0, hV, rfl, hfz, hnd⟩ := hW
  have hA : DataW.TrodAll enc Try.prog W 0 (fun _ => true) true Try.f4.params.toList args.toList ds p := hA0
  rw [Try.params4] at hA hval
  obtain ⟨v0, vs0, d0, ds0, p0, q0, hargs, rfl, rfl, h0, r0⟩ := trodAll_cons hA
  obtain ⟨v1, vs1, d1, ds1, p1, q1, rfl, rfl, rfl, h1, r1⟩ := trodAll_cons r0
  obtain ⟨v2, vs2, d2, ds2, p2, q2, rfl, rfl, rfl, h2, r2⟩ := trodAll_cons r1
  obtain ⟨rfl, rfl, rfl⟩ := trodAll_nil r2
  obtain rfl : args = #[v0, v1, v2] := by cases args; simp_all
  obtain ⟨rfl, rfl⟩ := trodVars_none hV
  obtain ⟨a0, k0, e0⟩ := Codec.arg1 cEnts (by kernel_rfl) (hval 0 22 v0 rfl rfl) h0
  obtain ⟨a1, k1, e1⟩ := Codec.arg1 cInt (by kernel_rfl) (hval 1 3 v1 rfl rfl) h1
  obtain ⟨a2, k2, e2⟩ := Codec.arg1 cNeeds (by kernel_rfl) (hval 2 23 v2 rfl rfl) h2
  clear hA0 hval0
  refine (ASpec.run (_root_.Rr.grows_spec a0 a1 a2) (tabsN (by kernel_rfl)) (vrels_cons (e0 _ rfl) (vrels_cons (e1 _ rfl) (vrels_cons (e2 _ rfl) vrels_nil)))).mono fun e W' ⟨he, hb⟩ => ?_
  subst he
  exact ⟨_, rfl, law_post laidOut (by kernel_rfl) rfl (by kernel_rfl) Try.underlying4 hW' ⟨rfl, rfl, rfl⟩ hb⟩

theorem inp : (Rows.reachGrowsRow.inPlace == Try.checked.prog.inPlace 4) = true := by kernel_rfl
theorem unf : (Rows.reachGrowsRow.unfollowed == Try.checked.prog.unfollowed 4) = true := by kernel_rfl
theorem rec : (Rows.reachGrowsRow.recurses == Try.checked.prog.recurses 4) = true := by kernel_rfl
theorem nam : (Rows.reachGrowsRow.named == Try.checked.prog.varsNamed 4) = true := by kernel_rfl
theorem nm : Try.checked.prog.funcNamed Rows.reachGrowsRow.func = some 4 := by kernel_rfl
theorem k0 : (Rows.reachGrowsRow.wf (OpenSpec.ofChange Rows.reachGrowsSpec)) = true := by kernel_rfl
theorem k3 : (Try.f4.params.all (Try.checked.prog.readableRec ·)) = true := by kernel_rfl
theorem k4 : (namedTie Try.checked.prog Rows.reachGrowsRow.named Rows.reachGrowsSpec.vars) = true := by kernel_rfl
theorem k5 : (Rows.reachGrowsRow.stops == []) = true := by kernel_rfl
theorem k7 : (Rows.reachGrowsRow.knobs == []) = true := by kernel_rfl
theorem k13 : (Rows.reachGrowsRow.maps == (Try.f4.params.toList ++ Rows.reachGrowsSpec.plain.varTypes Try.checked.prog).any (Try.checked.prog.mapsRec ·)) = true := by kernel_rfl
theorem k14 : (Rows.reachGrowsRow.ifaces == (Try.f4.params.toList ++ Rows.reachGrowsSpec.plain.varTypes Try.checked.prog).any (Try.checked.prog.ifacesRec ·)) = true := by kernel_rfl
theorem k15 : (Rows.reachGrowsRow.mapsOut == Try.checked.prog.mapsAmong Try.f4.resultTypes.toList) = true := by kernel_rfl
theorem k16 : (Rows.reachGrowsRow.loops == (Try.f4.params.toList ++ Rows.reachGrowsSpec.plain.varTypes Try.checked.prog).any (Try.checked.prog.loopsFrom ·)) = true := by kernel_rfl
theorem k17 : (Rows.reachGrowsRow.wideKeys == (Try.f4.params.toList ++ Rows.reachGrowsSpec.plain.varTypes Try.checked.prog ++ Try.f4.resultTypes.toList).any (Try.checked.prog.wideKeysFrom ·)) = true := by kernel_rfl
theorem k18 : (Rows.reachGrowsSpec.vars.all (Try.checked.prog.varReadable ·)) = true := by kernel_rfl
theorem k19 : (Try.f4.resultTypes.all (fun t => Try.checked.prog.readableRec t && decide (t < Try.checked.prog.types.size))) = true := by kernel_rfl
theorem k20 : (Rows.reachGrowsRow.ifacesOut == Try.f4.resultTypes.toList.any (Try.checked.prog.ifacesRec ·)) = true := by kernel_rfl
theorem k21 : (Rows.reachGrowsRow.loopsOut == Try.f4.resultTypes.toList.any (Try.checked.prog.loopsFrom ·)) = true := by kernel_rfl
theorem k23 : (Rows.reachGrowsRow.shortTexts.isNone) = true := by kernel_rfl
theorem k28 : (Rows.reachGrowsRow.kinds == (if Rows.reachGrowsRow.domain.isEmpty then [] else Try.f4.params.toList.map fun t => match Try.checked.prog.underlying t with | some (.int k) => some k | _ => none)) = true := by kernel_rfl
theorem k29 : (Rows.reachGrowsRow.pinned == Rows.reachGrowsRow.pinnedBy) = true := by kernel_rfl
theorem k30 : (Rows.reachGrowsRow.veiled == (Try.f4.params.toList ++ Rows.reachGrowsSpec.plain.varTypes Try.checked.prog ++ Try.f4.resultTypes.toList).any (Try.checked.prog.veiledRec ·)) = true := by kernel_rfl
theorem k31 : (Rows.reachGrowsRow.veiledFits Try.checked.prog Try.f4.params.toList (Try.f4.params.toList ++ Rows.reachGrowsSpec.plain.varTypes Try.checked.prog ++ Try.f4.resultTypes.toList)) = true := by kernel_rfl
set_option maxRecDepth 1000000 in
theorem closed : joinedFacts Try.checked.prog 4 Try.f4 Rows.reachGrowsSpec Rows.reachGrowsRow = true := by
  unfold joinedFacts
  exact (Facts.andT (Facts.andT (Facts.andT (Facts.andT (Facts.andT (Facts.andT (Facts.andT (Facts.andT (Facts.andT (Facts.andT (Facts.andT (Facts.andT (Facts.andT (Facts.andT (Facts.andT (Facts.andT (Facts.andT (Facts.andT (Facts.andT (Facts.andT (Facts.andT (Facts.andT (Facts.andT (Facts.andT (Facts.andT (Facts.andT (Facts.andT (Facts.andT (Facts.andT (Facts.andT (Facts.andT k0 Facts.laid) Facts.mapsRowed) k3) k4) k5) Facts.stops) k7) Facts.stopKnobs) inp) unf) rec) nam) k13) k14) k15) k16) k17) k18) k19) k20) k21) Facts.plain) k23) Facts.heard) Facts.may) Facts.lifted) Facts.made) k28) k29) k30) k31)
theorem over : Rows.reachGrowsRow.holds Try.pinned (OpenSpec.ofChange Rows.reachGrowsSpec) :=
  OpenClaim.holds_of_wide 4 Try.f4 rfl rfl rfl rfl rfl rfl rfl ⟨rfl, rfl, rfl, rfl, rfl⟩ rfl rfl rfl rfl rfl nm Try.func4 closed
    (of_decide_eq_true (by kernel_rfl)) (by unfold Func.isWrapper; first | (rw [if_pos (by decide +kernel)]; kernel_rfl) | (rw [if_neg (by decide +kernel)]; exact ⟨rfl, rfl⟩))
    (fun os started H enc _ => lifted os started H enc)

theorem proved : Rows.ReachGrowsSaid := over
#print axioms proved
end Go.Proofs.Ytihdijkpokccnaa.reachGrows
