/- PlainHolds: what is found is a solution; where nothing is found no picks are one; each is so of any index that knows more; what is lacked may be needed: for every two lists of entries and every choice (that are not large, and needs that may be, else it is the example alone) the law returns true, and the input reads as it did. -/
import Derived.Test.YtkmolhmdikjmpaaGreatRows
import Derived.Test.YtkmolhmdikjmpaaGreatQ7
import Derived.Test.YtkmolhmdikjmpaaGreatQ5
namespace Go.Proofs.YtkmolhmdikjmpaaGreat.plainHolds
open Go.ChangeShapes Go.WideShapes Go.ChangeAt Go.RowKit Go.Ab
set_option linter.unusedVariables false

theorem own : ownKnob Tryz.prog.godebug = none := Facts.own
theorem laidOut : laidOutB Tryz.prog = true := Facts.laid

set_option maxRecDepth 100000 in
theorem lifted (os : Os) (started : os.Started) (H : Type) (enc : TypeId × Value → H) :
    ReturnsInHanded {} Tryz.checked os 7 .any (Rows.plainHoldsSpec.pre6 enc Tryz.prog Tryz.f7 Rows.plainHoldsRow.domain false) (Rows.plainHoldsSpec.post enc Tryz.prog Tryz.f7 false true false false) := by
  refine returnsInHanded_of_change (C := Tryz.checked) own started (by kernel_rfl) Tryz.func7
    (ChangeSpec.witness6 (enc := enc) (C := Tryz.checked) false ⟨#[], #[.slice none 0 0, .slice none 0 0, .agg #[.slice none 0 0, .slice none 0 0]], []⟩ 8 (by kernel_rfl) (by kernel_rfl) (by kernel_rfl) (by kernel_rfl)) ?_
  intro W base args ds gs before hval0 hW hcnd _
  have hval : ∀ (j : Nat) t v, Tryz.f7.params[j]? = some t → args[j]? = some v → Value.okWide Tryz.prog W .any base t v := hval0
  have hW' := hW
  obtain ⟨p, q, hA0, hV, rfl, hfz, hnd⟩ := hW
  have hA : DataW.TrodAll enc Tryz.prog W 0 (fun _ => true) true Tryz.f7.params.toList args.toList ds p := hA0
  rw [Tryz.params7] at hA hval
  obtain ⟨v0, vs0, d0, ds0, p0, q0, hargs, rfl, rfl, h0, r0⟩ := trodAll_cons hA
  obtain ⟨v1, vs1, d1, ds1, p1, q1, rfl, rfl, rfl, h1, r1⟩ := trodAll_cons r0
  obtain ⟨v2, vs2, d2, ds2, p2, q2, rfl, rfl, rfl, h2, r2⟩ := trodAll_cons r1
  obtain ⟨rfl, rfl, rfl⟩ := trodAll_nil r2
  obtain rfl : args = #[v0, v1, v2] := by cases args; simp_all
  obtain ⟨rfl, rfl⟩ := trodVars_none hV
  obtain ⟨a0, k0, e0⟩ := Codec.arg1 cEnts (by kernel_rfl) (hval 0 22 v0 rfl rfl) h0
  obtain ⟨a1, k1, e1⟩ := Codec.arg1 cEnts (by kernel_rfl) (hval 1 22 v1 rfl rfl) h1
  obtain ⟨a2, k2, e2⟩ := Codec.argAgg cCh (by kernel_rfl) (hval 2 77 v2 rfl rfl) h2
  clear hA0 hval0
  refine (ASpec.run (_root_.Ph.plainHolds_spec a0 a1 a2) (tabsN (by kernel_rfl)) (vrels_cons (e0 _ rfl) (vrels_cons (e1 _ rfl) (vrels_cons (e2) vrels_nil)))).mono fun e W' ⟨he, hb⟩ => ?_
  subst he
  exact ⟨_, rfl, law_post laidOut (by kernel_rfl) rfl (by kernel_rfl) Tryz.underlying4 hW' ⟨rfl, rfl, rfl⟩ hb⟩

theorem inp : (Rows.plainHoldsRow.inPlace == Tryz.checked.prog.inPlace 7) = true := by kernel_rfl
theorem unf : (Rows.plainHoldsRow.unfollowed == Tryz.checked.prog.unfollowed 7) = true := by kernel_rfl
theorem rec : (Rows.plainHoldsRow.recurses == Tryz.checked.prog.recurses 7) = true := by kernel_rfl
theorem nam : (Rows.plainHoldsRow.named == Tryz.checked.prog.varsNamed 7) = true := by kernel_rfl
theorem nm : Tryz.checked.prog.funcNamed Rows.plainHoldsRow.func = some 7 := by kernel_rfl
theorem k0 : (Rows.plainHoldsRow.wf (OpenSpec.ofChange Rows.plainHoldsSpec)) = true := by kernel_rfl
theorem k3 : (Tryz.f7.params.all (Tryz.checked.prog.readableRec ·)) = true := by kernel_rfl
theorem k4 : (namedTie Tryz.checked.prog Rows.plainHoldsRow.named Rows.plainHoldsSpec.vars) = true := by kernel_rfl
theorem k5 : (Rows.plainHoldsRow.stops == []) = true := by kernel_rfl
theorem k7 : (Rows.plainHoldsRow.knobs == []) = true := by kernel_rfl
theorem k13 : (Rows.plainHoldsRow.maps == (Tryz.f7.params.toList ++ Rows.plainHoldsSpec.plain.varTypes Tryz.checked.prog).any (Tryz.checked.prog.mapsRec ·)) = true := by kernel_rfl
theorem k14 : (Rows.plainHoldsRow.ifaces == (Tryz.f7.params.toList ++ Rows.plainHoldsSpec.plain.varTypes Tryz.checked.prog).any (Tryz.checked.prog.ifacesRec ·)) = true := by kernel_rfl
theorem k15 : (Rows.plainHoldsRow.mapsOut == Tryz.checked.prog.mapsAmong Tryz.f7.resultTypes.toList) = true := by kernel_rfl
theorem k16 : (Rows.plainHoldsRow.loops == (Tryz.f7.params.toList ++ Rows.plainHoldsSpec.plain.varTypes Tryz.checked.prog).any (Tryz.checked.prog.loopsFrom ·)) = true := by kernel_rfl
theorem k17 : (Rows.plainHoldsRow.wideKeys == (Tryz.f7.params.toList ++ Rows.plainHoldsSpec.plain.varTypes Tryz.checked.prog ++ Tryz.f7.resultTypes.toList).any (Tryz.checked.prog.wideKeysFrom ·)) = true := by kernel_rfl
theorem k18 : (Rows.plainHoldsSpec.vars.all (Tryz.checked.prog.varReadable ·)) = true := by kernel_rfl
theorem k19 : (Tryz.f7.resultTypes.all (fun t => Tryz.checked.prog.readableRec t && decide (t < Tryz.checked.prog.types.size))) = true := by kernel_rfl
theorem k20 : (Rows.plainHoldsRow.ifacesOut == Tryz.f7.resultTypes.toList.any (Tryz.checked.prog.ifacesRec ·)) = true := by kernel_rfl
theorem k21 : (Rows.plainHoldsRow.loopsOut == Tryz.f7.resultTypes.toList.any (Tryz.checked.prog.loopsFrom ·)) = true := by kernel_rfl
theorem k23 : (Rows.plainHoldsRow.shortTexts.isNone) = true := by kernel_rfl
theorem k28 : (Rows.plainHoldsRow.kinds == (if Rows.plainHoldsRow.domain.isEmpty then [] else Tryz.f7.params.toList.map fun t => match Tryz.checked.prog.underlying t with | some (.int k) => some k | _ => none)) = true := by kernel_rfl
theorem k29 : (Rows.plainHoldsRow.pinned == Rows.plainHoldsRow.pinnedBy) = true := by kernel_rfl
theorem k30 : (Rows.plainHoldsRow.veiled == (Tryz.f7.params.toList ++ Rows.plainHoldsSpec.plain.varTypes Tryz.checked.prog ++ Tryz.f7.resultTypes.toList).any (Tryz.checked.prog.veiledRec ·)) = true := by kernel_rfl
theorem k31 : (Rows.plainHoldsRow.veiledFits Tryz.checked.prog Tryz.f7.params.toList (Tryz.f7.params.toList ++ Rows.plainHoldsSpec.plain.varTypes Tryz.checked.prog ++ Tryz.f7.resultTypes.toList)) = true := by kernel_rfl
set_option maxRecDepth 1000000 in
theorem closed : joinedFacts Tryz.checked.prog 7 Tryz.f7 Rows.plainHoldsSpec Rows.plainHoldsRow = true := by
  unfold joinedFacts
  exact (Facts.andT (Facts.andT (Facts.andT (Facts.andT (Facts.andT (Facts.andT (Facts.andT (Facts.andT (Facts.andT (Facts.andT (Facts.andT (Facts.andT (Facts.andT (Facts.andT (Facts.andT (Facts.andT (Facts.andT (Facts.andT (Facts.andT (Facts.andT (Facts.andT (Facts.andT (Facts.andT (Facts.andT (Facts.andT (Facts.andT (Facts.andT (Facts.andT (Facts.andT (Facts.andT (Facts.andT k0 Facts.laid) Facts.mapsRowed) k3) k4) k5) Facts.stops) k7) Facts.stopKnobs) inp) unf) rec) nam) k13) k14) k15) k16) k17) k18) k19) k20) k21) Facts.plain) k23) Facts.heard) Facts.may) Facts.lifted) Facts.made) k28) k29) k30) k31)
theorem over : Rows.plainHoldsRow.holds Tryz.pinned (OpenSpec.ofChange Rows.plainHoldsSpec) :=
  OpenClaim.holds_of_wide 7 Tryz.f7 rfl rfl rfl rfl rfl rfl rfl ⟨rfl, rfl, rfl, rfl, rfl⟩ rfl rfl rfl rfl rfl nm Tryz.func7 closed
    (of_decide_eq_true (by kernel_rfl)) (by unfold Func.isWrapper; first | (rw [if_pos (by decide +kernel)]; kernel_rfl) | (rw [if_neg (by decide +kernel)]; exact ⟨rfl, rfl⟩))
    (fun os started H enc _ => lifted os started H enc)

theorem proved : Rows.PlainHoldsSaid := over
#print axioms proved
end Go.Proofs.YtkmolhmdikjmpaaGreat.plainHolds
