/- Maps told otherwise. -/
import Derived.Test.YtifbfcljgagacaaDoorAbTok
set_option linter.unusedVariables false
set_option linter.unusedSimpArgs false
namespace Go.Ab
section
variable {P : Program} {M : Mem} {w : World} {loc : Locs} {H H2 : List AObj} {n : Nat}

/-- entries with the same keys, whose values say no more -/
def MLe (a b : List (ByteArray × AV)) : Prop := ∃ hs : b.length = a.length, ∀ i (h : i < a.length), (b[i]'(by omega)).1 = a[i].1 ∧ Le a[i].2 (b[i]'(by omega)).2

theorem MLe.of_eq {a b : List (ByteArray × AV)} (h : b = a) : MLe a b := by
  subst h; exact ⟨rfl, fun i h => ⟨rfl, Le.refl _⟩⟩

theorem ORel.mle {l : Option Loc} {m m' : MM} (h : MLe m.toList m'.toList) (ho : ORel M w loc l (.mp m)) : ORel M w loc l (.mp m') := by
  obtain ⟨hs, he⟩ := h
  obtain ⟨b, ents, clock, e, h1, h2, h3, h4, h5⟩ := ho
  refine ⟨b, ents, clock, e, h1, h2, h3, by omega, fun i hi => ?_⟩
  obtain ⟨k1, k2⟩ := h5 i (by omega)
  obtain ⟨e1, e2⟩ := he i (by omega)
  exact ⟨by rw [e1]; exact k1, e2 M w loc _ k2⟩

theorem ReSt.map {s : Slots} {id : Nat} {m m' : MM} (ho : H[id]? = some (.mp m)) (h : MLe m.toList m'.toList) : ReSt n s H s (H.set id (.mp m')) := by
  intro M loc w tmps h0 h1 h3
  obtain ⟨r1, r2⟩ := h1.respell id (.mp m) (.mp m') ho (by intro h; cases h) (by intro h; cases h) (fun hO => ORel.mle h hO)
  exact ⟨M, loc, r1, h3, r2.mono h0⟩

theorem ASpec.inMap {f : FuncId} {args : List AV} {Post : AV → List AObj → Prop} (id : Nat) {m : MM} (m' : MM) (ho : H[id]? = some (.mp m)) (h : MLe m.toList m'.toList) (k : ASpec P f args (H.set id (.mp m')) Post) : ASpec P f args H Post := by
  intro M loc w vs ht hr hv
  obtain ⟨r1, r2⟩ := hr.respell id (.mp m) (.mp m') ho (by intro h; cases h) (by intro h; cases h) (fun hO => ORel.mle h hO)
  refine (k M loc w vs (ht.step hr r2) r1 hv).mono fun e w' ⟨v, r, H', M', loc', he, hP, q1, q2, q3⟩ => ⟨v, r, H', M', loc', he, hP, q1, q2, StepN.trans r2 q3 (by simp)⟩

theorem ASpec.outMap {f : FuncId} {args : List AV} {Post : AV → List AObj → Prop} (k : ASpec P f args H (fun r H' => ∃ (id : Nat) (m m' : MM), H'[id]? = some (.mp m) ∧ MLe m.toList m'.toList ∧ Post r (H'.set id (.mp m')))) : ASpec P f args H Post := by
  intro M loc w vs ht hr hv
  refine (k M loc w vs ht hr hv).mono fun e w' ⟨v, r, H', M', loc', he, ⟨id, m, m', ho, hm, hP⟩, q1, q2, q3⟩ => ?_
  obtain ⟨r1, r2⟩ := q1.respell id (.mp m) (.mp m') ho (by intro h; cases h) (by intro h; cases h) (fun hO => ORel.mle hm hO)
  exact ⟨v, r, _, M', loc', he, hP, r1, q2, StepN.trans q3 r2 (by have := q3.len; exact this)⟩

theorem mle_put {α : Type} {E : Enc α} {l : List (ByteArray × α)} {k : ByteArray} {v : AV} {a : α} (h : v = E.enc a) : MLe (MM.put (.typed E l) k v).toList (MM.typed E (setM l k a)).toList := by
  subst h
  exact MLe.of_eq (by simp only [MM.toList]; rw [setM_map])
theorem mle_nil {α : Type} {E : Enc α} : MLe MM.nil.toList (MM.typed E []).toList := MLe.of_eq rfl

end
end Go.Ab
