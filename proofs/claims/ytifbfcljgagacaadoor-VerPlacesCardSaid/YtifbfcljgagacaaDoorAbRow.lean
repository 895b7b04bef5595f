/- From a function's abstract specification to its row: the beginning and the end. -/
import Derived.Test.YtifbfcljgagacaaDoorAbUse
import Derived.WalkKit
import Derived.ProofKit
import Derived.OpenShut
import Derived.Carry
set_option linter.unusedVariables false
set_option linter.unusedSimpArgs false
namespace Go.Ab
open Go.ChangeShapes Go.WideShapes Go.ChangeAt Go.RowKit

/-- nothing is owned yet: all that is there is fixed -/
def mem0 (w : World) : Mem := ⟨w.heap.size, fun _ => 0⟩

theorem rel0 (w : World) : Rel (mem0 w) (fun _ => none) [] w :=
  ⟨Nat.le_refl _, fun b h => absurd h (Nat.lt_irrefl 0), fun _ _ => rfl, fun i o h => by simp at h, fun i j oi oj li lj b h => by simp at h⟩

theorem tabs0 {P : Program} {w : World} (h : ∀ g, P.globalNamed "internal/strconv.uint64pow10" = some g → ∃ T fr, w.heap[g]? = some (.cells (pow10L.map fun z => Value.int .u64 z).toArray T fr)) : Tabs P (mem0 w) w := by
  intro g hg
  obtain ⟨T, fr, h2⟩ := h g hg
  exact ⟨cells_lt h2, T, fr, h2⟩
theorem tabsN {P : Program} {w : World} (h : P.globalNamed "internal/strconv.uint64pow10" = none) : Tabs P (mem0 w) w := fun g hg => by rw [h] at hg; cases hg

theorem below_of_step {w w' : World} {M' : Mem} {loc' : Locs} {H' : List AObj} (h : Step (mem0 w) (fun _ => none) [] w M' loc' H' w') : Below w.heap.size w w' :=
  ⟨h.os, h.tape, h.output, h.size, fun k hk => (h.keep k hk (fun ⟨i, o, l, h, _⟩ => by simp at h)).1⟩

/-- what a law's function does, from any world -/
theorem ASpec.run {P : Program} {f : FuncId} {as : List AV} {vs : Array Value} {w : World} (k : ASpec P f as [] (fun r H' => r = .bool true ∧ H' = [])) (ht : Tabs P (mem0 w) w) (hv : VRels (mem0 w) w (fun _ => none) as vs) :
    Calls P f vs w fun e w' => e = .returned (.bool true) ∧ Below w.heap.size w w' :=
  (k (mem0 w) (fun _ => none) w vs ht (rel0 w) hv).mono fun e w' ⟨v, r, H', M', loc', he, ⟨h1, h2⟩, h3, h4, h5⟩ => by
    subst h1
    cases h4
    exact ⟨he, below_of_step h5⟩

theorem vrels_nil {M : Mem} {w : World} {loc : Locs} : VRels M w loc [] #[] := ⟨rfl, fun i h => by simp at h⟩
theorem vrels_cons {M : Mem} {w : World} {loc : Locs} {a : AV} {as : List AV} {v : Value} {vs : List Value} (h : VRel M w loc a v) (k : VRels M w loc as vs.toArray) : VRels M w loc (a :: as) (v :: vs).toArray := by
  obtain ⟨k1, k2⟩ := k
  refine ⟨by simpa using k1, fun i hi => ?_⟩
  cases i with
  | zero => exact h
  | succ i => exact k2 i (by simpa using hi)

section
variable {H : Type} {enc : TypeId × Value → H} {P : Program}

theorem trodAll_stays (hl : laidOutB P = true) {W W' : World} (hb : Below W.heap.size W W') : ∀ {ts : List TypeId} {vs : List Value} {ds : List (DataW H)} {ps : List MemPlace},
    (∀ t ∈ ts, P.readableRec t = true ∧ t < P.types.size) → (∀ x ∈ ps, x.block < W.heap.size) → DataW.TrodAll enc P W 0 (fun _ => true) true ts vs ds ps → ∀ sp : Nat → Bool, (∀ p ∈ ps, sp p.block = true) → DataW.TrodAll enc P W' 0 sp true ts vs ds ps
  | [], [], [], ps, _, _, h, _, _ => h
  | t :: ts, v :: vs, d :: ds, ps, hr, hlt, h, sp, hs => by
    obtain ⟨p, q, h1, h2, rfl⟩ := h
    refine ⟨p, q, ?_, trodAll_stays hl hb (fun t ht => hr t (by simp [ht])) (fun x hx => hlt x (by simp [hx])) h2 sp (fun x hx => hs x (by simp [hx])), rfl⟩
    exact WideElems.Trod_stays hl (hr t (by simp)).1 (hr t (by simp)).2 h1 (fun x hx => hb.same (hlt x (by simp [hx]))) (fun x hx => hs x (by simp [hx]))
  | [], [], _ :: _, _, _, _, h, _, _ => h.elim
  | [], _ :: _, _, _, _, _, h, _, _ => by cases h
  | _ :: _, [], _, _, _, _, h, _, _ => by cases h
  | _ :: _, _ :: _, [], _, _, _, h, _, _ => by cases h

/-- A LAW's END: true, and nothing that was there has turned. -/
theorem law_post {bt : TypeId} {f : Func} {s : ChangeSpec} {W W' : World} {args : Array Value} {ds gs : List (DataW H)} {before : List MemPlace}
    (hl : laidOutB P = true) (hr : (f.params.toList.all fun t => P.readableRec t && decide (t < P.types.size)) = true) (hv : s.vars = []) (hb4 : f.resultTypes = #[bt]) (hbt : P.underlying bt = some .bool)
    (hW : DataW.Whole enc P f.params.toList s.vars false W args.toList ds gs before)
    (hs : (s.fn H ds).results = [.lit (.bool true)] ∧ (s.fn H ds).args = ds ∧ (s.fn H ds).vars = [])
    (hb : Below W.heap.size W W') : s.post enc P f false true false false W args (.bool true) W' := by
  have hW' := hW
  obtain ⟨p, q, hA, hV, rfl, hz, hn⟩ := hW
  rw [hv] at hV
  obtain ⟨rfl, rfl⟩ := trodVars_none hV
  have hlt : ∀ x ∈ p, x.block < W.heap.size := fun x hx => by simpa using hW'.lt x (by simp [hx])
  refine ⟨ds, [], _, [], p, [], hW', ?_, ?_, ?_, hb.frame _, fun h => by cases h⟩
  · simp only [List.append_nil]
    rw [hs.1, hb4]
    exact trodAll_cons_mk (shut_bool hbt _) trodAll_mk0
  · simp only [List.append_nil]
    rw [hs.2.1]
    refine trodAll_stays hl hb (fun t ht => ?_) hlt hA _ (fun x hx => by simpa using hlt x hx)
    have := List.all_eq_true.1 hr t ht
    simpa using this
  · simp only [List.append_nil]
    rw [hs.2.2, hv]
    rfl

end
end Go.Ab
