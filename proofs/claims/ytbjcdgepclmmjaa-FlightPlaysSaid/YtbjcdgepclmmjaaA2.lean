/- A2: several of this proof's own texts, one behind the other: what each proves stands at its head. -/
import Derived.Test.YtbjcdgepclmmjaaA1
import Derived.WalkKit
import Derived.ProofKit
import Derived.OpenShut
import Derived.Carry
import Derived.Sort.Grow
section
/- A contract of the library's, as a specification. -/

set_option linter.unusedVariables false
set_option linter.unusedSimpArgs false
namespace Go.Ab
section
variable {P : Program} {M : Mem} {w w' : World} {loc : Locs} {H : List AObj}

/-- what is called with values of one kind, and hands back one that stands to r0 -/
theorem ASpec.of_calls {f : FuncId} {args : List AV} {r0 : AV} (h : ∀ M loc w vs, Tabs P M w → VRels M w loc args vs → Calls P f vs w fun e w' => ∃ v, e = .returned v ∧ VRel M w' loc r0 v ∧ Grown w w') :
    ASpec P f args H (fun r H' => r = r0 ∧ H' = H) := by
  intro M loc w vs ht hr hv
  refine (h M loc w vs ht hv).mono fun e w' ⟨v, he, hvr, hg⟩ => ?_
  obtain ⟨r1, r2⟩ := hr.grown hg
  exact ⟨v, r0, H, M, loc, he, ⟨rfl, rfl⟩, r1, hvr, r2⟩

end
end Go.Ab
end

section
/- From a function's abstract specification to its row: the beginning and the end. -/

set_option linter.unusedVariables false
set_option linter.unusedSimpArgs false
namespace Go.Ab
open Go.ChangeShapes Go.WideShapes Go.ChangeAt Go.RowKit

/-- nothing is owned yet: all that is there is fixed -/
def mem0 (w : World) : Mem := ⟨w.heap.size, fun _ => 0⟩

theorem rel0 (w : World) : Rel (mem0 w) (fun _ => none) [] w :=
  ⟨Nat.le_refl _, fun b h => absurd h (Nat.lt_irrefl 0), fun _ _ => rfl, fun i o h => by simp at h, fun i j oi oj li lj b h => by simp at h⟩

theorem tabs0 {P : Program} {w : World} (h : ∀ g, P.globalNamed "internal/strconv.uint64pow10" = some g → ∃ T fr, w.heap[g]? = some (.cells (pow10L.map fun z => Value.int .u64 z).toArray T fr)) : Tabs P (mem0 w) w := by
  intro g hg
  obtain ⟨T, fr, h2⟩ := h g hg
  exact ⟨cells_lt h2, T, fr, h2⟩
theorem tabsN {P : Program} {w : World} (h : P.globalNamed "internal/strconv.uint64pow10" = none) : Tabs P (mem0 w) w := fun g hg => by rw [h] at hg; cases hg

theorem below_of_step {w w' : World} {M' : Mem} {loc' : Locs} {H' : List AObj} (h : Step (mem0 w) (fun _ => none) [] w M' loc' H' w') : Below w.heap.size w w' :=
  ⟨h.os, h.tape, h.output, h.size, fun k hk => (h.keep k hk (fun ⟨i, o, l, h, _⟩ => by simp at h)).1⟩

/-- what a law's function does, from any world -/
theorem ASpec.run {P : Program} {f : FuncId} {as : List AV} {vs : Array Value} {w : World} (k : ASpec P f as [] (fun r H' => r = .bool true ∧ H' = [])) (ht : Tabs P (mem0 w) w) (hv : VRels (mem0 w) w (fun _ => none) as vs) :
    Calls P f vs w fun e w' => e = .returned (.bool true) ∧ Below w.heap.size w w' :=
  (k (mem0 w) (fun _ => none) w vs ht (rel0 w) hv).mono fun e w' ⟨v, r, H', M', loc', he, ⟨h1, h2⟩, h3, h4, h5⟩ => by
    subst h1
    cases h4
    exact ⟨he, below_of_step h5⟩

theorem vrels_nil {M : Mem} {w : World} {loc : Locs} : VRels M w loc [] #[] := ⟨rfl, fun i h => by simp at h⟩
theorem vrels_cons {M : Mem} {w : World} {loc : Locs} {a : AV} {as : List AV} {v : Value} {vs : List Value} (h : VRel M w loc a v) (k : VRels M w loc as vs.toArray) : VRels M w loc (a :: as) (v :: vs).toArray := by
  obtain ⟨k1, k2⟩ := k
  refine ⟨by simpa using k1, fun i hi => ?_⟩
  cases i with
  | zero => exact h
  | succ i => exact k2 i (by simpa using hi)

section
variable {H : Type} {enc : TypeId × Value → H} {P : Program}

theorem trodAll_stays (hl : laidOutB P = true) {W W' : World} (hb : Below W.heap.size W W') : ∀ {ts : List TypeId} {vs : List Value} {ds : List (DataW H)} {ps : List MemPlace},
    (∀ t ∈ ts, P.readableRec t = true ∧ t < P.types.size) → (∀ x ∈ ps, x.block < W.heap.size) → DataW.TrodAll enc P W 0 (fun _ => true) true ts vs ds ps → ∀ sp : Nat → Bool, (∀ p ∈ ps, sp p.block = true) → DataW.TrodAll enc P W' 0 sp true ts vs ds ps
  | [], [], [], ps, _, _, h, _, _ => h
  | t :: ts, v :: vs, d :: ds, ps, hr, hlt, h, sp, hs => by
    obtain ⟨p, q, h1, h2, rfl⟩ := h
    refine ⟨p, q, ?_, trodAll_stays hl hb (fun t ht => hr t (by simp [ht])) (fun x hx => hlt x (by simp [hx])) h2 sp (fun x hx => hs x (by simp [hx])), rfl⟩
    exact WideElems.Trod_stays hl (hr t (by simp)).1 (hr t (by simp)).2 h1 (fun x hx => hb.same (hlt x (by simp [hx]))) (fun x hx => hs x (by simp [hx]))
  | [], [], _ :: _, _, _, _, h, _, _ => h.elim
  | [], _ :: _, _, _, _, _, h, _, _ => by cases h
  | _ :: _, [], _, _, _, _, h, _, _ => by cases h
  | _ :: _, _ :: _, [], _, _, _, h, _, _ => by cases h

/-- A LAW's END: true, and nothing that was there has turned. -/
theorem law_post {bt : TypeId} {f : Func} {s : ChangeSpec} {W W' : World} {args : Array Value} {ds gs : List (DataW H)} {before : List MemPlace}
    (hl : laidOutB P = true) (hr : (f.params.toList.all fun t => P.readableRec t && decide (t < P.types.size)) = true) (hv : s.vars = []) (hb4 : f.resultTypes = #[bt]) (hbt : P.underlying bt = some .bool)
    (hW : DataW.Whole enc P f.params.toList s.vars false W args.toList ds gs before)
    (hs : (s.fn H ds).results = [.lit (.bool true)] ∧ (s.fn H ds).args = ds ∧ (s.fn H ds).vars = [])
    (hb : Below W.heap.size W W') : s.post enc P f false true false false W args (.bool true) W' := by
  have hW' := hW
  obtain ⟨p, q, hA, hV, rfl, hz, hn⟩ := hW
  rw [hv] at hV
  obtain ⟨rfl, rfl⟩ := trodVars_none hV
  have hlt : ∀ x ∈ p, x.block < W.heap.size := fun x hx => by simpa using hW'.lt x (by simp [hx])
  refine ⟨ds, [], _, [], p, [], hW', ?_, ?_, ?_, hb.frame _, fun h => by cases h⟩
  · simp only [List.append_nil]
    rw [hs.1, hb4]
    exact trodAll_cons_mk (shut_bool hbt _) trodAll_mk0
  · simp only [List.append_nil]
    rw [hs.2.1]
    refine trodAll_stays hl hb (fun t ht => ?_) hlt hA _ (fun x hx => by simpa using hlt x hx)
    have := List.all_eq_true.1 hr t ht
    simpa using this
  · simp only [List.append_nil]
    rw [hs.2.2, hv]
    rfl

end
end Go.Ab
end

section
/- Arguments: what is read of them stands to abstract values. -/

set_option linter.unusedVariables false
set_option linter.unusedSimpArgs false
namespace Go.Ab
open Go.ChangeShapes Go.WideShapes

/-- cells that stand to abstract cells -/
def VL (w : World) : List AV → List Value → Prop
  | [], [] => True
  | a :: l, v :: r => VRel (mem0 w) w (fun _ => none) a v ∧ VL w l r
  | _, _ => False

theorem VL.len {w : World} : ∀ {l : List AV} {r : List Value}, VL w l r → l.length = r.length
  | [], [], _ => rfl
  | a :: l, v :: r, h => by simp [VL.len h.2]
  | [], _ :: _, h => h.elim
  | _ :: _, [], h => h.elim

theorem VL.get {w : World} : ∀ {l : List AV} {r : List Value}, VL w l r → ∀ i (h : i < l.length) (h' : i < r.length), VRel (mem0 w) w (fun _ => none) l[i] r[i]
  | a :: l, v :: r, h, 0, _, _ => h.1
  | a :: l, v :: r, h, i + 1, h1, h2 => VL.get h.2 i (by simpa using h1) (by simpa using h2)
  | [], _, _, i, h, _ => by simp at h
  | _ :: _, [], h, _, _, _ => h.elim

theorem VL.app {w : World} : ∀ {l l2 : List AV} {r r2 : List Value}, VL w l r → VL w l2 r2 → VL w (l ++ l2) (r ++ r2)
  | [], _, [], _, _, h => h
  | a :: l, _, v :: r, _, h, k => ⟨h.1, VL.app h.2 k⟩
  | [], _, _ :: _, _, h, _ => h.elim
  | _ :: _, _, [], _, h, _ => h.elim

/-- how values of a type are read -/
structure Codec (P : Program) (t : TypeId) (α : Type) where
  enc : α → List AV
  ok : α → Prop
  dflt : α
  opens : ∀ {H : Type} (e : TypeId × Value → H) (w : World) (fuel : Nat) (cs : List Value) (x : DataW H × List MemPlace),
    DataW.trod e P w 0 (fun _ => true) true fuel t cs = some x → ∃ a, ok a ∧ VL w (enc a) cs

section
variable {P : Program}

def Codec.int {t : TypeId} (k : IntKind) (ht : P.underlying t = some (.int k)) : Codec P t Int where
  enc n := [.int k n]
  ok n := (Lit.int k n).wf = true
  dflt := 0
  opens := by
    intro H e w fuel cs x h
    cases fuel with
    | zero => simp [DataW.trod] at h
    | succ f =>
      simp only [DataW.trod, ht] at h
      split at h <;> simp_all
      rename_i k' n hk
      obtain ⟨⟨rfl, h1⟩, h2⟩ := h
      exact ⟨n, h1, .int _ _, trivial⟩

def Codec.bool {t : TypeId} (ht : P.underlying t = some .bool) : Codec P t Bool where
  enc b := [.bool b]
  ok _ := True
  dflt := false
  opens := by
    intro H e w fuel cs x h
    cases fuel with
    | zero => simp [DataW.trod] at h
    | succ f =>
      simp only [DataW.trod, ht] at h
      split at h
      case h_1 _ b _ => exact ⟨b, trivial, .bool _, trivial⟩
      all_goals simp_all

def Codec.str {t : TypeId} (ht : P.underlying t = some .string) : Codec P t ByteArray where
  enc s := [.str s]
  ok s := s.size ≤ maxLen
  dflt := ByteArray.empty
  opens := by
    intro H e w fuel cs x h
    cases fuel with
    | zero => simp [DataW.trod] at h
    | succ f =>
      simp only [DataW.trod, ht] at h
      split at h <;> simp_all
      rename_i s
      exact ⟨s, h.1, .str _, trivial⟩

theorem mapM_some {α β : Type} (f : α → Option β) : ∀ (l : List α) (r : List β), l.mapM f = some r → r.length = l.length ∧ ∀ i (h : i < l.length) (h' : i < r.length), f l[i] = some r[i]
  | [], r, h => by
    simp at h; subst h; simp
  | a :: l, r, h => by
    rw [List.mapM_cons] at h
    cases ha : f a with
    | none => simp [ha] at h
    | some b =>
      cases hl : l.mapM f with
      | none => simp [ha, hl] at h
      | some q =>
        simp [ha, hl] at h
        subst h
        obtain ⟨h1, h2⟩ := mapM_some f l q hl
        refine ⟨by simp [h1], fun i hi hi' => ?_⟩
        cases i with
        | zero => exact ha
        | succ i => exact h2 i (by simpa using hi) (by simpa using hi')

/-- a choice, element by element -/
theorem choose_list {α : Type} (n : Nat) (R : Nat → α → Prop) (h : ∀ i, i < n → ∃ a, R i a) : ∃ l : List α, l.length = n ∧ ∀ i (hi : i < l.length), R i l[i] := by
  induction n with
  | zero => exact ⟨[], rfl, fun i hi => by simp at hi⟩
  | succ n ih =>
    obtain ⟨l, h1, h2⟩ := ih (fun i hi => h i (by omega))
    obtain ⟨a, ha⟩ := h n (by omega)
    refine ⟨l ++ [a], by simp [h1], fun i hi => ?_⟩
    by_cases hl : i < l.length
    · rw [List.getElem_append_left hl]; exact h2 i hl
    · have e : i = n := by simp at hi; omega
      subst e
      rw [List.getElem_append_right (by omega)]
      simpa using ha

theorem cells_get {w : World} {a : Addr} {n : Nat} {cs : List Value} (h : w.cells? 0 a n = some cs) : cs.length = n ∧ ∀ i (hi : i < cs.length), w.cell? (a.add i) = some cs[i] := by
  unfold World.cells? at h
  rw [if_pos (Nat.zero_le _)] at h
  obtain ⟨h1, h2⟩ := mapM_some _ _ _ h
  refine ⟨by simpa using h1, fun i hi => ?_⟩
  have := h2 i (by rw [← h1]; exact hi) hi
  simpa using this

theorem add_cell {a : Addr} (h : a.spot = none) (n : Nat) : a.add n = ⟨a.block, a.off + n, none⟩ := by
  obtain ⟨b, o, s⟩ := a
  simp only at h; subst h
  unfold Addr.add
  split
  · simp_all
  · rfl

theorem cell_in {w : World} {b k : Nat} {v : Value} (h : w.cell? ⟨b, k, none⟩ = some v) : b < w.heap.size := by
  unfold World.cell? at h
  split at h
  · rename_i hb; exact (Array.getElem?_eq_some_iff.1 hb).1
  · cases h

/-- slices, of elements that have cells -/
def Codec.slice {t e : TypeId} {α : Type} {sz : Nat} (c : Codec P e α) (ht : P.underlying t = some (.slice e)) (hsz : P.cellsOf e = sz) (h1 : 1 ≤ sz) (hlen : ∀ a, (c.enc a).length = sz) : Codec P t (List α) where
  enc l := [.sl sz (.map c.enc c.dflt l) .none]
  ok l := l.length ≤ maxLen ∧ ∀ a ∈ l, c.ok a
  dflt := []
  opens := by
    intro H en w fuel cs x h
    cases fuel with
    | zero => simp [DataW.trod] at h
    | succ f =>
      simp only [DataW.trod, ht] at h
      split at h
      all_goals first | (simp_all; done) | skip
      · exact ⟨[], ⟨by simp, fun a ha => by simp at ha⟩, .slnil _ _ _ rfl (fun id h => by cases h), trivial⟩
      · rename_i e' a len cap heq
        cases heq
        split at h
        case isFalse => cases h
        rename_i hcond
        obtain ⟨_, hlc, hcm⟩ := hcond
        cases hel : (List.range len).mapM (fun i => (w.cells? 0 (a.add (i * P.cellsOf e)) (P.cellsOf e)).bind (DataW.trod en P w 0 (fun _ => true) true f e)) with
        | none => simp [hel] at h
        | some elems =>
        simp only [hel, Option.bind_some, if_true] at h
        cases hre : (List.range (cap - len)).mapM (fun j => (w.cells? 0 (a.add ((len + j) * P.cellsOf e)) (P.cellsOf e)).bind (DataW.trod en P w 0 (fun _ => true) true f e)) with
        | none => simp [hre] at h
        | some rest =>
        rw [hsz] at hel hre
        obtain ⟨l1, g1⟩ := mapM_some _ _ _ hel
        obtain ⟨l2, g2⟩ := mapM_some _ _ _ hre
        simp only [List.length_range] at l1 l2
        have hone : ∀ i, i < cap → ∃ y, (w.cells? 0 (a.add (i * sz)) sz).bind (DataW.trod en P w 0 (fun _ => true) true f e) = some y := by
          intro i hi
          by_cases hl : i < len
          · have := g1 i (by simpa using hl) (by omega)
            simp only [List.getElem_range] at this
            exact ⟨_, this⟩
          · have := g2 (i - len) (by simp; omega) (by omega)
            simp only [List.getElem_range] at this
            rw [show len + (i - len) = i by omega] at this
            exact ⟨_, this⟩
        rcases Nat.eq_zero_or_pos cap with hc | hc
        · have : len = 0 := by omega
          subst hc; subst this
          exact ⟨[], ⟨by simp, fun a ha => by simp at ha⟩, .slz _ _ _ a rfl (by intro h; cases h) (fun id h => by cases h), trivial⟩
        · have hspot : a.spot = none := by
            obtain ⟨y, hy⟩ := hone 0 hc
            cases hq : w.cells? 0 (a.add (0 * sz)) sz with
            | none => rw [hq] at hy; cases hy
            | some q =>
              obtain ⟨k1, k2⟩ := cells_get hq
              have := k2 0 (by omega)
              rw [Nat.zero_mul] at this
              have e0 : (a.add 0).add 0 = a := by simp [Addr.add]
              rw [e0] at this
              unfold World.cell? at this
              split at this
              · split at this
                · cases this
                · rename_i hs; simpa using hs
              · cases this
          have hR : ∀ i, i < len → ∃ b : α, c.ok b ∧ ∃ q, w.cells? 0 (a.add (i * sz)) sz = some q ∧ VL w (c.enc b) q := by
            intro i hi
            obtain ⟨y, hy⟩ := hone i (by omega)
            cases hq : w.cells? 0 (a.add (i * sz)) sz with
            | none => simp [hq] at hy
            | some q =>
              simp only [hq, Option.bind_some] at hy
              obtain ⟨b, hb1, hb2⟩ := c.opens en w f q y hy
              exact ⟨b, hb1, q, rfl, hb2⟩
          obtain ⟨l, hl1, hl2⟩ := choose_list len _ hR
          refine ⟨l, ⟨by omega, fun b hb => ?_⟩, ?_, trivial⟩
          · obtain ⟨i, hi, rfl⟩ := List.getElem_of_mem hb
            exact (hl2 i hi).1
          · obtain ⟨b, o, s⟩ := a
            simp only at hspot; subst hspot
            have hlen2 : (Seq.map c.enc c.dflt l).toList.length = len := by simp [Seq.toList, hl1]
            have hg := VRel.sl (M := mem0 w) (w := w) (loc := fun _ => none) sz (.map c.enc c.dflt l) .none b o cap (fun i j => (w.cell? ⟨b, o + i * sz + j, none⟩).getD undef)
              (fun i hi => by simp only [Seq.toList, List.getElem_map]; exact hlen _)
              (fun i j hi hj => by
                obtain ⟨_, q, hq, _⟩ := hl2 i (by omega)
                obtain ⟨k1, k2⟩ := cells_get hq
                have := k2 j (by omega)
                rw [add_cell (a := ⟨b, o, none⟩) rfl, add_cell (a := ⟨b, o + i * sz, none⟩) rfl] at this
                refine ⟨by simp [this], .inl (cell_in this)⟩)
              (fun i j hi hj => by
                simp only [Seq.toList, List.getElem_map] at hj ⊢
                obtain ⟨_, q, hq, hv⟩ := hl2 i (by omega)
                obtain ⟨k1, k2⟩ := cells_get hq
                have hjs : j < sz := by rw [hlen] at hj; exact hj
                have := k2 j (by omega)
                rw [add_cell (a := ⟨b, o, none⟩) rfl, add_cell (a := ⟨b, o + i * sz, none⟩) rfl] at this
                simp only [this, Option.getD_some]
                exact hv.get j hj (by omega))
              (by omega) (by intro h; cases h) (fun h => by cases h) (fun id h => by cases h)
            rw [hlen2] at hg
            exact hg

/-- another way to name a codec's values -/
def Codec.iso {t : TypeId} {α β : Type} (c : Codec P t α) (f : α → β) (enc : β → List AV) (ok : β → Prop) (h : ∀ a, c.enc a = enc (f a)) (hok : ∀ a, c.ok a → ok (f a)) : Codec P t β where
  enc := enc
  ok := ok
  dflt := f c.dflt
  opens := by
    intro H e w fuel cs x hx
    obtain ⟨a, h1, h2⟩ := c.opens e w fuel cs x hx
    exact ⟨f a, hok a h1, by rw [← h]; exact h2⟩

/-- fields, one behind the other -/
structure FC (P : Program) (fs : List Field) (o n : Nat) (α : Type) where
  enc : α → List AV
  ok : α → Prop
  dflt : α
  opens : ∀ {H : Type} (e : TypeId × Value → H) (w : World) (fuel : Nat) (cs : List Value) (xs : List (DataW H × List MemPlace)),
    (fs.mapM fun f => DataW.trod e P w 0 (fun _ => true) true fuel f.type ((cs.drop f.offset).take (P.cellsOf f.type))) = some xs → ∃ a, ok a ∧ VL w (enc a) ((cs.drop o).take n)

def FC.nil {o : Nat} : FC P [] o 0 Unit where
  enc _ := []
  ok _ := True
  dflt := ()
  opens := by
    intro H e w fuel cs xs h
    exact ⟨(), trivial, by rw [List.take_zero]; trivial⟩

def FC.cons {f : Field} {fs : List Field} {o k n : Nat} {α β : Type} (c : Codec P f.type α) (ho : f.offset = o) (hk : P.cellsOf f.type = k) (r : FC P fs (o + k) n β) : FC P (f :: fs) o (k + n) (α × β) where
  enc x := c.enc x.1 ++ r.enc x.2
  ok x := c.ok x.1 ∧ r.ok x.2
  dflt := (c.dflt, r.dflt)
  opens := by
    intro H e w fuel cs xs h
    rw [List.mapM_cons] at h
    cases h1 : DataW.trod e P w 0 (fun _ => true) true fuel f.type ((cs.drop f.offset).take (P.cellsOf f.type)) with
    | none => simp [h1] at h
    | some y =>
      cases h2 : (fs.mapM fun f => DataW.trod e P w 0 (fun _ => true) true fuel f.type ((cs.drop f.offset).take (P.cellsOf f.type))) with
      | none => simp [h1, h2] at h
      | some ys =>
        rw [ho, hk] at h1
        obtain ⟨a, a1, a2⟩ := c.opens e w fuel _ _ h1
        obtain ⟨b, b1, b2⟩ := r.opens e w fuel cs _ h2
        refine ⟨(a, b), ⟨a1, b1⟩, ?_⟩
        have e3 : (cs.drop o).take (k + n) = (cs.drop o).take k ++ (cs.drop (o + k)).take n := by
          rw [List.take_add, List.drop_drop]
        rw [e3]
        exact VL.app a2 b2

def Codec.struct {t : TypeId} {fs : Array Field} {n : Nat} {α : Type} (ht : P.underlying t = some (.struct fs)) (c : FC P fs.toList 0 n α) (hn : P.cellsOf t = n) : Codec P t α where
  enc := c.enc
  ok := c.ok
  dflt := c.dflt
  opens := by
    intro H e w fuel cs x h
    cases fuel with
    | zero => simp [DataW.trod] at h
    | succ f =>
      simp only [DataW.trod, ht] at h
      split at h
      case isFalse => cases h
      rename_i hl
      cases hm : (fs.toList.mapM fun g => DataW.trod e P w 0 (fun _ => true) true f g.type ((cs.drop g.offset).take (P.cellsOf g.type))) with
      | none => simp [hm] at h
      | some xs =>
        obtain ⟨a, h1, h2⟩ := c.opens e w f cs xs hm
        refine ⟨a, h1, ?_⟩
        rw [List.drop_zero, List.take_of_length_le (by omega)] at h2
        exact h2

def plainT (P : Program) (t : TypeId) : Bool := match P.underlying t with | some (.struct _) | some (.array _ _) | none => false | _ => true

theorem no_agg {t : TypeId} (ht : plainT P t = true) {W : World} {r : Reach} {b : Nat} {cs : Array Value} (h : Value.okWide P W r b t (.agg cs)) : False := by
  unfold plainT at ht
  unfold Value.okWide at h
  split at h
  · rename_i hu; rw [hu] at ht; cases ht
  · rename_i hu; rw [hu] at ht; cases ht
  · unfold Cell.okWide at h
    split at h <;> first | contradiction | skip
    all_goals (unfold Cell.ok at h; split at h <;> simp_all)

/-- an argument of one cell -/
theorem Codec.arg1 {t : TypeId} {α : Type} (c : Codec P t α) (ht : plainT P t = true) {H : Type} {en : TypeId × Value → H} {W : World} {r : Reach} {b : Nat} {v : Value} {d : DataW H} {ps : List MemPlace}
    (hval : Value.okWide P W r b t v) (h : DataW.Trod en P W 0 (fun _ => true) true t v d ps) : ∃ a, c.ok a ∧ ∀ av, c.enc a = [av] → VRel (mem0 W) W (fun _ => none) av v := by
  obtain ⟨f, hf⟩ := h
  obtain ⟨a, h1, h2⟩ := c.opens en W f _ _ hf
  refine ⟨a, h1, fun av he => ?_⟩
  have hc : v.cells.toList = [v] := by
    cases v <;> first | rfl | exact (no_agg ht hval).elim
  rw [he, hc] at h2
  exact h2.1

def structT (P : Program) (t : TypeId) : Bool := match P.underlying t with | some (.struct _) => true | _ => false

theorem is_agg {t : TypeId} (ht : structT P t = true) {W : World} {r : Reach} {b : Nat} {v : Value} (h : Value.okWide P W r b t v) : ∃ cs, v = .agg cs := by
  unfold structT at ht
  split at ht
  case h_2 => cases ht
  case h_1 fs hu =>
  unfold Value.okWide at h
  simp only [hu] at h
  obtain ⟨cs, e, _⟩ := h
  exact ⟨cs, e⟩

/-- an argument of many cells -/
theorem Codec.argAgg {t : TypeId} {α : Type} (c : Codec P t α) (ht : structT P t = true) {H : Type} {en : TypeId × Value → H} {W : World} {r : Reach} {b : Nat} {v : Value} {d : DataW H} {ps : List MemPlace}
    (hval : Value.okWide P W r b t v) (h : DataW.Trod en P W 0 (fun _ => true) true t v d ps) : ∃ a, c.ok a ∧ VRel (mem0 W) W (fun _ => none) (.agg (c.enc a)) v := by
  obtain ⟨f, hf⟩ := h
  obtain ⟨a, h1, h2⟩ := c.opens en W f _ _ hf
  obtain ⟨cs, rfl⟩ := is_agg ht hval
  have hc : (Value.agg cs).cells.toList = cs.toList := rfl
  rw [hc] at h2
  have hl := h2.len
  refine ⟨a, h1, .agg _ _ (by simp [hl]) (fun i hi => ?_)⟩
  have := h2.get i hi (by simpa [hl] using hi)
  simpa using this

end
end Go.Ab
end

section
/- A row that may be written becomes a slice that may be appended to. -/

set_option linter.unusedVariables false
set_option linter.unusedSimpArgs false
namespace Go.Ab
section
variable {P : Program} {n : Nat} {H : List AObj}

theorem ReSt.tokArr {s s2 : Slots} {id sz k len : Nat} {q q' : Seq} (ho : H[id]? = some (.arr sz q)) (hn : n ≤ H.length) (hk : get s k = .msl sz id 0 len) (hlen : len ≤ q.toList.length)
    (hk2 : get s2 k = .sl sz q' (.tok H.length)) (hq : q'.toList = q.toList.take len) (h2 : ∀ d, d ≠ k → get s2 d = get s d ∨ get s2 d = .bad) :
    ReSt n s H s2 (H.set id .gone ++ [.tok]) := by
  intro M loc w tmps h0 h1 h3
  obtain ⟨b, vs, T, fr, hl, c1, c2, c3, c4, c5, c6, c7⟩ := h1.objs id _ ho
  have hng : (AObj.arr sz q = AObj.gone → False) := by intro h; cases h
  obtain ⟨r1, r2⟩ := h1.drop id
  have hlid : id < H.length := (List.getElem?_eq_some_iff.1 ho).1
  have hnb : ∀ i o x, (H.set id AObj.gone)[i]? = some o → (o = .gone → False) → loc i = some x → x.block? ≠ some b := by
    intro i o x hi hg hx hb
    have hi' : i ≠ id ∧ H[i]? = some o := by
      rw [List.getElem?_set] at hi
      split at hi
      · cases hi; exact (hg rfl).elim
      · rename_i e; exact ⟨fun x => e x.symm, hi⟩
    exact hi'.1 (h1.inj i id o _ x _ b hi'.2 ho hg hng hx hl hb rfl)
  have hmulq : len * sz ≤ q.toList.length * sz := Nat.mul_le_mul_right sz hlen
  have hlow : ∀ i, i < H.length → locSet loc H.length (.tok b (len * sz)) i = loc i := fun i hi => by simp only [locSet]; rw [if_neg (Nat.ne_of_lt hi)]
  have hnew : locSet loc H.length (.tok b (len * sz)) H.length = some (.tok b (len * sz)) := by simp [locSet]
  have hk1 : Keeps M w loc (M.grow b (len * sz)) w (locSet loc H.length (.tok b (len * sz))) := by
    refine ⟨fun c k v hi => ⟨hi.1, ?_⟩, fun _ cs _ fr h => ⟨cs, fr, h, rfl⟩, fun j x hx => by rw [hlow j (h1.lt hx)]; exact hx⟩
    by_cases e : c = b
    · subst e; rcases hi.2 with z | z <;> omega
    · simp only [Mem.grow]; rw [if_neg e]; exact hi.2
  have hget : ∀ (i : Nat) (o : AObj), (H.set id .gone ++ [AObj.tok])[i]? = some o → (i < H.length ∧ (H.set id .gone)[i]? = some o) ∨ (i = H.length ∧ o = .tok) := by
    intro i o hi
    by_cases h : i < H.length
    · rw [List.getElem?_append_left (by simpa using h)] at hi
      exact .inl ⟨h, hi⟩
    · rw [List.getElem?_append_right (by simpa using h)] at hi
      have hz : i - (H.set id AObj.gone).length = 0 := by
        rcases Nat.eq_zero_or_pos (i - (H.set id AObj.gone).length) with z | z
        · exact z
        · rw [List.getElem?_eq_none (by simp only [List.length_singleton]; omega)] at hi; cases hi
      rw [hz] at hi
      cases hi
      simp only [List.length_set] at hz
      exact .inr ⟨by omega, rfl⟩
  have hmul : ∀ i, i < len → i * sz + sz ≤ len * sz := by
    intro i hi
    have := Nat.mul_le_mul_right sz (show i + 1 ≤ len from hi)
    rwa [Nat.succ_mul] at this
  have hqlen : q'.toList.length = len := by rw [hq]; simp; omega
  have hqget : ∀ i (hi : i < q'.toList.length), ∃ hi' : i < q.toList.length, q'.toList[i] = q.toList[i] := by
    intro i hi
    have hi2 : i < q.toList.length := by omega
    refine ⟨hi2, ?_⟩
    have e5 : q'.toList[i]? = some q.toList[i] := by
      rw [hq, List.getElem?_take, if_pos (by omega), List.getElem?_eq_getElem hi2]
    rw [List.getElem?_eq_getElem hi] at e5
    exact Option.some.inj e5
  refine ⟨M.grow b (len * sz), locSet loc H.length (.tok b (len * sz)), ⟨r1.base, ?_, fun i hi => ?_, ?_, ?_⟩, fun d => ?_,
    ⟨rfl, Nat.le_refl _, rfl, rfl, rfl, ?_, hk1.imm, hk1.shape, ?_, fun i hi => hlow i (by omega), by simp; omega⟩⟩
  · intro c hc
    simp only [Mem.grow] at hc ⊢
    by_cases e : c = b
    · subst e; rw [if_pos rfl]; exact ⟨c1, vs, T, fr, c3, by omega⟩
    · rw [if_neg e] at hc ⊢; exact r1.ext c hc
  · have hi' : H.length + 1 ≤ i := by simpa using hi
    simp only [locSet]; rw [if_neg (by omega)]; exact h1.dom i (by omega)
  · intro i o hi
    rcases hget i o hi with ⟨hlt, hi⟩ | ⟨rfl, rfl⟩
    · by_cases hg : o = .gone
      · subst hg; trivial
      · rw [hlow i hlt]
        refine (r1.objs i o hi).keeps_far hk1 rfl (fun c hc => ⟨rfl, ?_⟩)
        simp only [Mem.grow]
        rw [if_neg]
        rintro rfl
        cases hx : loc i with
        | none => rw [hx] at hc; cases hc
        | some x => rw [hx] at hc; exact hnb i o x hi hg hx hc
    · rw [hnew]
      exact .inr ⟨b, len * sz, vs, T, fr, rfl, c1, by simp [Mem.grow], c3, c4.1⟩
  · intro i j oi oj li lj c hi hj gi gj hli hlj bi bj
    rcases hget i oi hi with ⟨h4, hi⟩ | ⟨e1, e2⟩
    · rw [hlow i h4] at hli
      rcases hget j oj hj with ⟨k4, hj⟩ | ⟨f1, f2⟩
      · rw [hlow j k4] at hlj
        exact r1.inj i j oi oj li lj c hi hj gi gj hli hlj bi bj
      · subst f1 f2
        rw [hnew] at hlj; cases hlj; cases bj
        exact (hnb i oi li hi gi hli bi).elim
    · subst e1 e2
      rw [hnew] at hli; cases hli; cases bi
      rcases hget j oj hj with ⟨k4, hj⟩ | ⟨f1, f2⟩
      · rw [hlow j k4] at hlj
        exact (hnb j oj lj hj gj hlj bj).elim
      · rw [f1]
  · by_cases e : d = k
    · subst e
      rw [hk2]
      have hv := h3 d
      rw [hk] at hv
      generalize tmps.getD d undef = v at hv
      cases hv with
      | msl _ _ _ _ b' cap hb' hle hc =>
      rw [hl] at hb'
      cases hb'
      obtain ⟨cs2, T2, fr2, e2, hc2⟩ := hc
      rw [c3] at e2; cases e2
      have hg := VRel.sl (M := M.grow b (len * sz)) (w := w) (loc := locSet loc H.length (.tok b (len * sz))) sz q' (.tok H.length) b (0 * sz) cap (fun i j => vs.getD (i * sz + j) undef)
        (fun i hi => by obtain ⟨hi', e⟩ := hqget i hi; rw [e]; exact c6 _ hi')
        (fun i j hi hj => by
          have := hmul i (by omega)
          refine ⟨?_, .inr ?_⟩
          · rw [Nat.zero_mul, Nat.zero_add, cell_eq c3, Array.getElem?_eq_getElem (by omega)]
            simp [Array.getD, show i * sz + j < vs.size by omega]
          · simp only [Mem.grow, if_true]; rw [Nat.zero_mul, Nat.zero_add]; omega)
        (fun i j hi hj => by
          obtain ⟨hi', e⟩ := hqget i hi
          obtain ⟨v, hv1, hv2⟩ := c7 i j hi' (by rw [← e]; exact hj)
          simp only [e]
          rw [Array.getD_eq_getD_getElem?, hv1]
          exact hv2.keeps hk1)
        (by rw [hqlen]; exact hle) (by intro h; cases h) (fun h => by cases h)
        (fun id' h => by
          cases h
          right
          rw [hqlen]
          refine ⟨by rw [hnew, Nat.zero_mul, Nat.zero_add], vs, T, fr, c3, ?_⟩
          rw [Nat.zero_mul, Nat.zero_add]
          rw [Nat.zero_add] at hc2; omega)
      rw [hqlen] at hg
      exact hg
    · rcases h2 d e with e | e
      · rw [e]; exact (h3 d).keeps hk1
      · rw [e]; exact .bad _
  · intro c hc hno
    refine ⟨rfl, ?_⟩
    simp only [Mem.grow]
    rw [if_neg]
    rintro rfl
    exact hno ⟨id, _, _, ho, hng, hl, rfl⟩
  · intro c hc ⟨i, o, x, hi, hgq, hx, hb⟩
    rcases hget i o hi with ⟨h4, hi⟩ | ⟨e1, e2⟩
    · rw [hlow i h4] at hx
      exact r2.own c hc ⟨i, o, x, hi, hgq, hx, hb⟩
    · subst e1 e2; rw [hnew] at hx; cases hx; cases hb
      exact ⟨id, _, _, ho, hng, hl, rfl⟩

end
end Go.Ab
end

section
/- A row that may be written, spelled otherwise. -/

set_option linter.unusedVariables false
set_option linter.unusedSimpArgs false
namespace Go.Ab
section
variable {P : Program} {n : Nat} {H : List AObj}

theorem oarr_eq {M : Mem} {w : World} {loc : Locs} {l : Option Loc} {sz : Nat} {q q' : Seq} (hq : q'.toList = q.toList) (hO : ORel M w loc l (.arr sz q)) : ORel M w loc l (.arr sz q') := by
  obtain ⟨b, vs, T, fr, c1, c2, c3, c4, c5, c6, c7, c8⟩ := hO
  refine ⟨b, vs, T, fr, c1, c2, c3, c4, c5, by rw [hq]; exact c6, fun i hi => ?_, fun i j hi hj => ?_⟩
  · simp only [hq] at hi ⊢; exact c7 i hi
  · simp only [hq] at hi hj ⊢; exact c8 i j hi hj

/-- a front part of a row -/
theorem oarr_pre {M : Mem} {w : World} {loc : Locs} {l : Option Loc} {sz k : Nat} {q q' : Seq} (hq : q'.toList = q.toList.take k) (hO : ORel M w loc l (.arr sz q)) : ORel M w loc l (.arr sz q') := by
  obtain ⟨b, vs, T, fr, c1, c2, c3, c4, c5, c6, c7, c8⟩ := hO
  have hl : q'.toList.length ≤ q.toList.length := by rw [hq]; simp; omega
  have hget : ∀ i (hi : i < q'.toList.length), ∃ hi' : i < q.toList.length, q'.toList[i] = q.toList[i] := by
    intro i hi
    have hi2 : i < q.toList.length := by omega
    refine ⟨hi2, ?_⟩
    have e5 : q'.toList[i]? = some q.toList[i] := by
      rw [hq, List.getElem?_take, if_pos (by rw [hq] at hi; simp at hi; omega), List.getElem?_eq_getElem hi2]
    rw [List.getElem?_eq_getElem hi] at e5
    exact Option.some.inj e5
  refine ⟨b, vs, T, fr, c1, c2, c3, c4, c5, Nat.le_trans (Nat.mul_le_mul_right sz hl) c6, fun i hi => ?_, fun i j hi hj => ?_⟩
  · obtain ⟨h1, h2⟩ := hget i hi
    rw [h2]; exact c7 i h1
  · obtain ⟨h1, h2⟩ := hget i hi
    obtain ⟨v, w1, w2⟩ := c8 i j h1 (by rw [← h2]; exact hj)
    exact ⟨v, w1, by simp only [h2]; exact w2⟩

theorem ReSt.arr {s : Slots} {id sz : Nat} {q q' : Seq} (ho : H[id]? = some (.arr sz q)) (hq : q'.toList = q.toList) : ReSt n s H s (H.set id (.arr sz q')) := by
  intro M loc w tmps h0 h1 h3
  obtain ⟨r1, r2⟩ := h1.respell id (.arr sz q) (.arr sz q') ho (by intro h; cases h) (by intro h; cases h) (oarr_eq hq)
  exact ⟨M, loc, r1, h3, r2.mono h0⟩

theorem ReSt.arrPre {s : Slots} {id sz k : Nat} {q q' : Seq} (ho : H[id]? = some (.arr sz q)) (hq : q'.toList = q.toList.take k) : ReSt n s H s (H.set id (.arr sz q')) := by
  intro M loc w tmps h0 h1 h3
  obtain ⟨r1, r2⟩ := h1.respell id (.arr sz q) (.arr sz q') ho (by intro h; cases h) (by intro h; cases h) (oarr_pre hq)
  exact ⟨M, loc, r1, h3, r2.mono h0⟩

theorem ASpec.arrPre {f : FuncId} {args : List AV} {Post : AV → List AObj → Prop}
    (h : ASpec P f args H (fun r H' => ∃ id sz k q q', H'[id]? = some (.arr sz q) ∧ q'.toList = q.toList.take k ∧ Post r (H'.set id (.arr sz q')))) : ASpec P f args H Post := by
  intro M loc w vs ht hr hv
  refine (h M loc w vs ht hr hv).mono fun e w' hh => ?_
  obtain ⟨v, r, H', M', loc', he, ⟨id, sz, k, q, q', ho, hq, hP⟩, r1, r2, r3⟩ := hh
  obtain ⟨k1, k2⟩ := r1.respell id (.arr sz q) (.arr sz q') ho (by intro h; cases h) (by intro h; cases h) (oarr_pre hq)
  exact ⟨v, r, _, M', loc', he, hP, k1, r2.keeps (k2.keeps r1), StepN.trans r3 k2 r3.len⟩

theorem ASpec.arrEnd {f : FuncId} {args : List AV} {Post : AV → List AObj → Prop}
    (h : ASpec P f args H (fun r H' => ∃ id sz q q', H'[id]? = some (.arr sz q) ∧ q'.toList = q.toList ∧ Post r (H'.set id (.arr sz q')))) : ASpec P f args H Post := by
  intro M loc w vs ht hr hv
  refine (h M loc w vs ht hr hv).mono fun e w' hh => ?_
  obtain ⟨v, r, H', M', loc', he, ⟨id, sz, q, q', ho, hq, hP⟩, r1, r2, r3⟩ := hh
  obtain ⟨k1, k2⟩ := r1.respell id (.arr sz q) (.arr sz q') ho (by intro h; cases h) (by intro h; cases h) (oarr_eq hq)
  exact ⟨v, r, _, M', loc', he, hP, k1, r2.keeps (k2.keeps r1), StepN.trans r3 k2 r3.len⟩

end
end Go.Ab
end

section
/- A choice among objects, where some move: their old places are left empty. -/

set_option linter.unusedVariables false
set_option linter.unusedSimpArgs false
namespace Go.Ab
section
variable {P : Program} {M : Mem} {w : World} {loc : Locs} {H H2 : List AObj} {n : Nat}

def okL (l : List Nat) (gb : List Bool) : Bool :=
  (List.range l.length).all fun i => (List.range l.length).all fun j => Nat.beq i j || !Nat.beq (l.getD i 0) (l.getD j 0) || gb.getD i false || gb.getD j false

theorem okL_get {l : List Nat} {gb : List Bool} (h : okL l gb = true) {i j : Nat} (hi : i < l.length) (hj : j < l.length) (e : l.getD i 0 = l.getD j 0) : i = j ∨ gb.getD i false = true ∨ gb.getD j false = true := by
  unfold okL at h
  rw [List.all_eq_true] at h
  have h1 := h i (List.mem_range.2 hi)
  rw [List.all_eq_true] at h1
  have h2 := h1 j (List.mem_range.2 hj)
  simp only [Bool.or_eq_true, Bool.not_eq_true'] at h2
  rcases h2 with ((h2 | h2) | h2) | h2
  · exact .inl (Nat.eq_of_beq_eq_true h2)
  · rw [e, Nat.beq_refl] at h2; cases h2
  · exact .inr (.inl h2)
  · exact .inr (.inr h2)

/-- H2 is a choice of H's objects, by the list l of their old names; what is gone (gb) takes no place -/
def SelM (n : Nat) (l : List Nat) (gb : List Bool) (H H2 : List AObj) : Prop :=
  okL l gb = true ∧ H2.map isGone = gb ∧ l.length = H2.length ∧ n ≤ l.length ∧ (∀ i, i < n → l[i]? = some i) ∧ ∀ i (h : i < H2.length), (H[l.getD i H.length]? = some (AObj.ren (selR l H.length) H2[i])) ∨ isGone H2[i] = true

theorem Rel.selectM {l : List Nat} {gb : List Bool} (hr : Rel M loc H w) (hs : SelM n l gb H H2) :
    Rel M (fun i => loc (selR l H.length i)) H2 w ∧ StepN n M loc H w M (fun i => loc (selR l H.length i)) H2 w := by
  obtain ⟨hnd, hgb, hlen, hn, hid, hobj⟩ := hs
  have hget : ∀ (i : Nat) (o : AObj), H2[i]? = some o → (o = .gone → False) → i < H2.length ∧ gb.getD i false = false ∧ H[selR l H.length i]? = some (AObj.ren (selR l H.length) o) := by
    intro i o hi hg
    obtain ⟨hlt, rfl⟩ := List.getElem?_eq_some_iff.1 hi
    have hng : isGone H2[i] = false := by
      cases hq : isGone H2[i] with
      | false => rfl
      | true => exfalso; apply hg; revert hq; cases H2[i] <;> simp [isGone]
    refine ⟨hlt, ?_, ?_⟩
    · subst hgb
      rw [List.getD_eq_getElem?_getD, List.getElem?_map, hi]
      exact hng
    · rcases hobj i hlt with h | h
      · exact h
      · rw [hng] at h; cases h
  have hinj : ∀ i j, i < H2.length → j < H2.length → gb.getD i false = false → gb.getD j false = false → selR l H.length i = selR l H.length j → i = j := by
    intro i j hi hj g1 g2 e
    have hi' : i < l.length := by omega
    have hj' : j < l.length := by omega
    simp only [selR] at e
    have e2 : l.getD i 0 = l.getD j 0 := by
      rw [List.getD_eq_getElem?_getD, List.getD_eq_getElem?_getD, List.getElem?_eq_getElem hi', List.getElem?_eq_getElem hj'] at e ⊢
      exact e
    rcases okL_get hnd hi' hj' e2 with q | q | q
    · exact q
    · rw [g1] at q; cases q
    · rw [g2] at q; cases q
  have hlg : ∀ i l', loc (selR l H.length i) = some l' → (fun i => loc (selR l H.length i)) i = some l' := fun i l' h => h
  have hgone : ∀ o : AObj, (o = .gone → False) → (AObj.ren (selR l H.length) o = .gone → False) := fun o h e => h (gone_ren e)
  refine ⟨⟨hr.base, hr.ext, ?_, ?_, ?_⟩, ⟨rfl, Nat.le_refl _, rfl, rfl, rfl, fun _ _ _ => ⟨rfl, rfl⟩, fun _ _ _ h => h, fun _ cs _ fr h => ⟨cs, fr, h, rfl⟩, ?_, ?_, by omega⟩⟩
  · intro i hi
    refine hr.dom _ ?_
    simp [selR, List.getD, List.getElem?_eq_none (show l.length ≤ i by omega)]
  · intro i o hi
    by_cases hg : o = .gone
    · subst hg; trivial
    · obtain ⟨_, _, h⟩ := hget i o hi hg
      exact (hr.objs _ _ h).ren_from hlg
  · intro i j oi oj li lj b hi hj gi gj hli hlj bi bj
    obtain ⟨h1, q1, h2⟩ := hget i oi hi gi
    obtain ⟨h3, q3, h4⟩ := hget j oj hj gj
    exact hinj i j h1 h3 q1 q3 (hr.inj _ _ _ _ li lj b h2 h4 (hgone _ gi) (hgone _ gj) hli hlj bi bj)
  · intro b _ ⟨i, o, l', hi, hg, hl, hb⟩
    obtain ⟨_, _, h⟩ := hget i o hi hg
    exact ⟨_, _, l', h, hgone _ hg, hl, hb⟩
  · intro i hi
    have := hid i hi
    simp only [selR, List.getD, this, Option.getD_some]

theorem ReSt.selM {l : List Nat} {gb : List Bool} {s s2 : Slots} (hs : SelM n l gb H H2) (h : ∀ d, get s d = AV.ren (selR l H.length) (get s2 d) ∨ get s2 d = .bad) : ReSt n s H s2 H2 := by
  intro M loc w tmps h0 h1 h2
  obtain ⟨r1, r2⟩ := h1.selectM hs
  refine ⟨_, _, r1, fun d => ?_, r2⟩
  rcases h d with e | e
  · have := h2 d
    rw [e] at this
    exact this.ren_from (fun i l' h => h) _ rfl
  · rw [e]; exact .bad _

theorem AWP.shapeM {ro : Option Nat} {N : Nat} {c : Code} {s : Slots} {Q : AQ} (l : List Nat) (gb : List Bool) (s2 : Slots) (H2 : List AObj) (hsel : SelM n l gb H H2)
    (hs : Slots2 (fun a b => Le a (AV.ren (selR l H.length) b)) s s2) (k : AWPr ro P N n c s2 H2 Q) : AWPr ro P N n c s H Q := by
  intro M loc w a h0
  refine AWP.re (ReSt.trans (ReSt.le (s2 := renS (selR l H.length) s2) (fun d => ?_) h0) (ReSt.selM hsel fun d => .inl (get_renS _ _ _))) k M loc w a h0
  rw [get_renS]
  exact Slots2.get (R := fun a b => Le a (AV.ren (selR l H.length) b)) (Le.refl _) hs d

theorem ASpec.selM {f : FuncId} {args : List AV} {Post : AV → List AObj → Prop}
    (h : ASpec P f args H (fun r H' => ∃ l gb H2 r2, SelM H.length l gb H' H2 ∧ Le r (AV.ren (selR l H'.length) r2) ∧ Post r2 H2)) : ASpec P f args H Post := by
  intro M loc w vs ht hr hv
  refine (h M loc w vs ht hr hv).mono fun e w' hh => ?_
  obtain ⟨v, r, H', M', loc', he, ⟨l, gb, H2, r2, hs, hle, hP⟩, r1, r2', r3⟩ := hh
  obtain ⟨k1, k2⟩ := r1.selectM hs
  exact ⟨v, _, _, _, _, he, hP, k1, (hle _ _ _ _ r2').ren_from (fun i l' h => h) _ rfl, StepN.trans r3 k2 (Nat.le_refl _)⟩

end
end Go.Ab
end

section
/- Rounds: what stands at their ends, spelled otherwise. -/

set_option linter.unusedVariables false
set_option linter.unusedSimpArgs false
namespace Go.Ab
section
variable {P : Program} {H : List AObj}

theorem AYield.sel {id : Nat} {args : List AV} {Post : AV → List AObj → Prop}
    (h : AYield P id args H (fun r H' => ∃ l H2 r2, Sel H.length l H' H2 ∧ Le r (AV.ren (selR l H'.length) r2) ∧ Post r2 H2)) : AYield P id args H Post := by
  intro M loc w vs b ht hr hv hl
  obtain ⟨f, tmps, asg, body, h1, h2⟩ := h M loc w vs b ht hr hv hl
  refine ⟨f, tmps, asg, body, h1, h2.mono fun e w' hh => ?_⟩
  obtain ⟨v, r, H', M', loc', he, ⟨l, H2, r2, hs, hle, hP⟩, r1, r2', r3⟩ := hh
  obtain ⟨k1, k2⟩ := r1.select hs
  exact ⟨v, _, _, _, _, he, hP, k1, (hle _ _ _ _ r2').ren_from (fun i l' h => h) _ rfl, StepN.trans r3 k2 (Nat.le_refl _)⟩

theorem AYield.arrEnd {id : Nat} {args : List AV} {Post : AV → List AObj → Prop}
    (h : AYield P id args H (fun r H' => ∃ id sz q q', H'[id]? = some (.arr sz q) ∧ q'.toList = q.toList ∧ Post r (H'.set id (.arr sz q')))) : AYield P id args H Post := by
  intro M loc w vs b ht hr hv hl
  obtain ⟨f, tmps, asg, body, h1, h2⟩ := h M loc w vs b ht hr hv hl
  refine ⟨f, tmps, asg, body, h1, h2.mono fun e w' hh => ?_⟩
  obtain ⟨v, r, H', M', loc', he, ⟨id, sz, q, q', ho, hq, hP⟩, r1, r2, r3⟩ := hh
  obtain ⟨k1, k2⟩ := r1.respell id (.arr sz q) (.arr sz q') ho (by intro h; cases h) (by intro h; cases h) (oarr_eq hq)
  exact ⟨v, r, _, M', loc', he, hP, k1, r2.keeps (k2.keeps r1), StepN.trans r3 k2 r3.len⟩

theorem ARound.mono {N n id : Nat} {o o' : AObj} {asg body : Code} {s : Slots} {Q Q' : AQ} (h : ARound P N n id o o' asg body s H Q) (hq : ∀ e s H, Q e s H → Q' e s H) : ARound P N n id o o' asg body s H Q' := by
  intro ro
  refine AWP.mono (h ro) fun e s' H' hh => ?_
  cases e with
  | normal => exact ⟨hh.1, fun ro => AWP.mono (hh.2 ro) hq⟩
  | _ => exact hh.elim

end

/-- a choice of objects, each one shown by itself -/
def SelL (H : List AObj) (ρ : Nat → Nat) : List Nat → List AObj → Prop
  | [], [] => True
  | i :: l, o :: H2 => H[i]? = some (AObj.ren ρ o) ∧ SelL H ρ l H2
  | _, _ => False
theorem SelL.at {H : List AObj} {ρ : Nat → Nat} : ∀ {l : List Nat} {H2 : List AObj}, SelL H ρ l H2 → l.length = H2.length ∧ ∀ (d i : Nat) (h : i < H2.length), H[l.getD i d]? = some (AObj.ren ρ H2[i])
  | [], [], _ => ⟨rfl, fun _ i h => absurd h (Nat.not_lt_zero _)⟩
  | i :: l, o :: H2, h => by
    obtain ⟨a, b⟩ := SelL.at h.2
    refine ⟨by simp [a], fun d j hj => ?_⟩
    cases j with
    | zero => exact h.1
    | succ j => exact b d j (by simpa using hj)
theorem Sel.mk0 {l : List Nat} {H H2 : List AObj} (hn : l.Nodup) (h : SelL H (selR l H.length) l H2) : Sel 0 l H H2 :=
  ⟨hn, h.at.1, Nat.zero_le _, fun _ h => absurd h (Nat.not_lt_zero _), fun i hi => .inl (h.at.2 _ i hi)⟩
end Go.Ab
end

section
/- The library's sort, as a specification: a row's elements, in order. -/

set_option linter.unusedVariables false
set_option linter.unusedSimpArgs false
namespace Go.Ab
open Go.Sort
section
variable {P : Program} {M : Mem} {w w' : World} {loc : Locs} {H : List AObj}

theorem modify_at {hp : Array Obj} {b : Nat} {c : Array Value} {T : TypeId} {fr : Nat × Nat} (f : Array Value → Array Value) (h : hp[b]? = some (.cells c T fr)) : hp.modify b (onCells f) = hp.setIfInBounds b (.cells (f c) T fr) := by
  apply Array.ext_getElem?
  intro k
  simp only [Array.getElem?_modify, Array.getElem?_setIfInBounds]
  by_cases e : b = k
  · subst e
    rw [if_pos rfl, if_pos rfl, h, if_pos (Array.getElem?_eq_some_iff.1 h).1]
    rfl
  · rw [if_neg e, if_neg e]

theorem ASpec.sorts {α : Type} [Inhabited α] {f : FuncId} {enc : α → Value} {en : α → List AV} {e1 : α → AV} {d0 : α} {srt : List α → List α} (hen : ∀ x, en x = [e1 x])
    (hrel : ∀ M w loc x v, VRel M w loc (e1 x) v ↔ v = enc x) (hs : ∀ l, (srt l).length = l.length)
    (hc : ∀ blk off cap (ss : List α) w, Holds enc w blk off ss.toArray → blk < w.heap.size → ss.length < 4611686018427387904 →
      Calls P f #[.slice (some ⟨blk, off, none⟩) ss.length cap] w fun e w' => e = .returned (.tuple #[]) ∧ ∃ n os, w' = grow (putRow enc (Sort.ahead w n) blk off (srt ss).toArray) os)
    {id : Nat} {q : Seq} {l : List α} (hid : H[id]? = some (.arr 1 q)) (hq : q.toList = l.map en) (hl : l.length < 4611686018427387904) :
    ASpec P f [.msl 1 id 0 l.length] H (fun r H' => r = .tup [] ∧ H' = H.set id (.arr 1 (.map en d0 (srt l)))) := by
  intro M loc w vs ht hr hv
  obtain ⟨hsz, hv⟩ := hv
  have hv0 := hv 0 (by simp)
  simp only [List.getElem_cons_zero] at hv0
  have hvs : vs = #[vs[0]'(by simp at hsz; omega)] := by
    apply Array.ext
    · simpa using hsz
    · intro i h1 h2
      have : i = 0 := by simp at h2; omega
      subst this; rfl
  generalize vs[0]'(by simp at hsz; omega) = v0 at hv0 hvs
  subst hvs
  clear hv hsz
  cases hv0 with
  | msl _ _ _ _ b cap hloc hle hcb =>
  obtain ⟨b', cs, Tb, fr, hloc', hbase, hext, hbk, hsoft, hds, hdz, hdc⟩ := hr.objs id _ hid
  rw [hloc] at hloc'; cases hloc'
  have hblt := cells_lt hbk
  have hql : q.toList.length = l.length := by rw [hq]; simp
  have hcell : ∀ j (hj : j < l.length), cs[j]? = some (enc l[j]) := by
    intro j hj
    have e1' : q.toList[j]'(by omega) = [e1 l[j]] := by
      have : q.toList[j]? = some [e1 l[j]] := by rw [hq, List.getElem?_map, List.getElem?_eq_getElem hj]; simp [hen]
      rw [List.getElem?_eq_getElem (by omega)] at this
      exact Option.some.inj this
    obtain ⟨v, h1, h2⟩ := hdc j 0 (by omega) (by rw [e1']; simp)
    have h2' : VRel M w loc (e1 l[j]) v := by
      have : (q.toList[j]'(by omega))[0]'(by rw [e1']; simp) = e1 l[j] := by simp [e1']
      rw [this] at h2; exact h2
    rw [hrel] at h2'
    subst h2'
    simpa using h1
  have hH : Holds enc w b (0 * 1) l.toArray := by
    intro j hj
    have hj' : j < l.length := by simpa using hj
    have hcj := hcell j hj'
    refine ⟨?_, ?_⟩
    · simp only [World.cell?, hbk, Nat.zero_mul, Nat.zero_add]
      rw [getElem!_pos _ j hj]
      simpa using hcj
    · have hjs : j < cs.size := (Array.getElem?_eq_some_iff.1 hcj).1
      simp only [World.frozen?, hbk, Nat.zero_mul, Nat.zero_add]
      have := hsoft.1 j hjs
      simp only [Bool.and_eq_false_iff, decide_eq_false_iff_not]
      by_cases h : fr.1 ≤ j
      · right; exact fun h2 => this ⟨h, h2⟩
      · left; exact h
  refine (hc b (0 * 1) cap l w hH hblt hl).mono fun e w' hh => ?_
  obtain ⟨he, n, os, hw⟩ := hh
  have hcsl : l.length ≤ cs.size := by rw [hql] at hds; omega
  -- the row, written
  have hput : putRow enc (Sort.ahead w n) b (0 * 1) (srt l).toArray = setBlk (Sort.ahead w n) b (.cells (putCells enc 0 (srt l).toArray cs) Tb fr) := by
    simp only [putRow, mapBlock, setBlk, Sort.ahead, Nat.zero_mul]
    rw [modify_at _ hbk]
  have hsame : SameMem w (Sort.ahead w n) := ⟨rfl, rfl, rfl, rfl⟩
  obtain ⟨r0, st0⟩ := hr.same hsame
  have hpc : (putCells enc 0 (srt l).toArray cs).size = cs.size := by simp [putCells]
  have hpg : ∀ j (hj : j < l.length), (putCells enc 0 (srt l).toArray cs)[j]? = some (enc ((srt l)[j]'(by rw [hs]; exact hj))) := by
    intro j hj
    have hj2 : j < (srt l).length := by rw [hs]; exact hj
    simp only [putCells, Array.getElem?_mapIdx]
    rw [hcell j hj, Option.map_some]
    simp only [Nat.zero_le, true_and, Nat.zero_add, List.size_toArray, Nat.sub_zero]
    rw [if_pos hj2, getElem!_pos _ j (by simpa using hj2)]
    simp
  obtain ⟨r1, st1⟩ := r0.write id b _ (.arr 1 (.map en d0 (srt l))) (.cells (putCells enc 0 (srt l).toArray cs) Tb fr) hid (by intro h; cases h) hloc
    (fun cs' T' fr' h => by
      rw [show (Sort.ahead w n).heap = w.heap from rfl, hbk] at h
      cases h
      exact ⟨_, _, rfl, hpc⟩)
    (by
      refine ⟨b, _, Tb, fr, rfl, hbase, hext, setBlk_same hblt, ⟨?_, fun h => (h rfl).elim⟩, ?_, ?_, ?_⟩
      · intro k hk; exact hsoft.1 k (by rw [hpc] at hk; exact hk)
      · simp only [Seq.toList, List.length_map, hs, hpc]; omega
      · intro i h; simp only [Seq.toList, List.getElem_map, hen]; rfl
      · intro i j h hj
        simp only [Seq.toList, List.length_map, List.getElem_map, hen] at h hj ⊢
        have hj0 : j = 0 := by simp at hj; omega
        subst hj0
        have hi : i < l.length := by rw [hs] at h; exact h
        refine ⟨_, by rw [Nat.mul_one, Nat.add_zero]; exact hpg i hi, ?_⟩
        simp only [List.getElem_cons_zero]
        exact (hrel _ _ _ _ _).2 rfl)
  have hg : Grown (setBlk (Sort.ahead w n) b (.cells (putCells enc 0 (srt l).toArray cs) Tb fr)) w' := by
    rw [hw, hput]
    exact ⟨by simp [grow], fun c hc => heap_grow_old _ _ hc, rfl, rfl, rfl⟩
  obtain ⟨r2, st2⟩ := r1.grown hg
  refine ⟨.tuple #[], .tup [], _, M, loc, he, ⟨rfl, rfl⟩, r2, .tup _ _ rfl (fun i h => by simp at h), ?_⟩
  exact StepN.trans (StepN.trans st0 st1 (Nat.le_refl _)) st2 (by simp)

/-- what is handed back, respelled -/
theorem ASpec.reEnd {f : FuncId} {args : List AV} {Post : AV → List AObj → Prop}
    (h : ASpec P f args H (fun r H' => ∃ r2 H2, ReSt H.length [(0, r)] H' [(0, r2)] H2 ∧ Post r2 H2)) : ASpec P f args H Post := by
  intro M loc w vs ht hr hv
  refine (h M loc w vs ht hr hv).mono fun e w' hh => ?_
  obtain ⟨v, r, H', M', loc', he, ⟨r2, H2, hre, hP⟩, a1, a2, a3⟩ := hh
  obtain ⟨M2, l2, b1, b2, b3⟩ := hre M' loc' w' #[v] a3.len a1 (fun d => by
    cases d with
    | zero => exact a2
    | succ d => exact .bad _)
  have hv2 := b2 0
  exact ⟨v, r2, H2, M2, l2, he, hP, b1, hv2, StepN.trans a3 b3 (Nat.le_refl _)⟩

theorem ReSt.refl (n : Nat) (s : Slots) : ReSt n s H s H := fun M loc w tmps h0 h1 h2 =>
  ⟨M, loc, h1, h2, rfl, Nat.le_refl _, rfl, rfl, rfl, fun _ _ _ => ⟨rfl, rfl⟩, fun _ _ _ h => h, fun _ cs _ fr h => ⟨cs, fr, h, rfl⟩, fun _ _ h => h, fun _ _ => rfl, h0⟩

/-- a row, handed back as what it holds -/
theorem ReSt.freeze1 {n id sz len : Nat} {q q' : Seq} (ho : H[id]? = some (.arr sz q)) (hn : n ≤ H.length) (hlen : len ≤ q.toList.length) (hq : q'.toList = q.toList.take len) :
    ReSt n [(0, .msl sz id 0 len)] H [(0, .sl sz q' .none)] (H.set id .gone) := by
  refine ReSt.freeze ho hn fun d => ?_
  cases d with
  | zero => exact .inr (.inr ⟨0, len, q', rfl, by omega, rfl, by simpa using hq⟩)
  | succ d => exact .inl rfl

end
end Go.Ab
end
