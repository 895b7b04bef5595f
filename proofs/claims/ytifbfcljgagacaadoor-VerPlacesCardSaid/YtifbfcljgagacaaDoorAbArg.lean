/- Arguments: what is read of them stands to abstract values. -/
import Derived.Test.YtifbfcljgagacaaDoorAbRow
set_option linter.unusedVariables false
set_option linter.unusedSimpArgs false
namespace Go.Ab
open Go.ChangeShapes Go.WideShapes

/-- cells that stand to abstract cells -/
def VL (w : World) : List AV → List Value → Prop
  | [], [] => True
  | a :: l, v :: r => VRel (mem0 w) w (fun _ => none) a v ∧ VL w l r
  | _, _ => False

theorem VL.len {w : World} : ∀ {l : List AV} {r : List Value}, VL w l r → l.length = r.length
  | [], [], _ => rfl
  | a :: l, v :: r, h => by simp [VL.len h.2]
  | [], _ :: _, h => h.elim
  | _ :: _, [], h => h.elim

theorem VL.get {w : World} : ∀ {l : List AV} {r : List Value}, VL w l r → ∀ i (h : i < l.length) (h' : i < r.length), VRel (mem0 w) w (fun _ => none) l[i] r[i]
  | a :: l, v :: r, h, 0, _, _ => h.1
  | a :: l, v :: r, h, i + 1, h1, h2 => VL.get h.2 i (by simpa using h1) (by simpa using h2)
  | [], _, _, i, h, _ => by simp at h
  | _ :: _, [], h, _, _, _ => h.elim

theorem VL.app {w : World} : ∀ {l l2 : List AV} {r r2 : List Value}, VL w l r → VL w l2 r2 → VL w (l ++ l2) (r ++ r2)
  | [], _, [], _, _, h => h
  | a :: l, _, v :: r, _, h, k => ⟨h.1, VL.app h.2 k⟩
  | [], _, _ :: _, _, h, _ => h.elim
  | _ :: _, _, [], _, h, _ => h.elim

/-- how values of a type are read -/
structure Codec (P : Program) (t : TypeId) (α : Type) where
  enc : α → List AV
  ok : α → Prop
  dflt : α
  opens : ∀ {H : Type} (e : TypeId × Value → H) (w : World) (fuel : Nat) (cs : List Value) (x : DataW H × List MemPlace),
    DataW.trod e P w 0 (fun _ => true) true fuel t cs = some x → ∃ a, ok a ∧ VL w (enc a) cs

section
variable {P : Program}

def Codec.int {t : TypeId} (k : IntKind) (ht : P.underlying t = some (.int k)) : Codec P t Int where
  enc n := [.int k n]
  ok n := (Lit.int k n).wf = true
  dflt := 0
  opens := by
    intro H e w fuel cs x h
    cases fuel with
    | zero => simp [DataW.trod] at h
    | succ f =>
      simp only [DataW.trod, ht] at h
      split at h <;> simp_all
      rename_i k' n hk
      obtain ⟨⟨rfl, h1⟩, h2⟩ := h
      exact ⟨n, h1, .int _ _, trivial⟩

def Codec.bool {t : TypeId} (ht : P.underlying t = some .bool) : Codec P t Bool where
  enc b := [.bool b]
  ok _ := True
  dflt := false
  opens := by
    intro H e w fuel cs x h
    cases fuel with
    | zero => simp [DataW.trod] at h
    | succ f =>
      simp only [DataW.trod, ht] at h
      split at h
      case h_1 _ b _ => exact ⟨b, trivial, .bool _, trivial⟩
      all_goals simp_all

def Codec.str {t : TypeId} (ht : P.underlying t = some .string) : Codec P t ByteArray where
  enc s := [.str s]
  ok s := s.size ≤ maxLen
  dflt := ByteArray.empty
  opens := by
    intro H e w fuel cs x h
    cases fuel with
    | zero => simp [DataW.trod] at h
    | succ f =>
      simp only [DataW.trod, ht] at h
      split at h <;> simp_all
      rename_i s
      exact ⟨s, h.1, .str _, trivial⟩

theorem mapM_some {α β : Type} (f : α → Option β) : ∀ (l : List α) (r : List β), l.mapM f = some r → r.length = l.length ∧ ∀ i (h : i < l.length) (h' : i < r.length), f l[i] = some r[i]
  | [], r, h => by
    simp at h; subst h; simp
  | a :: l, r, h => by
    rw [List.mapM_cons] at h
    cases ha : f a with
    | none => simp [ha] at h
    | some b =>
      cases hl : l.mapM f with
      | none => simp [ha, hl] at h
      | some q =>
        simp [ha, hl] at h
        subst h
        obtain ⟨h1, h2⟩ := mapM_some f l q hl
        refine ⟨by simp [h1], fun i hi hi' => ?_⟩
        cases i with
        | zero => exact ha
        | succ i => exact h2 i (by simpa using hi) (by simpa using hi')

/-- a choice, element by element -/
theorem choose_list {α : Type} (n : Nat) (R : Nat → α → Prop) (h : ∀ i, i < n → ∃ a, R i a) : ∃ l : List α, l.length = n ∧ ∀ i (hi : i < l.length), R i l[i] := by
  induction n with
  | zero => exact ⟨[], rfl, fun i hi => by simp at hi⟩
  | succ n ih =>
    obtain ⟨l, h1, h2⟩ := ih (fun i hi => h i (by omega))
    obtain ⟨a, ha⟩ := h n (by omega)
    refine ⟨l ++ [a], by simp [h1], fun i hi => ?_⟩
    by_cases hl : i < l.length
    · rw [List.getElem_append_left hl]; exact h2 i hl
    · have e : i = n := by simp at hi; omega
      subst e
      rw [List.getElem_append_right (by omega)]
      simpa using ha

theorem cells_get {w : World} {a : Addr} {n : Nat} {cs : List Value} (h : w.cells? 0 a n = some cs) : cs.length = n ∧ ∀ i (hi : i < cs.length), w.cell? (a.add i) = some cs[i] := by
  unfold World.cells? at h
  rw [if_pos (Nat.zero_le _)] at h
  obtain ⟨h1, h2⟩ := mapM_some _ _ _ h
  refine ⟨by simpa using h1, fun i hi => ?_⟩
  have := h2 i (by rw [← h1]; exact hi) hi
  simpa using this

theorem add_cell {a : Addr} (h : a.spot = none) (n : Nat) : a.add n = ⟨a.block, a.off + n, none⟩ := by
  obtain ⟨b, o, s⟩ := a
  simp only at h; subst h
  unfold Addr.add
  split
  · simp_all
  · rfl

theorem cell_in {w : World} {b k : Nat} {v : Value} (h : w.cell? ⟨b, k, none⟩ = some v) : b < w.heap.size := by
  unfold World.cell? at h
  split at h
  · rename_i hb; exact (Array.getElem?_eq_some_iff.1 hb).1
  · cases h

/-- slices, of elements that have cells -/
def Codec.slice {t e : TypeId} {α : Type} {sz : Nat} (c : Codec P e α) (ht : P.underlying t = some (.slice e)) (hsz : P.cellsOf e = sz) (h1 : 1 ≤ sz) (hlen : ∀ a, (c.enc a).length = sz) : Codec P t (List α) where
  enc l := [.sl sz (.map c.enc c.dflt l) .none]
  ok l := l.length ≤ maxLen ∧ ∀ a ∈ l, c.ok a
  dflt := []
  opens := by
    intro H en w fuel cs x h
    cases fuel with
    | zero => simp [DataW.trod] at h
    | succ f =>
      simp only [DataW.trod, ht] at h
      split at h
      all_goals first | (simp_all; done) | skip
      · exact ⟨[], ⟨by simp, fun a ha => by simp at ha⟩, .slnil _ _ _ rfl (fun id h => by cases h), trivial⟩
      · rename_i e' a len cap heq
        cases heq
        split at h
        case isFalse => cases h
        rename_i hcond
        obtain ⟨_, hlc, hcm⟩ := hcond
        cases hel : (List.range len).mapM (fun i => (w.cells? 0 (a.add (i * P.cellsOf e)) (P.cellsOf e)).bind (DataW.trod en P w 0 (fun _ => true) true f e)) with
        | none => simp [hel] at h
        | some elems =>
        simp only [hel, Option.bind_some, if_true] at h
        cases hre : (List.range (cap - len)).mapM (fun j => (w.cells? 0 (a.add ((len + j) * P.cellsOf e)) (P.cellsOf e)).bind (DataW.trod en P w 0 (fun _ => true) true f e)) with
        | none => simp [hre] at h
        | some rest =>
        rw [hsz] at hel hre
        obtain ⟨l1, g1⟩ := mapM_some _ _ _ hel
        obtain ⟨l2, g2⟩ := mapM_some _ _ _ hre
        simp only [List.length_range] at l1 l2
        have hone : ∀ i, i < cap → ∃ y, (w.cells? 0 (a.add (i * sz)) sz).bind (DataW.trod en P w 0 (fun _ => true) true f e) = some y := by
          intro i hi
          by_cases hl : i < len
          · have := g1 i (by simpa using hl) (by omega)
            simp only [List.getElem_range] at this
            exact ⟨_, this⟩
          · have := g2 (i - len) (by simp; omega) (by omega)
            simp only [List.getElem_range] at this
            rw [show len + (i - len) = i by omega] at this
            exact ⟨_, this⟩
        rcases Nat.eq_zero_or_pos cap with hc | hc
        · have : len = 0 := by omega
          subst hc; subst this
          exact ⟨[], ⟨by simp, fun a ha => by simp at ha⟩, .slz _ _ _ a rfl (by intro h; cases h) (fun id h => by cases h), trivial⟩
        · have hspot : a.spot = none := by
            obtain ⟨y, hy⟩ := hone 0 hc
            cases hq : w.cells? 0 (a.add (0 * sz)) sz with
            | none => rw [hq] at hy; cases hy
            | some q =>
              obtain ⟨k1, k2⟩ := cells_get hq
              have := k2 0 (by omega)
              rw [Nat.zero_mul] at this
              have e0 : (a.add 0).add 0 = a := by simp [Addr.add]
              rw [e0] at this
              unfold World.cell? at this
              split at this
              · split at this
                · cases this
                · rename_i hs; simpa using hs
              · cases this
          have hR : ∀ i, i < len → ∃ b : α, c.ok b ∧ ∃ q, w.cells? 0 (a.add (i * sz)) sz = some q ∧ VL w (c.enc b) q := by
            intro i hi
            obtain ⟨y, hy⟩ := hone i (by omega)
            cases hq : w.cells? 0 (a.add (i * sz)) sz with
            | none => simp [hq] at hy
            | some q =>
              simp only [hq, Option.bind_some] at hy
              obtain ⟨b, hb1, hb2⟩ := c.opens en w f q y hy
              exact ⟨b, hb1, q, rfl, hb2⟩
          obtain ⟨l, hl1, hl2⟩ := choose_list len _ hR
          refine ⟨l, ⟨by omega, fun b hb => ?_⟩, ?_, trivial⟩
          · obtain ⟨i, hi, rfl⟩ := List.getElem_of_mem hb
            exact (hl2 i hi).1
          · obtain ⟨b, o, s⟩ := a
            simp only at hspot; subst hspot
            have hlen2 : (Seq.map c.enc c.dflt l).toList.length = len := by simp [Seq.toList, hl1]
            have hg := VRel.sl (M := mem0 w) (w := w) (loc := fun _ => none) sz (.map c.enc c.dflt l) .none b o cap (fun i j => (w.cell? ⟨b, o + i * sz + j, none⟩).getD undef)
              (fun i hi => by simp only [Seq.toList, List.getElem_map]; exact hlen _)
              (fun i j hi hj => by
                obtain ⟨_, q, hq, _⟩ := hl2 i (by omega)
                obtain ⟨k1, k2⟩ := cells_get hq
                have := k2 j (by omega)
                rw [add_cell (a := ⟨b, o, none⟩) rfl, add_cell (a := ⟨b, o + i * sz, none⟩) rfl] at this
                refine ⟨by simp [this], .inl (cell_in this)⟩)
              (fun i j hi hj => by
                simp only [Seq.toList, List.getElem_map] at hj ⊢
                obtain ⟨_, q, hq, hv⟩ := hl2 i (by omega)
                obtain ⟨k1, k2⟩ := cells_get hq
                have hjs : j < sz := by rw [hlen] at hj; exact hj
                have := k2 j (by omega)
                rw [add_cell (a := ⟨b, o, none⟩) rfl, add_cell (a := ⟨b, o + i * sz, none⟩) rfl] at this
                simp only [this, Option.getD_some]
                exact hv.get j hj (by omega))
              (by omega) (by intro h; cases h) (fun h => by cases h) (fun id h => by cases h)
            rw [hlen2] at hg
            exact hg

/-- another way to name a codec's values -/
def Codec.iso {t : TypeId} {α β : Type} (c : Codec P t α) (f : α → β) (enc : β → List AV) (ok : β → Prop) (h : ∀ a, c.enc a = enc (f a)) (hok : ∀ a, c.ok a → ok (f a)) : Codec P t β where
  enc := enc
  ok := ok
  dflt := f c.dflt
  opens := by
    intro H e w fuel cs x hx
    obtain ⟨a, h1, h2⟩ := c.opens e w fuel cs x hx
    exact ⟨f a, hok a h1, by rw [← h]; exact h2⟩

/-- fields, one behind the other -/
structure FC (P : Program) (fs : List Field) (o n : Nat) (α : Type) where
  enc : α → List AV
  ok : α → Prop
  dflt : α
  opens : ∀ {H : Type} (e : TypeId × Value → H) (w : World) (fuel : Nat) (cs : List Value) (xs : List (DataW H × List MemPlace)),
    (fs.mapM fun f => DataW.trod e P w 0 (fun _ => true) true fuel f.type ((cs.drop f.offset).take (P.cellsOf f.type))) = some xs → ∃ a, ok a ∧ VL w (enc a) ((cs.drop o).take n)

def FC.nil {o : Nat} : FC P [] o 0 Unit where
  enc _ := []
  ok _ := True
  dflt := ()
  opens := by
    intro H e w fuel cs xs h
    exact ⟨(), trivial, by rw [List.take_zero]; trivial⟩

def FC.cons {f : Field} {fs : List Field} {o k n : Nat} {α β : Type} (c : Codec P f.type α) (ho : f.offset = o) (hk : P.cellsOf f.type = k) (r : FC P fs (o + k) n β) : FC P (f :: fs) o (k + n) (α × β) where
  enc x := c.enc x.1 ++ r.enc x.2
  ok x := c.ok x.1 ∧ r.ok x.2
  dflt := (c.dflt, r.dflt)
  opens := by
    intro H e w fuel cs xs h
    rw [List.mapM_cons] at h
    cases h1 : DataW.trod e P w 0 (fun _ => true) true fuel f.type ((cs.drop f.offset).take (P.cellsOf f.type)) with
    | none => simp [h1] at h
    | some y =>
      cases h2 : (fs.mapM fun f => DataW.trod e P w 0 (fun _ => true) true fuel f.type ((cs.drop f.offset).take (P.cellsOf f.type))) with
      | none => simp [h1, h2] at h
      | some ys =>
        rw [ho, hk] at h1
        obtain ⟨a, a1, a2⟩ := c.opens e w fuel _ _ h1
        obtain ⟨b, b1, b2⟩ := r.opens e w fuel cs _ h2
        refine ⟨(a, b), ⟨a1, b1⟩, ?_⟩
        have e3 : (cs.drop o).take (k + n) = (cs.drop o).take k ++ (cs.drop (o + k)).take n := by
          rw [List.take_add, List.drop_drop]
        rw [e3]
        exact VL.app a2 b2

def Codec.struct {t : TypeId} {fs : Array Field} {n : Nat} {α : Type} (ht : P.underlying t = some (.struct fs)) (c : FC P fs.toList 0 n α) (hn : P.cellsOf t = n) : Codec P t α where
  enc := c.enc
  ok := c.ok
  dflt := c.dflt
  opens := by
    intro H e w fuel cs x h
    cases fuel with
    | zero => simp [DataW.trod] at h
    | succ f =>
      simp only [DataW.trod, ht] at h
      split at h
      case isFalse => cases h
      rename_i hl
      cases hm : (fs.toList.mapM fun g => DataW.trod e P w 0 (fun _ => true) true f g.type ((cs.drop g.offset).take (P.cellsOf g.type))) with
      | none => simp [hm] at h
      | some xs =>
        obtain ⟨a, h1, h2⟩ := c.opens e w f cs xs hm
        refine ⟨a, h1, ?_⟩
        rw [List.drop_zero, List.take_of_length_le (by omega)] at h2
        exact h2

def plainT (P : Program) (t : TypeId) : Bool := match P.underlying t with | some (.struct _) | some (.array _ _) | none => false | _ => true

theorem no_agg {t : TypeId} (ht : plainT P t = true) {W : World} {r : Reach} {b : Nat} {cs : Array Value} (h : Value.okWide P W r b t (.agg cs)) : False := by
  unfold plainT at ht
  unfold Value.okWide at h
  split at h
  · rename_i hu; rw [hu] at ht; cases ht
  · rename_i hu; rw [hu] at ht; cases ht
  · unfold Cell.okWide at h
    split at h <;> first | contradiction | skip
    all_goals (unfold Cell.ok at h; split at h <;> simp_all)

/-- an argument of one cell -/
theorem Codec.arg1 {t : TypeId} {α : Type} (c : Codec P t α) (ht : plainT P t = true) {H : Type} {en : TypeId × Value → H} {W : World} {r : Reach} {b : Nat} {v : Value} {d : DataW H} {ps : List MemPlace}
    (hval : Value.okWide P W r b t v) (h : DataW.Trod en P W 0 (fun _ => true) true t v d ps) : ∃ a, c.ok a ∧ ∀ av, c.enc a = [av] → VRel (mem0 W) W (fun _ => none) av v := by
  obtain ⟨f, hf⟩ := h
  obtain ⟨a, h1, h2⟩ := c.opens en W f _ _ hf
  refine ⟨a, h1, fun av he => ?_⟩
  have hc : v.cells.toList = [v] := by
    cases v <;> first | rfl | exact (no_agg ht hval).elim
  rw [he, hc] at h2
  exact h2.1

def structT (P : Program) (t : TypeId) : Bool := match P.underlying t with | some (.struct _) => true | _ => false

theorem is_agg {t : TypeId} (ht : structT P t = true) {W : World} {r : Reach} {b : Nat} {v : Value} (h : Value.okWide P W r b t v) : ∃ cs, v = .agg cs := by
  unfold structT at ht
  split at ht
  case h_2 => cases ht
  case h_1 fs hu =>
  unfold Value.okWide at h
  simp only [hu] at h
  obtain ⟨cs, e, _⟩ := h
  exact ⟨cs, e⟩

/-- an argument of many cells -/
theorem Codec.argAgg {t : TypeId} {α : Type} (c : Codec P t α) (ht : structT P t = true) {H : Type} {en : TypeId × Value → H} {W : World} {r : Reach} {b : Nat} {v : Value} {d : DataW H} {ps : List MemPlace}
    (hval : Value.okWide P W r b t v) (h : DataW.Trod en P W 0 (fun _ => true) true t v d ps) : ∃ a, c.ok a ∧ VRel (mem0 W) W (fun _ => none) (.agg (c.enc a)) v := by
  obtain ⟨f, hf⟩ := h
  obtain ⟨a, h1, h2⟩ := c.opens en W f _ _ hf
  obtain ⟨cs, rfl⟩ := is_agg ht hval
  have hc : (Value.agg cs).cells.toList = cs.toList := rfl
  rw [hc] at h2
  have hl := h2.len
  refine ⟨a, h1, .agg _ _ (by simp [hl]) (fun i hi => ?_)⟩
  have := h2.get i hi (by simpa [hl] using hi)
  simpa using this

end
end Go.Ab
