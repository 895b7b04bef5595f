/- The index of manifests: what is put first stays. -/
import Derived.Test.YtifbfcljgagacaaVIdx
import Derived.Test.YtifbfcljgagacaaVWDoc
set_option linter.unusedVariables false
set_option linter.unusedSimpArgs false
set_option maxRecDepth 100000
open Go Go.Ab Go.Proofs V S T C
open W (sl1 slS slN slR leNone renN renR readM)
namespace X

abbrev PA (r0 : AV) : AV → List AObj → Prop := fun r H' => ∃ l H2 r2, Sel 0 l H' H2 ∧ Le r (AV.ren (selR l H'.length) r2) ∧ (r2 = r0 ∧ H2 = [])
theorem pa {r r0 : AV} {H' : List AObj} (h : Le r (AV.ren (selR [] H'.length) r0)) : PA r0 r H' := ⟨[], [], r0, Sel.none, h, rfl, rfl⟩
theorem condNq {a b : Bool} {A B : Prop} (h1 : a ≠ b → A) (h2 : a = b → B) : condP (!(a == b)) A B := by
  by_cases h : a = b
  · rw [beq_iff_eq.2 h]; exact h2 h
  · rw [beq_eq_false_iff_ne.2 h]; exact h1 h

/-! ### copies -/

theorem leS0 {ρ : Nat → Nat} : Le (.sl 0 (.raw []) .nil) (AV.ren ρ (slS [])) := Le.sl (s' := Seq.ren ρ (.map encS (0, 0) [])) rfl (.inr ⟨rfl, fun _ h => by cases h⟩) (.inr rfl)

theorem cloneS_spec (l : List Span) (hl : l.length ≤ lim) (H : List AObj) : ASpec Try.prog 156 [slS l] H (fun r H' => r = slS l ∧ H' = H) := by
  unfold lim at hl
  have k : ASpec Try.prog 156 [slS l] [] (fun r H' => r = slS l ∧ H' = []) := by
    refine ASpec.sel (s156 _ _ fun b hb => condB (fun h => pa ?_) fun h => needJ (fun x => rfl) (needJ (by omega) (pa ?_)))
    · have := hb h
      simp only [Ab.Seq.toList, List.map_eq_nil_iff] at this
      subst this
      exact leS0
    · exact Le.sl (s' := Seq.ren _ (.map encS (0, 0) l)) (by simp [Ab.Seq.toList, Seq.ren, W.renS]) (.inl rfl) (.inr rfl)
  exact ASpec.pureH H k _ _ rfl rfl

theorem sel3 {a b c : AObj} {q : List AObj} {ρ : Nat → Nat} (l : List Nat) (a' b' : AObj) : True := trivial

theorem cloneR3 {v : Int} {l : List Need} {R : List Need} (hl : okN l) : ∀ (m i : Nat) (acc : List Need), m + i = l.length → acc.length + m ≤ lim → acc ++ l.drop i = R →
    AWP Try.prog 29 0 c162_3 [(2, .ptr 0 0), (3, .ptr 1 0), (10, slN l), (11, .int .i64 l.length), (12, .int .i64 i)]
      [.cells [.int .i64 0, .sl 0 (.raw []) .nil], .cells [.int .i64 v, .sl 2 (.map encN ([], []) acc) (.tok 2)], .tok] (q162_2 0 (PA (.agg (T.encR (v, R))))) := by
  obtain ⟨hl1, hl2⟩ := hl
  unfold lim at hl1
  intro m
  induction m with
  | zero =>
    intro i acc hm ha h
    refine v162_3 _ _ _ _ _ _ _ (condD (fun hc => by omega) fun _ => pa ?_)
    rw [List.drop_eq_nil_of_le (by omega), List.append_nil] at h
    subst h
    exact Le.agg ⟨Le.refl _, leNone renN, trivial⟩
  | succ m ih =>
    intro i acc hm ha h
    unfold lim at ha
    have hx := hl2 _ (memD l ([], []) i (by omega))
    rw [dropD l ([], []) i (by omega)] at h
    refine v162_3 _ _ _ _ _ _ _ (condD (fun hc => needJ ⟨by omega, by omega⟩ ?_) fun hc => by omega)
    rw [Int.toNat_natCast]
    generalize l.getD i ([], []) = x at h hx ⊢
    refine ASpec.call (cloneS_spec x.2 hx.2 _) (Les.refl _) ⟨x.2, rfl, rfl, ⟨rfl, rfl⟩, ⟨rfl, rfl⟩, needJ (by omega) ?_⟩
    refine AWP.re (ReSt.leCell (id := 1) (cs' := [.int .i64 v, .sl 2 (.map encN ([], []) (acc ++ [x])) (.tok 4)]) rfl ⟨Le.refl _, leAppE (Les.refl _), trivial⟩) ?_
    rw [succ64 (by omega)]
    refine AWP.shape [0, 1, 4] [(2, .ptr 0 0), (3, .ptr 1 0), (10, slN l), (11, .int .i64 l.length), (12, .int .i64 (i + 1 : Nat))]
      [.cells [.int .i64 0, .sl 0 (.raw []) .nil], .cells [.int .i64 v, .sl 2 (.map encN ([], []) (acc ++ [x])) (.tok 2)], .tok] ?_
      ⟨rfl, Le.refl _, rfl, Le.refl _, rfl, Le.refl _, rfl, Le.refl _, rfl, Le.refl _, trivial⟩ (ih (i + 1) _ (by omega) (by simp; unfold lim; omega) ?_)
    · refine ⟨by decide, rfl, by decide, fun i hi => by omega, fun i hi => .inl ?_⟩
      match i, hi with
      | 0, _ | 1, _ | 2, _ => rfl
    · rw [← h]; simp

theorem cloneR_spec (x : Rel) (hl : okN x.2) (H : List AObj) : ASpec Try.prog 162 [.agg (T.encR x)] H (fun r H' => r = .agg (T.encR x) ∧ H' = H) := by
  have k : ASpec Try.prog 162 [.agg (T.encR x)] [] (fun r H' => r = .agg (T.encR x) ∧ H' = []) := by
    refine ASpec.sel (s162 _ _ ?_)
    refine AWP.re (ReSt.tokCell (id := 2) (j := 1) (q' := .map encN ([], []) []) (sz' := 2) rfl rfl (.inl rfl) rfl (.inr rfl)) ?_
    refine AWP.shape [1, 2, 3] [(2, .ptr 0 0), (3, .ptr 1 0), (10, slN x.2), (11, .int .i64 x.2.length), (12, .int .i64 (0 : Nat))]
      [.cells [.int .i64 0, .sl 0 (.raw []) .nil], .cells [.int .i64 x.1, .sl 2 (.map encN ([], []) []) (.tok 2)], .tok] ?_
      ⟨rfl, Le.refl _, rfl, Le.refl _, rfl, Le.refl _, rfl, Le.refl _, rfl, Le.refl _, trivial⟩ (cloneR3 hl x.2.length 0 [] (by omega) (by have := hl.1; simp; omega) rfl)
    refine ⟨by decide, rfl, by decide, fun i hi => by omega, fun i hi => .inl ?_⟩
    match i, hi with
    | 0, _ | 1, _ | 2, _ => rfl
  exact ASpec.pureH H k _ _ rfl rfl

theorem cloneM3 {s : List UInt8} {l : List Rel} {R : List Rel} (hl1 : l.length ≤ lim) (hl2 : ∀ r ∈ l, okN r.2) : ∀ (m i : Nat) (acc : List Rel), m + i = l.length → acc.length + m ≤ lim → acc ++ l.drop i = R →
    AWP Try.prog 25 0 c132_3 [(2, .ptr 0 0), (3, .ptr 1 0), (10, slR l), (11, .int .i64 l.length), (12, .int .i64 i)]
      [.cells [.str ⟨#[]⟩, .sl 0 (.raw []) .nil], .cells [.str (B s), .sl 2 (.map T.encR (0, []) acc) (.tok 2)], .tok] (q132_2 0 (PA (.agg (encM (s, R))))) := by
  unfold lim at hl1
  intro m
  induction m with
  | zero =>
    intro i acc hm ha h
    refine v132_3 _ _ _ _ _ _ _ (condD (fun hc => by omega) fun _ => pa ?_)
    rw [List.drop_eq_nil_of_le (by omega), List.append_nil] at h
    subst h
    exact Le.agg ⟨Le.refl _, leNone renR, trivial⟩
  | succ m ih =>
    intro i acc hm ha h
    unfold lim at ha
    have hx := hl2 _ (memD l (0, []) i (by omega))
    rw [dropD l (0, []) i (by omega)] at h
    refine v132_3 _ _ _ _ _ _ _ (condD (fun hc => needJ ⟨by omega, by omega⟩ ?_) fun hc => by omega)
    rw [Int.toNat_natCast]
    generalize l.getD i (0, []) = x at h hx ⊢
    refine ASpec.call (cloneR_spec x hx _) (Les.refl _) ⟨x, rfl, rfl, ⟨rfl, rfl⟩, needJ (by omega) ?_⟩
    refine AWP.re (ReSt.leCell (id := 1) (cs' := [.str (B s), .sl 2 (.map T.encR (0, []) (acc ++ [x])) (.tok 4)]) rfl ⟨Le.refl _, leAppE (Les.refl _), trivial⟩) ?_
    rw [succ64 (by omega)]
    refine AWP.shape [0, 1, 4] [(2, .ptr 0 0), (3, .ptr 1 0), (10, slR l), (11, .int .i64 l.length), (12, .int .i64 (i + 1 : Nat))]
      [.cells [.str ⟨#[]⟩, .sl 0 (.raw []) .nil], .cells [.str (B s), .sl 2 (.map T.encR (0, []) (acc ++ [x])) (.tok 2)], .tok] ?_
      ⟨rfl, Le.refl _, rfl, Le.refl _, rfl, Le.refl _, rfl, Le.refl _, rfl, Le.refl _, trivial⟩ (ih (i + 1) _ (by omega) (by simp; unfold lim; omega) ?_)
    · refine ⟨by decide, rfl, by decide, fun i hi => by omega, fun i hi => .inl ?_⟩
      match i, hi with
      | 0, _ | 1, _ | 2, _ => rfl
    · rw [← h]; simp

theorem cloneM_spec (x : Mani) (hl : okM x) (H : List AObj) : ASpec Try.prog 132 [.agg (encM x)] H (fun r H' => r = .agg (encM x) ∧ H' = H) := by
  have k : ASpec Try.prog 132 [.agg (encM x)] [] (fun r H' => r = .agg (encM x) ∧ H' = []) := by
    refine ASpec.sel (s132 _ _ ?_)
    refine AWP.re (ReSt.tokCell (id := 2) (j := 1) (q' := .map T.encR (0, []) []) (sz' := 2) rfl rfl (.inl rfl) rfl (.inr rfl)) ?_
    refine AWP.shape [1, 2, 3] [(2, .ptr 0 0), (3, .ptr 1 0), (10, slR x.2), (11, .int .i64 x.2.length), (12, .int .i64 (0 : Nat))]
      [.cells [.str ⟨#[]⟩, .sl 0 (.raw []) .nil], .cells [.str (B x.1), .sl 2 (.map T.encR (0, []) []) (.tok 2)], .tok] ?_
      ⟨rfl, Le.refl _, rfl, Le.refl _, rfl, Le.refl _, rfl, Le.refl _, rfl, Le.refl _, trivial⟩ (cloneM3 hl.2.1 hl.2.2 x.2.length 0 [] (by omega) (by have := hl.2.1; simp; omega) rfl)
    refine ⟨by decide, rfl, by decide, fun i hi => by omega, fun i hi => .inl ?_⟩
    match i, hi with
    | 0, _ | 1, _ | 2, _ => rfl
  exact ASpec.pureH H k _ _ rfl rfl

/-! ### the index in its heap -/

theorem EK_ren (ρ : Nat → Nat) : Enc.ren ρ EK = EK := by
  have e1 : (fun a => AV.ren ρ (EK.enc a)) = EK.enc := by funext a; cases a <;> rfl
  have e2 : (fun (a : Known) (K : AV → Prop) => EK.spl a (fun v => K (AV.ren ρ v))) = EK.spl := by funext a K; cases a <;> rfl
  unfold Enc.ren
  cases hE : EK with
  | mk enc spl ok =>
    rw [hE] at e1 e2
    simp only at e1 e2 ⊢
    simp only [e1, e2]

theorem mp_ren (ρ : Nat → Nat) (es : Kn) : AObj.ren ρ (.mp (.typed EK es)) = .mp (.typed EK es) := by
  simp only [AObj.ren, MM.ren, EK_ren]

theorem liftX {f : FuncId} {args args' : List AV} {r0 r' : AV} {es es' : Kn} (H : List AObj) (q p : Nat) (hqp : q ≠ p) (hq : H[q]? = some (.mp (.typed EK es))) (hp : H[p]? = some (.cells [.map q]))
    (k : ASpec Try.prog f args (HX es) (fun r H' => r = r0 ∧ H' = HX es')) (ha : args.map (AV.ren (callR [q, p] H.length)) = args') (hr : AV.ren (callR [q, p] H.length) r0 = r') :
    ASpec Try.prog f args' H (fun r H' => r = r' ∧ H' = H.set q (.mp (.typed EK es'))) := by
  refine ASpec.subH [q, p] H _ k args' r' (by simpa using hqp) rfl ha hr (fun i hi => ?_) ?_
  · match i, hi with
    | 0, _ => show H[q]? = some (AObj.ren _ (.mp (.typed EK es))); rw [mp_ren]; try exact hq
    | 1, _ => exact hp
  · have e : (H.set q (.mp (.typed EK es')))[p]? = some (.cells [.map q]) := by rw [List.getElem?_set_ne hqp]; exact hp
    have h2 : graftH (callR [q, p] H.length) [q, p] H (HX es') = (H.set q (AObj.ren (callR [q, p] H.length) (.mp (.typed EK es')))).set p (AObj.ren (callR [q, p] H.length) (.cells [.map 0])) := by
      simp [graftH, grafted, HX]
    rw [h2, mp_ren]
    exact set_same e

/-- the heap of an index, and a result -/
abbrev PX (es : Kn) (r0 : AV) : AV → List AObj → Prop := fun r H' => ∃ l H2 r2, Sel 2 l H' H2 ∧ Le r (AV.ren (selR l H'.length) r2) ∧ (r2 = r0 ∧ H2 = HX es)
theorem selX (es : Kn) (q : List AObj) : Sel 2 [0, 1] (HX es ++ q) (HX es) := by
  refine ⟨by decide, rfl, by decide, fun i hi => ?_, fun i hi => .inl ?_⟩
  · match i, hi with
    | 0, _ | 1, _ => rfl
  · match i, hi with
    | 0, _ => show some _ = some (AObj.ren _ (.mp (.typed EK es))); rw [mp_ren]
    | 1, _ => rfl
theorem px {es : Kn} {r r0 : AV} (q : List AObj) (h : Le r (AV.ren (selR [0, 1] (HX es ++ q).length) r0)) : PX es r0 r (HX es ++ q) := ⟨_, _, _, selX es q, h, rfl, rfl⟩

theorem new_spec (H : List AObj) : ASpec Try.prog 73 [] H (fun r H' => r = .ptr (H.length + 1) 0 ∧ H' = H ++ [.mp (.typed EK []), .cells [.map H.length]]) := by
  have k : ASpec Try.prog 73 [] [] (fun r H' => r = .ptr 1 0 ∧ H' = HX []) :=
    ASpec.outMap (s73 _ ⟨0, .nil, .typed EK [], rfl, mle_nil, rfl, rfl⟩)
  refine (ASpec.subH [] H (H ++ [.mp (.typed EK []), .cells [.map H.length]]) k [] (.ptr (H.length + 1) 0) (by simp) rfl rfl (by simp [AV.ren, callR]) (fun i hi => by cases hi) ?_)
  simp [graftH, grafted, HX, mp_ren]
  simp [AObj.ren, renL, AV.ren, callR]

def hasI (es : Kn) (k : List UInt8) : Bool := (findM es (B k)).isSome
def getM (es : Kn) (k : List UInt8) : Mani × Bool := match findM es (B k) with
  | some (some m) => (m, true)
  | _ => ((k, []), false)
def readK (k bs : List UInt8) : Known := if (readM bs).2 ≠ 0 ∨ (readM bs).1.1 ≠ k then none else some (readM bs).1
def putI (es : Kn) (k bs : List UInt8) : Int × Kn :=
  if fitM k = false ∨ 8192 < bs.length then (1, es) else if hasI es k = true then (6, es) else (0, setM es (B k) (readK k bs))
def OkX (es : Kn) : Prop := ∀ k m, findM es k = some (some m) → okM m

theorem optI {α : Type} {o : Option α} {A : α → Prop} {Z : Prop} (h1 : ∀ a, o = some a → A a) (h2 : o = none → Z) : optionP o A Z := by
  cases o with
  | none => exact h2 rfl
  | some a => exact h1 a rfl

theorem has0 (es : Kn) (k : List UInt8) : ASpec Try.prog 74 [.ptr 1 0, .str (B k)] (HX es) (fun r H' => r = .bool (hasI es k) ∧ H' = HX es) := by
  refine s74 _ _ _ (optI (fun a h => optI (fun m h2 => ⟨?_, rfl⟩) fun h2 => ⟨?_, rfl⟩) fun h => ⟨?_, rfl⟩) <;> (unfold hasI; rw [h]; rfl)
theorem has_spec (es : Kn) (k : List UInt8) (H : List AObj) (q p : Nat) (hqp : q ≠ p) (hq : H[q]? = some (.mp (.typed EK es))) (hp : H[p]? = some (.cells [.map q])) :
    ASpec Try.prog 74 [.ptr p 0, .str (B k)] H (fun r H' => r = .bool (hasI es k) ∧ H' = H) := by
  have := liftX H q p hqp hq hp (has0 es k) (args' := [.ptr p 0, .str (B k)]) rfl rfl
  rwa [set_same hq] at this

theorem len0 (es : Kn) : ASpec Try.prog 76 [.ptr 1 0] (HX es) (fun r H' => r = .int .i64 es.length ∧ H' = HX es) := s76 _ _ ⟨rfl, rfl⟩
theorem len_spec (es : Kn) (H : List AObj) (q p : Nat) (hqp : q ≠ p) (hq : H[q]? = some (.mp (.typed EK es))) (hp : H[p]? = some (.cells [.map q])) :
    ASpec Try.prog 76 [.ptr p 0] H (fun r H' => r = .int .i64 es.length ∧ H' = H) := by
  have := liftX H q p hqp hq hp (len0 es) (args' := [.ptr p 0]) rfl rfl
  rwa [set_same hq] at this

theorem good_spec (m : Mani) (H : List AObj) : ASpec Try.prog 208 [.agg (encM m)] H (fun r H' => r = .bool true ∧ H' = H) :=
  ASpec.pureH H (ASpec.sel (s208 _ _ (pb rfl))) _ _ rfl rfl
theorem bad_spec (H : List AObj) : ASpec Try.prog 212 [.agg []] H (fun r H' => r = .bool false ∧ H' = H) :=
  ASpec.pureH H (ASpec.sel (s212 _ (pb rfl))) _ _ rfl rfl

theorem get0 (es : Kn) (k : List UInt8) (hes : OkX es) : ASpec Try.prog 75 [.ptr 1 0, .str (B k)] (HX es) (fun r H' => r = .tup [.agg (encM (getM es k).1), .bool (getM es k).2] ∧ H' = HX es) := by
  have none : ∀ q : List AObj, getM es k = ((k, []), false) → PX es (.tup [.agg (encM (getM es k).1), .bool (getM es k).2]) (.tup [.agg [.str (B k), .sl 0 (.raw []) .nil], .bool false]) (HX es ++ q) := by
    intro q h
    rw [h]
    exact px q (Le.tup ⟨Le.agg ⟨Le.refl _, Le.sl (s' := Seq.ren _ (.map T.encR (0, []) [])) rfl (.inr ⟨rfl, fun _ h => by cases h⟩) (.inr rfl), trivial⟩, Le.refl _, trivial⟩)
  refine ASpec.sel (s75 _ _ _ (ASpec.call (has_spec es k _ 0 1 (by omega) rfl rfl) (Les.refl _) ⟨_, rfl, rfl, condBn (fun h => ?_) fun h => ?_⟩))
  · refine none [_, _] ?_
    unfold hasI at h
    unfold getM
    cases hf : findM es (B k) with
    | none => rfl
    | some a => rw [hf] at h; cases h
  · refine optI (fun a ha => optI (fun m hm => ?_) fun hm => ?_) fun hn => ?_
    · subst hm
      refine ASpec.call (good_spec m _) (Les.refl _) ⟨(), rfl, rfl, optI (fun a' ha' => optI (fun m' hm' => ?_) fun hm' => ?_) fun hn => ?_⟩
      · rw [ha] at ha'; cases ha'; cases hm'
        refine ASpec.call (cloneM_spec m (hes _ _ ha) _) (Les.refl _) ⟨m, rfl, rfl, ?_⟩
        have e : getM es k = (m, true) := by unfold getM; rw [ha]
        rw [e]
        exact px [_, _, _] (Le.refl _)
      · rw [ha] at ha'; cases ha'; cases hm'
      · rw [ha] at hn; cases hn
    · subst hm
      refine ASpec.call (bad_spec _) (Les.refl _) ⟨(), rfl, rfl, none [_, _] ?_⟩
      unfold getM; rw [ha]
    · unfold hasI at h; rw [hn] at h; cases h
theorem get_spec (es : Kn) (k : List UInt8) (hes : OkX es) (H : List AObj) (q p : Nat) (hqp : q ≠ p) (hq : H[q]? = some (.mp (.typed EK es))) (hp : H[p]? = some (.cells [.map q])) :
    ASpec Try.prog 75 [.ptr p 0, .str (B k)] H (fun r H' => r = .tup [.agg (encM (getM es k).1), .bool (getM es k).2] ∧ H' = H) := by
  have := liftX H q p hqp hq hp (get0 es k hes) (args' := [.ptr p 0, .str (B k)]) (r' := .tup [.agg (encM (getM es k).1), .bool (getM es k).2]) rfl rfl
  rwa [set_same hq] at this

theorem read_found {k bs : List UInt8} {m : Mani} (hb : bs.length ≤ 1000000) (h : readK k bs = some m) (H : List AObj) : ASpec Try.prog 133 [.str (B k), sl1 bs] H (fun r H' => r = .iface 186 (.agg (encM m)) ∧ H' = H) := by
  have hk : ASpec Try.prog 133 [.str (B k), sl1 bs] [] (fun r H' => r = .iface 186 (.agg (encM m)) ∧ H' = []) := by
    unfold readK at h
    split at h
    · cases h
    · rename_i hh
      cases h
      refine ASpec.sel (s133 _ _ _ (ASpec.call (W.read_spec bs hb _) (Les.refl _) ⟨readM bs, rfl, rfl, condNe (fun h => (hh (.inl h)).elim) fun _ => condSn (fun h => (hh (.inr h)).elim) fun _ => pa (Le.refl _)⟩))
  exact ASpec.pureH H hk _ _ rfl rfl
theorem read_broken {k bs : List UInt8} (hb : bs.length ≤ 1000000) (h : readK k bs = none) (H : List AObj) : ASpec Try.prog 133 [.str (B k), sl1 bs] H (fun r H' => r = .iface 225 (.agg []) ∧ H' = H) := by
  have hk : ASpec Try.prog 133 [.str (B k), sl1 bs] [] (fun r H' => r = .iface 225 (.agg []) ∧ H' = []) := by
    unfold readK at h
    split at h
    · rename_i hh
      refine ASpec.sel (s133 _ _ _ (ASpec.call (W.read_spec bs hb _) (Les.refl _) ⟨readM bs, rfl, rfl, condNe (fun h => pa (Le.refl _)) fun h1 => condSn (fun h => pa (Le.refl _)) fun h2 => ?_⟩))
      rcases hh with h | h
      · exact (h h1).elim
      · exact (h h2).elim
    · cases h
  exact ASpec.pureH H hk _ _ rfl rfl

theorem put0 (es : Kn) (k bs : List UInt8) (hk : k.length ≤ lim) : ASpec Try.prog 77 [.ptr 1 0, .str (B k), sl1 bs] (HX es) (fun r H' => r = .int .i64 (putI es k bs).1 ∧ H' = HX (putI es k bs).2) := by
  have same : ∀ e : Int, putI es k bs = (e, es) → (∃ (id : Nat) (m m' : MM), (HX es)[id]? = some (.mp m) ∧ MLe m.toList m'.toList ∧ (AV.int .i64 e = .int .i64 (putI es k bs).1 ∧ (HX es).set id (.mp m') = HX (putI es k bs).2)) := by
    intro e h
    rw [h]
    exact ⟨0, .typed EK es, .typed EK es, rfl, MLe.of_eq rfl, rfl, rfl⟩
  refine ASpec.outMap (s77 _ _ _ _ ?_)
  refine ASpec.call (fit_spec (l := k) (by unfold big; unfold lim at hk; omega) _) (Les.refl _) ⟨_, rfl, rfl, condBn (fun h1 => same 1 ?_) fun h1 => condD (fun h2 => same 1 ?_) fun h2 => ?_⟩
  · rw [putI, if_pos (.inl h1)]
  · rw [putI, if_pos (.inr (by omega))]
  refine ASpec.call (has_spec es k _ 0 1 (by omega) rfl rfl) (Les.refl _) ⟨_, rfl, rfl, condB (fun h3 => same 6 ?_) fun h3 => ?_⟩
  · rw [putI, if_neg (by rw [h1]; simp; omega), if_pos h3]
  have hp : putI es k bs = (0, setM es (B k) (readK k bs)) := by rw [putI, if_neg (by rw [h1]; simp; omega), if_neg (by rw [h3]; simp)]
  rw [hp]
  cases hr : readK k bs with
  | some m =>
    refine ASpec.call (read_found (by omega) hr _) (Les.refl _) (.inl ⟨m, rfl, rfl, ⟨rfl, rfl⟩, ?_⟩)
    exact ⟨0, _, .typed EK (setM es (B k) (some m)), rfl, mle_put rfl, rfl, rfl⟩
  | none =>
    refine ASpec.call (read_broken (by omega) hr _) (Les.refl _) (.inr ⟨(), rfl, rfl, ⟨rfl, rfl⟩, ?_⟩)
    exact ⟨0, _, .typed EK (setM es (B k) none), rfl, mle_put rfl, rfl, rfl⟩
theorem put_spec (es : Kn) (k bs : List UInt8) (hk : k.length ≤ lim) (H : List AObj) (q p : Nat) (hqp : q ≠ p) (hq : H[q]? = some (.mp (.typed EK es))) (hp : H[p]? = some (.cells [.map q])) :
    ASpec Try.prog 77 [.ptr p 0, .str (B k), sl1 bs] H (fun r H' => r = .int .i64 (putI es k bs).1 ∧ H' = H.set q (.mp (.typed EK (putI es k bs).2))) :=
  liftX H q p hqp hq hp (put0 es k bs hk) rfl rfl

/-! ### the plain law -/

theorem okX_nil : OkX [] := fun k m h => by cases h
theorem okX_put {es : Kn} {k bs : List UInt8} (h : OkX es) : OkX (putI es k bs).2 := by
  unfold putI
  split
  · exact h
  · split
    · exact h
    · intro k' m hm
      simp only [findM_set] at hm
      split at hm
      · have hm := Option.some.inj hm
        unfold readK at hm
        split at hm
        · cases hm
        · cases hm
          exact W.readM_ok bs
      · exact h k' m hm

theorem getM_ok {es : Kn} {k : List UInt8} (h : OkX es) (hk : k.length ≤ lim) : okM (getM es k).1 := by
  unfold getM
  split
  · rename_i m hm; exact h _ _ hm
  · exact ⟨hk, by simp, fun r hr => by simp at hr⟩

theorem setM_len (k : ByteArray) (v : Known) : ∀ es : Kn, findM es k = none → (setM es k v).length = es.length + 1
  | [], _ => rfl
  | p :: l, h => by
    simp only [findM] at h
    split at h
    · cases h
    · rename_i e
      simp only [setM, if_neg e, List.length_cons]
      rw [setM_len k v l h]

theorem find_none {es : Kn} {k : List UInt8} (h : hasI es k = false) : findM es (B k) = none := by
  unfold hasI at h
  cases hf : findM es (B k) with
  | none => rfl
  | some a => rw [hf] at h; cases h

theorem put_len (es : Kn) (k bs : List UInt8) : ((putI es k bs).1 = 0 ∧ (putI es k bs).2.length = es.length + 1 ∧ hasI es k = false ∧ hasI (putI es k bs).2 k = true) ∨ ((putI es k bs).1 ≠ 0 ∧ (putI es k bs).2 = es) := by
  unfold putI
  split
  · exact .inr ⟨by simp, rfl⟩
  · split
    · exact .inr ⟨by simp, rfl⟩
    · rename_i h
      have h : hasI es k = false := by simpa using h
      refine .inl ⟨rfl, setM_len _ _ _ (find_none h), h, ?_⟩
      simp [hasI, findM_set]

theorem put_fresh (es : Kn) (k bs : List UInt8) (h : hasI es k = false) : (putI [] k bs).1 = (putI es k bs).1 ∧ getM (putI [] k bs).2 k = getM (putI es k bs).2 k := by
  have h0 : hasI [] k = false := rfl
  have hn : findM es (B k) = none := find_none h
  unfold putI
  rw [h, h0]
  simp only [Bool.false_eq_true, if_false]
  split
  · refine ⟨rfl, ?_⟩
    simp only [getM, hn]; rfl
  · refine ⟨rfl, ?_⟩
    simp only [getM, findM_set, if_true]

theorem put_had (es : Kn) (k bs : List UInt8) (h : hasI es k = true) : (putI es k bs).1 ≠ 0 ∧ (putI es k bs).2 = es := by
  rcases put_len es k bs with ⟨_, _, h2, _⟩ | h2
  · rw [h] at h2; cases h2
  · exact h2

/-! ### the law -/

theorem leBt : Le (.sl 0 (.raw []) .nil) (sl1 []) := Le.sl rfl (.inr ⟨rfl, fun _ h => by cases h⟩) (.inr rfl)

theorem awake_spec (H : List AObj) : ASpec Try.prog 72 [] H (fun r H' => r = .bool true ∧ H' = H) := by
  have k : ASpec Try.prog 72 [] [] (fun r H' => r = .bool true ∧ H' = []) := by
    have e1 : putI [] [97] [] = (0, [(B [97], none)]) := by
      have h1 : fitM [97] = true := by decide +kernel
      have h2 : readK [97] [] = none := by
        have : (readM []).2 ≠ 0 := by decide +kernel
        rw [readK, if_pos (.inl this)]
      rw [putI, if_neg (by rw [h1]; simp), if_neg (by simp [hasI, findM]), h2]; rfl
    have e2 : getM [(B [97], none)] [97] = (([97], []), false) := by simp [getM, findM]
    have e3 : hasI [(B [97], none)] [97] = true := by simp [hasI, findM]
    have e4 : putI [(B [97], none)] [97] [] = (6, [(B [97], none)]) := by
      have h1 : fitM [97] = true := by decide +kernel
      rw [putI, if_neg (by rw [h1]; simp), if_pos e3]
    have ok : OkX [(B [97], none)] := by
      intro k m h
      simp only [findM] at h
      split at h <;> cases h
    refine ASpec.sel (s72 _ (ASpec.call (new_spec []) (Les.refl _) ⟨(), rfl, rfl, ?_⟩))
    refine ASpec.call (put_spec [] [97] [] (by unfold lim; simp) _ 0 1 (by omega) rfl rfl) ⟨Le.refl _, Le.refl _, leBt, trivial⟩ ⟨putI [] [97] [], rfl, rfl, ?_⟩
    rw [e1]
    refine ASpec.call (get_spec _ [97] ok _ 0 1 (by omega) rfl rfl) (Les.refl _) ⟨getM _ [97], rfl, rfl, ?_⟩
    rw [e2]
    refine condE (fun _ => ?_) fun h => (h rfl).elim
    refine condBn (fun _ => ?_) fun h => by cases h
    refine ASpec.call (has_spec _ [97] _ 0 1 (by omega) rfl rfl) (Les.refl _) ⟨_, rfl, rfl, ?_⟩
    rw [e3]
    refine condB (fun _ => ?_) fun h => by cases h
    refine ASpec.call (put_spec _ [97] [] (by unfold lim; simp) _ 0 1 (by omega) rfl rfl) ⟨Le.refl _, Le.refl _, leBt, trivial⟩ ⟨putI _ [97] [], rfl, rfl, ?_⟩
    rw [e4]
    exact pb rfl
  exact ASpec.pureH H k _ _ rfl rfl

noncomputable abbrev slEn (l : List Ent) : AV := .sl 2 (.map encEn ([], []) l) .none

def largeF : List Ent → Bool
  | [] => false
  | x :: r => if 200 < x.1.length ∨ 9000 < x.2.length then true else largeF r
def largeD (l : List Ent) : Bool := if 30 < l.length then true else largeF l

theorem large4 {l : List Ent} {c : Bool} (hl : l.length ≤ 30) : ∀ (m i : Nat), m + i = l.length → largeF (l.drop i) = c →
    AWP Try.prog 29 0 c71_4 [(0, slEn l), (3, .int .i64 i)] [] (q71_2 0 (PB c)) := by
  intro m
  induction m with
  | zero =>
    intro i hm h
    refine v71_4 _ _ _ _ (condD (fun hc => by omega) fun _ => pb ?_)
    rw [List.drop_eq_nil_of_le (by omega)] at h
    exact h
  | succ m ih =>
    intro i hm h
    have hin : (0 : Int) ≤ (i : Int) ∧ (i : Int) < (l.length : Int) := ⟨by omega, by omega⟩
    rw [dropD l ([], []) i (by omega)] at h
    simp only [largeF] at h
    refine v71_4 _ _ _ _ (condD (fun hc => needJ hin ?_) fun hc => by omega)
    rw [Int.toNat_natCast]
    generalize l.getD i ([], []) = x at h ⊢
    rw [B_size]
    refine condD (fun h1 => pb ?_) fun h1 => needJ hin (condD (fun h2 => pb ?_) fun h2 => ?_)
    · rw [if_pos (by omega)] at h; exact h
    · rw [if_pos (by omega)] at h; exact h
    · rw [if_neg (by omega)] at h
      rw [succ64 (by omega)]
      exact ih (i + 1) (by omega) h

theorem largeD_spec (l : List Ent) (H : List AObj) : ASpec Try.prog 71 [slEn l] H (fun r H' => r = .bool (largeD l) ∧ H' = H) := by
  have k : ASpec Try.prog 71 [slEn l] [] (fun r H' => r = .bool (largeD l) ∧ H' = []) := by
    refine ASpec.sel (s71 _ _ (condD (fun h => pb ?_) fun h => large4 (by omega) l.length 0 (by omega) ?_))
    · rw [largeD, if_pos (by omega)]
    · rw [largeD, if_neg (by omega)]; rfl
  exact ASpec.pureH H k _ _ rfl rfl

theorem largeF_ok : ∀ (l : List Ent), largeF l = false → ∀ x ∈ l, x.1.length ≤ 200 ∧ x.2.length ≤ 9000
  | [], _, n, hn => by simp at hn
  | x :: r, h, n, hn => by
    simp only [largeF] at h
    split at h
    · cases h
    · rcases List.mem_cons.1 hn with rfl | hn
      · omega
      · exact largeF_ok r h n hn

theorem largeD_ok {l : List Ent} (h : largeD l = false) : l.length ≤ 30 ∧ ∀ x ∈ l, x.1.length ≤ 200 ∧ x.2.length ≤ 9000 := by
  unfold largeD at h
  split at h
  · cases h
  · exact ⟨by omega, largeF_ok l h⟩

section
variable {l : List Ent}

theorem keepX {es : Kn} {q : List AObj} {s : Slots} {i : Int} (k : AWP Try.prog 149 0 c14_5 [(0, slEn l), (3, .ptr 1 0), (4, .int .i64 i)] (HX es) (q14_2 0 (PB true))) :
    AWP Try.prog 149 0 c14_5 [(0, slEn l), (3, .ptr 1 0), (4, .int .i64 i)] (HX es ++ q) (q14_2 0 (PB true)) :=
  AWP.shape [0, 1] [(0, slEn l), (3, .ptr 1 0), (4, .int .i64 i)] (HX es) (by
    obtain ⟨a, b, c, d, e⟩ := selX es q
    exact ⟨a, b, by decide, fun i hi => by omega, e⟩) ⟨rfl, Le.refl _, rfl, Le.refl _, rfl, Le.refl _, trivial⟩ k

theorem i14 {es : Kn} {i : Nat} {e : Int} {was is : Bool} {b : Mani} (hi : i < l.length) (hl : l.length ≤ 30) (hs : ∀ x ∈ l, x.1.length ≤ 200 ∧ x.2.length ≤ 9000) (hb : okM b)
    (h : was = false → (putI [] (l.getD i ([], [])).1 (l.getD i ([], [])).2).1 = e ∧ getM (putI [] (l.getD i ([], [])).1 (l.getD i ([], [])).2).2 (l.getD i ([], [])).1 = (b, is))
    (k : AWP Try.prog 149 0 c14_5 [(0, slEn l), (3, .ptr 1 0), (4, .int .i64 (i + 1 : Nat))] (HX es) (q14_2 0 (PB true))) :
    AWP Try.prog 149 0 c14_14 [(0, slEn l), (3, .ptr 1 0), (4, .int .i64 i), (5, .bool was), (9, .int .i64 e), (10, .ptr 2 0), (11, .bool is)] (HX es ++ [.cells (encM b)]) (q14_5 0 (PB true)) := by
  have hin : (0 : Int) ≤ (i : Int) ∧ (i : Int) < (l.length : Int) := ⟨by omega, by omega⟩
  have hx := hs _ (memD l ([], []) i hi)
  refine v14_14 _ _ _ _ _ _ _ _ _ (ASpec.call (new_spec _) (Les.refl _) ⟨(), rfl, rfl, needJ hin (needJ hin ?_)⟩)
  rw [Int.toNat_natCast]
  generalize l.getD i ([], []) = x at h hx ⊢
  refine ASpec.call (put_spec [] x.1 x.2 (by unfold lim; omega) _ 3 4 (by omega) rfl rfl) (Les.refl _) ⟨putI [] x.1 x.2, rfl, rfl, needJ hin ?_⟩
  refine ASpec.call (get_spec _ x.1 (okX_put okX_nil) _ 3 4 (by omega) rfl rfl) (Les.refl _) ⟨getM (putI [] x.1 x.2).2 x.1, rfl, rfl, ?_⟩
  rw [succ64 (by omega)]
  refine condBn (fun hw => ?_) fun _ => keepX (q := [_, _, _, _]) (s := []) k
  obtain ⟨h1, h2⟩ := h hw
  rw [h1, h2]
  refine condNe (fun h => (h rfl).elim) fun _ => ?_
  refine ASpec.call (W.sameM_spec b b hb _) (Les.refl _) ⟨true, by simp, rfl, condBn (fun h => by cases h) fun _ => condNq (fun h => (h rfl).elim) fun _ => ?_⟩
  exact keepX (q := [_, _, _, _]) (s := []) k

theorem i5 (hl : l.length ≤ 30) (hs : ∀ x ∈ l, x.1.length ≤ 200 ∧ x.2.length ≤ 9000) : ∀ (m i : Nat) (es : Kn), m + i = l.length → OkX es → es.length ≤ i →
    AWP Try.prog 149 0 c14_5 [(0, slEn l), (3, .ptr 1 0), (4, .int .i64 i)] (HX es) (q14_2 0 (PB true)) := by
  intro m
  induction m with
  | zero =>
    intro i es hm ho he
    exact v14_5 _ _ _ _ _ (condD (fun hc => by omega) fun _ => ASpec.call (awake_spec _) (Les.refl _) ⟨(), rfl, rfl, pb rfl⟩)
  | succ m ih =>
    intro i es hm ho he
    have hi : i < l.length := by omega
    have hin : (0 : Int) ≤ (i : Int) ∧ (i : Int) < (l.length : Int) := ⟨by omega, by omega⟩
    have hx := hs _ (memD l ([], []) i hi)
    have k14 := fun (es' : Kn) (e : Int) (was is : Bool) (b : Mani) hb h k => i14 (es := es') (i := i) (e := e) (was := was) (is := is) (b := b) hi hl hs hb h k
    refine v14_5 _ _ _ _ _ (condD (fun hc => needJ hin ?_) fun hc => by omega)
    rw [Int.toNat_natCast]
    generalize l.getD i ([], []) = x at hx k14 ⊢
    have hk : x.1.length ≤ lim := by unfold lim; omega
    have ho' : OkX (putI es x.1 x.2).2 := okX_put ho
    have hlen : (putI es x.1 x.2).2.length ≤ i + 1 := by
      rcases put_len es x.1 x.2 with ⟨_, h, _⟩ | ⟨_, h⟩
      · omega
      · rw [h]; omega
    refine ASpec.call (has_spec es x.1 _ 0 1 (by omega) rfl rfl) (Les.refl _) ⟨_, rfl, rfl, needJ hin ?_⟩
    refine ASpec.call (get_spec es x.1 ho _ 0 1 (by omega) rfl rfl) (Les.refl _) ⟨getM es x.1, rfl, rfl, ?_⟩
    refine ASpec.call (len_spec es _ 0 1 (by omega) rfl rfl) (Les.refl _) ⟨_, rfl, rfl, needJ hin (needJ hin ?_)⟩
    refine ASpec.call (put_spec es x.1 x.2 hk _ 0 1 (by omega) rfl rfl) (Les.refl _) ⟨putI es x.1 x.2, rfl, rfl, needJ hin ?_⟩
    refine ASpec.call (get_spec _ x.1 ho' _ 0 1 (by omega) rfl rfl) (Les.refl _) ⟨getM (putI es x.1 x.2).2 x.1, rfl, rfl, ?_⟩
    have fin : AWP Try.prog 149 0 c14_14 [(0, slEn l), (3, .ptr 1 0), (4, .int .i64 i), (5, .bool (hasI es x.1)), (9, .int .i64 (putI es x.1 x.2).1), (10, .ptr 3 0), (11, .bool (getM (putI es x.1 x.2).2 x.1).2)]
        (HX (putI es x.1 x.2).2 ++ [.cells (encM (getM es x.1).1), .cells (encM (getM (putI es x.1 x.2).2 x.1).1)]) (q14_5 0 (PB true)) := by
      refine AWP.shape [0, 1, 3] [(0, slEn l), (3, .ptr 1 0), (4, .int .i64 i), (5, .bool (hasI es x.1)), (9, .int .i64 (putI es x.1 x.2).1), (10, .ptr 2 0), (11, .bool (getM (putI es x.1 x.2).2 x.1).2)]
        (HX (putI es x.1 x.2).2 ++ [.cells (encM (getM (putI es x.1 x.2).2 x.1).1)]) ?_ ⟨rfl, Le.refl _, rfl, Le.refl _, rfl, Le.refl _, rfl, Le.refl _, rfl, Le.refl _, rfl, Le.refl _, rfl, Le.refl _, trivial⟩ ?_
      · refine ⟨by decide, rfl, by decide, fun i hi => by omega, fun i hi => .inl ?_⟩
        match i, hi with
        | 0, _ => show some _ = some (AObj.ren _ (.mp (.typed EK _))); rw [mp_ren]; try rfl
        | 1, _ => rfl
        | 2, _ => rfl
      · refine k14 (putI es x.1 x.2).2 _ _ _ (getM (putI es x.1 x.2).2 x.1).1 (getM_ok ho' hk) (fun hw => ?_) (ih (i + 1) _ (by omega) ho' hlen)
        obtain ⟨h1, h2⟩ := put_fresh es x.1 x.2 hw
        exact ⟨h1, h2⟩
    have tail : ∀ {A : Prop}, A → A := fun h => h
    have len1 : ∀ (H : List AObj), H[0]? = some (.mp (.typed EK (putI es x.1 x.2).2)) → H[1]? = some (.cells [.map 0]) → ASpec Try.prog 76 [.ptr 1 0] H (fun r H' => r = .int .i64 (putI es x.1 x.2).2.length ∧ H' = H) :=
      fun H h0 h1 => len_spec _ H 0 1 (by omega) h0 h1
    have hw : IntKind.wrap .i64 ((es.length : Int) + 1) = ((es.length + 1 : Nat) : Int) := succ64 (by omega)
    have heq : ((putI es x.1 x.2).1 == 0) = (((putI es x.1 x.2).2.length : Int) == IntKind.wrap .i64 ((es.length : Int) + 1)) := by
      rw [hw, Bool.eq_iff_iff, beq_iff_eq, beq_iff_eq]
      rcases put_len es x.1 x.2 with ⟨h1, h2, _⟩ | ⟨h1, h2⟩
      · rw [h2]; simp [h1]
      · rw [h2]
        constructor
        · intro h; exact (h1 h).elim
        · intro h; omega
    have hhas : (putI es x.1 x.2).1 = 0 → hasI (putI es x.1 x.2).2 x.1 = true := by
      intro h
      rcases put_len es x.1 x.2 with ⟨_, _, _, h2⟩ | ⟨h1, _⟩
      · exact h2
      · exact (h1 h).elim
    refine condB (fun hwas => ?_) fun hwas => ?_
    · obtain ⟨h1, h2⟩ := put_had es x.1 x.2 hwas
      refine condE (fun h => (h1 h).elim) fun _ => ?_
      refine ASpec.call (W.sameM_spec (getM es x.1).1 (getM (putI es x.1 x.2).2 x.1).1 (getM_ok ho hk) _) (Les.refl _) ⟨_, rfl, rfl, condBn (fun h => ?_) fun _ => condNq (fun h => ?_) fun _ => ?_⟩
      · rw [h2] at h; simp at h
      · rw [h2] at h; exact (h rfl).elim
      · refine ASpec.call (len1 _ rfl rfl) (Les.refl _) ⟨_, rfl, rfl, condNq (fun h => (h heq).elim) fun _ => condE (fun h => (h1 h).elim) fun _ => ?_⟩
        exact fin
    · refine ASpec.call (len1 _ rfl rfl) (Les.refl _) ⟨_, rfl, rfl, condNq (fun h => (h heq).elim) fun _ => condE (fun h => needJ hin ?_) fun _ => fin⟩
      refine ASpec.call (has_spec _ x.1 _ 0 1 (by omega) rfl rfl) (Les.refl _) ⟨_, rfl, rfl, condBn (fun h2 => ?_) fun _ => fin⟩
      rw [hhas h] at h2; cases h2

theorem indexStays_spec (l : List Ent) : ASpec Try.prog 14 [slEn l] [] (fun r H' => r = .bool true ∧ H' = []) := by
  refine W.endT (s14 _ _ (ASpec.call (largeD_spec l _) (Les.refl _) ⟨_, rfl, rfl, condB (fun _ => ASpec.call (awake_spec _) (Les.refl _) ⟨(), rfl, rfl, pb rfl⟩) fun h => ?_⟩))
  obtain ⟨h1, h2⟩ := largeD_ok h
  exact ASpec.call (new_spec []) (Les.refl _) ⟨(), rfl, rfl, i5 h1 h2 l.length 0 [] (by omega) okX_nil (by simp)⟩

end
end X
