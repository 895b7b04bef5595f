/- Soundness of operators, conversions and slicing. -/
import Derived.Test.YtifbfcljgagacaaDoorAbSound4
import Derived.Laws.StructEq
set_option linter.unusedVariables false
set_option linter.unusedSimpArgs false
namespace Go.Ab
section
variable {P : Program} {M : Mem} {loc : Locs} {H : List AObj} {w : World} {K : AV → List AObj → Prop}

theorem kindEq_eq {k k' : IntKind} (h : kindEq k k' = true) : k = k' := by
  cases k <;> cases k' <;> first | rfl | (simp [kindEq] at h)

theorem intOp_sound {op : BinOp} {t : TypeId} {k : IntKind} {a b : Int} (hs : isShift op = false) (h : intOp op k a b (fun v => K v H)) (hr : Rel M loc H w) :
    GoodV P M loc H w K ((binOp op t (.int k a) (.int k b)).run P w) := by
  cases op <;> simp only [intOp, isShift, reduceCtorEq] at h hs
  case quo =>
    obtain ⟨hb, hK⟩ := needP_elim h
    have : (binOp .quo t (.int k a) (.int k b)).run P w = .ok (.int k (k.wrap (a.tdiv b))) w := by simp [binOp, Op.intDiv, hb]
    rw [this]; exact GoodV.pure hr (.int _ _) hK
  case rem =>
    obtain ⟨hb, hK⟩ := needP_elim h
    have : (binOp .rem t (.int k a) (.int k b)).run P w = .ok (.int k (a.tmod b)) w := by simp [binOp, Op.intDiv, hb]
    rw [this]; exact GoodV.pure hr (.int _ _) hK
  case add =>
    have : (binOp .add t (.int k a) (.int k b)).run P w = .ok (.int k (k.wrap (a + b))) w := by simp [binOp, Op.intArith, Op.intBits, Op.intCmp]
    rw [this]; exact GoodV.pure hr (.int _ _) h
  case sub =>
    have : (binOp .sub t (.int k a) (.int k b)).run P w = .ok (.int k (k.wrap (a - b))) w := by simp [binOp, Op.intArith, Op.intBits, Op.intCmp]
    rw [this]; exact GoodV.pure hr (.int _ _) h
  case mul =>
    have : (binOp .mul t (.int k a) (.int k b)).run P w = .ok (.int k (k.wrap (a * b))) w := by simp [binOp, Op.intArith, Op.intBits, Op.intCmp]
    rw [this]; exact GoodV.pure hr (.int _ _) h
  case and =>
    have : (binOp .and t (.int k a) (.int k b)).run P w = .ok (.int k (k.wrap (BitVec.ofInt k.bits a &&& BitVec.ofInt k.bits b).toNat)) w := by simp [binOp, Op.intArith, Op.intBits, Op.intCmp]
    rw [this]; exact GoodV.pure hr (.int _ _) h
  case or =>
    have : (binOp .or t (.int k a) (.int k b)).run P w = .ok (.int k (k.wrap (BitVec.ofInt k.bits a ||| BitVec.ofInt k.bits b).toNat)) w := by simp [binOp, Op.intArith, Op.intBits, Op.intCmp]
    rw [this]; exact GoodV.pure hr (.int _ _) h
  case xor =>
    have : (binOp .xor t (.int k a) (.int k b)).run P w = .ok (.int k (k.wrap (BitVec.ofInt k.bits a ^^^ BitVec.ofInt k.bits b).toNat)) w := by simp [binOp, Op.intArith, Op.intBits, Op.intCmp]
    rw [this]; exact GoodV.pure hr (.int _ _) h
  case andNot =>
    have : (binOp .andNot t (.int k a) (.int k b)).run P w = .ok (.int k (k.wrap (BitVec.ofInt k.bits a &&& ~~~BitVec.ofInt k.bits b).toNat)) w := by simp [binOp, Op.intArith, Op.intBits, Op.intCmp]
    rw [this]; exact GoodV.pure hr (.int _ _) h
  case eql =>
    have : (binOp .eql t (.int k a) (.int k b)).run P w = .ok (.bool (a == b)) w := by simp [binOp, Op.intArith, Op.intBits, Op.intCmp]
    rw [this]; exact GoodV.pure hr (.bool _) h
  case neq =>
    have : (binOp .neq t (.int k a) (.int k b)).run P w = .ok (.bool (a != b)) w := by simp [binOp, Op.intArith, Op.intBits, Op.intCmp]
    rw [this]; exact GoodV.pure hr (.bool _) h
  case lss =>
    have : (binOp .lss t (.int k a) (.int k b)).run P w = .ok (.bool (decide (a < b))) w := by simp [binOp, Op.intArith, Op.intBits, Op.intCmp]
    rw [this]; exact GoodV.pure hr (.bool _) h
  case leq =>
    have : (binOp .leq t (.int k a) (.int k b)).run P w = .ok (.bool (decide (a ≤ b))) w := by simp [binOp, Op.intArith, Op.intBits, Op.intCmp]
    rw [this]; exact GoodV.pure hr (.bool _) h
  case gtr =>
    have : (binOp .gtr t (.int k a) (.int k b)).run P w = .ok (.bool (decide (a > b))) w := by simp [binOp, Op.intArith, Op.intBits, Op.intCmp]
    rw [this]; exact GoodV.pure hr (.bool _) h
  case geq =>
    have : (binOp .geq t (.int k a) (.int k b)).run P w = .ok (.bool (decide (a ≥ b))) w := by simp [binOp, Op.intArith, Op.intBits, Op.intCmp]
    rw [this]; exact GoodV.pure hr (.bool _) h

theorem shiftOp_sound {op : BinOp} {t : TypeId} {k k' : IntKind} {a b : Int} (h : shiftOp op k a b (fun v => K v H)) (hr : Rel M loc H w) :
    GoodV P M loc H w K ((binOp op t (.int k a) (.int k' b)).run P w) := by
  cases op <;> simp only [shiftOp] at h
  case shl =>
    obtain ⟨hb, hK⟩ := needP_elim h
    have : (binOp .shl t (.int k a) (.int k' b)).run P w = .ok (.int k (k.wrap (a * 2 ^ (min b.toNat k.bits)))) w := by simp [binOp, Op.shift, show ¬ b < 0 by omega]
    rw [this]; exact GoodV.pure hr (.int _ _) hK
  case shr =>
    obtain ⟨hb, hK⟩ := needP_elim h
    have : (binOp .shr t (.int k a) (.int k' b)).run P w = .ok (.int k (a.fdiv (2 ^ (min b.toNat k.bits)))) w := by simp [binOp, Op.shift, show ¬ b < 0 by omega]
    rw [this]; exact GoodV.pure hr (.int _ _) hK

theorem strOp_sound {op : BinOp} {t : TypeId} {x y : ByteArray} (h : strOp op x y (fun v => K v H)) (hr : Rel M loc H w) :
    GoodV P M loc H w K ((binOp op t (.string x) (.string y)).run P w) := by
  cases op <;> simp only [strOp] at h
  case add =>
    obtain ⟨hb, hK⟩ := needP_elim h
    have hm : IntKind.i64.max = 9223372036854775807 := rfl
    have : (binOp .add t (.string x) (.string y)).run P w = .ok (.string (x ++ y)) w := by
      simp only [binOp, Op.stringOp]
      rw [if_neg (by rw [hm]; omega)]; rfl
    rw [this]; exact GoodV.pure hr (.str _) hK
  all_goals exact GoodV.pure hr (.bool _) h

theorem nilSl_elim {s : Seq} {tip : Tip} {K : Bool → Prop} (h : nilSl s tip K) {b : Bool} (hb : b = true → s.toList = []) (hn : tip = .nil → b = true) : K b := by
  cases tip with
  | nil => rw [hn rfl]; exact h
  | none => exact h b hb
  | full => exact h b hb
  | tok id => exact h b hb

theorem eqIn_bool {t : TypeId} (hu : P.underlying t = some .bool) (d : Nat) (a b : Bool) : (Op.equalIn (d + 1) t (.bool a) (.bool b)).run P w = .ok (a == b) w := by
  simp [Op.equalIn, run_underlying' hu]
theorem eqIn_nn {t e : TypeId} (hu : P.underlying t = some (.pointer e)) (d : Nat) : (Op.equalIn (d + 1) t (.pointer none) (.pointer none)).run P w = .ok true w := by
  simp [Op.equalIn, run_underlying' hu]
theorem eqIn_np {t e : TypeId} (hu : P.underlying t = some (.pointer e)) (d : Nat) (a : Addr) : (Op.equalIn (d + 1) t (.pointer none) (.pointer (some a))).run P w = .ok false w := by
  simp [Op.equalIn, run_underlying' hu]
theorem eqIn_pn {t e : TypeId} (hu : P.underlying t = some (.pointer e)) (d : Nat) (a : Addr) : (Op.equalIn (d + 1) t (.pointer (some a)) (.pointer none)).run P w = .ok false w := by
  simp [Op.equalIn, run_underlying' hu]
theorem eqIn_sn {t e : TypeId} (hu : P.underlying t = some (.slice e)) (d : Nat) (l c : Nat) : (Op.equalIn (d + 1) t (.slice none l c) (.slice none 0 0)).run P w = .ok true w := by
  simp [Op.equalIn, run_underlying' hu]
theorem eqIn_ss {t e : TypeId} (hu : P.underlying t = some (.slice e)) (d : Nat) (a : Addr) (l c : Nat) : (Op.equalIn (d + 1) t (.slice (some a) l c) (.slice none 0 0)).run P w = .ok false w := by
  simp [Op.equalIn, run_underlying' hu]

theorem cellEq_sound {t : TypeId} {a b : AV} {va vb : Value} {e : Bool} (h : cellEq (P.underlying t) a b = some e) (ha : VRel M w loc a va) (hb : VRel M w loc b vb) (d : Nat) :
    (Op.equalIn (d + 1) t va vb).run P w = .ok e w := by
  unfold cellEq at h
  split at h
  · rename_i k x k' y hu
    cases ha; cases hb
    cases hk : kindEq k k' with
    | false => rw [hk] at h; cases h
    | true =>
      rw [hk] at h
      simp only [cond_true, Option.some.injEq] at h
      have hk : k = k' := by cases k <;> cases k' <;> first | rfl | cases hk
      subst hk; subst h
      simp [Op.equalIn, run_underlying' hu]
  · rename_i x y hu
    cases ha; cases hb
    simp only [Option.some.injEq] at h
    subst h
    simp [Op.equalIn, run_underlying' hu, beq_toListBytes]
  · rename_i x y hu
    cases ha; cases hb
    simp only [Option.some.injEq] at h
    subst h
    exact eqIn_bool hu d _ _
  · cases h

theorem aeqF_sound (d : Nat) {xs ys : List AV} {vx vy : Array Value} (hsx : vx.size = xs.length) (hx : ∀ i (h : i < xs.length), VRel M w loc xs[i] (vx[i]'(by omega))) (hsy : vy.size = ys.length) (hy : ∀ i (h : i < ys.length), VRel M w loc ys[i] (vy[i]'(by omega))) :
    ∀ (fs : List Field) (e : Bool), aeqF P fs xs ys = some e → (Op.eqFields (d + 1) vx vy fs).run P w = .ok e w
  | [], e, h => by
    simp only [aeqF, Option.some.injEq] at h
    subst h; simp [Op.eqFields]
  | f :: r, e, h => by
    simp only [aeqF] at h
    cases hn : f.name == "_" with
    | true => rw [hn] at h; cases h
    | false =>
      rw [hn] at h
      simp only [cond_false] at h
      split at h
      case h_2 => cases h
      case h_1 a b ha hb =>
      split at h
      case h_2 => cases h
      case h_1 e1 q he hq =>
      simp only [Option.some.injEq] at h
      obtain ⟨va, r1, k1⟩ := part_sound (P := P) (M := M) (w := w) (loc := loc) ha hsx hx
      obtain ⟨vb, r2, k2⟩ := part_sound (P := P) (M := M) (w := w) (loc := loc) hb hsy hy
      have hcell := cellEq_sound he k1 k2 d
      have hrest := aeqF_sound d hsx hx hsy hy r q hq
      have hn' : f.name ≠ "_" := by simpa using hn
      rw [Op.eqFields, if_pos hn']
      simp only [Sem.run_bind, r1, r2, hcell, Result.andThen_ok]
      subst h
      cases e1 with
      | true => simpa using hrest
      | false => simp

theorem arr3_spec {t e : TypeId} (h : arr3 P t = some e) : P.underlying t = some (.array 3 e) ∧ sizeT P e = some 1 ∧ aggT P e = some false := by
  unfold arr3 at h
  split at h
  case h_2 => cases h
  case h_1 e' hu =>
  split at h
  case h_2 => cases h
  case h_1 k h1 h2 h3 =>
  cases h
  exact ⟨hu, h2, h3⟩

theorem eq3_sound {t e : TypeId} (h3 : arr3 P t = some e) {xs ys : List AV} {q : Bool} (h : eq3 P e xs ys = some q) {vx vy : Array Value} (hsx : vx.size = xs.length) (hx : ∀ i (h : i < xs.length), VRel M w loc xs[i] (vx[i]'(by omega)))
    (hsy : vy.size = ys.length) (hy : ∀ i (h : i < ys.length), VRel M w loc ys[i] (vy[i]'(by omega))) (d : Nat) : (Op.equalIn (d + 1 + 1) t (.agg vx) (.agg vy)).run P w = .ok q w := by
  obtain ⟨hu, hs, ha⟩ := arr3_spec h3
  unfold eq3 at h
  split at h
  case h_2 => cases h
  case h_1 a0 a1 a2 b0 b1 b2 =>
  split at h
  case h_2 => cases h
  case h_1 x y z e0 e1 e2 =>
  cases h
  have c0 := cellEq_sound e0 (hx 0 (by simp)) (hy 0 (by simp)) d
  have c1 := cellEq_sound e1 (hx 1 (by simp)) (hy 1 (by simp)) d
  have c2 := cellEq_sound e2 (hx 2 (by simp)) (hy 2 (by simp)) d
  have p : ∀ (vs : Array Value) (i : Nat) (hi : i < vs.size), (part e vs i).run P w = .ok vs[i] w := by
    intro vs i hi
    simp only [part, Sem.run_bind, run_isAgg' ha, Result.andThen_ok, Bool.false_eq_true, if_false]
    rw [Array.getElem?_eq_getElem hi]; rfl
  have x0 := p vx 0 (by simp at hsx; omega)
  have x1 := p vx 1 (by simp at hsx; omega)
  have x2 := p vx 2 (by simp at hsx; omega)
  have y0 := p vy 0 (by simp at hsy; omega)
  have y1 := p vy 1 (by simp at hsy; omega)
  have y2 := p vy 2 (by simp at hsy; omega)
  rw [Op.equalIn]
  simp only [Sem.run_bind, run_underlying' hu, Result.andThen_ok, run_sizeOf' hs]
  rw [Std.Legacy.Range.forIn_eq_forIn_range']
  simp only [Std.Legacy.Range.size, show (3 - 0 + 1 - 1) / 1 = 3 from rfl, List.range', List.forIn_cons, List.forIn_nil, Sem.run_bind, show 0 * 1 = 0 from rfl, show (0 + 1) * 1 = 1 from rfl, show (0 + 1 + 1) * 1 = 2 from rfl, x0, x1, x2, y0, y1, y2, c0, c1, c2, Result.andThen_ok]
  cases x <;> cases y <;> cases z <;> simp [x0, x1, x2, y0, y1, y2, c0, c1, c2]

theorem aeq_sound {t : TypeId} {x y : AV} {vx vy : Value} {K : Bool → Prop} (h : aeq P t x y K) (hx : VRel M w loc x vx) (hy : VRel M w loc y vy) :
    ∃ b, (Op.equal t vx vy).run P w = .ok b w ∧ K b := by
  unfold aeq at h
  split at h
  · obtain ⟨hb, hK⟩ := chk_elim h
    cases hx; cases hy
    unfold boolish at hb
    split at hb
    · rename_i hu
      exact ⟨_, eqIn_bool hu 9999 _ _, hK⟩
    · cases hb
  all_goals try (
    obtain ⟨hb, hK⟩ := chk_elim h
    unfold ptrish at hb
    split at hb
    · rename_i hu
      cases hx
      cases hy
      exact ⟨_, by first | exact eqIn_nn hu 9999 | exact eqIn_np hu 9999 _ | exact eqIn_pn hu 9999 _, hK⟩
    · cases hb)
  · rename_i sz s tip sz' s'
    obtain ⟨hb, hK⟩ := chk_elim h
    unfold slish at hb
    split at hb
    · rename_i hu
      have hvy : vy = .slice none 0 0 := by
        cases hy with
        | slnil => rfl
        | sl _ _ _ _ _ _ _ _ _ _ _ hnil _ _ => exact (hnil rfl).elim
        | slz _ _ _ _ _ hnil _ => exact (hnil rfl).elim
      subst hvy
      cases hx with
      | slnil _ _ _ hs _ =>
        refine ⟨true, eqIn_sn hu 9999 _ _, nilSl_elim hK (fun _ => hs) (fun _ => rfl)⟩
      | slz _ _ _ a hs hnil _ =>
        refine ⟨false, eqIn_ss hu 9999 _ _ _, nilSl_elim hK (fun h => by cases h) (fun h => (hnil h).elim)⟩
      | sl _ _ _ b o cap vals hz h1 h2 hcap hnil hfull htok =>
        refine ⟨false, eqIn_ss hu 9999 _ _ _, nilSl_elim hK (fun h => by cases h) (fun h => (hnil h).elim)⟩
    · cases hb
  · rename_i xs ys
    unfold aeqAgg at h
    split at h
    case h_1 e' he3 =>
      obtain ⟨_, h⟩ := chk_elim h
      unfold boolP at h
      split at h
      case h_2 => exact h.elim
      case h_1 e he =>
      cases hx with
      | agg _ vx hsx hx' =>
      cases hy with
      | agg _ vy hsy hy' => exact ⟨e, eq3_sound he3 he hsx hx' hsy hy' 9998, h⟩
    case h_2 =>
    obtain ⟨hb, hq⟩ := chk_elim h
    rw [Bool.and_eq_true] at hb
    unfold boolP at hq
    split at hq
    case h_2 => exact hq.elim
    case h_1 e he =>
    cases hx with
    | agg _ vx hsx hx' =>
    cases hy with
    | agg _ vy hsy hy' =>
    refine ⟨e, ?_, hq⟩
    have hst := hb.1
    unfold structT' at hst
    split at hst
    case h_2 => cases hst
    case h_1 fs hu =>
    have hf : P.fieldsOf t = fs := by simp [Program.fieldsOf, hu]
    have hp : P.stoodInHeld t = false := by
      have := hb.2
      unfold plainStruct at this
      simp only [Bool.and_eq_true, Bool.not_eq_true'] at this
      exact this.1
    have hF : fieldsT P t = fs.toList := by simp [fieldsT, hu]
    rw [hF] at he
    show (Op.equalIn (9999 + 1) t (.agg vx) (.agg vy)).run P w = _
    rw [run_equalIn_struct (P := P) w 9999 t vx vy (by rw [hf]; exact hu) hp, hf]
    exact aeqF_sound 9998 hsx hx' hsy hy' _ _ he
  · exact h.elim

def noGuard : Value → Value → Prop
  | .nilIface, .nilIface => False
  | .agg _, .agg _ => False
  | _, _ => True

def notNum : Value → Value → Prop
  | .int _ _, .int _ _ => False
  | .string _, .string _ => False
  | .float _ _, .float _ _ => False
  | .complex _ _ _, .complex _ _ _ => False
  | _, _ => True

theorem eqGuard_agg {op : BinOp} {t : TypeId} {ox oy : Operand} {xs ys : Array Value} (h : P.eqGuardType P.depth t = false) :
    (eqGuard op t ox oy (.agg xs) (.agg ys)).run P w = .ok () w := by
  unfold eqGuard
  cases op <;> first | rfl | simp [h]

theorem eqGuard_ok {op : BinOp} {t : TypeId} {ox oy : Operand} {vx vy : Value} (h : noGuard vx vy) :
    (eqGuard op t ox oy vx vy).run P w = .ok () w := by
  unfold eqGuard
  cases op <;> first | rfl | (cases vx <;> cases vy <;> first | rfl | exact h.elim)

theorem abin_sound {op : BinOp} {t : TypeId} {x y : AV} {ox oy : Operand} {vx vy : Value} (h : abin P op t x y (fun v => K v H)) (hr : Rel M loc H w) (hx : VRel M w loc x vx) (hy : VRel M w loc y vy) :
    GoodV P M loc H w K ((do eqGuard op t ox oy vx vy; binOp op t vx vy : Sem Value).run P w) := by
  unfold abin at h
  split at h
  · cases hx; cases hy
    rw [Sem.run_bind, eqGuard_ok (by trivial), Result.andThen_ok]
    split at h
    · exact shiftOp_sound h hr
    · rename_i hs
      obtain ⟨hk, h'⟩ := chk_elim h
      have hk := kindEq_eq hk
      subst hk
      exact intOp_sound hs h' hr
  · cases hx; cases hy
    rw [Sem.run_bind, eqGuard_ok (by trivial), Result.andThen_ok]
    exact strOp_sound h hr
  · have hcase : (∀ ox oy, (eqGuard op t ox oy vx vy).run P w = .ok () w) ∧ notNum vx vy := by
      have haeq : ∃ K' : Bool → Prop, aeq P t x y K' := by
        split at h
        · exact ⟨_, h⟩
        · exact ⟨_, h⟩
        · exact h.elim
      obtain ⟨K', hK'⟩ := haeq
      unfold aeq at hK'
      split at hK' <;> first
        | (cases hx <;> cases hy <;> exact ⟨fun _ _ => eqGuard_ok trivial, trivial⟩)
        | (unfold aeqAgg at hK'
           split at hK'
           · obtain ⟨hb, _⟩ := chk_elim hK'
             cases hx; cases hy
             exact ⟨fun _ _ => eqGuard_agg (by simpa using hb), trivial⟩
           · obtain ⟨hb, _⟩ := chk_elim hK'
             rw [Bool.and_eq_true] at hb
             have := hb.2
             unfold plainStruct at this
             simp only [Bool.and_eq_true, Bool.not_eq_true'] at this
             cases hx; cases hy
             exact ⟨fun _ _ => eqGuard_agg this.2, trivial⟩)
        | exact hK'.elim
    split at h
    · obtain ⟨b, hrun, hK⟩ := aeq_sound h hx hy
      rw [Sem.run_bind, hcase.1, Result.andThen_ok]
      have : (binOp .eql t vx vy).run P w = .ok (.bool b) w := by
        have e : binOp .eql t vx vy = (do pure (.bool (← Op.equal t vx vy))) := by
          cases vx <;> cases vy <;> first | rfl | exact hcase.2.elim
        rw [e, Sem.run_bind, hrun]; rfl
      rw [this]; exact GoodV.pure hr (.bool _) hK
    · obtain ⟨b, hrun, hK⟩ := aeq_sound h hx hy
      rw [Sem.run_bind, hcase.1, Result.andThen_ok]
      have : (binOp .neq t vx vy).run P w = .ok (.bool (!b)) w := by
        have e : binOp .neq t vx vy = (do pure (.bool (!(← Op.equal t vx vy)))) := by
          cases vx <;> cases vy <;> first | rfl | exact hcase.2.elim
        rw [e, Sem.run_bind, hrun]; rfl
      rw [this]; exact GoodV.pure hr (.bool _) hK
    · exact h.elim

theorem aun_sound {op : UnOp} {x : AV} {v : Value} (h : aun op x (fun v => K v H)) (hr : Rel M loc H w) (hv : VRel M w loc x v) :
    GoodV P M loc H w K ((Op.unary op v).run P w) := by
  unfold aun at h
  split at h
  · cases hv; exact GoodV.pure hr (.int _ _) h
  · cases hv; exact GoodV.pure hr (.bool _) h
  · exact h.elim

end
end Go.Ab
