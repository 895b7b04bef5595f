/- Code: the abstract weakest precondition, and that it is sound. -/
import Derived.Test.YtifbfcljgagacaaDoorAbDraw2
set_option linter.unusedVariables false
set_option linter.unusedSimpArgs false
namespace Go.Ab

abbrev AQ := Exit → Slots → List AObj → Prop

def okExit : Exit → Prop
  | .panic _ | .outgrown => False
  | _ => True

def QC (N n : Nat) (M : Mem) (loc : Locs) (H : List AObj) (w : World) (Q : AQ) : Exit → Act → World → Prop := fun e a' w' =>
  ∃ s' H' M' loc', okExit e ∧ Q e s' H' ∧ Rel M' loc' H' w' ∧ SRel M' w' loc' s' a'.tmps ∧ a'.tmps.size = N ∧ a'.defers = [] ∧ StepN n M loc H w M' loc' H' w'

/-- what a piece of code does, whatever memory and frame stand to the abstract ones -/
def AWP (P : Program) (N n : Nat) (c : Code) (s : Slots) (H : List AObj) (Q : AQ) : Prop :=
  ∀ M loc w a, n ≤ H.length → Rel M loc H w → SRel M w loc s a.tmps → a.tmps.size = N → a.defers = [] → Tabs P M w → c.wp P (QC N n M loc H w Q) a w

theorem QC.mono {N n M loc H w Q Q'} (h : ∀ e s H, Q e s H → Q' e s H) {e a w'} (hq : QC N n M loc H w Q e a w') : QC N n M loc H w Q' e a w' := by
  obtain ⟨s', H', M', loc', h1, h2, rest⟩ := hq
  exact ⟨s', H', M', loc', h1, h _ _ _ h2, rest⟩

theorem AWP.mono {P N n c s H Q Q'} (h : AWP P N n c s H Q) (hq : ∀ e s H, Q e s H → Q' e s H) : AWP P N n c s H Q' :=
  fun M loc w a h0 h1 h2 h3 h4 ht => wp_mono (h M loc w a h0 h1 h2 h3 h4 ht) fun e a w => QC.mono hq

theorem AWP.sub {P N n c s s' H Q} (h : AWP P N n c s' H Q) (hs : ∀ d, get s' d = get s d ∨ get s' d = .bad) : AWP P N n c s H Q :=
  fun M loc w a h0 h1 h2 h3 h4 ht => h M loc w a h0 h1 (h2.sub hs) h3 h4 ht

theorem QC.step {N n m M loc H w M1 loc1 H1 w1 Q} (hst : StepN n M loc H w M1 loc1 H1 w1) (hnm : n ≤ m) {e a w'} (hq : QC N m M1 loc1 H1 w1 Q e a w') : QC N n M loc H w Q e a w' := by
  obtain ⟨s', H', M', loc', h1, h2, h3, h4, h5, h6, h7⟩ := hq
  exact ⟨s', H', M', loc', h1, h2, h3, h4, h5, h6, hst.trans h7 hnm⟩

theorem exitTo_len {id : Nat} : ∀ {k k' : List Item}, exitTo id k = some k' → k'.length ≤ k.length
  | [], _, h => by simp [exitTo] at h
  | x :: k, k', h => by
    cases x <;> simp only [exitTo] at h <;> first
      | (have := exitTo_len h; simp; omega)
      | (split at h
         · cases h; simp
         · have := exitTo_len h; simp; omega)

theorem findLabel_shape : ∀ {c : Code} {l : Nat} {r : Code}, findLabel c l = some r → r = .skip ∨ ∃ a b, r = .seq a b := by
  intro c l r h
  cases c with
  | seq a b =>
    simp only [findLabel] at h
    split at h
    · cases h; exact .inr ⟨_, _, rfl⟩
    · rename_i hn
      exact findLabel_shape h
  | label l' =>
    simp only [findLabel] at h
    split at h
    · cases h; exact .inl rfl
    · cases h
  | _ => simp [findLabel] at h

theorem gotoIn_shape {l : Nat} {x : Item} {k0 : List Item} : ∀ {k k' : List Item}, gotoIn l k = some k' → k.length ≤ k0.length → (∀ r, x = .code r → r ≠ .skip ∧ ∀ a b, r ≠ .seq a b) → k' ≠ x :: k0
  | [], _, h, _, _ => by simp [gotoIn] at h
  | y :: k, k', h, hl, hx => by
    have rec_ : gotoIn l k = some k' → k' ≠ x :: k0 := fun h => gotoIn_shape h (by simp at hl; omega) hx
    cases y <;> simp only [gotoIn] at h <;> first
      | exact rec_ h
      | (split at h
         · rename_i rest hr
           cases h
           intro e
           injection e with e1 e2
           rcases findLabel_shape hr with rfl | ⟨a, b, rfl⟩
           · exact (hx _ e1.symm).1 rfl
           · exact (hx _ e1.symm).2 a b rfl
         · exact rec_ h)

theorem steps_same {P : Program} {m1 m2 t : Machine} (hst : step P m1 = step P m2) (hne : t ≠ m1) (h : Steps P m1 t) : Steps P m2 t := by
  obtain ⟨n, hn⟩ := h
  cases n with
  | zero => simp [runN] at hn; exact (hne hn.symm).elim
  | succ n => exact ⟨n + 1, by simp only [runN] at hn ⊢; rw [← hst]; exact hn⟩

theorem lone_todo {fr fr' : Frame} {cs cs' : List Frame} {w w' : World} (h : lone fr cs w = lone fr' cs' w') : fr = fr' := by
  simp only [lone, Machine.mk.injEq] at h
  have := h.2.1
  simp at this
  exact this.1

theorem wp_loop_unfold {P : Program} {c : Code} {Q : Exit → Act → World → Prop} {a : Act} {w : World} (hno : ∀ a w, ¬ Q .outgrown a w) (h : c.wp P (Exit.then ((Code.loop c).wp P Q) Q) a w) : (Code.loop c).wp P Q a w := by
  intro b k cs
  obtain ⟨e, a₁, w₁, hq, harr⟩ := h b (.inLoop c :: k) cs
  cases e with
  | normal =>
    obtain ⟨e₂, a₂, w₂, hq₂, harr₂⟩ := hq b k cs
    refine ⟨e₂, a₂, w₂, hq₂, ?_⟩
    -- the loop's own first step is the same as the item's
    have hstep : step P (lone (b.at a₁ (.code (.loop c) :: k)) cs w₁) = step P (lone (b.at a₁ (.inLoop c :: k)) cs w₁) := by
      rw [step_loop, step_inLoop]
    have hs : Steps P (lone (b.at a (.code (.loop c) :: k)) cs w) (lone (b.at a₁ (.inLoop c :: k)) cs w₁) := Steps.head step_loop harr
    have hs2 : Steps P (lone (b.at a₁ (.inLoop c :: k)) cs w₁) (lone (b.at a₁ (.code c :: .inLoop c :: k)) cs w₁) := .one step_inLoop
    refine Arrives.of_steps hs ?_
    -- from the item as from the loop's code
    have key : ∀ {e a₂ w₂}, Q e a₂ w₂ → Arrives P (lone (b.at a₁ (.code (.loop c) :: k)) cs w₁) b k cs e a₂ w₂ → Arrives P (lone (b.at a₁ (.inLoop c :: k)) cs w₁) b k cs e a₂ w₂ := by
      intro e a₂ w₂ hQ hA
      cases e with
      | normal => exact steps_same hstep (fun h => by
          have := congrArg Frame.todo (lone_todo h)
          simp only [Frame.at] at this
          have := congrArg List.length this
          simp at this) hA
      | exit id => exact fun k' hk => steps_same hstep (fun h => by
          have := congrArg Frame.todo (lone_todo h)
          simp only [Frame.at] at this
          have h1 := congrArg List.length this
          have h2 := exitTo_len hk
          simp at h1; omega) (hA k' hk)
      | goto l => exact fun k' hk => steps_same hstep (fun h => by
          have := congrArg Frame.todo (lone_todo h)
          simp only [Frame.at] at this
          exact gotoIn_shape (k0 := k) hk (Nat.le_refl _) (fun r hr => by cases hr; exact ⟨by simp, by simp⟩) this) (hA k' hk)
      | ret =>
        obtain ⟨todo, hs⟩ := hA
        refine ⟨todo, steps_same hstep (fun h => ?_) hs⟩
        have := congrArg Frame.mode (lone_todo h)
        simp only [Frame.at] at this
        cases this
      | panic ch =>
        obtain ⟨todo, hs⟩ := hA
        refine ⟨todo, steps_same hstep (fun h => ?_) hs⟩
        have := congrArg Frame.mode (lone_todo h)
        simp only [Frame.at] at this
        cases this
      | outgrown => exact (hno _ _ hQ).elim
    exact key hq₂ harr₂
  | exit id => exact ⟨_, a₁, w₁, hq, .of_steps (.one step_loop) (.pass (x := .inLoop c) rfl (fun _ _ => .inl (by simp)) harr)⟩
  | goto l => exact ⟨_, a₁, w₁, hq, .of_steps (.one step_loop) (.pass (x := .inLoop c) rfl (fun _ _ => .inl (by simp)) harr)⟩
  | ret => exact ⟨_, a₁, w₁, hq, .of_steps (.one step_loop) (.pass (x := .inLoop c) rfl (fun _ _ => .inl (by simp)) harr)⟩
  | panic ch => exact ⟨_, a₁, w₁, hq, .of_steps (.one step_loop) (.pass (x := .inLoop c) rfl (fun _ _ => .inl (by simp)) harr)⟩
  | outgrown => exact ⟨_, a₁, w₁, hq, .of_steps (.one step_loop) (.pass (x := .inLoop c) rfl (fun _ _ => .inl (by simp)) harr)⟩

theorem AWP.loop {P : Program} {N n : Nat} {c : Code} {s : Slots} {H : List AObj} {Q : AQ}
    (h : AWP P N n c s H (fun e s' H' => match e with | .normal => AWP P N n (.loop c) s' H' Q | e => Q e s' H')) : AWP P N n (.loop c) s H Q := by
  intro M loc w a h0 h1 h2 h3 h4 ht
  refine wp_loop_unfold (fun a w hq => by obtain ⟨_, _, _, _, hk, _⟩ := hq; exact hk) ?_
  refine wp_mono (h M loc w a h0 h1 h2 h3 h4 ht) fun e a' w' hq => ?_
  obtain ⟨s', H', M', loc', hk, hQ, r1, r2, r3, r4, r5⟩ := hq
  cases e with
  | normal => exact wp_mono (hQ M' loc' w' a' r5.len r1 r2 r3 r4 (ht.step h1 r5)) fun e a w => QC.step r5 (Nat.le_refl _)
  | exit id => exact ⟨s', H', M', loc', hk, hQ, r1, r2, r3, r4, r5⟩
  | goto l => exact ⟨s', H', M', loc', hk, hQ, r1, r2, r3, r4, r5⟩
  | ret => exact ⟨s', H', M', loc', hk, hQ, r1, r2, r3, r4, r5⟩
  | panic c => exact hk.elim
  | outgrown => exact hk.elim

/-! ### by the code's form -/

def firstId : Code → Nat
  | .region id _ _ => id
  | .seq a _ => firstId a
  | .cond _ a _ => firstId a
  | .block _ b => firstId b
  | .loop b => firstId b
  | .scope b => firstId b
  | _ => 0

def restrict (s : Slots) : List Nat → Slots
  | [] => []
  | i :: r => (i, get s i) :: restrict s r

theorem get_restrict (s : Slots) (d : Nat) : ∀ l : List Nat, get (restrict s l) d = get s d ∨ get (restrict s l) d = .bad
  | [] => .inr rfl
  | i :: r => by
    simp only [restrict, get]
    cases h : Nat.beq i d with
    | true => left; have := Nat.eq_of_beq_eq_true h; subst this; rfl
    | false => exact get_restrict s d r

/-- what stands behind the first of two pieces -/
def seqQ (next : Slots → List AObj → Prop) (Q : AQ) : AQ := fun e s H => match e with
  | .normal => next s H
  | e => Q e s H

def blockQ (id : Nat) (Q : AQ) : AQ := fun e s H => match e with
  | .exit id' => bif Nat.beq id' id then Q .normal s H else Q (.exit id') s H
  | e => Q e s H

def awp (P : Program) (cfg : Cfg) (n : Nat) : Code → Slots → List AObj → AQ → Prop
  | .skip, s, H, Q => Q .normal s H
  | .region _ ops draw, s, H, Q => match draw with
    | false => aops P cfg ops (List.range ops.size) s H (Q .normal)
    | true => adraw P cfg ops s H (Q .normal)
  | .seq a b, s, H, Q => awp P cfg n a s H (seqQ (fun s' H' => match cfg.cut (firstId b) with
      | true => AWP P cfg.N n b (restrict s' (cfg.live (firstId b))) H' Q
      | false => awp P cfg n b s' H' Q) Q)
  | .cond c a b, s, H, Q => match ev s c with
    | .bool t => condP t (awp P cfg n a s H Q) (awp P cfg n b s H Q)
    | _ => False
  | .block id b, s, H, Q => awp P cfg n b s H (blockQ id Q)
  | .loop b, s, H, Q => AWP P cfg.N n (.loop b) (restrict s (cfg.live (firstId b))) H Q
  | .exit id, s, H, Q => Q (.exit id) s H
  | .label _, s, H, Q => Q .normal s H
  | .ret, s, H, Q => Q .ret s H
  | _, _, _, _ => False

section
variable {P : Program} {M : Mem} {loc : Locs} {H : List AObj} {w : World}

theorem awp_sound (cfg : Cfg) (n : Nat) : ∀ (c : Code) (s : Slots) (H : List AObj) (Q : AQ), awp P cfg n c s H Q → AWP P cfg.N n c s H Q := by
  intro c
  induction c with
  | skip => exact fun s H Q h M loc w a h0 h1 h2 h3 h4 ht => wp_skip ⟨s, H, M, loc, trivial, h, h1, h2, h3, h4, (Step.refl _ _ _ _).mono h0⟩
  | region id ops draw =>
    intro s H Q h M loc w a h0 h1 h2 h3 h4 ht
    cases draw with
    | false =>
      exact wp_region (aops_sound _ s a _ h ht h1 h2 h3 fun a' s' H' M' loc' w' k1 k2 k3 k4 k5 k6 => ⟨s', H', M', loc', trivial, k1, k2, k3, k4, k5.trans h4, k6.mono h0⟩)
    | true =>
      exact adraw_sound (cfg := cfg) h ht h1 h2 h3 fun a' s' H' M' loc' w' k1 k2 k3 k4 k5 k6 => ⟨s', H', M', loc', trivial, k1, k2, k3, k4, k5.trans h4, k6.mono h0⟩
  | seq x y ihx ihy =>
    intro s H Q h M loc w a h0 h1 h2 h3 h4 ht
    refine wp_seq (wp_mono (ihx s H _ h M loc w a h0 h1 h2 h3 h4 ht) fun e a' w' hq => ?_)
    obtain ⟨s', H', M', loc', hk, hQ, r1, r2, r3, r4, r5⟩ := hq
    cases e with
    | normal =>
      simp only [seqQ] at hQ
      have hy : AWP P cfg.N n y s' H' Q := by
        cases hc : cfg.cut (firstId y) with
        | true =>
          rw [hc] at hQ
          exact AWP.sub hQ (fun d => get_restrict s' d _)
        | false =>
          rw [hc] at hQ
          exact ihy s' H' Q hQ
      exact wp_mono (hy M' loc' w' a' r5.len r1 r2 r3 r4 (ht.step h1 r5)) fun e a w => QC.step r5 (Nat.le_refl _)
    | exit id => exact ⟨s', H', M', loc', hk, hQ, r1, r2, r3, r4, r5⟩
    | goto l => exact ⟨s', H', M', loc', hk, hQ, r1, r2, r3, r4, r5⟩
    | ret => exact ⟨s', H', M', loc', hk, hQ, r1, r2, r3, r4, r5⟩
    | panic c => exact hk.elim
    | outgrown => exact hk.elim
  | cond c x y ihx ihy =>
    intro s H Q h M loc w a h0 h1 h2 h3 h4 ht
    simp only [awp] at h
    split at h
    case h_2 => exact h.elim
    case h_1 t hbt =>
    have hv := vrel_ev h2 c
    rw [hbt] at hv
    generalize hq : a.eval c = q at hv
    cases hv
    cases t with
    | true => exact wp_cond_true hq (ihx s H Q h M loc w a h0 h1 h2 h3 h4 ht)
    | false => exact wp_cond_false hq (ihy s H Q h M loc w a h0 h1 h2 h3 h4 ht)
  | block id b ih =>
    intro s H Q h M loc w a h0 h1 h2 h3 h4 ht
    refine wp_block (wp_mono (ih s H _ h M loc w a h0 h1 h2 h3 h4 ht) fun e a' w' hq => ?_)
    obtain ⟨s', H', M', loc', hk, hQ, r1, r2, r3, r4, r5⟩ := hq
    cases e with
    | exit id' =>
      simp only [blockQ] at hQ
      simp only [Exit.inBlock]
      cases hb : Nat.beq id' id with
      | true =>
        rw [hb] at hQ
        rw [if_pos (Nat.eq_of_beq_eq_true hb)]
        exact ⟨s', H', M', loc', trivial, hQ, r1, r2, r3, r4, r5⟩
      | false =>
        rw [hb] at hQ
        rw [if_neg (fun e => by subst e; simp at hb)]
        exact ⟨s', H', M', loc', trivial, hQ, r1, r2, r3, r4, r5⟩
    | normal => exact ⟨s', H', M', loc', hk, hQ, r1, r2, r3, r4, r5⟩
    | goto l => exact ⟨s', H', M', loc', hk, hQ, r1, r2, r3, r4, r5⟩
    | ret => exact ⟨s', H', M', loc', hk, hQ, r1, r2, r3, r4, r5⟩
    | panic c => exact hk.elim
    | outgrown => exact hk.elim
  | loop b ih => exact fun s H Q h => AWP.sub h (fun d => get_restrict s d _)
  | exit id => exact fun s H Q h M loc w a h0 h1 h2 h3 h4 ht => wp_exit ⟨s, H, M, loc, trivial, h, h1, h2, h3, h4, (Step.refl _ _ _ _).mono h0⟩
  | label l => exact fun s H Q h M loc w a h0 h1 h2 h3 h4 ht => wp_label ⟨s, H, M, loc, trivial, h, h1, h2, h3, h4, (Step.refl _ _ _ _).mono h0⟩
  | ret => exact fun s H Q h M loc w a h0 h1 h2 h3 h4 ht => wp_ret ⟨s, H, M, loc, trivial, h, h1, h2, h3, h4, (Step.refl _ _ _ _).mono h0⟩
  | _ => exact fun s H Q h => h.elim

/-! ### functions -/

def aresult (P : Program) (s : Slots) (H : List AObj) : ResultVar → (AV → Prop) → Prop
  | .tmp t, K => K (get s t)
  | .cell a t, K => aload P t (get s a) H K

def aresults (P : Program) (s : Slots) (H : List AObj) : List ResultVar → (List AV → Prop) → Prop
  | [], K => K []
  | r :: rest, K => aresult P s H r fun v => aresults P s H rest fun vs => K (v :: vs)

def tupled : List AV → AV
  | [v] => v
  | vs => .tup vs

def slotsOf : Nat → List AV → Slots
  | _, [] => []
  | i, a :: r => (i, a) :: slotsOf (i + 1) r

/-- what stands at a function's end -/
def endQ (P : Program) (rs : List ResultVar) (Post : AV → List AObj → Prop) : AQ := fun e s H => match e with
  | .normal | .ret => aresults P s H rs fun vs => Post (tupled vs) H
  | _ => False

theorem get_slotsOf : ∀ (as : List AV) (k d : Nat), get (slotsOf k as) d = if k ≤ d then as.getD (d - k) .bad else .bad
  | [], k, d => by simp [slotsOf, get]
  | a :: r, k, d => by
    simp only [slotsOf, get]
    cases h : Nat.beq k d with
    | true => have := Nat.eq_of_beq_eq_true h; subst this; simp
    | false =>
      have hne : k ≠ d := fun e => by subst e; simp at h
      simp only [cond_false]
      rw [get_slotsOf r (k + 1) d]
      by_cases h1 : k ≤ d
      · rw [if_pos h1, if_pos (by omega), show d - k = (d - (k + 1)) + 1 by omega]; rfl
      · rw [if_neg h1, if_neg (by omega)]

def rvRead (tmps : Array Value) (r : ResultVar) : Sem Value := match r with
  | .tmp t => pure (tmps.getD t undef)
  | .cell a t => do loadVar t (← asAddr (tmps.getD a undef))

theorem aresults_run {s : Slots} {tmps : Array Value} (hs : SRel M w loc s tmps) (hr : Rel M loc H w) : ∀ (rs : List ResultVar) (K : List AV → Prop), aresults P s H rs K →
    ∃ vs avs, (rs.mapM (rvRead tmps)).run P w = .ok vs w ∧ K avs ∧ ∃ hl : vs.length = avs.length, ∀ i (h : i < avs.length), VRel M w loc avs[i] (vs[i]'(by omega))
  | [], K, h => ⟨[], [], rfl, h, rfl, fun i h => by simp at h⟩
  | r :: rest, K, h => by
    simp only [aresults] at h
    have hone : ∃ v av, (rvRead tmps r).run P w = .ok v w ∧ VRel M w loc av v ∧ aresults P s H rest fun vs => K (av :: vs) := by
      cases r with
      | tmp t => exact ⟨_, _, rfl, hs t, h⟩
      | cell a t =>
        obtain ⟨addr, x, av, he, hrun, hx, hK⟩ := aload_core h hr (hs a)
        refine ⟨x, av, ?_, hx, hK⟩
        simp only [rvRead, he, asAddr, pure_bind, hrun]
    obtain ⟨v, av, h1, h2, h3⟩ := hone
    obtain ⟨vs, avs, k1, k2, hl, k3⟩ := aresults_run hs hr rest _ h3
    refine ⟨v :: vs, av :: avs, ?_, k2, by simp [hl], fun i hi => ?_⟩
    · rw [List.mapM_cons]
      simp only [Sem.run_bind, h1, k1, Result.andThen_ok, Sem.run_pure]
    · cases i with
      | zero => exact h2
      | succ i => exact k3 i (by simpa using hi)

theorem results_run {fn : Func} {s : Slots} {tmps : Array Value} {Post : AV → Prop} (hs : SRel M w loc s tmps) (hr : Rel M loc H w) (h : aresults P s H fn.results.toList fun vs => Post (tupled vs)) :
    ∃ v av, (results fn tmps).run P w = .ok v w ∧ VRel M w loc av v ∧ Post av := by
  obtain ⟨vs, avs, h1, k2, hl, h3⟩ := aresults_run hs hr _ _ h
  have hm : (fn.results.mapM (rvRead tmps) : Sem (Array Value)).run P w = .ok vs.toArray w := by
    rw [Array.mapM_eq_mapM_toList]
    simp only [Sem.run_map, h1, Result.andThen_ok]
  have hres : (results fn tmps).run P w = .ok (if h : vs.toArray.size = 1 then vs.toArray[0] else .tuple vs.toArray) w := by
    have : results fn tmps = (do let vs ← fn.results.mapM (rvRead tmps); pure (if h : vs.size = 1 then vs[0] else .tuple vs)) := rfl
    rw [this]
    simp only [Sem.run_bind, hm, Result.andThen_ok, Sem.run_pure]
  refine ⟨_, tupled avs, hres, ?_, k2⟩
  clear hm hres h1 k2
  match avs, vs, hl, h3 with
  | [], [], _, _ => exact .tup [] #[] rfl (fun i h => by simp at h)
  | [a], [v], _, h3 => exact h3 0 (by simp)
  | a :: b :: r, v :: u :: q, hl, h3 =>
    have : ¬ ((v :: u :: q).toArray.size = 1) := by simp
    rw [dif_neg this]
    refine .tup _ _ (by simpa using hl) (fun i hi => ?_)
    have := h3 i hi
    simpa using this

/-- A FUNCTION's SPECIFICATION out of its code. -/
theorem ASpec.of_awp {f : FuncId} {fn : Func} {c : Code} {args : List AV} {Post : AV → List AObj → Prop} (N : Nat) (hf : P.funcs[f]? = some fn) (hb : fn.body = some c) (hN : fn.ntmps = N) (hargs : Nat.ble args.length N = true)
    (h : AWP P N H.length c (slotsOf 0 args) H (endQ P fn.results.toList Post)) : ASpec P f args H Post := by
  intro M loc w vs ht hr hv
  obtain ⟨hvs, hv⟩ := hv
  have hle := Nat.le_of_ble_eq_true hargs
  refine calls_of_wp hf hb ?_
  refine wp_mono (h M loc w _ (Nat.le_refl _) hr ?_ ?_ rfl ht) fun e a' w' hq => ?_
  · intro d
    rw [get_slotsOf]
    simp only [Nat.zero_le, if_true, Nat.sub_zero]
    by_cases hd : d < args.length
    · rw [getD_lt _ _ _ hd]
      have := hv d hd
      have e : (vs ++ Array.replicate (fn.ntmps - vs.size) undef).getD d undef = vs[d]'(by omega) := by
        simp only [Array.getD_eq_getD_getElem?]
        rw [Array.getElem?_append_left (by omega), Array.getElem?_eq_getElem (by omega)]; rfl
      simp only [e]; exact this
    · have : args.getD d .bad = .bad := by simp [List.getD, List.getElem?_eq_none (Nat.le_of_not_lt hd)]
      rw [this]; exact .bad _
  · simp; omega
  · obtain ⟨s', H', M', loc', hk, hQ, r1, r2, r3, r4, r5⟩ := hq
    cases e with
    | normal =>
      obtain ⟨v, av, h1, h2, h3⟩ := results_run (Post := fun r => Post r H') r2 r1 hQ
      exact ⟨r4, v, h1, v, av, H', M', loc', rfl, h3, r1, h2, r5⟩
    | ret =>
      obtain ⟨v, av, h1, h2, h3⟩ := results_run (Post := fun r => Post r H') r2 r1 hQ
      exact ⟨r4, v, h1, v, av, H', M', loc', rfl, h3, r1, h2, r5⟩
    | exit id => exact hQ.elim
    | goto l => exact hQ.elim
    | panic c => exact hk.elim
    | outgrown => exact hk.elim

end
end Go.Ab
