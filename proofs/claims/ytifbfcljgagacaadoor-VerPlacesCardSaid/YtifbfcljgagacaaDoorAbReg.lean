/- One operation with its guard; operations one behind the other. -/
import Derived.Test.YtifbfcljgagacaaDoorAbCode
import Derived.Orders
set_option linter.unusedVariables false
set_option linter.unusedSimpArgs false
namespace Go.Ab
section
variable {P : Program} {M : Mem} {loc : Locs} {H : List AObj} {w : World}

theorem aput_elim {N : Nat} {s : Slots} {d : Option Tmp} {v : AV} {K : Slots → Prop} (h : aput N s d v K) {a : Act} {val : Value} (hs : SRel M w loc s a.tmps) (hN : a.tmps.size = N) (hv : VRel M w loc v val) :
    ∃ s', K s' ∧ SRel M w loc s' (a.put d val).tmps ∧ (a.put d val).tmps.size = N ∧ (a.put d val).defers = a.defers := by
  cases d with
  | none => exact ⟨s, h, hs, hN, rfl⟩
  | some d =>
    obtain ⟨hb, hK⟩ := chk_elim h
    have hlt : d < N := by simpa [Nat.blt_eq] using hb
    exact ⟨_, hK, hs.put (hN ▸ hlt) hv, by simp [Act.put, hN], rfl⟩

theorem yielded_of {ops : Array Oper} {s : Slots} {tmps : Array Value} (hs : SRel M w loc s tmps) {j d : Nat} {b : Bool} (hd : (ops[j]?).bind (·.dst) = some d) (hg : get s d = .bool b) (hlt : d < tmps.size) :
    yielded ops tmps j = some b := by
  have := hs d
  rw [hg] at this
  unfold yielded
  rw [hd]
  have he : tmps[d]? = some (tmps.getD d undef) := by
    rw [Array.getElem?_eq_getElem hlt]; simp [Array.getD, hlt]
  simp only [Option.bind_some, he]
  generalize tmps.getD d undef = q at this
  cases this
  rfl

theorem vrel_undef : VRel M w loc (.tup []) undef := .tup [] #[] rfl (fun i h => by simp at h)

/-- what was passed by yields nothing -/
theorem yielded_none {ops : Array Oper} {s : Slots} {tmps : Array Value} (hs : SRel M w loc s tmps) {j d : Nat} (hd : (ops[j]?).bind (·.dst) = some d) (hg : get s d = .tup []) :
    yielded ops tmps j = none := by
  have := hs d
  rw [hg] at this
  unfold yielded
  rw [hd]
  simp only [Option.bind_some]
  cases he : tmps[d]? with
  | none => rfl
  | some q =>
    have e : tmps.getD d undef = q := by rw [Array.getD_eq_getD_getElem?, he]; rfl
    rw [e] at this
    cases this
    rfl

theorem srel_know {s : Slots} {tmps : Array Value} (hs : SRel M w loc s tmps) {d : Nat} {b : Bool} (hg : get s d = .bool b) : SRel M w loc ((d, .bool b) :: s) tmps := by
  intro i
  simp only [get]
  cases h : Nat.beq d i with
  | true => have := Nat.eq_of_beq_eq_true h; subst this; have h2 := hs d; rw [hg] at h2; exact h2
  | false => exact hs i

theorem aoper_sound {cfg : Cfg} {ops : Array Oper} {s : Slots} {i : Nat} {o : Oper} {K : Slots → List AObj → Prop} {a : Act} {next : Act → World → Prop} {Q : Exit → Act → World → Prop}
    (h : aoper P cfg ops s o H K) (ho : ops[i]? = some o) (ht : Tabs P M w) (hr : Rel M loc H w) (hs : SRel M w loc s a.tmps) (hN : a.tmps.size = cfg.N)
    (hnext : ∀ a' s' H' M' loc' w', K s' H' → Rel M' loc' H' w' → SRel M' w' loc' s' a'.tmps → a'.tmps.size = cfg.N → a'.defers = a.defers → Step M loc H w M' loc' H' w' → next a' w') :
    wpOp P ops Q i next a w := by
  have hrun : ∀ s, SRel M w loc s a.tmps → (aop P cfg.ret (match o.dst with | some d => cfg.mu d | none => false) s o.op H fun v H' => aput cfg.N s o.dst v fun s' => K s' H') → o.wp P a w next Q := by
    intro s hs h
    refine aop_sound h ht hr hs fun v av H' M' loc' w' hK r1 r2 r3 => ?_
    have hs' := hs.keeps (r3.keeps hr)
    obtain ⟨s', h1, h2, h3, h4⟩ := aput_elim hK hs' hN r2
    exact hnext _ s' H' M' loc' w' h1 r1 h2 h3 h4 r3
  have hskip : ∀ s, SRel M w loc s a.tmps → (aput cfg.N s o.dst (.tup []) fun s' => K s' H) → next (a.put o.dst undef) w := by
    intro s hs h
    obtain ⟨s', h1, h2, h3, h4⟩ := aput_elim h hs hN vrel_undef
    exact hnext _ s' H M loc w h1 hr h2 h3 h4 (Step.refl _ _ _ _)
  unfold wpOp
  rw [ho]
  simp only
  unfold aoper at h
  simp only at h
  cases hg : o.guard with
  | none =>
    rw [hg] at h
    have : Region.wanted o (yielded ops a.tmps) = true := by simp [Region.wanted, hg]
    rw [if_pos this]
    exact .inl (hrun s hs h)
  | some jw =>
    obtain ⟨j, want⟩ := jw
    rw [hg] at h
    simp only at h
    split at h
    case h_2 => exact h.elim
    case h_1 d hd =>
    split at h
    case h_3 => exact h.elim
    case h_2 hb =>
      have hw : Region.wanted o (yielded ops a.tmps) = false := by
        simp only [Region.wanted, hg, yielded_none hs hd hb]
        rfl
      rw [hw]
      exact hskip _ hs h
    case h_1 b hb =>
    obtain ⟨hlt, h⟩ := chk_elim h
    have hlt : d < cfg.N := by simpa [Nat.blt_eq] using hlt
    have hy := yielded_of hs hd hb (hN ▸ hlt)
    have hk := srel_know hs hb
    have hw : Region.wanted o (yielded ops a.tmps) = (b == want) := by
      simp only [Region.wanted, hg, hy]
      cases b <;> cases want <;> rfl
    rw [hw]
    cases b with
    | true =>
      simp only [condP] at h
      cases want with
      | true => exact .inl (hrun _ hk h)
      | false => exact hskip _ hk h
    | false =>
      simp only [condP] at h
      cases want with
      | true => exact hskip _ hk h
      | false => exact .inl (hrun _ hk h)

theorem aops_sound {cfg : Cfg} {ops : Array Oper} {Q : Exit → Act → World → Prop} : ∀ (l : List Nat) {M loc H w} (s : Slots) (a : Act) (K : Slots → List AObj → Prop), aops P cfg ops l s H K → Tabs P M w → Rel M loc H w → SRel M w loc s a.tmps → a.tmps.size = cfg.N →
    (∀ a' s' H' M' loc' w', K s' H' → Rel M' loc' H' w' → SRel M' w' loc' s' a'.tmps → a'.tmps.size = cfg.N → a'.defers = a.defers → Step M loc H w M' loc' H' w' → Q .normal a' w') → wpOps P ops Q l a w
  | [], M, loc, H, w, s, a, K, h, ht, hr, hs, hN, hq => hq a s H M loc w h hr hs hN rfl (Step.refl _ _ _ _)
  | i :: rest, M, loc, H, w, s, a, K, h, ht, hr, hs, hN, hq => by
    simp only [aops] at h
    rw [wpOps_cons]
    split at h
    case h_2 => exact h.elim
    case h_1 o ho =>
    refine aoper_sound h ho ht hr hs hN fun a' s' H' M' loc' w' hK r1 r2 r3 r4 r5 => ?_
    exact aops_sound rest s' a' K hK (ht.step hr r5) r1 r2 r3 fun a2 s2 H2 M2 loc2 w2 k1 k2 k3 k4 k5 k6 => hq a2 s2 H2 M2 loc2 w2 k1 k2 k3 k4 (k5.trans r4) (r5.trans k6)

end
end Go.Ab
