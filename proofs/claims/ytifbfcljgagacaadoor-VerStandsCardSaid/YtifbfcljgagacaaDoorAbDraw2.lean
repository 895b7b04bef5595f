/- A region that draws its order: the simulation. -/
import Derived.Test.YtifbfcljgagacaaDoorAbDraw
set_option linter.unusedVariables false
set_option linter.unusedSimpArgs false
namespace Go.Ab
section
variable {P : Program} {cfg : Cfg} {ops : Array Oper} {masks : List Nat} {c : List Nat} {K : Slots → List AObj → Prop} {M0 : Mem} {loc0 : Locs} {H0 : List AObj} {w0 : World} {D0 : List Deferred}

def Li (listed : Array Bool) (i : Nat) : Bool := listed.getD i false

structure Inv (P : Program) (cfg : Cfg) (ops : Array Oper) (masks : List Nat) (c : List Nat) (K : Slots → List AObj → Prop) (M0 : Mem) (loc0 : Locs) (H0 : List AObj) (w0 : World) (D0 : List Deferred)
    (listed : Array Bool) (c1 c2 : List Nat) (s : Slots) (H : List AObj) (M : Mem) (loc : Locs) (a : Act) (w : World) : Prop where
  split : c = c1 ++ c2
  sz : listed.size = ops.size
  unl : ∀ i ∈ c2, Li listed i = false
  lx : ∀ i ∈ c1, ∀ o, ops[i]? = some o → isX o.op = true → Li listed i = true
  cl : ∀ i j, Li listed i = true → befB masks j i = true → Li listed j = true
  log : ∃ log, (∀ i ∈ c1, ∀ o, ops[i]? = some o → isL o.op = true → i ∈ log) ∧ adrawL P cfg ops masks c2 log s H K
  rel : Rel M loc H w
  step : Step M0 loc0 H0 w0 M loc H w
  slots : ∀ d, (∃ i ∈ c1, Li listed i = false ∧ ∃ o, ops[i]? = some o ∧ o.dst = some d) ∨ VRel M w loc (get s d) (a.tmps.getD d undef)
  pend : ∀ i ∈ c1, Li listed i = false → Pend P cfg ops s H i
  bnd : ∀ i ∈ c1, Li listed i = false → ∀ o d, ops[i]? = some o → o.dst = some d → d < cfg.N
  size : a.tmps.size = cfg.N
  defers : a.defers = D0
  start : Rel M0 loc0 H0 w0 ∧ Tabs P M0 w0

/-- what is known of our order -/
structure Good (P : Program) (ops : Array Oper) (masks : List Nat) (c : List Nat) : Prop where
  order : orderOk P ops masks c = true
  all : ∀ i, i < ops.size → i ∈ c
  mask : ∀ i, i < ops.size → maskOk ops masks i = true

theorem Good.pair (h : Good P ops masks c) {l1 i l2 j oi oj} (e : c = l1 ++ i :: l2) (hj : j ∈ l2) (hi : ops[i]? = some oi) (ho : ops[j]? = some oj) : PairOk P ops masks i j oi oj := by
  obtain ⟨oi', h1, _, h2⟩ := orderOk_spec h.order l1 i l2 e
  rw [hi] at h1; cases h1
  obtain ⟨oj', h3, h4⟩ := h2 j hj
  rw [ho] at h3; cases h3
  exact h4

theorem Good.op (h : Good P ops masks c) {i} (hi : i ∈ c) : ∃ o, ops[i]? = some o ∧ (isX o.op = false → sureOp P o.op = true ∧ ∃ d, o.dst = some d ∧ d ∉ o.looksAt ops) := by
  obtain ⟨l1, l2, e⟩ := List.append_of_mem hi
  obtain ⟨o, h1, h2, _⟩ := orderOk_spec h.order l1 i l2 e
  exact ⟨o, h1, h2⟩

theorem Good.self (h : Good P ops masks c) {l1 i l2} (e : c = l1 ++ i :: l2) : i ∉ l2 ∧ i ∉ l1 := by
  constructor
  · intro hm
    obtain ⟨o, ho, _⟩ := h.op (show i ∈ c by rw [e]; simp)
    exact (h.pair e hm ho ho).ne rfl
  · intro hm
    obtain ⟨k1, k2, e2⟩ := List.append_of_mem hm
    obtain ⟨o, ho, _⟩ := h.op (show i ∈ c by rw [e]; simp)
    have e3 : c = k1 ++ i :: (k2 ++ i :: l2) := by rw [e, e2]; simp
    exact (h.pair e3 (by simp) ho ho).ne rfl

/-- two members: the one or the other is ahead -/
theorem two_of {c : List Nat} {i j : Nat} (hi : i ∈ c) (hj : j ∈ c) (hne : i ≠ j) : (∃ l1 l2, c = l1 ++ i :: l2 ∧ j ∈ l2) ∨ (∃ l1 l2, c = l1 ++ j :: l2 ∧ i ∈ l2) := by
  obtain ⟨l1, l2, e⟩ := List.append_of_mem hi
  rw [e] at hj
  rcases List.mem_append.1 hj with h | h
  · right
    obtain ⟨k1, k2, e2⟩ := List.append_of_mem h
    exact ⟨k1, k2 ++ i :: l2, by rw [e, e2]; simp, by simp⟩
  · left
    rcases List.mem_cons.1 h with h | h
    · exact (hne h.symm).elim
    · exact ⟨l1, l2, e, h⟩

/-- an operation that does not act is taken in ahead of its time -/
theorem Inv.absorb (hg : Good P ops masks c) {listed c1 j r s H M loc a w} (h : Inv P cfg ops masks c K M0 loc0 H0 w0 D0 listed c1 (j :: r) s H M loc a w) {o : Oper} (ho : ops[j]? = some o) (hx : isX o.op = false) :
    ∃ s', Inv P cfg ops masks c K M0 loc0 H0 w0 D0 listed (c1 ++ [j]) r s' H M loc a w := by
  obtain ⟨o', ho', hs⟩ := hg.op (show j ∈ c by rw [h.split]; simp)
  rw [ho] at ho'; cases ho'
  obtain ⟨hsure, d, hd, hself⟩ := hs hx
  obtain ⟨log, hlog, hk⟩ := h.log
  simp only [adrawL] at hk
  rw [ho] at hk
  simp only at hk
  rw [hx] at hk
  simp only at hk
  obtain ⟨s', hK, hget, hp, hlt⟩ := aoper_sure ho hx hsure hd hself hk
  refine ⟨s', ⟨by rw [h.split]; simp, h.sz, fun i hi => h.unl i (by simp [hi]), ?_, h.cl, ?_, h.rel, h.step, ?_, ?_, ?_, h.size, h.defers, h.start⟩⟩
  · intro i hi o2 ho2 hx2
    rcases List.mem_append.1 hi with hi | hi
    · exact h.lx i hi o2 ho2 hx2
    · simp only [List.mem_singleton] at hi
      subst hi
      rw [ho] at ho2; cases ho2; rw [hx] at hx2; cases hx2
  · refine ⟨_, ?_, hK⟩
    intro i hi o2 ho2 hl2
    rcases List.mem_append.1 hi with hi | hi
    · have := hlog i hi o2 ho2 hl2
      cases isL o.op <;> simp [this]
    · simp only [List.mem_singleton] at hi
      subst hi
      rw [ho] at ho2; cases ho2; rw [hl2]; simp
  · intro q
    by_cases e : q = d
    · subst e
      exact .inl ⟨j, by simp, h.unl j (by simp), o, ho, hd⟩
    · rcases h.slots q with ⟨i, hi, rest⟩ | hv
      · exact .inl ⟨i, by simp [hi], rest⟩
      · right; rw [hget q e]; exact hv
  · intro i hi hl
    rcases List.mem_append.1 hi with hi | hi
    · have hpi := h.pend i hi hl
      refine Pend_congr (fun oi hoi => ?_) hpi
      obtain ⟨k1, k2, e2⟩ := List.append_of_mem hi
      have e3 : c = k1 ++ i :: (k2 ++ j :: r) := by rw [h.split, e2]; simp
      have hpair := hg.pair e3 (show j ∈ k2 ++ j :: r by simp) hoi ho
      have hxi : isX oi.op = false := by
        cases hq : isX oi.op with
        | false => rfl
        | true => have := h.lx i hi oi hoi hq; rw [hl] at this; cases this
      refine ⟨fun q hq => hget q ?_, fun q hq => hget q ?_⟩
      · rintro rfl; exact hpair.war hx _ hd hq
      · rintro rfl; exact hpair.dst hxi _ hq hd
    · simp only [List.mem_singleton] at hi
      subst hi; exact hp
  · intro i hi hl o2 d2 ho2 hd2
    rcases List.mem_append.1 hi with hi | hi
    · exact h.bnd i hi hl o2 d2 ho2 hd2
    · simp only [List.mem_singleton] at hi
      subst hi
      rw [ho] at ho2; cases ho2; rw [hd] at hd2; cases hd2; exact hlt

/-- the slots, with those masked that the machine has not written yet -/
def maskS (s : Slots) (ds : List Nat) : Slots := ds.map (fun d => (d, AV.bad)) ++ s

theorem get_mask (s : Slots) (i : Nat) : ∀ ds : List Nat, get (maskS s ds) i = if i ∈ ds then .bad else get s i
  | [] => by simp [maskS]
  | d :: r => by
    have ih := get_mask s i r
    simp only [maskS, List.map_cons, List.cons_append, get]
    cases hb : Nat.beq d i with
    | true => have := Nat.eq_of_beq_eq_true hb; subst this; simp
    | false =>
      have hne : i ≠ d := fun e => by subst e; simp at hb
      simp only [cond_false]
      rw [show (List.map (fun d => (d, AV.bad)) r ++ s) = maskS s r from rfl, ih]
      simp [hne]

/-- the slots that are owed -/
def owed (ops : Array Oper) (listed : Array Bool) (c1 : List Nat) : List Nat :=
  c1.filterMap fun i => if Li listed i then none else (ops[i]?).bind (·.dst)

theorem mem_owed {listed : Array Bool} {c1 : List Nat} {d : Nat} : d ∈ owed ops listed c1 ↔ ∃ i ∈ c1, Li listed i = false ∧ ∃ o, ops[i]? = some o ∧ o.dst = some d := by
  unfold owed
  rw [List.mem_filterMap]
  constructor
  · rintro ⟨i, hi, h⟩
    cases hl : Li listed i with
    | true => rw [hl] at h; simp at h
    | false =>
      rw [hl] at h
      simp only [Bool.false_eq_true, if_false] at h
      cases ho : ops[i]? with
      | none => rw [ho] at h; simp at h
      | some o => rw [ho] at h; exact ⟨i, hi, hl, o, ho, by simpa using h⟩
  · rintro ⟨i, hi, hl, o, ho, hd⟩
    exact ⟨i, hi, by simp [hl, ho, hd]⟩

theorem Inv.srel {listed c1 c2 s H M loc a w} (h : Inv P cfg ops masks c K M0 loc0 H0 w0 D0 listed c1 c2 s H M loc a w) : SRel M w loc (maskS s (owed ops listed c1)) a.tmps := by
  intro d
  rw [get_mask]
  split
  · exact .bad _
  · rename_i hn
    rcases h.slots d with ho | hv
    · exact (hn (mem_owed.2 ho)).elim
    · exact hv

/-- what an operation that is due looks at is not owed -/
theorem Inv.looks (hg : Good P ops masks c) {listed c1 c2 s H M loc a w} (h : Inv P cfg ops masks c K M0 loc0 H0 w0 D0 listed c1 c2 s H M loc a w) {i : Nat} {o : Oper} (hi : i ∈ c) (ho : ops[i]? = some o)
    (hready : ∀ j, befB masks j i = true → Li listed j = true) (hself : isX o.op = false → ∀ d, o.dst = some d → d ∉ o.looksAt ops) (hahead : i ∈ c1 ∨ ∃ r, c2 = i :: r) :
    ∀ d ∈ o.looksAt ops, d ∉ owed ops listed c1 := by
  intro d hd hm
  obtain ⟨j, hj, hlj, oj, hoj, hdj⟩ := mem_owed.1 hm
  have hjx : isX oj.op = false := by
    cases hq : isX oj.op with
    | false => rfl
    | true => have := h.lx j hj oj hoj hq; rw [hlj] at this; cases this
  by_cases e : i = j
  · subst e
    rw [ho] at hoj; cases hoj
    exact hself hjx d hdj hd
  · have hjc : j ∈ c := by rw [h.split]; simp [hj]
    rcases two_of hi hjc e with ⟨l1, l2, e1, hm2⟩ | ⟨l1, l2, e1, hm2⟩
    · -- i ahead of j
      have hp := hg.pair e1 hm2 ho hoj
      exact hp.war hjx d hdj hd
    · have hp := hg.pair e1 hm2 hoj ho
      rcases hp.apart with hap | hb
      · exact (Oper.apart_spec hap).1 d hdj hd
      · have := hready j hb; rw [hlj] at this; cases this

theorem Li_set {listed : Array Bool} {i j : Nat} (hi : i < listed.size) : Li (listed.setIfInBounds i true) j = if j = i then true else Li listed j := by
  unfold Li
  simp only [Array.getD_eq_getD_getElem?, Array.getElem?_setIfInBounds]
  by_cases e : i = j
  · subst e; simp [hi]
  · rw [if_neg e, if_neg (fun x => e x.symm)]

theorem ev_mask {s : Slots} {ds : List Nat} {o : Oper} (h : ∀ d ∈ o.looksAt ops, d ∉ ds) : ∀ x ∈ o.op.operands, ev s x = ev (maskS s ds) x := by
  intro x hx
  cases x with
  | tmp t =>
    simp only [ev]
    rw [get_mask, if_neg]
    refine h t ?_
    simp only [Oper.looksAt, List.mem_append, List.mem_filterMap]
    exact .inl ⟨.tmp t, by simpa using hx, rfl⟩
  | _ => rfl

theorem guard_slot {o : Oper} {g gd : Nat} {want : Bool} (hg : o.guard = some (g, want)) (hgd : (ops[g]?).bind (·.dst) = some gd) : gd ∈ o.looksAt ops := by
  simp only [Oper.looksAt, List.mem_append]
  right; rw [hg]; simp [hgd]

/-- the closure, when an operation that is due is done -/
theorem Inv.cl' {listed : Array Bool} {i : Nat} (hi : i < listed.size) (hcl : ∀ i j, Li listed i = true → befB masks j i = true → Li listed j = true) (hready : ∀ j, befB masks j i = true → Li listed j = true) :
    ∀ k j, Li (listed.setIfInBounds i true) k = true → befB masks j k = true → Li (listed.setIfInBounds i true) j = true := by
  intro k j hk hb
  rw [Li_set hi] at hk ⊢
  split
  · rfl
  · by_cases e : k = i
    · subst e; exact hready j hb
    · rw [if_neg e] at hk; exact hcl k j hk hb

/-- AN OPERATION THAT WAS TAKEN IN AHEAD IS DONE. -/
theorem Inv.stepA (hg : Good P ops masks c) {listed c1 c2 s H M loc a w} (h : Inv P cfg ops masks c K M0 loc0 H0 w0 D0 listed c1 c2 s H M loc a w) {i : Nat} {o : Oper} (hi : i ∈ c1) (ho : ops[i]? = some o) (hl : Li listed i = false)
    (hlt : i < ops.size) (hready : ∀ j, befB masks j i = true → Li listed j = true) {next : Act → World → Prop} {Q : Exit → Act → World → Prop}
    (hnext : ∀ a' w', (∃ M' loc', Inv P cfg ops masks c K M0 loc0 H0 w0 D0 (listed.setIfInBounds i true) c1 c2 s H M' loc' a' w') → next a' w') : wpOp P ops Q i next a w := by
  have hic : i ∈ c := by rw [h.split]; simp [hi]
  have hx : isX o.op = false := by
    cases hq : isX o.op with
    | false => rfl
    | true => have := h.lx i hi o ho hq; rw [hl] at this; cases this
  obtain ⟨o', ho', hs⟩ := hg.op hic
  rw [ho] at ho'; cases ho'
  obtain ⟨hsure, d, hd, hself⟩ := hs hx
  have hlook := h.looks hg hic ho hready (fun _ d' hd' => by rw [hd] at hd'; cases hd'; exact hself) (.inl hi)
  have hsr := h.srel
  have hps := h.pend i hi hl
  have hsz : i < listed.size := by rw [h.sz]; exact hlt
  -- the frame behind it
  have hdlt : d < a.tmps.size := by rw [h.size]; exact h.bnd i hi hl o d ho hd
  have hdone : ∀ v w' M' loc', Rel M' loc' H w' → VRel M' w' loc' (get s d) v → Step M loc H w M' loc' H w' →
      Inv P cfg ops masks c K M0 loc0 H0 w0 D0 (listed.setIfInBounds i true) c1 c2 s H M' loc' (a.put o.dst v) w' := by
    intro v w' M' loc' r1 r2 r3
    refine ⟨h.split, by simp [h.sz], ?_, ?_, Inv.cl' hsz h.cl hready, h.log, r1, h.step.trans r3, ?_, ?_, ?_, by simp [Act.put, hd, h.size], by simp [Act.put, hd, h.defers], h.start⟩
    · intro j hj
      rw [Li_set hsz, if_neg]
      · exact h.unl j hj
      · rintro rfl
        obtain ⟨l1, l2, e1⟩ := List.append_of_mem hi
        exact (hg.self (l1 := l1) (i := j) (l2 := l2 ++ c2) (by rw [h.split, e1]; simp)).1 (by simp [hj])
    · intro j hj oj hoj hxj
      rw [Li_set hsz]
      split
      · rfl
      · exact h.lx j hj oj hoj hxj
    · intro q
      by_cases e : q = d
      · subst e
        right
        have : (a.put o.dst v).tmps.getD q undef = v := by simp [Act.put, hd, Array.getD, hdlt]
        rw [this]; exact r2
      · have hsame : (a.put o.dst v).tmps.getD q undef = a.tmps.getD q undef := by
          simp only [Act.put, hd, Array.getD_eq_getD_getElem?, Array.getElem?_setIfInBounds]
          rw [if_neg (fun x => e x.symm)]
        rw [hsame]
        rcases h.slots q with ⟨j, hj, hlj, oj, hoj, hdj⟩ | hv
        · left
          refine ⟨j, hj, ?_, oj, hoj, hdj⟩
          rw [Li_set hsz, if_neg]
          · exact hlj
          · rintro rfl; rw [ho] at hoj; cases hoj; rw [hd] at hdj; cases hdj; exact e rfl
        · exact .inr (hv.keeps (r3.keeps h.rel))
    · intro j hj hlj
      rw [Li_set hsz] at hlj
      split at hlj
      · cases hlj
      · exact h.pend j hj hlj
    · intro j hj hlj
      rw [Li_set hsz] at hlj
      split at hlj
      · cases hlj
      · exact h.bnd j hj hlj
  have hrunv : aop P cfg.ret (muOf cfg o) s o.op H (fun v H' => v = get s d ∧ H' = H) → o.wp P a w next Q := by
    intro hop
    refine aop_sound (aop_congr (ev_mask hlook) hop) (h.start.2.step h.start.1 h.step) h.rel hsr fun v av H' M' loc' w' hK r1 r2 r3 => ?_
    obtain ⟨rfl, rfl⟩ := hK
    exact hnext _ _ ⟨M', loc', hdone v w' M' loc' r1 r2 r3⟩
  have hskipv : get s d = .tup [] → next (a.put o.dst undef) w := by
    intro hb
    exact hnext _ _ ⟨M, loc, hdone undef w M loc h.rel (by rw [hb]; exact vrel_undef) (Step.refl _ _ _ _)⟩
  unfold wpOp
  rw [ho]
  simp only
  unfold Pend at hps
  rw [ho] at hps
  simp only [hd] at hps
  cases hgd : o.guard with
  | none =>
    rw [hgd] at hps
    have : Region.wanted o (yielded ops a.tmps) = true := by simp [Region.wanted, hgd]
    rw [if_pos this]
    exact .inl (hrunv hps)
  | some jw =>
    obtain ⟨g, want⟩ := jw
    rw [hgd] at hps
    simp only at hps
    split at hps
    case h_2 => exact hps.elim
    case h_1 gd hgdd =>
    split at hps
    case h_3 => exact hps.elim
    case h_2 hb =>
      have hmask : get (maskS s (owed ops listed c1)) gd = .tup [] := by
        rw [get_mask, if_neg (hlook gd (guard_slot hgd hgdd))]; exact hb
      have hw : Region.wanted o (yielded ops a.tmps) = false := by
        simp only [Region.wanted, hgd, yielded_none hsr hgdd hmask]
        rfl
      rw [hw]
      exact hskipv hps
    case h_1 b hb =>
    have hmask : get (maskS s (owed ops listed c1)) gd = .bool b := by
      rw [get_mask, if_neg (hlook gd (guard_slot hgd hgdd))]; exact hb
    have hglt : gd < a.tmps.size := by
      rcases Nat.lt_or_ge gd a.tmps.size with q | q
      · exact q
      · have := hsr gd
        rw [hmask] at this
        have e : a.tmps.getD gd undef = undef := by simp [Array.getD, Nat.not_lt.2 q]
        rw [e] at this
        unfold undef at this
        cases this
    have hy := yielded_of hsr hgdd hmask hglt
    have hw : Region.wanted o (yielded ops a.tmps) = (b == want) := by
      simp only [Region.wanted, hgd, hy]
      cases b <;> cases want <;> rfl
    rw [hw]
    cases b with
    | true =>
      cases want with
      | true => exact .inl (hrunv hps)
      | false => exact hskipv hps
    | false =>
      cases want with
      | true => exact hskipv hps
      | false => exact .inl (hrunv hps)

/-- AN OPERATION THAT ACTS IS DONE: it is the next one of our order. -/
theorem Inv.stepB (hg : Good P ops masks c) {listed c1 r s H M loc a w} {i : Nat} (h : Inv P cfg ops masks c K M0 loc0 H0 w0 D0 listed c1 (i :: r) s H M loc a w) {o : Oper} (ho : ops[i]? = some o) (hx : isX o.op = true)
    (hlt : i < ops.size) (hready : ∀ j, befB masks j i = true → Li listed j = true) {next : Act → World → Prop} {Q : Exit → Act → World → Prop}
    (hnext : ∀ a' w', (∃ s' H' M' loc', Inv P cfg ops masks c K M0 loc0 H0 w0 D0 (listed.setIfInBounds i true) (c1 ++ [i]) r s' H' M' loc' a' w') → next a' w') : wpOp P ops Q i next a w := by
  have hic : i ∈ c := by rw [h.split]; simp
  have hlook := h.looks hg hic ho hready (fun hx' => by rw [hx] at hx'; cases hx') (.inr ⟨r, rfl⟩)
  have hsr := h.srel
  have hsz : i < listed.size := by rw [h.sz]; exact hlt
  obtain ⟨log, hlog, hk⟩ := h.log
  simp only [adrawL] at hk
  rw [ho] at hk
  simp only at hk
  rw [hx] at hk
  simp only at hk
  -- what is so behind it
  have hdone : ∀ s1 s' v w' H' M' loc', (∀ q, get s1 q = get s q) → (o.dst = none ∧ s' = s1 ∨ ∃ d, o.dst = some d ∧ d < cfg.N ∧ ∃ av, s' = (d, av) :: s1 ∧ VRel M' w' loc' av v) → Rel M' loc' H' w' → Step M loc H w M' loc' H' w' →
      pendAll P cfg ops masks i s' H' log (adrawL P cfg ops masks r log s' H' K) →
      Inv P cfg ops masks c K M0 loc0 H0 w0 D0 (listed.setIfInBounds i true) (c1 ++ [i]) r s' H' M' loc' (a.put o.dst v) w' := by
    intro s1 s' v w' H' M' loc' hs1 hs' r1 r3 hp
    obtain ⟨hp1, hp2⟩ := pendAll_elim hp
    have hget : ∀ q, o.dst ≠ some q → get s' q = get s q := by
      intro q hq
      rcases hs' with ⟨_, rfl⟩ | ⟨d, hd, _, av, rfl, _⟩
      · exact hs1 q
      · simp only [get]
        cases hb : Nat.beq d q with
        | true => have := Nat.eq_of_beq_eq_true hb; subst this; exact (hq hd).elim
        | false => exact hs1 q
    have htm : ∀ q, o.dst ≠ some q → (a.put o.dst v).tmps.getD q undef = a.tmps.getD q undef := by
      intro q hq
      cases hd : o.dst with
      | none => rfl
      | some d =>
        simp only [Act.put, Array.getD_eq_getD_getElem?, Array.getElem?_setIfInBounds]
        rw [if_neg (fun e => by subst e; exact hq hd)]
    refine ⟨by rw [h.split]; simp, by simp [h.sz], ?_, ?_, Inv.cl' hsz h.cl hready, ⟨log, ?_, hp2⟩, r1, h.step.trans r3, ?_, ?_, ?_, ?_, ?_, h.start⟩
    · intro j hj
      rw [Li_set hsz, if_neg]
      · exact h.unl j (by simp [hj])
      · rintro rfl
        exact (hg.self (l1 := c1) (i := j) (l2 := r) h.split).1 hj
    · intro j hj oj hoj hxj
      rw [Li_set hsz]
      split
      · rfl
      · rename_i hne
        rcases List.mem_append.1 hj with hj | hj
        · exact h.lx j hj oj hoj hxj
        · simp only [List.mem_singleton] at hj; exact (hne hj).elim
    · intro j hj oj hoj hlj
      rcases List.mem_append.1 hj with hj | hj
      · exact hlog j hj oj hoj hlj
      · simp only [List.mem_singleton] at hj
        subst hj
        rw [ho] at hoj; cases hoj
        exfalso
        cases hop : o.op <;> simp [hop, isX, isL] at hx hlj
        split at hlj <;> simp_all
    · intro q
      by_cases hq : o.dst = some q
      · right
        rcases hs' with ⟨hn, _⟩ | ⟨d, hd, hdN, av, rfl, hv⟩
        · rw [hn] at hq; cases hq
        · rw [hd] at hq; cases hq
          have e1 : get ((q, av) :: s1) q = av := by simp [get]
          have e2 : (a.put o.dst v).tmps.getD q undef = v := by
            have : q < a.tmps.size := by rw [h.size]; exact hdN
            simp [Act.put, hd, Array.getD, this]
          rw [e1, e2]; exact hv
      · rw [hget q hq, htm q hq]
        rcases h.slots q with ⟨j, hj, hlj, oj, hoj, hdj⟩ | hv
        · left
          refine ⟨j, by simp [hj], ?_, oj, hoj, hdj⟩
          rw [Li_set hsz, if_neg]
          · exact hlj
          · rintro rfl; rw [ho] at hoj; cases hoj; exact hq hdj
        · exact .inr (hv.keeps (r3.keeps h.rel))
    · intro j hj hlj
      rw [Li_set hsz] at hlj
      split at hlj
      · cases hlj
      · rename_i hne
        rcases List.mem_append.1 hj with hj | hj
        · have hjb : befB masks j i = false := by
            cases hq : befB masks j i with
            | false => rfl
            | true => have := hready j hq; rw [hlj] at this; cases this
          obtain ⟨oj, hoj, _⟩ := hg.op (show j ∈ c by rw [h.split]; simp [hj])
          have hxj : isX oj.op = false := by
            cases hq : isX oj.op with
            | false => rfl
            | true => have := h.lx j hj oj hoj hq; rw [hlj] at this; cases this
          cases hlo : isL oj.op with
          | true => exact hp1 j (hlog j hj oj hoj hlo) hjb
          | false =>
            refine Pend_heap hoj hxj hlo (Pend_congr (fun oj' hoj' => ?_) (h.pend j hj hlj))
            rw [hoj] at hoj'; cases hoj'
            obtain ⟨k1, k2, e2⟩ := List.append_of_mem hj
            have e3 : c = k1 ++ j :: (k2 ++ i :: r) := by rw [h.split, e2]; simp
            have hpair := hg.pair e3 (show i ∈ k2 ++ i :: r by simp) hoj ho
            have hap : oj.apart ops o = true := by
              rcases hpair.apart with q | q
              · exact q
              · rw [hjb] at q; cases q
            have hsp := Oper.apart_spec hap
            exact ⟨fun q hq => hget q (fun e => hsp.2.2 q e hq), fun q hq => hget q (hsp.2.1 q hq)⟩
        · simp only [List.mem_singleton] at hj; exact (hne hj).elim
    · intro j hj hlj oj d hoj hdj
      rw [Li_set hsz] at hlj
      split at hlj
      · cases hlj
      · rename_i hne
        rcases List.mem_append.1 hj with hj | hj
        · exact h.bnd j hj hlj oj d hoj hdj
        · simp only [List.mem_singleton] at hj; exact (hne hj).elim
    · cases hd : o.dst <;> simp [Act.put, h.size]
    · cases hd : o.dst <;> simp [Act.put, h.defers]
  have hrunv : ∀ s1, (∀ q, get s1 q = get s q) → aop P cfg.ret (muOf cfg o) s1 o.op H (fun v H' => aput cfg.N s1 o.dst v fun s' => pendAll P cfg ops masks i s' H' log (adrawL P cfg ops masks r log s' H' K)) → o.wp P a w next Q := by
    intro s1 hs1 hop
    have he : ∀ x ∈ o.op.operands, ev s1 x = ev (maskS s (owed ops listed c1)) x := by
      intro x hx'
      rw [← ev_mask hlook x hx']
      cases x with
      | tmp t => exact hs1 t
      | _ => rfl
    refine aop_sound (aop_congr he hop) (h.start.2.step h.start.1 h.step) h.rel hsr fun v av H' M' loc' w' hK r1 r2 r3 => ?_
    refine hnext _ _ ?_
    cases hd : o.dst with
    | none =>
      rw [hd] at hK
      have := hdone s1 s1 v w' H' M' loc' hs1 (.inl ⟨hd, rfl⟩) r1 r3 hK
      rw [hd] at this
      exact ⟨s1, H', M', loc', this⟩
    | some d =>
      rw [hd] at hK
      obtain ⟨hb, hK⟩ := chk_elim hK
      have := hdone s1 _ v w' H' M' loc' hs1 (.inr ⟨d, hd, by simpa [Nat.blt_eq] using hb, av, rfl, r2⟩) r1 r3 hK
      rw [hd] at this
      exact ⟨_, H', M', loc', this⟩
  have hskipv : ∀ s1, (∀ q, get s1 q = get s q) → aput cfg.N s1 o.dst (.tup []) (fun s' => pendAll P cfg ops masks i s' H log (adrawL P cfg ops masks r log s' H K)) → next (a.put o.dst undef) w := by
    intro s1 hs1 hK
    refine hnext _ _ ?_
    cases hd : o.dst with
    | none =>
      rw [hd] at hK
      have := hdone s1 s1 undef w H M loc hs1 (.inl ⟨hd, rfl⟩) h.rel (Step.refl _ _ _ _) hK
      rw [hd] at this
      exact ⟨s1, H, M, loc, this⟩
    | some d =>
      rw [hd] at hK
      obtain ⟨hb, hK⟩ := chk_elim hK
      have := hdone s1 _ undef w H M loc hs1 (.inr ⟨d, hd, by simpa [Nat.blt_eq] using hb, .tup [], rfl, vrel_undef⟩) h.rel (Step.refl _ _ _ _) hK
      rw [hd] at this
      exact ⟨_, H, M, loc, this⟩
  unfold wpOp
  rw [ho]
  simp only
  unfold aoper at hk
  simp only at hk
  cases hgd : o.guard with
  | none =>
    rw [hgd] at hk
    have : Region.wanted o (yielded ops a.tmps) = true := by simp [Region.wanted, hgd]
    rw [if_pos this]
    exact .inl (hrunv s (fun _ => rfl) hk)
  | some jw =>
    obtain ⟨g, want⟩ := jw
    rw [hgd] at hk
    simp only at hk
    split at hk
    case h_2 => exact hk.elim
    case h_1 gd hgdd =>
    split at hk
    case h_3 => exact hk.elim
    case h_2 hb =>
      have hmask : get (maskS s (owed ops listed c1)) gd = .tup [] := by
        rw [get_mask, if_neg (hlook gd (guard_slot hgd hgdd))]; exact hb
      have hw : Region.wanted o (yielded ops a.tmps) = false := by
        simp only [Region.wanted, hgd, yielded_none hsr hgdd hmask]
        rfl
      rw [hw]
      exact hskipv s (fun _ => rfl) hk
    case h_1 b hb =>
    obtain ⟨hglt, hk⟩ := chk_elim hk
    have hglt : gd < cfg.N := by simpa [Nat.blt_eq] using hglt
    have hmask : get (maskS s (owed ops listed c1)) gd = .bool b := by
      rw [get_mask, if_neg (hlook gd (guard_slot hgd hgdd))]; exact hb
    have hy := yielded_of hsr hgdd hmask (by rw [h.size]; exact hglt)
    have hknow : ∀ q, get ((gd, .bool b) :: s) q = get s q := by
      intro q
      simp only [get]
      cases hq : Nat.beq gd q with
      | true => have := Nat.eq_of_beq_eq_true hq; subst this; exact hb.symm
      | false => rfl
    have hw : Region.wanted o (yielded ops a.tmps) = (b == want) := by
      simp only [Region.wanted, hgd, hy]
      cases b <;> cases want <;> rfl
    rw [hw]
    cases b with
    | true =>
      simp only [condP] at hk
      cases want with
      | true => exact .inl (hrunv _ hknow hk)
      | false => exact hskipv _ hknow hk
    | false =>
      simp only [condP] at hk
      cases want with
      | true => exact hskipv _ hknow hk
      | false => exact .inl (hrunv _ hknow hk)

/-- ONE STEP, whichever operation is due. -/
theorem Inv.step1 (hg : Good P ops masks c) {listed : Array Bool} {a : Act} {w : World} {i : Nat} (hlt : i < ops.size) (hl : Li listed i = false) (hready : ∀ j, befB masks j i = true → Li listed j = true) {next : Act → World → Prop} {Q : Exit → Act → World → Prop}
    (hnext : ∀ a' w', (∃ c1 c2 s' H' M' loc', Inv P cfg ops masks c K M0 loc0 H0 w0 D0 (listed.setIfInBounds i true) c1 c2 s' H' M' loc' a' w') → next a' w') :
    ∀ (n : Nat) (c1 c2 : List Nat) s H M loc, c2.length = n → Inv P cfg ops masks c K M0 loc0 H0 w0 D0 listed c1 c2 s H M loc a w → wpOp P ops Q i next a w
  | 0, c1, c2, s, H, M, loc, hn, h => by
    have hc2 : c2 = [] := List.length_eq_zero_iff.1 hn
    subst hc2
    have hi : i ∈ c1 := by have := hg.all i hlt; rw [h.split] at this; simpa using this
    obtain ⟨o, ho, _⟩ := hg.op (hg.all i hlt)
    exact h.stepA hg hi ho hl hlt hready fun a' w' ⟨M', loc', hI⟩ => hnext a' w' ⟨_, _, _, _, M', loc', hI⟩
  | n + 1, c1, [], s, H, M, loc, hn, h => by simp at hn
  | n + 1, c1, j :: r, s, H, M, loc, hn, h => by
    obtain ⟨o, ho, _⟩ := hg.op (hg.all i hlt)
    by_cases hi : i ∈ c1
    · exact h.stepA hg hi ho hl hlt hready fun a' w' ⟨M', loc', hI⟩ => hnext a' w' ⟨_, _, _, _, M', loc', hI⟩
    · obtain ⟨oj, hoj, _⟩ := hg.op (show j ∈ c by rw [h.split]; simp)
      cases hxj : isX oj.op with
      | false =>
        obtain ⟨s', h'⟩ := h.absorb hg hoj hxj
        exact Inv.step1 hg hlt hl hready hnext n _ r s' H M loc (by simpa using hn) h'
      | true =>
        by_cases e : i = j
        · subst e
          rw [ho] at hoj; cases hoj
          exact h.stepB hg ho hxj hlt hready fun a' w' ⟨s', H', M', loc', hI⟩ => hnext a' w' ⟨_, _, _, _, M', loc', hI⟩
        · have hir : i ∈ r := by
            have := hg.all i hlt
            rw [h.split] at this
            rcases List.mem_append.1 this with q | q
            · exact (hi q).elim
            · rcases List.mem_cons.1 q with q | q
              · exact (e q).elim
              · exact q
          have hp := hg.pair (l1 := c1) (i := j) (l2 := r) h.split hir hoj ho
          have h1 := hready j (hp.x hxj)
          rw [h.unl j (by simp)] at h1; cases h1

/-- when all is done -/
theorem Inv.finish (hg : Good P ops masks c) : ∀ (n : Nat) {listed c1} (c2 : List Nat) {s H M loc a w}, c2.length = n → Inv P cfg ops masks c K M0 loc0 H0 w0 D0 listed c1 c2 s H M loc a w → (∀ i, i < ops.size → Li listed i = true) →
    c2 = [] ∧ K s H ∧ SRel M w loc s a.tmps
  | _, listed, c1, [], s, H, M, loc, a, w, hn, h, hall => by
    obtain ⟨log, _, hk⟩ := h.log
    refine ⟨rfl, hk, fun d => ?_⟩
    rcases h.slots d with ⟨i, hi, hl, o, ho, _⟩ | hv
    · have : i < ops.size := (Array.getElem?_eq_some_iff.1 ho).1
      rw [hall i this] at hl; cases hl
    · exact hv
  | _, listed, c1, j :: r, s, H, M, loc, a, w, hn, h, hall => by
    obtain ⟨o, ho, _⟩ := hg.op (show j ∈ c by rw [h.split]; simp)
    have hlt : j < ops.size := (Array.getElem?_eq_some_iff.1 ho).1
    have := h.unl j (by simp)
    rw [hall j hlt] at this; cases this

theorem mem_preds {o : Oper} {p : Nat} : p ∈ predsOf o ↔ ∃ e ∈ o.after, Region.binds .any e = true ∧ e.on = p := by
  unfold predsOf
  rw [List.mem_filterMap]
  constructor
  · rintro ⟨e, he, h⟩
    cases hb : Region.binds .any e with
    | true => rw [hb] at h; exact ⟨e, by simpa using he, hb, by simpa using h⟩
    | false => rw [hb] at h; cases h
  · rintro ⟨e, he, hb, rfl⟩
    exact ⟨e, by simpa using he, by simp [hb]⟩

theorem pred_lt (hg : Good P ops masks c) {o : Oper} {j p : Nat} (ho : ops[j]? = some o) (hp : p ∈ predsOf o) : p < ops.size ∧ p ≠ j := by
  have hlt : j < ops.size := (Array.getElem?_eq_some_iff.1 ho).1
  have := hg.mask j hlt
  unfold maskOk at this
  rw [ho] at this
  simp only [Bool.and_eq_true] at this
  have := List.all_eq_true.1 this.2 _ hp
  rw [Bool.and_eq_true] at this
  refine ⟨by simpa [Nat.blt_eq] using this.1, ?_⟩
  rintro rfl
  simp at this

theorem self_pred (hg : Good P ops masks c) {o : Oper} {j : Nat} (ho : ops[j]? = some o) (hj : j ∈ c) : j ∉ predsOf o :=
  fun h => (pred_lt hg ho h).2 rfl

/-- if not all is done, something is due -/
theorem Inv.some_ready (hg : Good P ops masks c) {listed : Array Bool} (hsz : listed.size = ops.size) (hnil : Region.ready .any ops listed = []) : ∀ i, i < ops.size → Li listed i = true := by
  -- the first of our order that is not done
  have key : ∀ (l1 l2 : List Nat), c = l1 ++ l2 → (∀ i ∈ l1, Li listed i = true) → ∀ i ∈ l2, Li listed i = true := by
    intro l1 l2
    induction l2 generalizing l1 with
    | nil => intro _ _ i hi; simp at hi
    | cons j r ih =>
      intro e hall
      have hj : Li listed j = true := by
        cases hq : Li listed j with
        | true => rfl
        | false =>
          exfalso
          obtain ⟨o, ho, _⟩ := hg.op (show j ∈ c by rw [e]; simp)
          have hlt : j < ops.size := (Array.getElem?_eq_some_iff.1 ho).1
          have hm : j ∈ Region.ready .any ops listed := by
            unfold Region.ready
            rw [List.mem_filter]
            refine ⟨by simpa using hlt, ?_⟩
            rw [Bool.and_eq_true]
            constructor
            · have : listed.getD j true = false := by
                unfold Li at hq
                rw [Array.getD_eq_getD_getElem?, Array.getElem?_eq_getElem (by omega)] at hq ⊢
                exact hq
              rw [this]; rfl
            · rw [ho]
              simp only [Option.map_some, Option.getD_some]
              rw [Array.all_eq_true_iff_forall_mem]
              intro ed hed
              cases hb : Region.binds .any ed with
              | false => rfl
              | true =>
                simp only [Bool.not_true, Bool.false_or]
                have hp : ed.on ∈ predsOf o := mem_preds.2 ⟨ed, hed, hb, rfl⟩
                have hplt : ed.on < ops.size := (pred_lt hg ho hp).1
                have hpc := hg.all _ hplt
                rw [e] at hpc
                rcases List.mem_append.1 hpc with q | q
                · exact hall _ q
                · rcases List.mem_cons.1 q with q | q
                  · -- itself
                    obtain ⟨l, l', e'⟩ : ∃ l l', c = l ++ j :: l' := ⟨l1, r, e⟩
                    have := hg.mask j hlt
                    exfalso
                    exact (self_pred hg ho (by rw [e]; simp) (q ▸ hp)).elim
                  · obtain ⟨op, hop, _⟩ := hg.op (hg.all _ hplt)
                    have := (hg.pair (l1 := l1) (i := j) (l2 := r) e q ho hop).pred
                    exact (this hp).elim
          rw [hnil] at hm; simp at hm
      intro i hi
      rcases List.mem_cons.1 hi with rfl | hi
      · exact hj
      · exact ih (l1 ++ [j]) (by rw [e]; simp) (fun k hk => by
          rcases List.mem_append.1 hk with q | q
          · exact hall k q
          · simp only [List.mem_singleton] at q; subst q; exact hj) i hi
  intro i hi
  exact key [] c rfl (fun _ h => by simp at h) i (hg.all i hi)

theorem filter_less {p p' : Nat → Bool} : ∀ (l : List Nat), (∀ x, p' x = true → p x = true) → (∃ x ∈ l, p x = true ∧ p' x = false) → (l.filter p').length < (l.filter p).length
  | [], _, ⟨x, hx, _⟩ => by simp at hx
  | y :: r, h, hex => by
    have hle : ∀ (r : List Nat), (r.filter p').length ≤ (r.filter p).length := by
      intro r
      induction r with
      | nil => simp
      | cons z r ih =>
        rw [List.filter_cons, List.filter_cons]
        cases h1 : p' z with
        | true => simp [h z h1, ih]
        | false => cases p z <;> simp <;> omega
    rw [List.filter_cons, List.filter_cons]
    obtain ⟨x, hx, h1, h2⟩ := hex
    rcases List.mem_cons.1 hx with rfl | hx
    · rw [h1, h2]
      have := hle r
      simp; omega
    · have ih := filter_less r h ⟨x, hx, h1, h2⟩
      cases h3 : p' y with
      | true => simp [h y h3, ih]
      | false => cases p y <;> simp <;> omega

def leftN (ops : Array Oper) (listed : Array Bool) : Nat := ((List.range ops.size).filter fun i => !Li listed i).length

theorem Inv.any (hg : Good P ops masks c) {Q : Exit → Act → World → Prop} (hQ : ∀ s H M loc a w, K s H → Rel M loc H w → SRel M w loc s a.tmps → a.tmps.size = cfg.N → a.defers = D0 → Step M0 loc0 H0 w0 M loc H w → Q .normal a w) :
    ∀ (fuel : Nat) (listed : Array Bool) (a : Act) (w : World), leftN ops listed ≤ fuel → (∃ c1 c2 s H M loc, Inv P cfg ops masks c K M0 loc0 H0 w0 D0 listed c1 c2 s H M loc a w) → wpAny P .any ops Q fuel listed a w := by
  have hend : ∀ (listed : Array Bool) (a : Act) (w : World), (∃ c1 c2 s H M loc, Inv P cfg ops masks c K M0 loc0 H0 w0 D0 listed c1 c2 s H M loc a w) → Region.ready .any ops listed = [] → Q .normal a w := by
    rintro listed a w ⟨c1, c2, s, H, M, loc, h⟩ hnil
    obtain ⟨_, hK, hs⟩ := h.finish hg _ _ rfl (Inv.some_ready hg h.sz hnil)
    exact hQ s H M loc a w hK h.rel hs h.size h.defers h.step
  intro fuel
  induction fuel with
  | zero =>
    rintro listed a w hl ⟨c1, c2, s, H, M, loc, h⟩
    have hall : ∀ i, i < ops.size → Li listed i = true := by
      intro i hi
      cases hq : Li listed i with
      | true => rfl
      | false =>
        exfalso
        have hm : i ∈ (List.range ops.size).filter fun i => !Li listed i := by simp [hi, hq]
        have := List.length_pos_of_mem hm
        unfold leftN at hl
        omega
    have hnil : Region.ready .any ops listed = [] := by
      rw [List.eq_nil_iff_forall_not_mem]
      intro i hm
      rw [mem_ready] at hm
      obtain ⟨h2, o, ho, _⟩ := hm
      have hlt : i < ops.size := (Array.getElem?_eq_some_iff.1 ho).1
      have := hall i hlt
      unfold Li at this
      rw [Array.getD_eq_getD_getElem?, Array.getElem?_eq_getElem (by rw [h.sz]; exact hlt)] at this h2
      simp at this h2
      rw [this] at h2; cases h2
    exact ⟨hnil, hend listed a w ⟨c1, c2, s, H, M, loc, h⟩ hnil⟩
  | succ fuel ih =>
    rintro listed a w hl ⟨c1, c2, s, H, M, loc, h⟩
    refine ⟨hend listed a w ⟨c1, c2, s, H, M, loc, h⟩, ?_⟩
    intro i hm
    have hm' := hm
    rw [mem_ready] at hm'
    obtain ⟨h2, o', ho', hedge⟩ := hm'
    have hlt : i < ops.size := (Array.getElem?_eq_some_iff.1 ho').1
    have hsz : i < listed.size := by rw [h.sz]; exact hlt
    have hli : Li listed i = false := by
      unfold Li
      rw [Array.getD_eq_getD_getElem?, Array.getElem?_eq_getElem hsz] at h2 ⊢
      exact h2
    obtain ⟨o, ho, _⟩ := hg.op (hg.all i hlt)
    have hpre : ∀ p ∈ predsOf o, Li listed p = true := by
      intro p hp
      obtain ⟨e, he, hb, rfl⟩ := mem_preds.1 hp
      rw [ho] at ho'; cases ho'
      exact hedge e he hb
    have hready : ∀ j, befB masks j i = true → Li listed j = true := by
      intro j hb
      rcases maskOk_spec (hg.mask i hlt) ho hb with hp | ⟨p, hp, hb2⟩
      · exact hpre j hp
      · exact h.cl p j (hpre p hp) hb2
    refine Inv.step1 hg hlt hli hready (fun a' w' hI => ih _ a' w' ?_ hI) _ c1 c2 s H M loc rfl h
    have : leftN ops (listed.setIfInBounds i true) < leftN ops listed := by
      refine filter_less _ (fun x hx => ?_) ⟨i, by simpa using hlt, by simp [hli], by rw [Li_set hsz]; simp⟩
      rw [Li_set hsz] at hx
      split at hx
      · simp at hx
      · exact hx
    omega

theorem adraw_sound {id : Nat} {s : Slots} {H : List AObj} {M : Mem} {loc : Locs} {a : Act} {w : World} {Q : Exit → Act → World → Prop} (h : adraw P cfg ops s H K) (ht : Tabs P M w) (hr : Rel M loc H w) (hs : SRel M w loc s a.tmps) (hN : a.tmps.size = cfg.N)
    (hQ : ∀ a' s' H' M' loc' w', K s' H' → Rel M' loc' H' w' → SRel M' w' loc' s' a'.tmps → a'.tmps.size = cfg.N → a'.defers = a.defers → Step M loc H w M' loc' H' w' → Q .normal a' w') : (Code.region id ops true).wp P Q a w := by
  unfold adraw at h
  generalize canon ops = c at h
  generalize masksOf ops = m at h
  obtain ⟨hok, hk⟩ := chk_elim h
  unfold drawOk at hok
  simp only [Bool.and_eq_true] at hok
  obtain ⟨⟨⟨⟨h1, h2⟩, h3⟩, h4⟩, h5⟩ := hok
  have hg : Good P ops m c := by
    refine ⟨h4, fun i hi => ?_, fun i hi => ?_⟩
    · have := List.all_eq_true.1 h2 i (by simpa using hi)
      simpa using this
    · exact List.all_eq_true.1 h3 i (by simpa using hi)
  refine wp_region_any h5 ?_
  have hsame : SameMem w { w with drawn := w.drawn + 1 } := ⟨rfl, rfl, rfl, rfl⟩
  obtain ⟨r1, r2⟩ := hr.same hsame
  have hli : ∀ i, Li (Array.replicate ops.size false) i = false := by
    intro i; unfold Li; simp only [Array.getD_eq_getD_getElem?, Array.getElem?_replicate]; split <;> rfl
  refine Inv.any (K := K) (cfg := cfg) (M0 := M) (loc0 := loc) (H0 := H) (w0 := w) (D0 := a.defers) hg (fun s' H' M' loc' a' w' k1 k2 k3 k4 k5 k6 => hQ a' s' H' M' loc' w' k1 k2 k3 k4 k5 k6) ops.size _ a _ ?_ ?_
  · unfold leftN
    have := List.length_filter_le (fun i => !Li (Array.replicate ops.size false) i) (List.range ops.size)
    simpa using this
  · refine ⟨[], c, s, H, M, loc, ?_⟩
    exact { split := rfl, sz := by simp, unl := fun i _ => hli i, lx := fun i hi => absurd hi (by simp), cl := (fun i j hi => by rw [hli] at hi; cases hi), log := ⟨[], fun i hi => absurd hi (by simp), hk⟩,
            rel := r1, step := r2, slots := fun d => .inr ((hs d).keeps (hsame.keeps M loc)), pend := fun i hi => absurd hi (by simp), bnd := fun i hi => absurd hi (by simp), size := hN, defers := rfl, start := ⟨hr, ht⟩ }

end
end Go.Ab
