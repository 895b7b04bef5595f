/- Q2: several of this proof's own texts, one behind the other: what each proves stands at its head. -/
import Derived.Test.YtbjcdgepclmmjaaA1
import Derived.Lib.AppendZerosOnto
import Derived.Laws.Externs
section
/- A row's capacity, append of zeros, copy of a part, slices.overlaps are sound. -/

set_option linter.unusedVariables false
set_option linter.unusedSimpArgs false
namespace Go.Ab
section
variable {P : Program} {M : Mem} {loc : Locs} {H : List AObj} {w : World} {K : AV → List AObj → Prop}

theorem two_vals {xs : List AV} {vs : Array Value} {a b : AV} (h : VRels M w loc [a, b] vs) : ∃ u v, vs = #[u, v] ∧ VRel M w loc a u ∧ VRel M w loc b v := by
  obtain ⟨hs, hv⟩ := h
  have hv0 := hv 0 (by simp)
  have hv1 := hv 1 (by simp)
  simp only [List.getElem_cons_zero, List.getElem_cons_succ] at hv0 hv1
  refine ⟨vs[0]'(by simp at hs; omega), vs[1]'(by simp at hs; omega), ?_, hv0, hv1⟩
  apply Array.ext
  · simpa using hs
  · intro i h1 h2
    have : i < 2 := by simpa using h2
    match i, this with
    | 0, _ => rfl
    | 1, _ => rfl

theorem one_val {vs : Array Value} {a : AV} (h : VRels M w loc [a] vs) : ∃ u, vs = #[u] ∧ VRel M w loc a u := by
  obtain ⟨hs, hv⟩ := h
  have hv0 := hv 0 (by simp)
  simp only [List.getElem_cons_zero] at hv0
  refine ⟨vs[0]'(by simp at hs; omega), ?_, hv0⟩
  apply Array.ext
  · simpa using hs
  · intro i h1 h2
    have : i < 1 := by simpa using h2
    match i, this with
    | 0, _ => rfl

theorem VRels.two {a b : AV} {u v : Value} (h : VRel M w loc a u) (k : VRel M w loc b v) : VRels M w loc [a, b] #[u, v] := by
  refine ⟨rfl, fun i hi => ?_⟩
  have : i < 2 := by simpa using hi
  match i, this with
  | 0, _ => exact h
  | 1, _ => exact k

theorem acopyM_sound {ts : Array TypeId} {T : TypeId} {xs : List AV} {vs : Array Value} (h : acopyM P ts.toList xs H K) (hr : Rel M loc H w) (hv : VRels M w loc xs vs) :
    GoodV P M loc H w K ((Builtin.copy_ ts T vs).run P w) := by
  unfold acopyM at h
  split at h
  case h_2 => exact acopy_sound (T := T) h hr hv
  case h_1 sz id off len sz' id' off' len' =>
  obtain ⟨v0, v1, rfl, h0, h1⟩ := two_vals (xs := []) hv
  cases h0 with
  | msl _ _ _ _ b cap hl hle hc =>
  cases h1 with
  | msl _ _ _ _ b' cap' hl' hle' hc' =>
  have hmin : min len' len ≤ cap' := by omega
  have hg := acopy_sound (T := T) h hr (VRels.two (VRel.msl sz id off len b cap hl hle hc) (VRel.msl sz' id' off' (min len' len) b' cap' hl' hmin hc'))
  have e : (Builtin.copy_ ts T #[.slice (some ⟨b, off * sz, none⟩) len cap, .slice (some ⟨b', off' * sz', none⟩) len' cap']).run P w =
      (Builtin.copy_ ts T #[.slice (some ⟨b, off * sz, none⟩) len cap, .slice (some ⟨b', off' * sz', none⟩) (min len' len) cap']).run P w := by
    have : Nat.min (min len' len) len = Nat.min len' len := by
      show min (min len' len) len = min len' len
      omega
    unfold Builtin.copy_
    simp only [Builtin.lenOf, pure_bind, Builtin.firstCells]
    congr 1
    cases ts[0]? with
    | none => rfl
    | some t => simp [this]
  rw [e]; exact hg

theorem acap_sound {ts : Array TypeId} {T : TypeId} {xs : List AV} {vs : Array Value} (h : acap P ts.toList xs H K) (hr : Rel M loc H w) (hv : VRels M w loc xs vs) :
    GoodV P M loc H w K ((Builtin.cap_ ts T vs).run P w) := by
  unfold acap at h
  split at h
  case h_2 => exact h.elim
  case h_1 t sz id off len hts =>
  have hts' : ts = #[t] := by
    obtain ⟨l⟩ := ts
    simp only at hts
    subst hts; rfl
  subst hts'
  obtain ⟨v0, rfl, h0⟩ := one_val hv
  split at h
  case h_2 => exact h.elim
  case h_1 e sz' s hu ho =>
  obtain ⟨hb, hk⟩ := chk_elim h
  rw [Bool.and_eq_true] at hb
  have e1 := Nat.eq_of_beq_eq_true hb.1
  have hs1 := Nat.le_of_ble_eq_true hb.2
  subst e1
  cases h0 with
  | msl _ _ _ _ b cap hl hle hc =>
  have hro := hr.objs id _ ho
  obtain ⟨b', vs', T', fr', g1, g2, g3, g4, g5, g6, g7, g8⟩ := hro
  rw [hl] at g1; cases g1
  obtain ⟨cs, Tc, frc, c1, c2⟩ := hc
  rw [g4] at c1; cases c1
  have hcap : s.toList.length ≤ off + cap := by
    rw [← c2] at g6
    exact Nat.le_of_mul_le_mul_right g6 (show 0 < sz by omega)
  have hK := hk cap ⟨hle, by rw [Seq.len_eq]; exact hcap⟩
  rw [Seq.len_eq] at hK
  have hrun : (Builtin.cap_ #[t] T #[.slice (some ⟨b, off * sz, none⟩) len cap]).run P w = .ok (.int .i64 cap) w := by
    simp [Builtin.cap_, run_underlying' hu, goInt]
  rw [hrun]
  have hlen : (s.app (bads sz (off + cap - s.toList.length))).toList.length = off + cap := by
    simp [Seq.toList, bads]; omega
  obtain ⟨r1, r2⟩ := hr.respell id (.arr sz s) (.arr sz (s.app (bads sz (off + cap - s.toList.length)))) ho (by intro h; cases h) (by intro h; cases h) (fun _ => by
    rw [hl]
    refine ⟨b, vs', T', fr', rfl, g2, g3, g4, g5, by rw [hlen, c2]; exact Nat.le_refl _, fun i hi => ?_, fun i j hi hj => ?_⟩
    · simp only [Seq.toList, bads] at hi ⊢
      by_cases hi2 : i < s.toList.length
      · rw [List.getElem_append_left hi2]; exact g7 i hi2
      · rw [List.getElem_append_right (by omega)]; simp
    · simp only [Seq.toList, bads] at hi hj ⊢
      by_cases hi2 : i < s.toList.length
      · rw [List.getElem_append_left hi2] at hj
        obtain ⟨v, q1, q2⟩ := g8 i j hi2 hj
        refine ⟨v, q1, ?_⟩
        simp only [List.getElem_append_left hi2]
        exact q2
      · rw [List.getElem_append_right (by omega)] at hj
        have hj2 : j < sz := by simpa using hj
        have hi3 : i < off + cap := by rw [← hlen]; exact hi
        have h3 := Nat.mul_le_mul_right sz (show i + 1 ≤ off + cap from hi3)
        rw [Nat.succ_mul] at h3
        refine ⟨vs'[i * sz + j]'(by omega), Array.getElem?_eq_getElem (by omega), ?_⟩
        simp only [List.getElem_append_right (show s.toList.length ≤ i by omega), List.getElem_replicate]
        exact .bad _)
  obtain ⟨r3, r4⟩ := r1.ghost (.csz id sz (off + cap)) (by
    have hlt : id < (H.set id (.arr sz (s.app (bads sz (off + cap - s.toList.length))))).length := by
      rw [List.length_set]; exact (List.getElem?_eq_some_iff.1 ho).1
    refine ⟨rfl, b, vs', T', fr', ?_, g4, c2.symm⟩
    simp only [locSet]; rw [if_neg (Nat.ne_of_lt hlt)]; exact hl)
  exact ⟨_, _, _, _, _, _, rfl, hK, r3, .int _ _, r2.trans r4⟩

theorem capOf_spec (hr : Rel M loc H w) {sz id c : Nat} (h : capOf sz id H = some c) : ∃ b vs T fr, loc id = some (.blk b) ∧ w.heap[b]? = some (.cells vs T fr) ∧ vs.size = c * sz := by
  have key : ∀ (L : List AObj), (∀ o ∈ L, ∃ i : Nat, H[i]? = some o) → capOf sz id L = some c → ∃ b vs T fr, loc id = some (.blk b) ∧ w.heap[b]? = some (.cells vs T fr) ∧ vs.size = c * sz := by
    intro L
    induction L with
    | nil => intro _ h; cases h
    | cons o L ih =>
      intro hm h
      have hm' : ∀ o ∈ L, ∃ i : Nat, H[i]? = some o := fun o ho => hm o (List.mem_cons_of_mem _ ho)
      cases o with
      | csz id' sz' c' =>
        simp only [capOf] at h
        cases hq : (Nat.beq id' id && Nat.beq sz' sz) with
        | true =>
          rw [hq] at h
          simp only [cond_true, Option.some.injEq] at h
          have h9 := h
          clear h
          rw [Bool.and_eq_true] at hq
          have e1 := Nat.eq_of_beq_eq_true hq.1
          have e2 := Nat.eq_of_beq_eq_true hq.2
          subst e1 e2 h9
          obtain ⟨i, hi⟩ := hm _ (List.mem_cons_self ..)
          exact (hr.objs i _ hi).2
        | false => rw [hq] at h; exact ih hm' h
      | _ => exact ih hm' h
  exact key H (fun o ho => List.getElem?_of_mem ho) h

theorem aappendZ_sound {ts : Array TypeId} {T : TypeId} {xs : List AV} {vs : Array Value} (h : aappendZ P ts.toList xs H K) (hr : Rel M loc H w) (hv : VRels M w loc xs vs) :
    GoodV P M loc H w K ((Builtin.append_ ts T vs).run P w) := by
  unfold aappendZ at h
  split at h
  case h_2 => exact h.elim
  case h_1 t t' sz id off n kq m hts =>
  have hts' : ts = #[t, t'] := extract2 _ _ _ hts
  subst hts'
  obtain ⟨v0, v1, rfl, h0, h1⟩ := two_vals (xs := []) hv
  split at h
  case h_2 => exact h.elim
  case h_1 e kn sz' s c hu hu' ho hcap =>
  split at h
  case h_2 => exact h.elim
  case h_1 k by_ z hk hby hz =>
  obtain ⟨hb, h9⟩ := chk_elim h
  simp only [Bool.and_eq_true] at hb
  have hk1 := Nat.le_of_ble_eq_true hb.1.1.1.1
  have e1 := Nat.eq_of_beq_eq_true hb.1.1.1.2
  have e2 := Nat.eq_of_beq_eq_true hb.1.1.2
  have hzl := Nat.eq_of_beq_eq_true hb.1.2
  have hby1 := Nat.le_of_ble_eq_true hb.2
  subst e1
  subst e2
  obtain ⟨⟨hm0, hoff, hgrow, hfit⟩, hK⟩ := needP_elim h9
  rw [Seq.len_eq] at hoff
  cases h1
  obtain ⟨mm, rfl⟩ := Int.eq_ofNat_of_zero_le (Int.le_of_lt hm0)
  rw [Int.toNat_natCast] at hgrow hfit hK
  have hmm : 0 < mm := by omega
  obtain ⟨i, hi, hisz⟩ := sizeT_info hk
  obtain ⟨i2, hi2, hiby⟩ := bytesT_info hby
  rw [hi] at hi2; cases hi2
  subst hisz
  subst hiby
  obtain ⟨zv, hzrun, rfl, i3, hi3, hiz⟩ := zeroT_run hz w
  rw [hi] at hi3; cases hi3
  have hzs : zv.cells.size = i.size := by simpa using hzl
  cases h0 with
  | msl _ _ _ _ b cap hl hle hc =>
  obtain ⟨b2, vs2, T2, fr2, k1, k2, k3⟩ := capOf_spec hr hcap
  rw [hl] at k1; cases k1
  obtain ⟨cs, Tc, frc, c1, c2⟩ := hc
  rw [k2] at c1; cases c1
  have hce : off + cap = c := by
    rw [k3] at c2
    exact Nat.eq_of_mul_eq_mul_right (by omega) c2
  have hcn : cap < n + mm := by omega
  obtain ⟨cs', T', fr', q1, q2, q3, q4, q5, q6, q7⟩ := obj_arr hr hl ho
  rw [k2] at q3; cases q3
  have hlsub : (s.sub off (off + n)).toList.length = n := by rw [Seq.sub_toList]; simp; omega
  have hget : ∀ j (hj : j < (s.sub off (off + n)).toList.length), ∃ hj' : off + j < s.toList.length, (s.sub off (off + n)).toList[j] = s.toList[off + j] := by
    intro j hj
    have hj2 : off + j < s.toList.length := by omega
    refine ⟨hj2, ?_⟩
    have e5 : (s.sub off (off + n)).toList[j]? = some s.toList[off + j] := by
      rw [Seq.sub_toList, List.getElem?_drop, List.getElem?_take, if_pos (by omega), List.getElem?_eq_getElem hj2]
    rw [List.getElem?_eq_getElem hj] at e5
    exact Option.some.inj e5
  have hcl : Cells M w loc n i.size (s.sub off (off + n)).toList (fun a j => vs2.getD ((off + a) * i.size + j) undef) := by
    refine ⟨hlsub, fun a ha => ?_, fun a j ha hj => ?_⟩
    · obtain ⟨h1, h2⟩ := hget a ha
      rw [h2]; exact q6 _ h1
    · obtain ⟨h1, h2⟩ := hget a ha
      obtain ⟨v, w1, w2⟩ := q7 (off + a) j h1 (by rw [← h2]; exact hj)
      simp only [h2]
      rw [Array.getD_eq_getD_getElem?, w1]
      exact w2
  have hzc : Cells M w loc mm i.size (Seq.raw (List.replicate mm (zv.cells.toList.map ofCell))).toList (fun _ j => zv.cells[j]!) := by
    refine ⟨by simp [Seq.toList], fun a ha => ?_, fun a j ha hj => ?_⟩
    · simp only [Seq.toList, List.getElem_replicate, List.length_map, Array.length_toList]; exact hzs
    · simp only [Seq.toList, List.getElem_replicate, List.length_map, Array.length_toList] at hj
      simp only [Seq.toList, List.getElem_replicate, List.getElem_map, Array.getElem_toList]
      rw [getElem!_pos zv.cells j hj]
      exact vrel_cell _
  have hnc : n * i.size = (flatVals n i.size (fun a j => vs2.getD ((off + a) * i.size + j) undef)).length := (flatVals_length _ _ _).symm
  have hcellsget : ∀ j u, (flatVals n i.size (fun a j => vs2.getD ((off + a) * i.size + j) undef))[j]? = some u → w.cell? ⟨b, off * i.size + j, none⟩ = some u := by
    intro j u hj
    have hjl : j < n * i.size := by rw [hnc]; exact (List.getElem?_eq_some_iff.1 hj).1
    unfold flatVals at hj
    rw [List.getElem?_map, List.getElem?_range hjl] at hj
    simp only [Option.map_some, Option.some.injEq] at hj
    have hj4 : j / i.size < n := Nat.div_lt_of_lt_mul (by rwa [Nat.mul_comm] at hjl)
    have e3 : (off + j / i.size) * i.size + j % i.size = off * i.size + j := by
      rw [Nat.add_mul, Nat.add_assoc]; congr 1
      rw [Nat.mul_comm]; exact Nat.div_add_mod j i.size
    rw [e3] at hj
    have hle2 : (off + n) * i.size ≤ s.toList.length * i.size := Nat.mul_le_mul_right _ hoff
    rw [Nat.add_mul] at hle2
    have hlt : off * i.size + j < vs2.size := by omega
    rw [cell_eq k2, Array.getElem?_eq_getElem hlt]
    rw [← hj]
    simp [Array.getD, hlt]
  have hold : (Builtin.firstCells i.size n (.slice (some ⟨b, off * i.size, none⟩) n cap)).run P w.drew = .ok (flatVals n i.size (fun a j => vs2.getD ((off + a) * i.size + j) undef)).toArray w.drew :=
    run_firstCells_some w.drew i.size n ⟨b, off * i.size, none⟩ n cap _ (flatVals_length _ _ _) (fun j u hj => by
      rw [Addr.add_lit]; exact hcellsget j u hj)
  have hbig : ((n + mm : Nat) : Int) ≤ 9223372036854775807 := by
    have := Nat.mul_le_mul_left (n + mm) hby1
    omega
  have hmi : mm * i.bytes ≤ (n + mm) * i.bytes := Nat.mul_le_mul_right _ (by omega)
  rw [Lib.run_append_grow_zeros w t t' T e i zv kq kn hu hu' hi hiz (some ⟨b, off * i.size, none⟩) n cap _ hold mm hmm (by omega) hcn hbig (by omega) (growslice_fits hcn (by omega))]
  have hsame := drew_same w
  have hr' := (hr.same hsame).1
  have hkd := hsame.keeps M loc
  have hca := (hcl.app hzc).keeps hkd
  have hcapge := Question.cut_ge (w := w) (n := n + mm) (o := cap) (e := e)
  have hzflat : flatVals mm i.size (fun _ j => zv.cells[j]!) = (Builtin.zeroCells zv.cells mm).toList := by
    simp only [flatVals, Builtin.zeroCells, Array.toList_map, Array.toList_range, hzs]
  have hzcs : ∀ q, (Builtin.zeroCells zv.cells q).size = q * i.size := by intro q; simp [Builtin.zeroCells, hzs]
  refine GoodV.same_first hsame hr ?_
  refine new_arr (w := w.drew) (T := e) hr' (by omega) (s := (s.sub off (off + n)).app (.raw (List.replicate mm (zv.cells.toList.map ofCell)))) (n := n + mm) hca _ hcapge ?_ ?_ hK
  · simp only [Array.size_append, List.size_toArray, flatVals_length, hzcs]
    rw [← Nat.add_mul, ← Nat.add_mul]
    congr 1
    show n + mm + (grownCap w (n + mm) cap e - (n + mm)) = grownCap w (n + mm) cap e
    omega
  · have hgc := grow_cells (n := n) (sz := i.size) (fun a j => vs2.getD ((off + a) * i.size + j) undef) mm (fun _ j => zv.cells[j]!) (by omega) (Builtin.zeroCells zv.cells (grownCap w (n + mm) cap e - (n + mm)))
    rw [hzflat] at hgc
    have e9 : ((flatVals n i.size (fun a j => vs2.getD ((off + a) * i.size + j) undef)) ++ (Builtin.zeroCells zv.cells mm).toList).toArray = (flatVals n i.size (fun a j => vs2.getD ((off + a) * i.size + j) undef)).toArray ++ Builtin.zeroCells zv.cells mm := by
      apply Array.ext'; simp
    rw [e9] at hgc
    exact hgc

theorem aextern_sound {g : FuncId} {xs : List AV} {vs : Array Value} (h : aextern P g xs H K) (hr : Rel M loc H w) (hv : VRels M w loc xs vs) :
    ∃ r : Result Value, (callFunc g vs).run P w = r.andThen (fun v w' => .ok (.value v) w') ∧ GoodV P M loc H w K r := by
  unfold aextern at h
  split at h
  case h_2 => exact h.elim
  case h_1 szv s tip sz id off len =>
  obtain ⟨v0, v1, rfl, h0, h1⟩ := two_vals (xs := []) hv
  obtain ⟨hb, h⟩ := chk_elim h
  rw [Bool.and_eq_true, Bool.and_eq_true] at hb
  obtain ⟨⟨hsm, hsz⟩, hszv⟩ := hb
  have hsz1 : sz ≠ 1 := by
    intro e; subst e; simp at hsz
  obtain ⟨⟨fn, t, e, rs, hf, hname, hbody, hnext, hfind, hu, hsize⟩, hK⟩ := needP_elim h
  refine ⟨_, run_callFunc_extern hf hname hbody hnext hfind _ w, ?_⟩
  have fin : (Extern.SlicesOverlaps.overlaps #[t, t] rs #[v0, v1]).run P w = .ok (.bool false) w := by
    unfold sameSz at hsm
    split at hsm
    case h_2 => cases hsm
    case h_1 sz' d ho =>
    rw [Bool.and_eq_true] at hsm
    have hsm1 := Nat.eq_of_beq_eq_true hsm.1
    have hsm2 := Nat.le_of_ble_eq_true hsm.2
    subst hsm1
    cases h1 with
    | msl _ _ _ _ b cap hl hle hc =>
    obtain ⟨cs, T, fr, hd1, hd2, hbk, hsoftE, hds, hdz, hdc⟩ := obj_arr hr hl ho
    have hbig := hc
    obtain ⟨cs2, T2, fr2, e2, hc2⟩ := hc
    rw [hbk] at e2; cases e2
    have hzr : ∀ w : World, (Go.sizeOf e).run P w = .ok sz w := fun w => run_sizeOf' hsize w
    have hcoll : ∀ (a : Option Addr) (la ca : Nat), (∀ a', a = some a' → la ≠ 0 → a'.block ≠ b ∧ ∃ csA TA frA, w.heap[a'.block]? = some (.cells csA TA frA) ∧ csA.size ≠ 0) →
        (Extern.SlicesOverlaps.overlaps #[t, t] rs #[.slice a la ca, .slice (some ⟨b, off * sz, none⟩) len cap]).run P w = .ok (.bool false) w := by
      intro a la ca ha
      change Sem.run P (α := Value) (do
        let some t := (#[t, t] : Array TypeId)[0]? | stuck "slices.overlaps: no parameter types"
        let .slice elem ← underlying t | stuck "slices.overlaps: slice type expected"
        let size ← sizeOf elem
        match a, (some ⟨b, off * sz, none⟩ : Option Addr) with
        | some a, some b =>
          if la = 0 ∨ len = 0 ∨ size = 0 then pure (Value.bool false)
          else if a.block != b.block && (← frozen a) && (← frozen b) then unsupported .addressObserved
          else do
            if a.block != b.block then do
              noView a; noView b
              if ← mayBeOne a b then return Value.bool ((← choose (.extern "sameAddr.stringBytes" 2)) == 1)
            pure (Value.bool (a.block == b.block && a.off < b.off + len * size && b.off < a.off + la * size))
        | _, _ => pure (Value.bool false)) w = _
      cases a with
      | none => simp [run_underlying' hu, hzr]
      | some a =>
        by_cases hz : la = 0 ∨ len = 0 ∨ sz = 0
        · simp [run_underlying' hu, hzr, hz]
        · have hla : la ≠ 0 := fun e => hz (.inl e)
          have hlb : len ≠ 0 := fun e => hz (.inr (.inl e))
          obtain ⟨hne, csA, TA, frA, hA, hAs⟩ := ha a rfl hla
          have hb1 : off * sz < cs.size := by
            have := Nat.mul_le_mul_right sz (show off + 1 ≤ off + cap by omega)
            rw [hc2, Nat.succ_mul] at this
            omega
          have hfb : w.frozen? ⟨b, off * sz, none⟩ = false := by
            have := hsoftE.1 (off * sz) hb1
            simp only [World.frozen?, hbk]
            simpa using this
          have hfe : w.frozen? ⟨b, cs.size, none⟩ = false := by
            have := hsoftE.2 hsz1
            simp only [World.frozen?, hbk]
            simpa using this
          have hnb : (a.block != b) = true := by simpa using hne
          have hnb' : (a.block == b) = false := by simpa using hne
          have hsA : w.shape? a.block = some (TA, csA.size) := by simp [World.shape?, hA]
          have hsB : w.shape? b = some (T, cs.size) := by simp [World.shape?, hbk]
          have hA0 : ∃ k, csA.size = k + 1 := ⟨csA.size - 1, by omega⟩
          obtain ⟨kA, hkA⟩ := hA0
          have hB0 : ∃ k, cs.size = k + 1 := ⟨cs.size - 1, by omega⟩
          obtain ⟨kB, hkB⟩ := hB0
          rw [hkA] at hsA
          rw [hkB] at hsB hfe
          cases hfa : w.frozen? a <;> cases hfae : w.frozen? ⟨a.block, kA + 1, none⟩ <;>
            simp [run_underlying' hu, hzr, hz, hnb, hnb', frozen, noView, viewAt, mayBeOne, stringish, shape, Sem.run, hsA, hsB, hfa, hfb, hfe, hfae, hne]
    cases h0 with
    | slnil _ _ _ h1 h2 => exact hcoll none 0 0 (fun a' h => by cases h)
    | slz _ _ _ ad h1 hn h2 => exact hcoll (some ad) 0 0 (fun a' h h0 => absurd rfl h0)
    | sl _ _ _ b' o cap' vals hz h1 h2 hcap hnil hfull htok =>
      refine hcoll _ _ _ (fun a' h h0 => ?_)
      cases h
      have hl0 : 0 < s.toList.length := by omega
      have hszv2 : 0 < szv := by
        rw [Bool.or_eq_true] at hszv
        rcases hszv with h | h
        · have := Nat.eq_of_beq_eq_true h
          omega
        · cases s with
          | raw l => cases l with
            | nil => simp [Seq.toList] at hl0
            | cons _ _ => cases h
          | _ => cases h
      obtain ⟨i1, i2⟩ := h1 0 0 hl0 hszv2
      have hne : b' ≠ b := by
        rintro rfl
        rcases i2 with q | q <;> omega
      refine ⟨hne, ?_⟩
      unfold World.cell? at i1
      split at i1
      case h_2 => cases i1
      case h_1 csA TA frA hA =>
        refine ⟨csA, TA, frA, hA, fun h0 => ?_⟩
        simp only [Option.isSome_none, Bool.false_eq_true, if_false] at i1
        have := (Array.getElem?_eq_some_iff.1 i1).1
        omega
  rw [fin]
  exact GoodV.pure hr (.bool false) hK

end
end Go.Ab
end
