/- Operations, regions and code: the abstract meaning is sound. -/
import Derived.Test.YtifbfcljgagacaaDoorAbSoundG
set_option linter.unusedVariables false
set_option linter.unusedSimpArgs false
namespace Go.Ab
section
variable {P : Program} {M : Mem} {loc : Locs} {H : List AObj} {w : World} {K : AV → List AObj → Prop}

theorem vrels_ev {s : Slots} {a : Act} (hs : SRel M w loc s a.tmps) (xs : Array Operand) : VRels M w loc (xs.toList.map (ev s)) (xs.map a.eval) := by
  refine ⟨by simp, fun i hi => ?_⟩
  simp only [List.getElem_map, Array.getElem_map, Array.getElem_toList]
  exact vrel_ev hs _

theorem VRels.append {xs ys : List AV} {vs us : Array Value} (h : VRels M w loc xs vs) (k : VRels M w loc ys us) : VRels M w loc (xs ++ ys) (vs ++ us) := by
  obtain ⟨h1, h2⟩ := h
  obtain ⟨k1, k2⟩ := k
  refine ⟨by simp [h1, k1], fun i hi => ?_⟩
  by_cases e : i < xs.length
  · rw [List.getElem_append_left e, Array.getElem_append_left (by omega)]; exact h2 i e
  · have := k2 (i - xs.length) (by simp at hi; omega)
    rw [List.getElem_append_right (by omega), Array.getElem_append_right (by omega)]
    simp only [h1]; exact this

theorem orelv_map {s : Slots} {a : Act} (hs : SRel M w loc s a.tmps) (x : Option Operand) : ORelV M w loc (x.map (ev s)) (x.map a.eval) := by
  cases x with
  | none => trivial
  | some x => exact vrel_ev hs x

theorem aop_sound {R : FuncId → List Ret} {mu : Bool} {s : Slots} {o : Oper} {a : Act} (h : aop P R mu s o.op H K) (ht : Tabs P M w) (hr : Rel M loc H w) (hs : SRel M w loc s a.tmps) {next : Act → World → Prop} {Q : Exit → Act → World → Prop}
    (hnext : ∀ v av H' M' loc' w', K av H' → Rel M' loc' H' w' → VRel M' w' loc' av v → Step M loc H w M' loc' H' w' → next (a.put o.dst v) w') : o.wp P a w next Q := by
  obtain ⟨dst, op, type, pos, after, guard⟩ := o
  simp only at h hnext
  have fin : ∀ {r : Result Value} (hg : GoodV P M loc H w K r), (execOp a.eval ⟨dst, op, type, pos, after, guard⟩).run P w = r.andThen (fun v w' => .ok (.value v) w') →
      Oper.wp P ⟨dst, op, type, pos, after, guard⟩ a w next Q := by
    intro r hg he
    obtain ⟨v, w', av, H', M', loc', e, hK, r1, r2, r3⟩ := hg
    unfold Oper.wp
    rw [he, e]
    exact hnext v av H' M' loc' w' hK r1 r2 r3
  cases op with
  | move x => exact fin (GoodV.pure hr (vrel_ev hs x) h) rfl
  | assign x => exact fin (GoodV.pure hr (vrel_ev hs x) h) rfl
  | pick c x y =>
    simp only [aop] at h
    have hc := vrel_ev hs c
    split at h
    case h_2 => exact h.elim
    case h_1 t ht =>
    rw [ht] at hc
    generalize hq : a.eval c = q at hc
    cases hc
    cases t with
    | true => exact fin (GoodV.pure hr (vrel_ev hs x) h) (by simp [execOp, hq, asBool])
    | false => exact fin (GoodV.pure hr (vrel_ev hs y) h) (by simp [execOp, hq, asBool])
  | alloc t =>
    simp only [aop] at h
    split at h
    case h_2 => exact h.elim
    case h_1 cs hz => exact fin (aalloc_sound hz h hr) (by simp only [execOp, Sem.run_bind, Sem.run_pure])
  | box t x => exact fin (abox_sound (t := t) h hr (vrel_ev hs x)) (by simp only [execOp, Sem.run_bind, Sem.run_pure])
  | build t parts => exact fin (abuild_sound h hr hs) (by simp only [execOp, Sem.run_bind, Sem.run_pure])
  | buildSlice t n parts => exact fin (abuildSlice_sound h hr hs) (by simp only [execOp, Sem.run_bind, Sem.run_pure])
  | load t x => exact fin (aload_sound h hr (vrel_ev hs x)) (by simp only [execOp, Sem.run_bind, Sem.run_pure])
  | store t x y =>
    obtain ⟨w', H', M', loc', e, hK, r1, r2⟩ := astore_sound h hr (vrel_ev hs x) (vrel_ev hs y)
    have he : (execOp a.eval ⟨dst, .store t x y, type, pos, after, guard⟩).run P w = .ok .skip w' := by
      simp only [execOp, Sem.run_bind, e, Result.andThen_ok, Sem.run_pure]
    unfold Oper.wp
    rw [he]
    exact hnext undef .bad H' M' loc' w' hK r1 (.bad _) r2
  | nilCheck x =>
    simp only [aop] at h
    have hv := vrel_ev hs x
    have hgood : ∀ v, a.eval x = v → K (ev s x) H → (execOp a.eval ⟨dst, .nilCheck x, type, pos, after, guard⟩).run P w = .ok (.value v) w → Oper.wp P ⟨dst, .nilCheck x, type, pos, after, guard⟩ a w next Q := by
      intro v hq hK he
      have hv' := hv
      rw [hq] at hv'
      unfold Oper.wp
      rw [he]
      exact hnext v _ H M loc w hK hr hv' (Step.refl _ _ _ _)
    unfold anilCheck at h
    generalize hx : ev s x = X at h hv hgood
    generalize hq : a.eval x = q at hv hgood
    cases hv with
    | meth t n av v hv =>
      simp only at h
      obtain ⟨hc, hK⟩ := chk_elim h
      obtain ⟨f, hm⟩ := Option.isSome_iff_exists.1 hc
      refine hgood _ rfl hK ?_
      have hn : P.types.size + Made.depth = (P.types.size + 99) + 1 := rfl
      simp [execOp, hq, hn, nilAhead_run hm]
    | _ => simp only at h <;> first
      | exact h.elim
      | exact hgood _ rfl h (by simp only [execOp, hq]; rfl)
  | binOp bop t x y yt => exact fin (abin_sound (ox := x) (oy := y) h hr (vrel_ev hs x) (vrel_ev hs y)) (by simp only [execOp, Sem.run_bind, Sem.run_pure])
  | unOp uop t x => exact fin (aun_sound h hr (vrel_ev hs x)) (by simp only [execOp, Sem.run_bind, Sem.run_pure])
  | convert src dstT x => exact fin (aconv_sound h hr (vrel_ev hs x)) (by simp only [execOp, Sem.run_bind, Sem.run_pure])
  | makeInterface t x =>
    simp only [aop] at h
    obtain ⟨hc, hK⟩ := chk_elim h
    refine fin (GoodV.pure hr (.iface t _ _ (vrel_ev hs x)) hK) ?_
    cases hu : P.underlying t with
    | none => rw [hu] at hc; cases hc
    | some d =>
      rw [hu] at hc
      cases d <;> first | exact absurd hc Bool.false_ne_true | simp [execOp, Instr.makeInterface, run_underlying' hu]
  | makeFunc fn first captured =>
    cases fn with
    | func f =>
      simp only [aop] at h
      obtain ⟨hc, hK⟩ := chk_elim h
      have hf : first = #[] := by simpa using hc
      subst hf
      obtain ⟨v1, v2⟩ := vrels_ev hs captured
      exact fin (GoodV.pure hr (.fn f _ _ v1 v2) hK) (by simp [execOp, Instr.makeFunc])
    | method name =>
      simp only [aop] at h
      obtain ⟨hc, hK⟩ := chk_elim h
      have hf : captured = #[] := by simpa using hc
      subst hf
      split at hK
      case h_2 => exact hK.elim
      case h_1 t v hl =>
      have v0 := vrels_ev hs first
      rw [hl] at v0
      obtain ⟨v1, v2⟩ := v0
      have v3 := v2 0 (by simp)
      simp only [List.getElem_cons_zero] at v3
      generalize hq : first.map a.eval = q at v1 v2 v3
      obtain ⟨u, hu⟩ : ∃ u, q = #[u] := ⟨q[0]'(by simp [v1]), by
        apply Array.ext
        · simp [v1]
        · intro i h1 h2
          have : i = 0 := by simpa using h2
          subst this; rfl⟩
      subst hu
      simp only [List.getElem_toArray, List.getElem_cons_zero] at v3
      cases v3 with
      | iface _ _ u hu => exact fin (GoodV.pure hr (.meth t name _ _ hu) hK) (by simp [execOp, Instr.makeFunc, hq])
    | _ => exact h.elim
  | makeMap t r =>
    cases r with
    | none => exact fin (amakeMap_sound (t := t) h hr) (by simp only [execOp, Sem.run_bind, Sem.run_pure, Option.map_none])
    | some r => exact h.elim
  | lookup t x k ok => exact fin (alookup_sound h hr (vrel_ev hs x) (vrel_ev hs k)) (by simp only [execOp, Sem.run_bind, Sem.run_pure])
  | mapUpdate t x k y =>
    obtain ⟨w', H', M', loc', e, hK, r1, r2⟩ := amapUpdate_sound h hr (vrel_ev hs x) (vrel_ev hs k) (vrel_ev hs y)
    have he : (execOp a.eval ⟨dst, .mapUpdate t x k y, type, pos, after, guard⟩).run P w = .ok .skip w' := by
      simp only [execOp, Sem.run_bind, e, Result.andThen_ok, Sem.run_pure]
    unfold Oper.wp
    rw [he]
    exact hnext undef .bad H' M' loc' w' hK r1 (.bad _) r2
  | makeSlice t l c => exact fin (amakeSlice_sound h hr (vrel_ev hs l) (vrel_ev hs c)) (by simp only [execOp, Sem.run_bind, Sem.run_pure])
  | slice t x lo hi mx => exact fin (asli_sound h hr (vrel_ev hs x) (orelv_map hs lo) (orelv_map hs hi) (orelv_map hs mx)) (by simp only [execOp, Sem.run_bind, Sem.run_pure])
  | fieldAddr t x f => exact fin (afieldAddr_sound h hr (vrel_ev hs x)) (by simp only [execOp, Sem.run_bind, Sem.run_pure])
  | field t x f => exact fin (afield_sound h hr (vrel_ev hs x)) (by simp only [execOp, Sem.run_bind, Sem.run_pure])
  | indexAddr t x i => exact fin (aindexAddr_sound h hr (vrel_ev hs x) (vrel_ev hs i)) (by simp only [execOp, Sem.run_bind, Sem.run_pure])
  | index t x i => exact fin (aindex_sound h hr (vrel_ev hs x) (vrel_ev hs i)) (by simp only [execOp, Sem.run_bind, Sem.run_pure])
  | extract x i => exact fin (aextract_sound h hr (vrel_ev hs x)) (by simp only [execOp, Sem.run_bind, Sem.run_pure])
  | typeAssert x xt asserted ok => exact fin (atypeAssert_sound (xt := xt) h hr (vrel_ev hs x)) (by simp only [execOp, Sem.run_bind, Sem.run_pure])
  | range t x => exact fin (arange_sound h hr (vrel_ev hs x)) (by simp only [execOp, Sem.run_bind, Sem.run_pure])
  | next x str => exact fin (anext_sound (T := type) h hr (vrel_ev hs x)) (by simp only [execOp, Sem.run_bind, Sem.run_pure])
  | call c =>
    simp only [aop, acall] at h
    obtain ⟨callee, args, argTypes⟩ := c
    have hargs := vrels_ev hs args
    cases callee with
    | builtin b =>
      simp only at h
      cases b <;> simp only [abuiltin] at h <;> first
        | exact h.elim
        | exact fin (alen_sound (T := type) h hr hargs) (by simp only [execOp, resolve, invoke, builtin, pure_bind, Sem.run_bind, Sem.run_pure])
        | (split at h
           · exact fin (aappendM_sound (T := type) h hr hargs) (by simp only [execOp, resolve, invoke, builtin, pure_bind, Sem.run_bind, Sem.run_pure])
           · exact fin (aappend_sound (T := type) h hr hargs) (by simp only [execOp, resolve, invoke, builtin, pure_bind, Sem.run_bind, Sem.run_pure]))
        | exact fin (acopy_sound (T := type) h hr hargs) (by simp only [execOp, resolve, invoke, builtin, pure_bind, Sem.run_bind, Sem.run_pure])
        | exact fin (aminmax_sound (ts := argTypes) (T := type) h hr hargs) (by simp only [execOp, resolve, invoke, builtin, pure_bind, Sem.run_bind, Sem.run_pure])
    | value f =>
      simp only at h
      split at h
      case h_2 => exact h.elim
      case h_1 g cap hg =>
      obtain ⟨hp, hspec⟩ := chk_elim h
      have hf := vrel_ev hs f
      rw [hg] at hf
      generalize hq : a.eval f = q at hf
      cases hf with
      | fn _ _ vs hvs hvr =>
      have hall := hargs.append ⟨hvs, hvr⟩
      have hcalls := hspec M loc w _ ht hr hall
      unfold plainFn at hp
      split at hp
      case h_2 => cases hp
      case h_1 fn hfn =>
      rw [Bool.and_eq_true] at hp
      have hname : (fn.name == "runtime.NumGoroutine") = false := by simpa using hp.2
      have hbody : fn.body.isNone = false := by
        cases hb : fn.body with
        | none => rw [hb] at hp; simp at hp
        | some c => rfl
      have he : (execOp a.eval ⟨dst, .call ⟨.value f, args, argTypes⟩, type, pos, after, guard⟩).run P w = .ok (.enter g (args.map a.eval ++ vs)) w := by
        simp only [execOp, resolve, hq, Deferred.ofValue, pure_bind, invoke, callFunc, Sem.run_bind, run_program, Result.andThen_ok, hfn, hname, hbody, Bool.false_eq_true, if_false, Sem.run_pure, Array.empty_append]
      unfold Oper.wp
      rw [he]
      refine hcalls.mono fun e w' hh => ?_
      obtain ⟨v, r, H', M', loc', rfl, hK, r1, r2, r3⟩ := hh
      exact hnext v _ _ M' loc' w' (formed_elim hK) r1 r2 r3
    | invoke r n =>
      simp only at h
      split at h
      case h_2 => exact h.elim
      case h_1 t x hx =>
      obtain ⟨g, hm, h⟩ := natP_elim h
      obtain ⟨hp, hspec⟩ := chk_elim h
      have hf := vrel_ev hs r
      rw [hx] at hf
      generalize hq : a.eval r = q at hf
      cases hf with
      | iface _ _ u hu =>
      have hall := VRels.append (xs := [x]) (vs := #[u]) ⟨rfl, fun i hi => by
        have : i = 0 := by simpa using hi
        subst this; exact hu⟩ hargs
      have hcalls := hspec M loc w _ ht hr hall
      unfold plainFn at hp
      split at hp
      case h_2 => cases hp
      case h_1 fn hfn =>
      rw [Bool.and_eq_true] at hp
      have hname : (fn.name == "runtime.NumGoroutine") = false := by simpa using hp.2
      have hbody : fn.body.isNone = false := by
        cases hb : fn.body with
        | none => rw [hb] at hp; simp at hp
        | some c => rfl
      have hn : P.types.size + Made.depth = (P.types.size + 99) + 1 := rfl
      have he : (execOp a.eval ⟨dst, .call ⟨.invoke r n, args, argTypes⟩, type, pos, after, guard⟩).run P w = .ok (.enter g (#[u] ++ args.map a.eval)) w := by
        have hex : (#[Value.iface t u] ++ args.map a.eval).extract 1 (#[Value.iface t u] ++ args.map a.eval).size = args.map a.eval := by
          apply Array.ext
          · simp
          · intro i h1 h2
            simp only [Array.getElem_extract]
            rw [Array.getElem_append_right (by simp)]
            simp
        simp only [execOp, resolve, hq, pure_bind, invoke]
        rw [show (#[Value.iface t u] ++ args.map a.eval)[0]? = some (Value.iface t u) from by rw [Array.getElem?_append_left (by simp)]; rfl]
        simp only [hex, callMethod, callFunc, Sem.run_bind, run_program, Result.andThen_ok, hn, method_run hm, hfn, hname, hbody, Bool.false_eq_true, if_false, Sem.run_pure]
      unfold Oper.wp
      rw [he]
      refine hcalls.mono fun e w' hh => ?_
      obtain ⟨v, r, H', M', loc', rfl, hK, r1, r2, r3⟩ := hh
      exact hnext v _ _ M' loc' w' (formed_elim hK) r1 r2 r3
  | _ => exact h.elim

end
end Go.Ab
