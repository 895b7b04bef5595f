/- A3: several of this proof's own texts, one behind the other: what each proves stands at its head. -/
import Derived.Test.YtkmolhmdikjmpaaGreatA1
import Derived.Test.YtkmolhmdikjmpaaGreatQ2
import Derived.Orders
import Derived.KernelRfl
import Derived.Laws.Strings
import Derived.WalkKit
import Derived.ProofKit
import Derived.OpenShut
import Derived.Carry
import Derived.Sort.Grow
set_option linter.unusedVariables false
set_option linter.unusedSimpArgs false
set_option linter.unusedSectionVars false
set_option maxRecDepth 100000
set_option maxHeartbeats 4000000
noncomputable section
namespace Go.Ab
section
variable {P : Program} {M : Mem} {loc : Locs} {H : List AObj} {w : World} {K : AV → List AObj → Prop}
theorem vrels_ev {s : Slots} {a : Act} (hs : SRel M w loc s a.tmps) (xs : Array Operand) : VRels M w loc (xs.toList.map (ev s)) (xs.map a.eval) := by
 refine ⟨by simp, fun i hi => ?_⟩
 simp only [List.getElem_map, Array.getElem_map, Array.getElem_toList]
 exact vrel_ev hs _
theorem VRels.append {xs ys : List AV} {vs us : Array Value} (h : VRels M w loc xs vs) (k : VRels M w loc ys us) : VRels M w loc (xs ++ ys) (vs ++ us) := by
 obtain ⟨h1, h2⟩ := h
 obtain ⟨k1, k2⟩ := k
 refine ⟨by simp [h1, k1], fun i hi => ?_⟩
 by_cases e : i < xs.length
 ·rw [List.getElem_append_left e, Array.getElem_append_left (by omega)]; exact h2 i e
 ·have := k2 (i - xs.length) (by simp at hi; omega)
  rw [List.getElem_append_right (by omega), Array.getElem_append_right (by omega)]
  simp only [h1]; exact this
theorem orelv_map {s : Slots} {a : Act} (hs : SRel M w loc s a.tmps) (x : Option Operand) : ORelV M w loc (x.map (ev s)) (x.map a.eval) := by
 cases x with
 | none => trivial
 | some x => exact vrel_ev hs x
theorem aop_sound0 {R : FuncId → List Ret} {mu : Bool} {s : Slots} {o : Oper} {a : Act} (h : aop P R mu s o.op H K) (ht : Tabs P M w) (hr : Rel M loc H w) (hs : SRel M w loc s a.tmps) {next : Act → World → Prop} {Q : Exit → Act → World → Prop}
    (hny : ∀ c f id, o.op = .call c → c.callee = .value f → ev s f = .yld id → False)
    (hnext : ∀ v av H' M' loc' w', K av H' → Rel M' loc' H' w' → VRel M' w' loc' av v → Step M loc H w M' loc' H' w' → next (a.put o.dst v) w') : o.wp P a w next Q := by
  obtain ⟨dst, op, type, pos, after, guard⟩ := o
  simp only at h hnext
  have fin : ∀ {r : Result Value} (hg : GoodV P M loc H w K r), (execOp a.eval ⟨dst, op, type, pos, after, guard⟩).run P w = r.andThen (fun v w' => .ok (.value v) w') →
      Oper.wp P ⟨dst, op, type, pos, after, guard⟩ a w next Q := by
    intro r hg he
    obtain ⟨v, w', av, H', M', loc', e, hK, r1, r2, r3⟩ := hg
    unfold Oper.wp
    rw [he, e]
    exact hnext v av H' M' loc' w' hK r1 r2 r3
  cases op with
  | move x => exact fin (GoodV.pure hr (vrel_ev hs x) h) rfl
  | assign x => exact fin (GoodV.pure hr (vrel_ev hs x) h) rfl
  | pick c x y =>
    simp only [aop] at h
    have hc := vrel_ev hs c
    split at h
    case h_2 => exact h.elim
    case h_1 t ht =>
    rw [ht] at hc
    generalize hq : a.eval c = q at hc
    cases hc
    cases t with
    | true => exact fin (GoodV.pure hr (vrel_ev hs x) h) (by simp [execOp, hq, asBool])
    | false => exact fin (GoodV.pure hr (vrel_ev hs y) h) (by simp [execOp, hq, asBool])
  | alloc t =>
    simp only [aop] at h
    split at h
    case h_2 => exact h.elim
    case h_1 cs hz => exact fin (aalloc_sound hz h hr) (by simp only [execOp, Sem.run_bind, Sem.run_pure])
  | box t x => exact fin (abox_sound (t := t) h hr (vrel_ev hs x)) (by simp only [execOp, Sem.run_bind, Sem.run_pure])
  | build t parts => exact fin (abuild_sound h hr hs) (by simp only [execOp, Sem.run_bind, Sem.run_pure])
  | buildSlice t n parts =>
    cases mu with
    | false => exact fin (abuildSlice_sound h hr hs) (by simp only [execOp, Sem.run_bind, Sem.run_pure])
    | true => exact fin (abuildM_sound h hr hs) (by simp only [execOp, Sem.run_bind, Sem.run_pure])
  | load t x => exact fin (aload_sound h hr (vrel_ev hs x)) (by simp only [execOp, Sem.run_bind, Sem.run_pure])
  | store t x y =>
    obtain ⟨w', H', M', loc', e, hK, r1, r2⟩ := astore_sound h hr (vrel_ev hs x) (vrel_ev hs y)
    have he : (execOp a.eval ⟨dst, .store t x y, type, pos, after, guard⟩).run P w = .ok .skip w' := by
      simp only [execOp, Sem.run_bind, e, Result.andThen_ok, Sem.run_pure]
    unfold Oper.wp
    rw [he]
    exact hnext undef .bad H' M' loc' w' hK r1 (.bad _) r2
  | nilCheck x =>
    simp only [aop] at h
    have hv := vrel_ev hs x
    have hgood : ∀ v, a.eval x = v → K (ev s x) H → (execOp a.eval ⟨dst, .nilCheck x, type, pos, after, guard⟩).run P w = .ok (.value v) w → Oper.wp P ⟨dst, .nilCheck x, type, pos, after, guard⟩ a w next Q := by
      intro v hq hK he
      have hv' := hv
      rw [hq] at hv'
      unfold Oper.wp
      rw [he]
      exact hnext v _ H M loc w hK hr hv' (Step.refl _ _ _ _)
    unfold anilCheck at h
    generalize hx : ev s x = X at h hv hgood
    generalize hq : a.eval x = q at hv hgood
    cases hv with
    | meth t n av v hv =>
      simp only at h
      obtain ⟨hc, hK⟩ := chk_elim h
      obtain ⟨f, hm⟩ := Option.isSome_iff_exists.1 hc
      refine hgood _ rfl hK ?_
      have hn : P.types.size + Made.depth = (P.types.size + 99) + 1 := rfl
      simp [execOp, hq, hn, nilAhead_run hm]
    | _ => simp only at h <;> first
      | exact h.elim
      | exact hgood _ rfl h (by simp only [execOp, hq]; rfl)
  | binOp bop t x y yt => exact fin (abin_sound (ox := x) (oy := y) h hr (vrel_ev hs x) (vrel_ev hs y)) (by simp only [execOp, Sem.run_bind, Sem.run_pure])
  | unOp uop t x => exact fin (aun_sound h hr (vrel_ev hs x)) (by simp only [execOp, Sem.run_bind, Sem.run_pure])
  | convert src dstT x =>
    cases mu with
    | false => exact fin (aconv_sound h hr (vrel_ev hs x)) (by simp only [execOp, Sem.run_bind, Sem.run_pure])
    | true => exact fin (aconvM_sound h hr (vrel_ev hs x)) (by simp only [execOp, Sem.run_bind, Sem.run_pure])
  | makeInterface t x =>
    simp only [aop] at h
    obtain ⟨hc, hK⟩ := chk_elim h
    refine fin (GoodV.pure hr (.iface t _ _ (vrel_ev hs x)) hK) ?_
    cases hu : P.underlying t with
    | none => rw [hu] at hc; cases hc
    | some d =>
      rw [hu] at hc
      cases d <;> first | exact absurd hc Bool.false_ne_true | simp [execOp, Instr.makeInterface, run_underlying' hu]
  | makeFunc fn first captured =>
    cases fn with
    | func f =>
      simp only [aop] at h
      split at h
      · rename_i hc
        have hf : first = #[] := by simpa using hc
        subst hf
        obtain ⟨v1, v2⟩ := vrels_ev hs captured
        exact fin (GoodV.pure hr (.fn f _ _ v1 v2) h) (by simp [execOp, Instr.makeFunc])
      · obtain ⟨hc, hK⟩ := chk_elim h
        have hf : captured = #[] := by simpa using hc
        subst hf
        obtain ⟨v1, v2⟩ := vrels_ev hs first
        exact fin (GoodV.pure hr (.bfn f _ _ v1 v2) hK) (by simp [execOp, Instr.makeFunc])
    | method name =>
      simp only [aop] at h
      obtain ⟨hc, hK⟩ := chk_elim h
      have hf : captured = #[] := by simpa using hc
      subst hf
      split at hK
      case h_2 => exact hK.elim
      case h_1 t v hl =>
      have v0 := vrels_ev hs first
      rw [hl] at v0
      obtain ⟨v1, v2⟩ := v0
      have v3 := v2 0 (by simp)
      simp only [List.getElem_cons_zero] at v3
      generalize hq : first.map a.eval = q at v1 v2 v3
      obtain ⟨u, hu⟩ : ∃ u, q = #[u] := ⟨q[0]'(by simp [v1]), by
        apply Array.ext
        · simp [v1]
        · intro i h1 h2
          have : i = 0 := by simpa using h2
          subst this; rfl⟩
      subst hu
      simp only [List.getElem_toArray, List.getElem_cons_zero] at v3
      cases v3 with
      | iface _ _ u hu => exact fin (GoodV.pure hr (.meth t name _ _ hu) hK) (by simp [execOp, Instr.makeFunc, hq])
    | _ => exact h.elim
  | makeMap t r =>
    cases r with
    | none => exact fin (amakeMap_sound (t := t) h hr) (by simp only [execOp, Sem.run_bind, Sem.run_pure, Option.map_none])
    | some r => exact h.elim
  | lookup t x k ok => exact fin (alookup_sound h hr (vrel_ev hs x) (vrel_ev hs k)) (by simp only [execOp, Sem.run_bind, Sem.run_pure])
  | mapUpdate t x k y =>
    obtain ⟨w', H', M', loc', e, hK, r1, r2⟩ := amapUpdate_sound h hr (vrel_ev hs x) (vrel_ev hs k) (vrel_ev hs y)
    have he : (execOp a.eval ⟨dst, .mapUpdate t x k y, type, pos, after, guard⟩).run P w = .ok .skip w' := by
      simp only [execOp, Sem.run_bind, e, Result.andThen_ok, Sem.run_pure]
    unfold Oper.wp
    rw [he]
    exact hnext undef .bad H' M' loc' w' hK r1 (.bad _) r2
  | makeSlice t l c => exact fin (amakeSlice_sound h hr (vrel_ev hs l) (vrel_ev hs c)) (by simp only [execOp, Sem.run_bind, Sem.run_pure])
  | slice t x lo hi mx => exact fin (asli_sound h hr (vrel_ev hs x) (orelv_map hs lo) (orelv_map hs hi) (orelv_map hs mx)) (by simp only [execOp, Sem.run_bind, Sem.run_pure])
  | fieldAddr t x f => exact fin (afieldAddr_sound h hr (vrel_ev hs x)) (by simp only [execOp, Sem.run_bind, Sem.run_pure])
  | field t x f => exact fin (afield_sound h hr (vrel_ev hs x)) (by simp only [execOp, Sem.run_bind, Sem.run_pure])
  | indexAddr t x i => exact fin (aindexAddr_sound h hr (vrel_ev hs x) (vrel_ev hs i)) (by simp only [execOp, Sem.run_bind, Sem.run_pure])
  | index t x i => exact fin (aindex_sound h hr (vrel_ev hs x) (vrel_ev hs i)) (by simp only [execOp, Sem.run_bind, Sem.run_pure])
  | extract x i => exact fin (aextract_sound h hr (vrel_ev hs x)) (by simp only [execOp, Sem.run_bind, Sem.run_pure])
  | typeAssert x xt asserted ok => exact fin (atypeAssert_sound (xt := xt) h hr (vrel_ev hs x)) (by simp only [execOp, Sem.run_bind, Sem.run_pure])
  | range t x => exact fin (arange_sound h hr (vrel_ev hs x)) (by simp only [execOp, Sem.run_bind, Sem.run_pure])
  | entry x => exact fin (aentry_sound h hr (vrel_ev hs x)) (by simp only [execOp, Sem.run_bind, Sem.run_pure])
  | next x str => exact fin (anext_sound (T := type) h hr (vrel_ev hs x)) (by simp only [execOp, Sem.run_bind, Sem.run_pure])
  | call c =>
    simp only [aop, acall] at h
    obtain ⟨callee, args, argTypes⟩ := c
    have hargs := vrels_ev hs args
    cases callee with
    | builtin b =>
      simp only at h
      cases b <;> simp only [abuiltin] at h <;> first
        | exact h.elim
        | exact fin (alen_sound (T := type) h hr hargs) (by simp only [execOp, resolve, invoke, builtin, pure_bind, Sem.run_bind, Sem.run_pure])
        | exact fin (adelete_sound (T := type) h hr hargs) (by simp only [execOp, resolve, invoke, builtin, pure_bind, Sem.run_bind, Sem.run_pure])
        | exact fin (aclear_sound (T := type) h hr hargs) (by simp only [execOp, resolve, invoke, builtin, pure_bind, Sem.run_bind, Sem.run_pure])
        | (split at h
           · split at h
             · split at h
               · exact fin (aappendI_sound (T := type) h hr hargs) (by simp only [execOp, resolve, invoke, builtin, pure_bind, Sem.run_bind, Sem.run_pure])
               · exact fin (aappendM_sound (T := type) h hr hargs) (by simp only [execOp, resolve, invoke, builtin, pure_bind, Sem.run_bind, Sem.run_pure])
             · exact fin (aappendI_sound (T := type) h hr hargs) (by simp only [execOp, resolve, invoke, builtin, pure_bind, Sem.run_bind, Sem.run_pure])
             · exact fin (aappendZ_sound (T := type) h hr hargs) (by simp only [execOp, resolve, invoke, builtin, pure_bind, Sem.run_bind, Sem.run_pure])
             · exact fin (aappendM_sound (T := type) h hr hargs) (by simp only [execOp, resolve, invoke, builtin, pure_bind, Sem.run_bind, Sem.run_pure])
           · exact fin (aappend_sound (T := type) h hr hargs) (by simp only [execOp, resolve, invoke, builtin, pure_bind, Sem.run_bind, Sem.run_pure]))
        | exact fin (acap_sound (T := type) h hr hargs) (by simp only [execOp, resolve, invoke, builtin, pure_bind, Sem.run_bind, Sem.run_pure])
        | (split at h
           · exact fin (acopy_sound (T := type) h hr hargs) (by simp only [execOp, resolve, invoke, builtin, pure_bind, Sem.run_bind, Sem.run_pure])
           · exact fin (acopyM_sound (T := type) h hr hargs) (by simp only [execOp, resolve, invoke, builtin, pure_bind, Sem.run_bind, Sem.run_pure]))
        | exact fin (aminmax_sound (ts := argTypes) (T := type) h hr hargs) (by simp only [execOp, resolve, invoke, builtin, pure_bind, Sem.run_bind, Sem.run_pure])
    | value f =>
      simp only at h
      split at h
      case h_4 => exact h.elim
      case h_3 id hid => exact (hny _ _ _ rfl rfl hid).elim
      case h_2 g fs hg =>
        have hf := vrel_ev hs f
        rw [hg] at hf
        generalize hq : a.eval f = q at hf
        cases hf with
        | bfn _ _ vs hvs hvr =>
        obtain ⟨hp, hspec⟩ := chk_elim h
        have hall := VRels.append ⟨hvs, hvr⟩ hargs
        have hcalls := hspec M loc w _ ht hr hall
        unfold plainFn at hp
        split at hp
        case h_2 => cases hp
        case h_1 fn hfn =>
        rw [Bool.and_eq_true] at hp
        have hname : (fn.name == "runtime.NumGoroutine") = false := by simpa using hp.2
        have hbody : fn.body.isNone = false := by
          cases hb : fn.body with
          | none => rw [hb] at hp; simp at hp
          | some c => rfl
        have he : (execOp a.eval ⟨dst, .call ⟨.value f, args, argTypes⟩, type, pos, after, guard⟩).run P w = .ok (.enter g (vs ++ args.map a.eval)) w := by
          simp only [execOp, resolve, hq, Deferred.ofValue, pure_bind, invoke, callFunc, Sem.run_bind, run_program, Result.andThen_ok, hfn, hname, hbody, Bool.false_eq_true, if_false, Sem.run_pure, Array.append_empty]
        unfold Oper.wp
        rw [he]
        refine hcalls.mono fun e w' hh => ?_
        obtain ⟨v, r, H', M', loc', rfl, hK, r1, r2, r3⟩ := hh
        exact hnext v _ _ M' loc' w' (formed_elim hK) r1 r2 r3
      case h_1 g cap hg =>
      have hf := vrel_ev hs f
      rw [hg] at hf
      generalize hq : a.eval f = q at hf
      cases hf with
      | fn _ _ vs hvs hvr =>
      split at h
      case h_2 =>
        obtain ⟨hce, h⟩ := chk_elim h
        have hcap0 : cap = [] := by simpa using hce
        subst hcap0
        have hvs0 : vs = #[] := by
          apply Array.ext
          · simpa using hvs
          · intro i h1 h2; simp at h2
        subst hvs0
        obtain ⟨r, hrun, hgood⟩ := aextern_sound h hr hargs
        refine fin hgood ?_
        simp only [execOp, resolve, hq, Deferred.ofValue, pure_bind, invoke, Array.empty_append, Array.append_empty, hrun]
      rename_i hp
      have hspec := h
      have hall := hargs.append ⟨hvs, hvr⟩
      have hcalls := hspec M loc w _ ht hr hall
      unfold plainFn at hp
      split at hp
      case h_2 => cases hp
      case h_1 fn hfn =>
      rw [Bool.and_eq_true] at hp
      have hname : (fn.name == "runtime.NumGoroutine") = false := by simpa using hp.2
      have hbody : fn.body.isNone = false := by
        cases hb : fn.body with
        | none => rw [hb] at hp; simp at hp
        | some c => rfl
      have he : (execOp a.eval ⟨dst, .call ⟨.value f, args, argTypes⟩, type, pos, after, guard⟩).run P w = .ok (.enter g (args.map a.eval ++ vs)) w := by
        simp only [execOp, resolve, hq, Deferred.ofValue, pure_bind, invoke, callFunc, Sem.run_bind, run_program, Result.andThen_ok, hfn, hname, hbody, Bool.false_eq_true, if_false, Sem.run_pure, Array.empty_append]
      unfold Oper.wp
      rw [he]
      refine hcalls.mono fun e w' hh => ?_
      obtain ⟨v, r, H', M', loc', rfl, hK, r1, r2, r3⟩ := hh
      exact hnext v _ _ M' loc' w' (formed_elim hK) r1 r2 r3
    | invoke r n =>
      simp only at h
      split at h
      case h_2 => exact h.elim
      case h_1 t x hx =>
      obtain ⟨g, hm, h⟩ := natP_elim h
      obtain ⟨hp, hspec⟩ := chk_elim h
      have hf := vrel_ev hs r
      rw [hx] at hf
      generalize hq : a.eval r = q at hf
      cases hf with
      | iface _ _ u hu =>
      have hall := VRels.append (xs := [x]) (vs := #[u]) ⟨rfl, fun i hi => by
        have : i = 0 := by simpa using hi
        subst this; exact hu⟩ hargs
      have hcalls := hspec M loc w _ ht hr hall
      unfold plainFn at hp
      split at hp
      case h_2 => cases hp
      case h_1 fn hfn =>
      rw [Bool.and_eq_true] at hp
      have hname : (fn.name == "runtime.NumGoroutine") = false := by simpa using hp.2
      have hbody : fn.body.isNone = false := by
        cases hb : fn.body with
        | none => rw [hb] at hp; simp at hp
        | some c => rfl
      have hn : P.types.size + Made.depth = (P.types.size + 99) + 1 := rfl
      have he : (execOp a.eval ⟨dst, .call ⟨.invoke r n, args, argTypes⟩, type, pos, after, guard⟩).run P w = .ok (.enter g (#[u] ++ args.map a.eval)) w := by
        have hex : (#[Value.iface t u] ++ args.map a.eval).extract 1 (#[Value.iface t u] ++ args.map a.eval).size = args.map a.eval := by
          apply Array.ext
          · simp
          · intro i h1 h2
            simp only [Array.getElem_extract]
            rw [Array.getElem_append_right (by simp)]
            simp
        simp only [execOp, resolve, hq, pure_bind, invoke]
        rw [show (#[Value.iface t u] ++ args.map a.eval)[0]? = some (Value.iface t u) from by rw [Array.getElem?_append_left (by simp)]; rfl]
        simp only [hex, callMethod, callFunc, Sem.run_bind, run_program, Result.andThen_ok, hn, method_run hm, hfn, hname, hbody, Bool.false_eq_true, if_false, Sem.run_pure]
      unfold Oper.wp
      rw [he]
      refine hcalls.mono fun e w' hh => ?_
      obtain ⟨v, r, H', M', loc', rfl, hK, r1, r2, r3⟩ := hh
      exact hnext v _ _ M' loc' w' (formed_elim hK) r1 r2 r3
  | _ => exact h.elim
theorem callsW {ro : Option Nat} {k : Nat} {f : FuncId} {args : Array Value} {R : Ending → World → Prop} (h : Calls P f args w R) : CallsIn (FW ro) k P f args w R :=
 ⟨trivial, fun cs _ => let ⟨e, w', fr, r, s, x⟩ := h cs; ⟨e, w', fr, r, comesIn_wide.2 s, x⟩⟩
theorem roomW {ro : Option Nat} (n : Nat) : (FW ro).room n := fun _ h => by simp [FW] at h
theorem callsOfW {ro : Option Nat} {k : Nat} {f : FuncId} {args : Array Value} {R : Ending → World → Prop} (h : CallsIn (FW ro) k P f args w R) : Calls P f args w R :=
 fun cs => let ⟨e, w', fr, r, s, x⟩ := h.2 cs (roomW _); ⟨e, w', fr, r, ComesIn.comes s, x⟩
theorem wpIn_of_wp {ro : Option Nat} {o : Oper} {a : Act} {next : Act → World → Prop} {Q : Exit → Act → World → Prop} (hd : ∀ c, o.op ≠ .defer c) (h : o.wp P a w next Q) : o.wpIn (FW ro) 0 P a w next Q := by
 refine ⟨fun _ _ => trivial, ?_⟩
 rw [Oper.semAt_eq _ _ _ hd]
 unfold Oper.wp at h
 generalize (execOp a.eval o).run P w = r at h
 cases r with
 | ok x w' =>
  cases x <;> simp only [Oper.upon, Oper.uponIn] at h ⊢ <;> first
   | exact h
   | exact ⟨fun h => by simp [FW] at h, callsW h⟩
   | exact ⟨fun h => by simp [FW] at h, fun c cs _ => let ⟨v, w', r, s⟩ := h c cs; ⟨v, w', r, stepsIn_wide.2 s⟩⟩
 | halt x w' => cases x <;> simp only [Oper.upon, Oper.uponIn] at h ⊢ <;> exact h
theorem aop_sound {R : FuncId → List Ret} {mu : Bool} {s : Slots} {ro : Option Nat} {o : Oper} {a : Act} (h : aop P R mu s o.op H K) (ht : Tabs P M w) (hr : Rel M loc H w) (hs : SRel M w loc s a.tmps) {next : Act → World → Prop} {Q : Exit → Act → World → Prop}
  (hnext : ∀ v av H' M' loc' w', K av H' → Rel M' loc' H' w' → VRel M' w' loc' av v → Step M loc H w M' loc' H' w' → next (a.put o.dst v) w') : o.wpIn (FW ro) 0 P a w next Q := by
 by_cases hy : ∃ c f id, o.op = .call c ∧ c.callee = .value f ∧ ev s f = .yld id
 ·obtain ⟨c, f, id, h1, h2, h3⟩ := hy
  obtain ⟨dst, op, type, pos, after, guard⟩ := o
  obtain ⟨callee, args, argTypes⟩ := c
  simp only at h1 h2
  subst h1 h2
  simp only [aop, acall, h3] at h
  have hargs := vrels_ev hs args
  have hf := vrel_ev hs f
  rw [h3] at hf
  generalize hq : a.eval f = q at hf
  cases hf with
  | yld _ b hl =>
  obtain ⟨g, tmps, asg, body, hrun, hround⟩ := h M loc w _ b ht hr hargs hl
  refine ⟨fun _ _ => trivial, ?_⟩
  rw [Oper.semAt_eq _ _ _ (by intro c h; cases h)]
  have he : (execOp a.eval ⟨dst, .call ⟨.value f, args, argTypes⟩, type, pos, after, guard⟩).run P w = .ok (.round b g tmps asg body) w := by
   simp only [execOp, resolve, hq, Deferred.ofValue, pure_bind, invoke, Array.empty_append, hrun]
  rw [he]
  refine ⟨fun h => by simp [FW] at h, ?_⟩
  have hround' : RoundIn (FW ro) 0 P b g tmps asg body w _ := hround
  refine hround'.mono fun e w' hh => ?_
  obtain ⟨v, r, H', M', loc', rfl, hK, r1, r2, r3⟩ := hh
  exact hnext v _ _ M' loc' w' (formed_elim hK) r1 r2 r3
 ·refine wpIn_of_wp (fun c hc => ?_) (aop_sound0 h ht hr hs (fun c f id h1 h2 h3 => hy ⟨c, f, id, h1, h2, h3⟩) hnext)
  rw [hc] at h
  exact h.elim
end
end Go.Ab
end

noncomputable section
namespace Go.Ab
section
variable {ro : Option Nat} {P : Program} {M : Mem} {loc : Locs} {H : List AObj} {w : World}
theorem aput_elim {N : Nat} {s : Slots} {d : Option Tmp} {v : AV} {K : Slots → Prop} (h : aput N s d v K) {a : Act} {val : Value} (hs : SRel M w loc s a.tmps) (hN : a.tmps.size = N) (hv : VRel M w loc v val) :
  ∃ s', K s' ∧ SRel M w loc s' (a.put d val).tmps ∧ (a.put d val).tmps.size = N ∧ (a.put d val).defers = a.defers := by
 cases d with
 | none => exact ⟨s, h, hs, hN, rfl⟩
 | some d =>
  obtain ⟨hb, hK⟩ := chk_elim h
  have hlt : d < N := by simpa [Nat.blt_eq] using hb
  exact ⟨_, hK, hs.put (hN ▸ hlt) hv, by simp [Act.put, hN], rfl⟩
theorem yielded_of {ops : Array Oper} {s : Slots} {tmps : Array Value} (hs : SRel M w loc s tmps) {j d : Nat} {b : Bool} (hd : (ops[j]?).bind (·.dst) = some d) (hg : get s d = .bool b) (hlt : d < tmps.size) :
  yielded ops tmps j = some b := by
 have := hs d
 rw [hg] at this
 unfold yielded
 rw [hd]
 have he : tmps[d]? = some (tmps.getD d undef) := by
  rw [Array.getElem?_eq_getElem hlt]; simp [Array.getD, hlt]
 simp only [Option.bind_some, he]
 generalize tmps.getD d undef = q at this
 cases this
 rfl
theorem vrel_undef : VRel M w loc (.tup []) undef := .tup [] #[] rfl (fun i h => by simp at h)
theorem yielded_none {ops : Array Oper} {s : Slots} {tmps : Array Value} (hs : SRel M w loc s tmps) {j d : Nat} (hd : (ops[j]?).bind (·.dst) = some d) (hg : get s d = .tup []) :
  yielded ops tmps j = none := by
 have := hs d
 rw [hg] at this
 unfold yielded
 rw [hd]
 simp only [Option.bind_some]
 cases he : tmps[d]? with
 | none => rfl
 | some q =>
  have e : tmps.getD d undef = q := by rw [Array.getD_eq_getD_getElem?, he]; rfl
  rw [e] at this
  cases this
  rfl
theorem srel_know {s : Slots} {tmps : Array Value} (hs : SRel M w loc s tmps) {d : Nat} {b : Bool} (hg : get s d = .bool b) : SRel M w loc ((d, .bool b) :: s) tmps := by
 intro i
 simp only [get]
 cases h : Nat.beq d i with
 | true => have := Nat.eq_of_beq_eq_true h; subst this; have h2 := hs d; rw [hg] at h2; exact h2
 | false => exact hs i
theorem aoper_sound {cfg : Cfg} {ops : Array Oper} {s : Slots} {i : Nat} {o : Oper} {K : Slots → List AObj → Prop} {a : Act} {next : Act → World → Prop} {Q : Exit → Act → World → Prop}
  (h : aoper P cfg ops s o H K) (ho : ops[i]? = some o) (ht : Tabs P M w) (hr : Rel M loc H w) (hs : SRel M w loc s a.tmps) (hN : a.tmps.size = cfg.N)
  (hnext : ∀ a' s' H' M' loc' w', K s' H' → Rel M' loc' H' w' → SRel M' w' loc' s' a'.tmps → a'.tmps.size = cfg.N → a'.defers = a.defers → Step M loc H w M' loc' H' w' → next a' w') :
  wpOpIn (FW ro) 0 P ops Q i next a w := by
 have hrun : ∀ s, SRel M w loc s a.tmps → (aop P cfg.ret (match o.dst with | some d => cfg.mu d | none => false) s o.op H fun v H' => aput cfg.N s o.dst v fun s' => K s' H') → o.wpIn (FW ro) 0 P a w next Q := by
  intro s hs h
  refine aop_sound h ht hr hs fun v av H' M' loc' w' hK r1 r2 r3 => ?_
  have hs' := hs.keeps (r3.keeps hr)
  obtain ⟨s', h1, h2, h3, h4⟩ := aput_elim hK hs' hN r2
  exact hnext _ s' H' M' loc' w' h1 r1 h2 h3 h4 r3
 have hskip : ∀ s, SRel M w loc s a.tmps → (aput cfg.N s o.dst (.tup []) fun s' => K s' H) → next (a.put o.dst undef) w := by
  intro s hs h
  obtain ⟨s', h1, h2, h3, h4⟩ := aput_elim h hs hN vrel_undef
  exact hnext _ s' H M loc w h1 hr h2 h3 h4 (Step.refl _ _ _ _)
 unfold wpOpIn
 rw [ho]
 simp only
 unfold aoper at h
 simp only at h
 cases hg : o.guard with
 | none =>
  rw [hg] at h
  have : Region.wanted o (yielded ops a.tmps) = true := by simp [Region.wanted, hg]
  rw [if_pos this]
  exact (hrun s hs h)
 | some jw =>
  obtain ⟨j, want⟩ := jw
  rw [hg] at h
  simp only at h
  split at h
  case h_2 => exact h.elim
  case h_1 d hd =>
  split at h
  case h_3 => exact h.elim
  case h_2 hb =>
   have hw : Region.wanted o (yielded ops a.tmps) = false := by
    simp only [Region.wanted, hg, yielded_none hs hd hb]
    rfl
   rw [hw]
   exact ⟨fun _ _ => trivial, hskip _ hs h⟩
  case h_1 b hb =>
  obtain ⟨hlt, h⟩ := chk_elim h
  have hlt : d < cfg.N := by simpa [Nat.blt_eq] using hlt
  have hy := yielded_of hs hd hb (hN ▸ hlt)
  have hk := srel_know hs hb
  have hw : Region.wanted o (yielded ops a.tmps) = (b == want) := by
   simp only [Region.wanted, hg, hy]
   cases b <;> cases want <;> rfl
  rw [hw]
  cases b with
  | true =>
   simp only [condP] at h
   cases want with
   | true => exact (hrun _ hk h)
   | false => exact ⟨fun _ _ => trivial, hskip _ hk h⟩
  | false =>
   simp only [condP] at h
   cases want with
   | true => exact ⟨fun _ _ => trivial, hskip _ hk h⟩
   | false => exact (hrun _ hk h)
theorem aops_sound {cfg : Cfg} {ops : Array Oper} {Q : Exit → Act → World → Prop} : ∀ (l : List Nat) {M loc H w} (s : Slots) (a : Act) (K : Slots → List AObj → Prop), aops P cfg ops l s H K → Tabs P M w → Rel M loc H w → SRel M w loc s a.tmps → a.tmps.size = cfg.N →
  (∀ a' s' H' M' loc' w', K s' H' → Rel M' loc' H' w' → SRel M' w' loc' s' a'.tmps → a'.tmps.size = cfg.N → a'.defers = a.defers → Step M loc H w M' loc' H' w' → Q .normal a' w') → wpOpsIn (FW ro) 0 P ops Q l a w
 | [], M, loc, H, w, s, a, K, h, ht, hr, hs, hN, hq => hq a s H M loc w h hr hs hN rfl (Step.refl _ _ _ _)
 | i :: rest, M, loc, H, w, s, a, K, h, ht, hr, hs, hN, hq => by
  simp only [aops] at h
  rw [wpOpsIn_cons]
  split at h
  case h_2 => exact h.elim
  case h_1 o ho =>
  refine aoper_sound h ho ht hr hs hN fun a' s' H' M' loc' w' hK r1 r2 r3 r4 r5 => ?_
  exact aops_sound rest s' a' K hK (ht.step hr r5) r1 r2 r3 fun a2 s2 H2 M2 loc2 w2 k1 k2 k3 k4 k5 k6 => hq a2 s2 H2 M2 loc2 w2 k1 k2 k3 k4 (k5.trans r4) (r5.trans k6)
theorem aops_app {cfg : Cfg} {ops : Array Oper} {Q : Exit → Act → World → Prop} {rest : List Nat} : ∀ (l : List Nat) {M loc H w} (s : Slots) (a : Act) (K : Slots → List AObj → Prop), aops P cfg ops l s H K → Tabs P M w → Rel M loc H w → SRel M w loc s a.tmps → a.tmps.size = cfg.N →
  (∀ a' s' H' M' loc' w', K s' H' → Rel M' loc' H' w' → SRel M' w' loc' s' a'.tmps → a'.tmps.size = cfg.N → a'.defers = a.defers → Step M loc H w M' loc' H' w' → wpOpsIn (FW ro) 0 P ops Q rest a' w') → wpOpsIn (FW ro) 0 P ops Q (l ++ rest) a w
 | [], M, loc, H, w, s, a, K, h, ht, hr, hs, hN, hq => hq a s H M loc w h hr hs hN rfl (Step.refl _ _ _ _)
 | i :: l, M, loc, H, w, s, a, K, h, ht, hr, hs, hN, hq => by
  simp only [aops] at h
  rw [List.cons_append, wpOpsIn_cons]
  split at h
  case h_2 => exact h.elim
  case h_1 o ho =>
  refine aoper_sound h ho ht hr hs hN fun a' s' H' M' loc' w' hK r1 r2 r3 r4 r5 => ?_
  exact aops_app l s' a' K hK (ht.step hr r5) r1 r2 r3 fun a2 s2 H2 M2 loc2 w2 k1 k2 k3 k4 k5 k6 => hq a2 s2 H2 M2 loc2 w2 k1 k2 k3 k4 (k5.trans r4) (r5.trans k6)
end
end Go.Ab
end

noncomputable section
namespace Go.Ab
def isX : Op → Bool
 | .assign _ | .alloc _ | .box .. | .store .. | .makeSlice .. | .range .. | .next .. | .entry .. | .typeAssert .. | .makeMap .. | .lookup .. | .mapUpdate .. => true
 | .call c => match c.callee with
  | .builtin .len | .builtin .min | .builtin .max => false
  | _ => true
 | _ => false
def isL : Op → Bool
 | .load .. => true
 | .call c => match c.callee with
  | .builtin .len => true
  | _ => false
 | _ => false
def isS (mu : Bool) : Op → Bool
 | .slice .. => mu
 | _ => false
def isC (mu : Bool) : Op → Bool
 | .convert .. | .buildSlice .. => mu
 | _ => false
def muOf (cfg : Cfg) (o : Oper) : Bool := match o.dst with | some d => cfg.mu d | none => false
def isXo (cfg : Cfg) (o : Oper) : Bool := isX o.op || isC (muOf cfg o) o.op
def sureOp (P : Program) : Op → Bool
 | .binOp .eql t _ _ _ | .binOp .neq t _ _ _ => !slish P t
 | _ => true
def isAl (o : Oper) : Bool := match o.op with
 | .alloc _ => match o.guard with | none => true | some _ => false
 | _ => false
def isFl (P : Program) (cfg : Cfg) (o : Oper) : Bool := match o.op with
 | .alloc t => match o.guard, o.dst with
  | none, some d => Nat.blt d cfg.N && (zeroT P t).isSome
  | _, _ => false
 | _ => false
def predsOf (o : Oper) : List Nat := o.after.toList.filterMap fun e => match Region.binds .any e with | true => some e.on | false => none
def befB (masks : List Nat) (j i : Nat) : Bool := (masks.getD i 0).testBit j
def pairOk (P : Program) (cfg : Cfg) (ops : Array Oper) (masks : List Nat) (i j : Nat) (oi oj : Oper) : Bool :=
 !Nat.beq i j && !(predsOf oi).contains j && (!isXo cfg oi || befB masks i j || isFl P cfg oj) && (oi.apart ops oj || befB masks i j) &&
 (!(isAl oi || isAl oj) || (match oi.dst, oj.dst with | some d, some d' => !Nat.beq d d' | _, _ => true)) &&
 (isXo cfg oi || (match oi.dst, oj.dst with | some d, some d' => !Nat.beq d d' | _, _ => true)) &&
 (isXo cfg oj || (match oj.dst with | some d => !(oi.looksAt ops).contains d | none => true))
def orderOk (P : Program) (cfg : Cfg) (ops : Array Oper) (masks : List Nat) : List Nat → Bool
 | [] => true
 | i :: r => (match ops[i]? with
  | some oi => (isXo cfg oi || (sureOp P oi.op && match oi.dst with | some d => !(oi.looksAt ops).contains d | none => false)) && r.all fun j => match ops[j]? with
   | some oj => pairOk P cfg ops masks i j oi oj
   | none => false
  | none => false) && orderOk P cfg ops masks r
def maskOk (ops : Array Oper) (masks : List Nat) (i : Nat) : Bool :=
 match ops[i]? with
 | some o => Nat.beq ((masks.getD i 0) ||| ((predsOf o).foldl (fun u p => u ||| (2 ^ p ||| masks.getD p 0)) 0)) ((predsOf o).foldl (fun u p => u ||| (2 ^ p ||| masks.getD p 0)) 0) &&
   (predsOf o).all fun p => Nat.blt p ops.size && !Nat.beq p i
 | none => false
def drawOk (P : Program) (cfg : Cfg) (ops : Array Oper) (masks : List Nat) (c : List Nat) : Bool :=
 Nat.beq c.length ops.size && ((List.range ops.size).all fun i => c.contains i) && ((List.range ops.size).all (maskOk ops masks)) &&
 orderOk P cfg ops masks c && P.follows .mixedOrders
def force {α : Sort _} (x : Nat) (f : Nat → α) : α := Nat.rec (motive := fun _ => α) (f 0) (fun k _ => f (k + 1)) x
def nextOp (cfg : Cfg) (ops : Array Oper) (done : Nat) (any : Bool) : List Nat → Option Nat
 | [] => none
 | i :: r => match ops[i]? with
  | some o => bif !done.testBit i && ((any || !isXo cfg o) && (predsOf o).all (done.testBit ·)) then some i else nextOp cfg ops done any r
  | none => none
def nextBy (ops : Array Oper) (done : Nat) (p : Nat → Oper → Bool) : List Nat → Option Nat
 | [] => none
 | i :: r => match ops[i]? with
  | some o => bif !done.testBit i && p i o then some i else nextBy ops done p r
  | none => none
def due (done : Nat) (o : Oper) : Bool := (predsOf o).all (done.testBit ·)
def actMask (cfg : Cfg) (ops : Array Oper) : List Nat → Nat → Nat
 | [], u => u
 | i :: r, u => match ops[i]? with
  | some o => bif isXo cfg o && !isAl o then force (u ||| 2 ^ i) fun u' => actMask cfg ops r u' else actMask cfg ops r u
  | none => u
def nextAct (cfg : Cfg) (ops : Array Oper) (masks : List Nat) (act done : Nat) (all : List Nat) : Option Nat :=
 match nextBy ops done (fun i o => isXo cfg o && !isAl o && Nat.beq (Nat.land (Nat.land (masks.getD i 0) act) done) (Nat.land (masks.getD i 0) act)) all with
 | some x => match nextBy ops done (fun i o => isAl o && (masks.getD x 0).testBit i && due done o) all with
  | some i => some i
  | none => bif (match ops[x]? with | some o => due done o | none => false) then some x else none
 | none => none
def canonGo (cfg : Cfg) (ops : Array Oper) (masks : List Nat) (act : Nat) (all : List Nat) : Nat → Nat → List Nat → List Nat
 | 0, _, acc => acc
 | n + 1, done, acc => match nextOp cfg ops done false all with
  | some i => force (done ||| 2 ^ i) fun d => force i fun i' => canonGo cfg ops masks act all n d (i' :: acc)
  | none => match nextAct cfg ops masks act done all with
   | some i => force (done ||| 2 ^ i) fun d => force i fun i' => canonGo cfg ops masks act all n d (i' :: acc)
   | none => match nextOp cfg ops done true all with
    | some i => force (done ||| 2 ^ i) fun d => force i fun i' => canonGo cfg ops masks act all n d (i' :: acc)
    | none => acc
def masksGo (ops : Array Oper) : List Nat → List Nat → List Nat
 | [], acc => acc
 | i :: r, acc => match ops[i]? with
  | some o => force ((predsOf o).foldl (fun u p => u ||| (2 ^ p ||| acc.getD (i - 1 - p) 0)) 0) fun m => masksGo ops r (m :: acc)
  | none => acc
def masksOf (ops : Array Oper) : List Nat := (masksGo ops (List.range ops.size) []).reverse
def canon (cfg : Cfg) (ops : Array Oper) : List Nat := (canonGo cfg ops (masksOf ops) (actMask cfg ops (List.range ops.size) 0) (List.range ops.size) ops.size 0 []).reverse
def Pend (P : Program) (cfg : Cfg) (ops : Array Oper) (s : Slots) (H : List AObj) (j : Nat) : Prop :=
 match ops[j]? with
 | some o => match o.dst with
  | some d => match o.guard with
   | none => aop P cfg.ret (muOf cfg o) s o.op H fun v H' => v = get s d ∧ H' = H
   | some (g, want) => match (ops[g]?).bind (·.dst) with
    | some gd => match get s gd with
     | .bool b => match b, want with
      | true, true | false, false => aop P cfg.ret (muOf cfg o) s o.op H fun v H' => v = get s d ∧ H' = H
      | _, _ => get s d = .tup []
     | .tup [] => get s d = .tup []
     | _ => False
    | none => False
  | none => False
 | none => False
def pendAll (P : Program) (cfg : Cfg) (ops : Array Oper) (masks : List Nat) (i : Nat) (s : Slots) (H : List AObj) : List Nat → Prop → Prop
 | [], A => A
 | j :: r, A => match befB masks j i with
  | true => pendAll P cfg ops masks i s H r A
  | false => Pend P cfg ops s H j ∧ pendAll P cfg ops masks i s H r A
def adrawL (P : Program) (cfg : Cfg) (ops : Array Oper) (masks : List Nat) : List Nat → List Nat → Slots → List AObj → (Slots → List AObj → Prop) → Prop
 | [], _, s, H, K => K s H
 | i :: r, log, s, H, K => match ops[i]? with
  | some o => match isXo cfg o with
   | true => aoper P cfg ops s o H fun s' H' => pendAll P cfg ops masks i s' H' log (adrawL P cfg ops masks r log s' H' K)
   | false => aoper P cfg ops s o H fun s' H' => adrawL P cfg ops masks r (match isL o.op || isS (muOf cfg o) o.op with | true => i :: log | false => log) s' H' K
  | none => False
def adraw (P : Program) (cfg : Cfg) (ops : Array Oper) (s : Slots) (H : List AObj) (K : Slots → List AObj → Prop) : Prop :=
 chk (drawOk P cfg ops (masksOf ops) (canon cfg ops)) (adrawL P cfg ops (masksOf ops) (canon cfg ops) [] s H K)
section
variable {P : Program}
theorem aop_congr {R : FuncId → List Ret} {mu : Bool} {s s' : Slots} {o : Op} {H : List AObj} {K : AV → List AObj → Prop} (h : ∀ x ∈ o.operands, ev s x = ev s' x) (hk : aop P R mu s o H K) : aop P R mu s' o H K := by
 cases o with
 | move x => have e := h x (by simp [Op.operands]); simp only [aop, e] at hk ⊢; exact hk
 | assign x => have e := h x (by simp [Op.operands]); simp only [aop, e] at hk ⊢; exact hk
 | pick c x y =>
  have e1 := h c (by simp [Op.operands]); have e2 := h x (by simp [Op.operands]); have e3 := h y (by simp [Op.operands])
  simp only [aop, e1, e2, e3] at hk ⊢; exact hk
 | alloc t => exact hk
 | box t x => have e := h x (by simp [Op.operands]); simp only [aop, e] at hk ⊢; exact hk
 | build t parts =>
  have e : parts.toList.map (fun (i, x) => (i, ev s x)) = parts.toList.map (fun (i, x) => (i, ev s' x)) :=
   List.map_congr_left fun p hp => by
    have := h p.2 (by simp only [Op.operands, List.mem_toArray, List.mem_map]; exact ⟨p, hp, rfl⟩)
    simp only [this]
  simp only [aop, e] at hk ⊢; exact hk
 | buildSlice t n parts =>
  have e : parts.toList.map (fun (i, x) => (i, ev s x)) = parts.toList.map (fun (i, x) => (i, ev s' x)) :=
   List.map_congr_left fun p hp => by
    have := h p.2 (by simp only [Op.operands, List.mem_toArray, List.mem_map]; exact ⟨p, hp, rfl⟩)
    simp only [this]
  simp only [aop, e] at hk ⊢; exact hk
 | load t x => have e := h x (by simp [Op.operands]); simp only [aop, e] at hk ⊢; exact hk
 | store t x y =>
  have e1 := h x (by simp [Op.operands]); have e2 := h y (by simp [Op.operands])
  simp only [aop, e1, e2] at hk ⊢; exact hk
 | nilCheck x => have e := h x (by simp [Op.operands]); simp only [aop, e] at hk ⊢; exact hk
 | binOp op t x y yt =>
  have e1 := h x (by simp [Op.operands]); have e2 := h y (by simp [Op.operands])
  simp only [aop, e1, e2] at hk ⊢; exact hk
 | unOp op t x => have e := h x (by simp [Op.operands]); simp only [aop, e] at hk ⊢; exact hk
 | convert a b x => have e := h x (by simp [Op.operands]); simp only [aop, e] at hk ⊢; exact hk
 | makeInterface t x => have e := h x (by simp [Op.operands]); simp only [aop, e] at hk ⊢; exact hk
 | makeFunc fn first captured =>
  cases fn with
  | func f =>
   have e : captured.toList.map (ev s) = captured.toList.map (ev s') :=
    List.map_congr_left fun p hp => h p (by simp only [Op.operands, Array.mem_append]; exact .inr (by simpa using hp))
   have e2 : first.toList.map (ev s) = first.toList.map (ev s') :=
    List.map_congr_left fun p hp => h p (by simp only [Op.operands, Array.mem_append]; exact .inl (by simpa using hp))
   simp only [aop, e, e2] at hk ⊢; exact hk
  | method name =>
   have e : first.toList.map (ev s) = first.toList.map (ev s') :=
    List.map_congr_left fun p hp => h p (by simp only [Op.operands, Array.mem_append]; exact .inl (by simpa using hp))
   simp only [aop, e] at hk ⊢; exact hk
  | _ => exact hk.elim
 | makeMap t r =>
  cases r with
  | none => exact hk
  | some r => exact hk.elim
 | lookup t x k ok =>
  have e1 := h x (by simp [Op.operands]); have e2 := h k (by simp [Op.operands])
  simp only [aop, e1, e2] at hk ⊢; exact hk
 | mapUpdate t x k v =>
  have e1 := h x (by simp [Op.operands]); have e2 := h k (by simp [Op.operands]); have e3 := h v (by simp [Op.operands])
  simp only [aop, e1, e2, e3] at hk ⊢; exact hk
 | makeSlice t l c =>
  have e1 := h l (by simp [Op.operands]); have e2 := h c (by simp [Op.operands])
  simp only [aop, e1, e2] at hk ⊢; exact hk
 | slice t x lo hi mx =>
  have e0 := h x (by simp [Op.operands])
  have e1 : lo.map (ev s) = lo.map (ev s') := by
   cases lo with
   | none => rfl
   | some y => simp only [Option.map_some]; rw [h y (by simp [Op.operands])]
  have e2 : hi.map (ev s) = hi.map (ev s') := by
   cases hi with
   | none => rfl
   | some y => simp only [Option.map_some]; rw [h y (by simp [Op.operands])]
  have e3 : mx.map (ev s) = mx.map (ev s') := by
   cases mx with
   | none => rfl
   | some y => simp only [Option.map_some]; rw [h y (by simp [Op.operands])]
  simp only [aop, e0, e1, e2, e3] at hk ⊢; exact hk
 | fieldAddr t x f => have e := h x (by simp [Op.operands]); simp only [aop, e] at hk ⊢; exact hk
 | field t x f => have e := h x (by simp [Op.operands]); simp only [aop, e] at hk ⊢; exact hk
 | indexAddr t x i =>
  have e1 := h x (by simp [Op.operands]); have e2 := h i (by simp [Op.operands])
  simp only [aop, e1, e2] at hk ⊢; exact hk
 | index t x i =>
  have e1 := h x (by simp [Op.operands]); have e2 := h i (by simp [Op.operands])
  simp only [aop, e1, e2] at hk ⊢; exact hk
 | extract x i => have e := h x (by simp [Op.operands]); simp only [aop, e] at hk ⊢; exact hk
 | typeAssert x xt asserted ok => have e := h x (by simp [Op.operands]); simp only [aop, e] at hk ⊢; exact hk
 | range t x => have e := h x (by simp [Op.operands]); simp only [aop, e] at hk ⊢; exact hk
 | next x str => have e := h x (by simp [Op.operands]); simp only [aop, e] at hk ⊢; exact hk
 | entry x => have e := h x (by simp [Op.operands]); simp only [aop, e] at hk ⊢; exact hk
 | call c =>
  obtain ⟨callee, args, ts⟩ := c
  have hargs : args.toList.map (ev s) = args.toList.map (ev s') :=
   List.map_congr_left fun p hp => h p (by simp only [Op.operands, Call.operands, Array.mem_append]; exact .inr (by simpa using hp))
  cases callee with
  | builtin b => simp only [aop, acall, hargs] at hk ⊢; exact hk
  | value f =>
   have e := h f (by simp [Op.operands, Call.operands])
   simp only [aop, acall, hargs, e] at hk ⊢; exact hk
  | invoke r n =>
   have e := h r (by simp [Op.operands, Call.operands])
   simp only [aop, acall, hargs, e] at hk ⊢; exact hk
 | _ => exact hk.elim
end
def Det (F : (AV → Prop) → Prop) : Prop := ∀ K, F K → ∃ v, F (fun x => x = v) ∧ K v
theorem Det.const (v : AV) : Det (fun K => K v) := fun K h => ⟨v, rfl, h⟩
theorem Det.chk {b : Bool} {F : (AV → Prop) → Prop} (h : Det F) : Det (fun K => Ab.chk b (F K)) := by
 intro K hk
 cases b with
 | true => exact h K hk
 | false => exact hk.elim
theorem Det.need {p : Prop} {F : (AV → Prop) → Prop} (h : Det F) : Det (fun K => needP p (F K)) := by
 intro K hk
 obtain ⟨v, h1, h2⟩ := h K (hk.2 hk.1)
 exact ⟨v, ⟨hk.1, fun _ => h1⟩, h2⟩
theorem Det.opt (o : Option AV) : Det (fun K => optP o K) := by
 intro K hk
 cases o with
 | some a => exact ⟨a, rfl, hk⟩
 | none => exact hk.elim
theorem Det.none : Det (fun _ => False) := fun K h => h.elim
theorem Det.cond {b : Bool} {u v : AV} : Det (fun K => condP b (K u) (K v)) := by
 intro K hk
 cases b with
 | true => exact ⟨u, rfl, hk⟩
 | false => exact ⟨v, rfl, hk⟩
theorem det_aload {P : Program} {t : TypeId} {v : AV} {H : List AObj} : Det (fun K => aload P t v H K) := by
  unfold aload
  repeat' (first
    | exact Det.none
    | exact Det.const _
    | exact Det.opt _
    | exact Det.cond
    | refine Det.need ?_
    | refine Det.chk ?_
    | split
    )
theorem det_abuild {P : Program} {t : TypeId} {parts : List (Nat × AV)} : Det (fun K => abuild P t parts K) := by
  unfold abuild
  repeat' (first
    | exact Det.none
    | exact Det.const _
    | exact Det.opt _
    | exact Det.cond
    | refine Det.need ?_
    | refine Det.chk ?_
    | split
    )
theorem det_abuildSlice {P : Program} {t : TypeId} {n : Nat} {parts : List (Nat × AV)} : Det (fun K => abuildSlice P t n parts K) := by
  unfold abuildSlice
  repeat' (first
    | exact Det.none
    | exact Det.const _
    | exact Det.opt _
    | exact Det.cond
    | refine Det.need ?_
    | refine Det.chk ?_
    | split
    )
theorem det_anilCheck {P : Program} {v : AV} : Det (fun K => anilCheck P v K) := by
  unfold anilCheck
  repeat' (first
    | exact Det.none
    | exact Det.const _
    | exact Det.opt _
    | exact Det.cond
    | refine Det.need ?_
    | refine Det.chk ?_
    | split
    )
theorem det_intOp {op : BinOp} {k : IntKind} {a b : Int} : Det (fun K => intOp op k a b K) := by
  unfold intOp
  repeat' (first
    | exact Det.none
    | exact Det.const _
    | exact Det.opt _
    | exact Det.cond
    | refine Det.need ?_
    | refine Det.chk ?_
    | split
    )
theorem det_shiftOp {op : BinOp} {k : IntKind} {a b : Int} : Det (fun K => shiftOp op k a b K) := by
  unfold shiftOp
  repeat' (first
    | exact Det.none
    | exact Det.const _
    | exact Det.opt _
    | exact Det.cond
    | refine Det.need ?_
    | refine Det.chk ?_
    | split
    )
theorem det_strOp {op : BinOp} {a b : ByteArray} : Det (fun K => strOp op a b K) := by
  unfold strOp
  repeat' (first
    | exact Det.none
    | exact Det.const _
    | exact Det.opt _
    | exact Det.cond
    | refine Det.need ?_
    | refine Det.chk ?_
    | split
    )
theorem det_aun {op : UnOp} {v : AV} : Det (fun K => aun op v K) := by
  unfold aun
  repeat' (first
    | exact Det.none
    | exact Det.const _
    | exact Det.opt _
    | exact Det.cond
    | refine Det.need ?_
    | refine Det.chk ?_
    | split
    )
theorem det_aconv {P : Program} {a b : TypeId} {v : AV} : Det (fun K => aconv P a b v K) := by
  unfold aconv
  repeat' (first
    | exact Det.none
    | exact Det.const _
    | exact Det.opt _
    | exact Det.cond
    | refine Det.need ?_
    | refine Det.chk ?_
    | split
    )
theorem det_asli {P : Program} {mu : Bool} {H : List AObj} {t : TypeId} {x : AV} {lo hi mx : Option AV} : Det (fun K => asli P mu H t x lo hi mx K) := by
  unfold asli
  repeat' (first
    | exact Det.none
    | exact Det.const _
    | exact Det.opt _
    | exact Det.cond
    | refine Det.need ?_
    | refine Det.chk ?_
    | split
    )
theorem det_afieldAddr {P : Program} {t : TypeId} {x : AV} {f : Nat} : Det (fun K => afieldAddr P t x f K) := by
  unfold afieldAddr
  repeat' (first
    | exact Det.none
    | exact Det.const _
    | exact Det.opt _
    | exact Det.cond
    | refine Det.need ?_
    | refine Det.chk ?_
    | split
    )
theorem det_afield {P : Program} {t : TypeId} {x : AV} {f : Nat} : Det (fun K => afield P t x f K) := by
  unfold afield
  repeat' (first
    | exact Det.none
    | exact Det.const _
    | exact Det.opt _
    | exact Det.cond
    | refine Det.need ?_
    | refine Det.chk ?_
    | split
    )
theorem det_aindexAddr {P : Program} {t : TypeId} {x i : AV} : Det (fun K => aindexAddr P t x i K) := by
  unfold aindexAddr
  repeat' (first
    | exact Det.none
    | exact Det.const _
    | exact Det.opt _
    | exact Det.cond
    | refine Det.need ?_
    | refine Det.chk ?_
    | split
    )
theorem det_aindex {P : Program} {t : TypeId} {x i : AV} : Det (fun K => aindex P t x i K) := by
  unfold aindex
  repeat' (first
    | exact Det.none
    | exact Det.const _
    | exact Det.opt _
    | exact Det.cond
    | refine Det.need ?_
    | refine Det.chk ?_
    | split
    )
theorem det_aextract {x : AV} {i : Nat} : Det (fun K => aextract x i K) := by
  unfold aextract
  repeat' (first
    | exact Det.none
    | exact Det.const _
    | exact Det.opt _
    | exact Det.cond
    | refine Det.need ?_
    | refine Det.chk ?_
    | split
    )
theorem det_alen {P : Program} {ts : List TypeId} {xs : List AV} {H : List AObj} : Det (fun K => alen P ts xs H K) := by
  unfold alen
  repeat' (first
    | exact Det.none
    | exact Det.const _
    | exact Det.opt _
    | exact Det.cond
    | refine Det.need ?_
    | refine Det.chk ?_
    | split
    )
theorem det_amm (mx : Bool) : ∀ (k : IntKind) (a : Int) (xs : List AV), Det (fun K => amm mx k a xs K)
 | k, a, [] => Det.const _
 | k, a, x :: xs => by
  cases x <;> first
   | exact det_amm mx k _ xs
   | exact Det.none
theorem det_aminmax {mx : Bool} {xs : List AV} : Det (fun K => aminmax mx xs K) := by
 unfold aminmax
 split
 ·exact det_amm mx _ _ _
 ·cases mx with
  | false => exact Det.cond
  | true => exact Det.none
 ·exact Det.none
theorem det_boolP {o : Option Bool} {f : Bool → AV} : Det (fun K => boolP o fun b => K (f b)) := by
 intro K h
 cases o with
 | none => exact h.elim
 | some b => exact ⟨f b, rfl, h⟩
theorem det_aeqAgg {P : Program} {t : TypeId} {xs ys : List AV} {f : Bool → AV} : Det (fun K => aeqAgg P t xs ys fun b => K (f b)) := by
 unfold aeqAgg
 split
 ·exact Det.chk det_boolP
 ·exact Det.chk det_boolP
theorem det_abin {P : Program} {op : BinOp} {t : TypeId} {x y : AV} (hs : (op = .eql ∨ op = .neq) → slish P t = false) : Det (fun K => abin P op t x y K) := by
 intro K h
 unfold abin at h ⊢
 split at h
 ·split at h
  ·exact det_shiftOp K h
  ·exact Det.chk det_intOp K h
 ·exact det_strOp K h
 ·split at h
  ·have hn := hs (.inl rfl)
   unfold aeq at h ⊢
   split at h <;> first
    | exact h.elim
    | (obtain ⟨c1, h⟩ := chk_elim h; rw [hn] at c1; cases c1)
    | exact (Det.chk (Det.const _)) K h
    | exact det_aeqAgg K h
  ·have hn := hs (.inr rfl)
   unfold aeq at h ⊢
   split at h <;> first
    | exact h.elim
    | (obtain ⟨c1, h⟩ := chk_elim h; rw [hn] at c1; cases c1)
    | exact (Det.chk (Det.const _)) K h
    | exact det_aeqAgg K h
  ·exact h.elim
theorem aop_pick {P : Program} {R : FuncId → List Ret} {mu : Bool} {s : Slots} {c x y : Operand} {H : List AObj} {K : AV → List AObj → Prop} :
  aop P R mu s (.pick c x y) H K = (match ev s c with | .bool t => condP t (K (ev s x) H) (K (ev s y) H) | _ => False) := rfl
theorem aop_makeInterface {P : Program} {R : FuncId → List Ret} {mu : Bool} {s : Slots} {t : TypeId} {x : Operand} {H : List AObj} {K : AV → List AObj → Prop} :
  aop P R mu s (.makeInterface t x) H K = chk (match P.underlying t with | some (.interface _) | none => false | _ => true) (K (.iface t (ev s x)) H) := rfl
theorem aop_makeFunc {P : Program} {R : FuncId → List Ret} {mu : Bool} {s : Slots} {f : FuncId} {first captured : Array Operand} {H : List AObj} {K : AV → List AObj → Prop} :
  aop P R mu s (.makeFunc (.func f) first captured) H K = (match first.isEmpty with | true => K (.fn f (captured.toList.map (ev s))) H | false => chk captured.isEmpty (K (.bfn f (first.toList.map (ev s))) H)) := rfl
theorem aop_makeMeth {P : Program} {R : FuncId → List Ret} {mu : Bool} {s : Slots} {name : String} {first captured : Array Operand} {H : List AObj} {K : AV → List AObj → Prop} :
  aop P R mu s (.makeFunc (.method name) first captured) H K = chk captured.isEmpty (match first.toList.map (ev s) with | [.iface t v] => K (.meth t name v) H | _ => False) := rfl
theorem aop_det {P : Program} {R : FuncId → List Ret} {mu : Bool} {s : Slots} {o : Op} {H : List AObj} {K : AV → List AObj → Prop} (hx : isX o = false) (hc : isC mu o = false) (hsure : sureOp P o = true) (h : aop P R mu s o H K) :
  ∃ v, aop P R mu s o H (fun v' H' => v' = v ∧ H' = H) ∧ K v H := by
 have lift : ∀ {F : (AV → Prop) → Prop}, Det F → F (fun v => K v H) → ∃ v, F (fun v' => v' = v ∧ H = H) ∧ K v H := by
  intro F hd hk
  obtain ⟨v, h1, h2⟩ := hd _ hk
  refine ⟨v, ?_, h2⟩
  have : (fun v' : AV => v' = v ∧ H = H) = fun v' => v' = v := by funext v'; simp
  rw [this]; exact h1
 cases o with
 | move x => exact ⟨_, ⟨rfl, rfl⟩, h⟩
 | pick c x y =>
  rw [aop_pick] at h
  split at h
  ·rename_i t ht
   obtain ⟨v, h1, h2⟩ := lift (F := fun K => condP t (K (ev s x)) (K (ev s y))) Det.cond h
   refine ⟨v, ?_, h2⟩
   rw [aop_pick, ht]; exact h1
  ·exact h.elim
 | build t parts => exact lift (F := fun K => abuild P t _ K) det_abuild h
 | buildSlice t n parts =>
  have hc' : mu = false := hc
  subst hc'
  exact lift (F := fun K => abuildSlice P t n _ K) det_abuildSlice h
 | load t x => exact lift (F := fun K => aload P t _ H K) det_aload h
 | nilCheck x => exact lift (F := fun K => anilCheck P _ K) det_anilCheck h
 | binOp op t x y yt =>
  refine lift (F := fun K => abin P op t _ _ K) (det_abin ?_) h
  rintro (rfl | rfl) <;> simpa [sureOp] using hsure
 | unOp op t x => exact lift (F := fun K => aun op _ K) det_aun h
 | convert a b x =>
  have hc' : mu = false := hc
  subst hc'
  exact lift (F := fun K => aconv P a b _ K) det_aconv h
 | makeInterface t x =>
  rw [aop_makeInterface] at h
  obtain ⟨v, h1, h2⟩ := lift (F := fun K => chk _ (K (.iface t (ev s x)))) (Det.chk (Det.const _)) h
  exact ⟨v, by rw [aop_makeInterface]; exact h1, h2⟩
 | makeFunc fn first captured =>
  cases fn with
  | func f =>
   rw [aop_makeFunc] at h
   obtain ⟨v, h1, h2⟩ := lift (F := fun K => match first.isEmpty with | true => K (.fn f (captured.toList.map (ev s))) | false => chk captured.isEmpty (K (.bfn f (first.toList.map (ev s))))) (by
    cases first.isEmpty
    ·exact Det.chk (Det.const _)
    ·exact Det.const _) h
   exact ⟨v, by rw [aop_makeFunc]; exact h1, h2⟩
  | method name =>
   rw [aop_makeMeth] at h
   obtain ⟨v, h1, h2⟩ := lift (F := fun K => chk captured.isEmpty (match first.toList.map (ev s) with | [.iface t v] => K (.meth t name v) | _ => False)) (Det.chk (by
    split
    ·exact Det.const _
    ·exact Det.none)) h
   exact ⟨v, by rw [aop_makeMeth]; exact h1, h2⟩
  | _ => exact h.elim
 | slice t x lo hi mx => exact lift (F := fun K => asli P _ _ t _ _ _ _ K) det_asli h
 | fieldAddr t x f => exact lift (F := fun K => afieldAddr P t _ f K) det_afieldAddr h
 | field t x f => exact lift (F := fun K => afield P t _ f K) det_afield h
 | indexAddr t x i => exact lift (F := fun K => aindexAddr P t _ _ K) det_aindexAddr h
 | index t x i => exact lift (F := fun K => aindex P t _ _ K) det_aindex h
 | extract x i => exact lift (F := fun K => aextract _ i K) det_aextract h
 | call c =>
  obtain ⟨callee, args, ts⟩ := c
  cases callee with
  | builtin b =>
   cases b <;> simp only [isX, reduceCtorEq] at hx
   ·exact lift (F := fun K => alen P _ _ H K) det_alen h
   ·exact lift (F := fun K => aminmax true _ K) det_aminmax h
   ·exact lift (F := fun K => aminmax false _ K) det_aminmax h
  | value f => cases hx
  | invoke r n => cases hx
 | assign x => cases hx
 | alloc t => cases hx
 | box t x => cases hx
 | store t x y => cases hx
 | makeSlice t l c => cases hx
 | range t x => cases hx
 | typeAssert x xt asserted ok => cases hx
 | next x str => cases hx
 | entry x => cases hx
 | makeMap t r => cases hx
 | lookup t x k ok => cases hx
 | mapUpdate t x k v => cases hx
 | _ => exact h.elim
theorem asli_heap {P : Program} {H H2 : List AObj} {t : TypeId} {x : AV} {lo hi mx : Option AV} {K : AV → Prop} (h : asli P false H t x lo hi mx K) : asli P false H2 t x lo hi mx K := h
theorem aop_indep {P : Program} {R : FuncId → List Ret} {mu : Bool} {s : Slots} {o : Op} {H H2 : List AObj} {u : AV} (hx : isX o = false) (hc : isC mu o = false) (hl : isL o = false) (hm : isS mu o = false) (h : aop P R mu s o H (fun v' H' => v' = u ∧ H' = H)) :
  aop P R mu s o H2 (fun v' H' => v' = u ∧ H' = H2) := by
 have e : (fun v' : AV => v' = u ∧ H = H) = fun v' => v' = u ∧ H2 = H2 := by funext v'; simp
 have conv : ∀ {F : (AV → Prop) → Prop}, F (fun v' => v' = u ∧ H = H) → F (fun v' => v' = u ∧ H2 = H2) := fun {F} hf => e ▸ hf
 cases o with
 | move x => exact ⟨h.1, rfl⟩
 | pick c x y =>
  rw [aop_pick] at h ⊢
  split at h
  ·rename_i t ht
   cases t with
   | true => exact ⟨h.1, rfl⟩
   | false => exact ⟨h.1, rfl⟩
  ·exact h.elim
 | build t parts => exact conv (F := fun K => abuild P t _ K) h
 | buildSlice t n parts =>
  have hc' : mu = false := hc
  subst hc'
  exact conv (F := fun K => abuildSlice P t n _ K) h
 | load t x => cases hl
 | nilCheck x => exact conv (F := fun K => anilCheck P _ K) h
 | binOp op t x y yt => exact conv (F := fun K => abin P op t _ _ K) h
 | unOp op t x => exact conv (F := fun K => aun op _ K) h
 | convert a b x =>
  have hc' : mu = false := hc
  subst hc'
  exact conv (F := fun K => aconv P a b _ K) h
 | makeInterface t x =>
  rw [aop_makeInterface] at h ⊢
  obtain ⟨c1, h⟩ := chk_elim h
  rw [c1]; exact ⟨h.1, rfl⟩
 | makeFunc fn first captured =>
  cases fn with
  | func f =>
   rw [aop_makeFunc] at h ⊢
   split at h
   ·exact ⟨h.1, rfl⟩
   ·obtain ⟨c1, h⟩ := chk_elim h
    rw [c1]; exact ⟨h.1, rfl⟩
  | method name =>
   rw [aop_makeMeth] at h ⊢
   obtain ⟨c1, h⟩ := chk_elim h
   rw [c1]
   split at h
   ·exact ⟨h.1, rfl⟩
   ·exact h.elim
  | _ => exact h.elim
 | slice t x lo hi mx =>
  have hm' : mu = false := hm
  subst hm'
  have h1 : asli P false H t (ev s x) (lo.map (ev s)) (hi.map (ev s)) (mx.map (ev s)) (fun v' => v' = u ∧ H = H) := h
  rw [e] at h1
  exact asli_heap (H2 := H2) h1
 | fieldAddr t x f => exact conv (F := fun K => afieldAddr P t _ f K) h
 | field t x f => exact conv (F := fun K => afield P t _ f K) h
 | indexAddr t x i => exact conv (F := fun K => aindexAddr P t _ _ K) h
 | index t x i => exact conv (F := fun K => aindex P t _ _ K) h
 | extract x i => exact conv (F := fun K => aextract _ i K) h
 | call c =>
  obtain ⟨callee, args, ts⟩ := c
  cases callee with
  | builtin b =>
   cases b <;> simp only [isX, isL, reduceCtorEq] at hx hl
   ·exact conv (F := fun K => aminmax true _ K) h
   ·exact conv (F := fun K => aminmax false _ K) h
  | value f => cases hx
  | invoke r n => cases hx
 | assign x => cases hx
 | alloc t => cases hx
 | box t x => cases hx
 | store t x y => cases hx
 | makeSlice t l c => cases hx
 | range t x => cases hx
 | typeAssert x xt asserted ok => cases hx
 | next x str => cases hx
 | entry x => cases hx
 | makeMap t r => cases hx
 | lookup t x k ok => cases hx
 | mapUpdate t x k v => cases hx
 | _ => exact h.elim
section
variable {P : Program} {cfg : Cfg} {ops : Array Oper} {masks : List Nat}
structure PairOk (P : Program) (cfg : Cfg) (ops : Array Oper) (masks : List Nat) (i j : Nat) (oi oj : Oper) : Prop where
 ne : i ≠ j
 pred : j ∉ predsOf oi
 x : isXo cfg oi = true → befB masks i j = true ∨ isFl P cfg oj = true
 al : isAl oi = true ∨ isAl oj = true → ∀ d, oi.dst = some d → oj.dst ≠ some d
 apart : oi.apart ops oj = true ∨ befB masks i j = true
 dst : isXo cfg oi = false → ∀ d, oi.dst = some d → oj.dst ≠ some d
 war : isXo cfg oj = false → ∀ d, oj.dst = some d → d ∉ oi.looksAt ops
theorem pairOk_spec {i j : Nat} {oi oj : Oper} (h : pairOk P cfg ops masks i j oi oj = true) : PairOk P cfg ops masks i j oi oj := by
 unfold pairOk at h
 simp only [Bool.and_eq_true] at h
 obtain ⟨⟨⟨⟨⟨⟨h1, h2⟩, h3⟩, h4⟩, ha⟩, h5⟩, h6⟩ := h
 refine ⟨?_, ?_, ?_, ?_, ?_, ?_, ?_⟩
 ·rintro rfl; simp at h1
 ·simpa using h2
 ·intro hx; simpa [hx] using h3
 ·intro hx d hd hd'
  have hb : (isAl oi || isAl oj) = true := by rcases hx with hx | hx <;> simp [hx]
  rw [hb, hd, hd'] at ha
  simp at ha
 ·simpa using h4
 ·intro hx d hd hd'
  rw [hx, hd, hd'] at h5
  simp at h5
 ·intro hx d hd
  rw [hx, hd] at h6
  simpa using h6
theorem orderOk_spec : ∀ {c : List Nat}, orderOk P cfg ops masks c = true → ∀ l1 i l2, c = l1 ++ i :: l2 →
  ∃ oi, ops[i]? = some oi ∧ (isXo cfg oi = false → sureOp P oi.op = true ∧ ∃ d, oi.dst = some d ∧ d ∉ oi.looksAt ops) ∧ ∀ j ∈ l2, ∃ oj, ops[j]? = some oj ∧ PairOk P cfg ops masks i j oi oj
 | [], _, l1, i, l2, e => by simp at e
 | k :: r, h, l1, i, l2, e => by
  simp only [orderOk, Bool.and_eq_true] at h
  cases l1 with
  | nil =>
   simp only [List.nil_append, List.cons.injEq] at e
   obtain ⟨rfl, rfl⟩ := e
   have h1 := h.1
   split at h1
   case h_2 => cases h1
   case h_1 oi hoi =>
   rw [Bool.and_eq_true] at h1
   refine ⟨oi, hoi, ?_, ?_⟩
   ·intro hx
    have h2 := h1.1
    rw [hx, Bool.false_or, Bool.and_eq_true] at h2
    refine ⟨h2.1, ?_⟩
    have h3 := h2.2
    split at h3
    ·rename_i d hd; exact ⟨d, hd, by simpa using h3⟩
    ·cases h3
   ·intro j hj
    have := List.all_eq_true.1 h1.2 j hj
    split at this
    ·rename_i oj hoj; exact ⟨oj, hoj, pairOk_spec this⟩
    ·cases this
  | cons a l1 =>
   simp only [List.cons_append, List.cons.injEq] at e
   exact orderOk_spec h.2 l1 i l2 e.2
theorem maskOk_spec {i j : Nat} {o : Oper} (h : maskOk ops masks i = true) (ho : ops[i]? = some o) (hb : befB masks j i = true) : j ∈ predsOf o ∨ ∃ p ∈ predsOf o, befB masks j p = true := by
 unfold maskOk at h
 rw [ho] at h
 simp only [Bool.and_eq_true] at h
 have h1 := Nat.eq_of_beq_eq_true h.1
 have h2 : ((predsOf o).foldl (fun u p => u ||| (2 ^ p ||| masks.getD p 0)) 0).testBit j = true := by
  rw [← h1, Nat.testBit_or]
  simp only [befB] at hb
  rw [hb]; rfl
 have key : ∀ (l : List Nat) (u : Nat), (l.foldl (fun u p => u ||| (2 ^ p ||| masks.getD p 0)) u).testBit j = true → u.testBit j = true ∨ j ∈ l ∨ ∃ p ∈ l, befB masks j p = true := by
  intro l
  induction l with
  | nil => intro u h; exact .inl h
  | cons p l ih =>
   intro u h
   rw [List.foldl_cons] at h
   rcases ih _ h with h | h | ⟨q, hq, h⟩
   ·rw [Nat.testBit_or, Nat.testBit_or, Bool.or_eq_true, Bool.or_eq_true] at h
    rcases h with h | h | h
    ·exact .inl h
    ·rw [Nat.testBit_two_pow] at h
     have : p = j := by simpa using h
     subst this
     exact .inr (.inl (by simp))
    ·exact .inr (.inr ⟨p, by simp, h⟩)
   ·exact .inr (.inl (by simp [h]))
   ·exact .inr (.inr ⟨q, by simp [hq], h⟩)
 rcases key _ _ h2 with h | h | h
 ·simp at h
 ·exact .inl h
 ·exact .inr h
theorem Pend_congr {s s' : Slots} {H : List AObj} {j : Nat} (h : ∀ o, ops[j]? = some o → (∀ d ∈ o.looksAt ops, get s' d = get s d) ∧ ∀ d, o.dst = some d → get s' d = get s d) (hp : Pend P cfg ops s H j) : Pend P cfg ops s' H j := by
 unfold Pend at hp ⊢
 split at hp
 case h_2 => exact hp.elim
 case h_1 o ho =>
 obtain ⟨h1, h2⟩ := h o ho
 split at hp
 case h_2 => exact hp.elim
 case h_1 d hd =>
 rw [h2 d hd]
 have hops : ∀ x ∈ o.op.operands, ev s x = ev s' x := by
  intro x hx
  cases x with
  | tmp t =>
   refine (h1 t ?_).symm
   simp only [Oper.looksAt, List.mem_append, List.mem_filterMap]
   exact .inl ⟨.tmp t, by simpa using hx, rfl⟩
  | _ => rfl
 cases hg : o.guard with
 | none =>
  rw [hg] at hp
  exact aop_congr hops hp
 | some jw =>
  obtain ⟨g, want⟩ := jw
  rw [hg] at hp
  simp only at hp ⊢
  split at hp
  case h_2 => exact hp.elim
  case h_1 gd hgd =>
  have hgd' : get s' gd = get s gd := h1 gd (by
   simp only [Oper.looksAt, List.mem_append]
   right; rw [hg]; simp [hgd])
  simp only [hgd']
  split at hp
  case h_3 => exact hp.elim
  case h_2 hb => exact hp
  case h_1 b hb =>
  split at hp
  ·exact aop_congr hops hp
  ·exact aop_congr hops hp
  ·exact hp
theorem Pend_heap {s : Slots} {H H2 : List AObj} {j : Nat} {o : Oper} (ho : ops[j]? = some o) (hx : isXo cfg o = false) (hl : isL o.op = false) (hm : isS (muOf cfg o) o.op = false) (hp : Pend P cfg ops s H j) : Pend P cfg ops s H2 j := by
 unfold Pend at hp ⊢
 rw [ho] at hp ⊢
 simp only at hp ⊢
 split at hp
 case h_2 => exact hp.elim
 case h_1 d hd =>
 split at hp
 ·exact aop_indep (Bool.or_eq_false_iff.1 hx).1 (Bool.or_eq_false_iff.1 hx).2 hl hm hp
 ·split at hp
  case h_2 => exact hp.elim
  case h_1 gd hgd =>
  split at hp
  case h_3 => exact hp.elim
  case h_2 hb => exact hp
  case h_1 b hb =>
  split at hp
  ·exact aop_indep (Bool.or_eq_false_iff.1 hx).1 (Bool.or_eq_false_iff.1 hx).2 hl hm hp
  ·exact aop_indep (Bool.or_eq_false_iff.1 hx).1 (Bool.or_eq_false_iff.1 hx).2 hl hm hp
  ·exact hp
theorem pendAll_elim {i : Nat} {s : Slots} {H : List AObj} : ∀ {log : List Nat} {A : Prop}, pendAll P cfg ops masks i s H log A → (∀ j ∈ log, befB masks j i = false → Pend P cfg ops s H j) ∧ A
 | [], A, h => ⟨fun j hj => by simp at hj, h⟩
 | j :: r, A, h => by
  simp only [pendAll] at h
  split at h
  ·rename_i hb
   obtain ⟨h1, h2⟩ := pendAll_elim h
   refine ⟨fun k hk hbk => ?_, h2⟩
   rcases List.mem_cons.1 hk with rfl | hk
   ·rw [hb] at hbk; cases hbk
   ·exact h1 k hk hbk
  ·obtain ⟨h1, h2⟩ := pendAll_elim h.2
   refine ⟨fun k hk hbk => ?_, h2⟩
   rcases List.mem_cons.1 hk with rfl | hk
   ·exact h.1
   ·exact h1 k hk hbk
theorem aoper_sure {s : Slots} {H : List AObj} {o : Oper} {j : Nat} {K : Slots → List AObj → Prop} {d : Nat} (ho : ops[j]? = some o) (hx : isXo cfg o = false) (hs : sureOp P o.op = true) (hd : o.dst = some d) (hself : d ∉ o.looksAt ops)
  (h : aoper P cfg ops s o H K) : ∃ s', K s' H ∧ (∀ i, i ≠ d → get s' i = get s i) ∧ Pend P cfg ops s' H j ∧ d < cfg.N := by
 have hops : ∀ s', (∀ i, i ≠ d → get s' i = get s i) → ∀ x ∈ o.op.operands, ev s x = ev s' x := by
  intro s' hs' x hx
  cases x with
  | tmp t =>
   refine (hs' t ?_).symm
   rintro rfl
   refine hself ?_
   simp only [Oper.looksAt, List.mem_append, List.mem_filterMap]
   exact .inl ⟨.tmp t, by simpa using hx, rfl⟩
  | _ => rfl
 have getd : ∀ (s1 : Slots) v, get ((d, v) :: s1) d = v := by intro s1 v; simp [get]
 have getne : ∀ (s1 : Slots) v i, i ≠ d → get ((d, v) :: s1) i = get s1 i := by
  intro s1 v i hi
  simp only [get]
  cases hb : Nat.beq d i with
  | true => exact absurd (Nat.eq_of_beq_eq_true hb).symm hi
  | false => rfl
 have hrun : ∀ s1, (∀ i, get s1 i = get s i) → aop P cfg.ret (muOf cfg o) s1 o.op H (fun v H' => aput cfg.N s1 o.dst v fun s' => K s' H') →
   ∃ s' v, s' = (d, v) :: s1 ∧ K s' H ∧ aop P cfg.ret (muOf cfg o) s' o.op H (fun v' H' => v' = get s' d ∧ H' = H) ∧ d < cfg.N := by
  intro s1 he h
  obtain ⟨v, h1, h2⟩ := aop_det (Bool.or_eq_false_iff.1 hx).1 (Bool.or_eq_false_iff.1 hx).2 hs h
  rw [hd] at h2
  obtain ⟨hb, hK⟩ := chk_elim h2
  refine ⟨_, v, rfl, hK, ?_, by simpa [Nat.blt_eq] using hb⟩
  rw [getd]
  refine aop_congr (s := s1) ?_ h1
  intro x hxx
  have h3 := hops s1 (fun i _ => he i) x hxx
  have h4 := hops ((d, v) :: s1) (fun i hi => by rw [getne _ _ _ hi]; exact he i) x hxx
  rw [← h3, ← h4]
 have hskip : ∀ s1, aput cfg.N s1 o.dst (.tup []) (fun s' => K s' H) → K ((d, .tup []) :: s1) H ∧ d < cfg.N := by
  intro s1 h
  rw [hd] at h
  obtain ⟨hb, hK⟩ := chk_elim h
  exact ⟨hK, by simpa [Nat.blt_eq] using hb⟩
 unfold aoper at h
 simp only at h
 unfold Pend
 rw [ho]
 simp only [hd]
 cases hg : o.guard with
 | none =>
  rw [hg] at h
  obtain ⟨s', v, rfl, h1, h2, h3⟩ := hrun s (fun _ => rfl) h
  exact ⟨_, h1, getne s v, h2, h3⟩
 | some jw =>
  obtain ⟨g, want⟩ := jw
  rw [hg] at h
  simp only at h
  split at h
  case h_2 => exact h.elim
  case h_1 gd hgd =>
  split at h
  case h_3 => exact h.elim
  case h_2 hb =>
   have hgne : gd ≠ d := by
    rintro rfl
    refine hself ?_
    simp only [Oper.looksAt, List.mem_append]
    right; rw [hg]; simp [hgd]
   obtain ⟨h1, h3⟩ := hskip _ h
   refine ⟨_, h1, getne s (.tup []), ?_, h3⟩
   simp only [hgd]
   rw [getne _ _ _ hgne, hb]
   exact getd _ _
  case h_1 b hb =>
  obtain ⟨hlt, h⟩ := chk_elim h
  have hgne : gd ≠ d := by
   rintro rfl
   refine hself ?_
   simp only [Oper.looksAt, List.mem_append]
   right; rw [hg]; simp [hgd]
  have hknow : ∀ i, get ((gd, .bool b) :: s) i = get s i := by
   intro i
   simp only [get]
   cases hq : Nat.beq gd i with
   | true => have := Nat.eq_of_beq_eq_true hq; subst this; exact hb.symm
   | false => rfl
  have hs1 : ∀ v i, i ≠ d → get ((d, v) :: (gd, .bool b) :: s) i = get s i := fun v i hi => by rw [getne _ _ _ hi]; exact hknow i
  have hgv : ∀ v, get ((d, v) :: (gd, .bool b) :: s) gd = .bool b := fun v => by rw [hs1 v gd hgne]; exact hb
  simp only [hgd]
  cases b with
  | true =>
   simp only [condP] at h
   cases want with
   | true =>
    obtain ⟨s', v, rfl, h1, h2, h3⟩ := hrun _ hknow h
    refine ⟨_, h1, hs1 v, ?_, h3⟩
    rw [hgv]; exact h2
   | false =>
    obtain ⟨h1, h3⟩ := hskip _ h
    refine ⟨_, h1, hs1 (.tup []), ?_, h3⟩
    rw [hgv]; exact getd _ _
  | false =>
   simp only [condP] at h
   cases want with
   | true =>
    obtain ⟨h1, h3⟩ := hskip _ h
    refine ⟨_, h1, hs1 (.tup []), ?_, h3⟩
    rw [hgv]; exact getd _ _
   | false =>
    obtain ⟨s', v, rfl, h1, h2, h3⟩ := hrun _ hknow h
    refine ⟨_, h1, hs1 v, ?_, h3⟩
    rw [hgv]; exact h2
end
end Go.Ab
end

noncomputable section
namespace Go.Ab
section
variable {ro : Option Nat} {P : Program} {cfg : Cfg} {ops : Array Oper} {masks : List Nat} {c : List Nat} {K : Slots → List AObj → Prop} {M0 : Mem} {loc0 : Locs} {H0 : List AObj} {w0 : World} {D0 : List Deferred}
def Li (listed : Array Bool) (i : Nat) : Bool := listed.getD i false
structure Early (P : Program) (cfg : Cfg) (ops : Array Oper) (w0 : World) (H : List AObj) (M : Mem) (loc : Locs) (a : Act) (w : World) (i b : Nat) : Prop where
 ex : ∃ o t d v, ops[i]? = some o ∧ o.op = .alloc t ∧ o.guard = none ∧ o.dst = some d ∧ d < cfg.N ∧ (P.info? t).bind (·.zero) = some v ∧
  a.tmps.getD d undef = .pointer (some ⟨b, 0, none⟩) ∧ w.heap[b]? = some (.cells v.cells t)
 lo : w0.heap.size ≤ b
 hi : b < w.heap.size
 free : ¬ Owned loc H b
 ext : M.ext b = 0
 base : M.base ≤ b
theorem isFl_spec {o : Oper} (h : isFl P cfg o = true) : ∃ t d v, o.op = .alloc t ∧ o.guard = none ∧ o.dst = some d ∧ d < cfg.N ∧ (P.info? t).bind (·.zero) = some v := by
 unfold isFl at h
 split at h
 case h_2 => cases h
 case h_1 t ht =>
 split at h
 case h_2 => cases h
 case h_1 d hg hd =>
 rw [Bool.and_eq_true] at h
 obtain ⟨h1, h2⟩ := h
 unfold zeroT at h2
 rw [Option.isSome_map] at h2
 obtain ⟨v, hv⟩ := Option.isSome_iff_exists.1 h2
 exact ⟨t, d, v, ht, hg, hd, by simpa [Nat.blt_eq] using h1, hv⟩
theorem isFl_al {o : Oper} (h : isFl P cfg o = true) : isAl o = true := by
 obtain ⟨t, d, v, h1, h2, _⟩ := isFl_spec h
 unfold isAl
 rw [h1, h2]
theorem isFl_x {o : Oper} (h : isFl P cfg o = true) : isXo cfg o = true := by
 obtain ⟨t, d, v, h1, _⟩ := isFl_spec h
 unfold isXo isX
 rw [h1]; rfl
theorem Owned.lt {M : Mem} {loc : Locs} {H : List AObj} {w : World} (hr : Rel M loc H w) {b : Nat} (h : Owned loc H b) : b < w.heap.size := by
 obtain ⟨i, o, l, hi, hg, hl, hb⟩ := h
 exact ((hr.objs i o hi).block_lt hg (by rw [hl]; exact hb)).1
theorem Rel.adopt {M : Mem} {loc : Locs} {H : List AObj} {w : World} (h : Rel M loc H w) (b : Nat) (o : AObj) (hno : ¬ Owned loc H b) (ho : ORel M w (locSet loc H.length (.blk b)) (some (.blk b)) o) :
  Rel M (locSet loc H.length (.blk b)) (H ++ [o]) w ∧ Keeps M w loc M w (locSet loc H.length (.blk b)) ∧ (∀ c, Owned (locSet loc H.length (.blk b)) (H ++ [o]) c → Owned loc H c ∨ c = b) := by
 have hold : ∀ i, i < H.length → locSet loc H.length (.blk b) i = loc i := fun i hi => by simp only [locSet]; rw [if_neg (Nat.ne_of_lt hi)]
 have hnew : locSet loc H.length (.blk b) H.length = some (.blk b) := by simp [locSet]
 have hk : Keeps M w loc M w (locSet loc H.length (.blk b)) := ⟨fun _ _ _ h => h, fun _ cs _ fr h => ⟨cs, fr, h, rfl⟩, fun i l hl => by rw [hold i (h.lt hl)]; exact hl⟩
 have hget : ∀ i o', (H ++ [o])[i]? = some o' → (i < H.length ∧ H[i]? = some o') ∨ (i = H.length ∧ o' = o) := by
  intro i o' hi
  rcases Nat.lt_trichotomy i H.length with hlt | heq | hgt
  ·rw [List.getElem?_append_left hlt] at hi; exact .inl ⟨hlt, hi⟩
  ·subst heq; simp at hi; exact .inr ⟨rfl, hi.symm⟩
  ·rw [List.getElem?_eq_none (by simp; omega)] at hi; cases hi
 refine ⟨⟨h.base, h.ext, ?_, ?_, ?_⟩, hk, ?_⟩
 ·intro i hi
  simp only [List.length_append, List.length_singleton] at hi
  simp only [locSet]; rw [if_neg (by omega)]; exact h.dom i (by omega)
 ·intro i o' hi
  rcases hget i o' hi with ⟨hlt, hi'⟩ | ⟨rfl, rfl⟩
  ·rw [hold i hlt]
   exact (h.objs i o' hi').keeps_far hk rfl (fun b _ => ⟨rfl, rfl⟩)
  ·rw [hnew]; exact ho
 ·intro i j oi oj li lj c hi hj gi gj hli hlj bi bj
  rcases hget i oi hi with ⟨hlt, hi'⟩ | ⟨rfl, rfl⟩
  ·rw [hold i hlt] at hli
   rcases hget j oj hj with ⟨hlt2, hj'⟩ | ⟨rfl, rfl⟩
   ·rw [hold j hlt2] at hlj
    exact h.inj i j oi oj li lj c hi' hj' gi gj hli hlj bi bj
   ·rw [hnew] at hlj; cases hlj; cases bj
    exact (hno ⟨i, oi, li, hi', gi, hli, bi⟩).elim
  ·rw [hnew] at hli; cases hli; cases bi
   rcases hget j oj hj with ⟨hlt2, hj'⟩ | ⟨rfl, rfl⟩
   ·rw [hold j hlt2] at hlj
    exact (hno ⟨j, oj, lj, hj', gj, hlj, bj⟩).elim
   ·rfl
 ·rintro c ⟨i, o', l, hi, hg, hl, hbl⟩
  rcases hget i o' hi with ⟨hlt, hi'⟩ | ⟨rfl, rfl⟩
  ·rw [hold i hlt] at hl; exact .inl ⟨i, o', l, hi', hg, hl, hbl⟩
  ·rw [hnew] at hl; cases hl; cases hbl; exact .inr rfl
structure Inv (P : Program) (cfg : Cfg) (ops : Array Oper) (masks : List Nat) (c : List Nat) (K : Slots → List AObj → Prop) (M0 : Mem) (loc0 : Locs) (H0 : List AObj) (w0 : World) (D0 : List Deferred)
  (listed : Array Bool) (c1 c2 : List Nat) (s : Slots) (H : List AObj) (M : Mem) (loc : Locs) (a : Act) (w : World) : Prop where
 split : c = c1 ++ c2
 sz : listed.size = ops.size
 unl : ∀ i ∈ c2, Li listed i = true → ∃ o, ops[i]? = some o ∧ isFl P cfg o = true
 lx : ∀ i ∈ c1, ∀ o, ops[i]? = some o → isXo cfg o = true → Li listed i = true
 cl : ∀ i j, Li listed i = true → befB masks j i = true → Li listed j = true
 log : ∃ log, (∀ i ∈ c1, ∀ o, ops[i]? = some o → (isL o.op || isS (muOf cfg o) o.op) = true → i ∈ log) ∧ adrawL P cfg ops masks c2 log s H K
 rel : Rel M loc H w
 step : Step M0 loc0 H0 w0 M loc H w
 slots : ∀ d, (∃ i ∈ c1, Li listed i = false ∧ ∃ o, ops[i]? = some o ∧ o.dst = some d) ∨ (∃ i ∈ c2, Li listed i = true ∧ ∃ o, ops[i]? = some o ∧ o.dst = some d) ∨ VRel M w loc (get s d) (a.tmps.getD d undef)
 early : ∃ E : Nat → Nat, (∀ i ∈ c2, Li listed i = true → Early P cfg ops w0 H M loc a w i (E i)) ∧ ∀ i ∈ c2, ∀ j ∈ c2, Li listed i = true → Li listed j = true → E i = E j → i = j
 pend : ∀ i ∈ c1, Li listed i = false → Pend P cfg ops s H i
 bnd : ∀ i ∈ c1, Li listed i = false → ∀ o d, ops[i]? = some o → o.dst = some d → d < cfg.N
 size : a.tmps.size = cfg.N
 defers : a.defers = D0
 start : Rel M0 loc0 H0 w0 ∧ Tabs P M0 w0
structure Good (P : Program) (cfg : Cfg) (ops : Array Oper) (masks : List Nat) (c : List Nat) : Prop where
 order : orderOk P cfg ops masks c = true
 all : ∀ i, i < ops.size → i ∈ c
 mask : ∀ i, i < ops.size → maskOk ops masks i = true
theorem Good.pair (h : Good P cfg ops masks c) {l1 i l2 j oi oj} (e : c = l1 ++ i :: l2) (hj : j ∈ l2) (hi : ops[i]? = some oi) (ho : ops[j]? = some oj) : PairOk P cfg ops masks i j oi oj := by
 obtain ⟨oi', h1, _, h2⟩ := orderOk_spec h.order l1 i l2 e
 rw [hi] at h1; cases h1
 obtain ⟨oj', h3, h4⟩ := h2 j hj
 rw [ho] at h3; cases h3
 exact h4
theorem Good.op (h : Good P cfg ops masks c) {i} (hi : i ∈ c) : ∃ o, ops[i]? = some o ∧ (isXo cfg o = false → sureOp P o.op = true ∧ ∃ d, o.dst = some d ∧ d ∉ o.looksAt ops) := by
 obtain ⟨l1, l2, e⟩ := List.append_of_mem hi
 obtain ⟨o, h1, h2, _⟩ := orderOk_spec h.order l1 i l2 e
 exact ⟨o, h1, h2⟩
theorem Good.self (h : Good P cfg ops masks c) {l1 i l2} (e : c = l1 ++ i :: l2) : i ∉ l2 ∧ i ∉ l1 := by
 constructor
 ·intro hm
  obtain ⟨o, ho, _⟩ := h.op (show i ∈ c by rw [e]; simp)
  exact (h.pair e hm ho ho).ne rfl
 ·intro hm
  obtain ⟨k1, k2, e2⟩ := List.append_of_mem hm
  obtain ⟨o, ho, _⟩ := h.op (show i ∈ c by rw [e]; simp)
  have e3 : c = k1 ++ i :: (k2 ++ i :: l2) := by rw [e, e2]; simp
  exact (h.pair e3 (by simp) ho ho).ne rfl
theorem two_of {c : List Nat} {i j : Nat} (hi : i ∈ c) (hj : j ∈ c) (hne : i ≠ j) : (∃ l1 l2, c = l1 ++ i :: l2 ∧ j ∈ l2) ∨ (∃ l1 l2, c = l1 ++ j :: l2 ∧ i ∈ l2) := by
 obtain ⟨l1, l2, e⟩ := List.append_of_mem hi
 rw [e] at hj
 rcases List.mem_append.1 hj with h | h
 ·right
  obtain ⟨k1, k2, e2⟩ := List.append_of_mem h
  exact ⟨k1, k2 ++ i :: l2, by rw [e, e2]; simp, by simp⟩
 ·left
  rcases List.mem_cons.1 h with h | h
  ·exact (hne h.symm).elim
  ·exact ⟨l1, l2, e, h⟩
theorem Inv.absorb (hg : Good P cfg ops masks c) {listed c1 j r s H M loc a w} (h : Inv P cfg ops masks c K M0 loc0 H0 w0 D0 listed c1 (j :: r) s H M loc a w) {o : Oper} (ho : ops[j]? = some o) (hx : isXo cfg o = false) :
  ∃ s', Inv P cfg ops masks c K M0 loc0 H0 w0 D0 listed (c1 ++ [j]) r s' H M loc a w := by
 obtain ⟨o', ho', hs⟩ := hg.op (show j ∈ c by rw [h.split]; simp)
 rw [ho] at ho'; cases ho'
 obtain ⟨hsure, d, hd, hself⟩ := hs hx
 obtain ⟨log, hlog, hk⟩ := h.log
 simp only [adrawL] at hk
 rw [ho] at hk
 simp only at hk
 rw [hx] at hk
 simp only at hk
 obtain ⟨s', hK, hget, hp, hlt⟩ := aoper_sure ho hx hsure hd hself hk
 have hlj : Li listed j = false := by
  cases hq : Li listed j with
  | false => rfl
  | true =>
   obtain ⟨o2, ho2, hf⟩ := h.unl j (by simp) hq
   rw [ho] at ho2; cases ho2
   rw [isFl_x hf] at hx; cases hx
 obtain ⟨E, hE1, hE2⟩ := h.early
 refine ⟨s', ⟨by rw [h.split]; simp, h.sz, fun i hi => h.unl i (by simp [hi]), ?_, h.cl, ?_, h.rel, h.step, ?_, ⟨E, fun i hi => hE1 i (by simp [hi]), fun i hi j hj => hE2 i (by simp [hi]) j (by simp [hj])⟩, ?_, ?_, h.size, h.defers, h.start⟩⟩
 ·intro i hi o2 ho2 hx2
  rcases List.mem_append.1 hi with hi | hi
  ·exact h.lx i hi o2 ho2 hx2
  ·simp only [List.mem_singleton] at hi
   subst hi
   rw [ho] at ho2; cases ho2; rw [hx] at hx2; cases hx2
 ·refine ⟨_, ?_, hK⟩
  intro i hi o2 ho2 hl2
  rcases List.mem_append.1 hi with hi | hi
  ·have := hlog i hi o2 ho2 hl2
   cases (isL o.op || isS (muOf cfg o) o.op) <;> simp [this]
  ·simp only [List.mem_singleton] at hi
   subst hi
   rw [ho] at ho2; cases ho2; rw [hl2]; simp
 ·intro q
  by_cases e : q = d
  ·subst e
   exact .inl ⟨j, by simp, hlj, o, ho, hd⟩
  ·rcases h.slots q with ⟨i, hi, rest⟩ | ⟨i, hi, hli, rest⟩ | hv
   ·exact .inl ⟨i, by simp [hi], rest⟩
   ·refine .inr (.inl ⟨i, ?_, hli, rest⟩)
    rcases List.mem_cons.1 hi with rfl | hi
    ·rw [hlj] at hli; cases hli
    ·exact hi
   ·right; right; rw [hget q e]; exact hv
 ·intro i hi hl
  rcases List.mem_append.1 hi with hi | hi
  ·have hpi := h.pend i hi hl
   refine Pend_congr (fun oi hoi => ?_) hpi
   obtain ⟨k1, k2, e2⟩ := List.append_of_mem hi
   have e3 : c = k1 ++ i :: (k2 ++ j :: r) := by rw [h.split, e2]; simp
   have hpair := hg.pair e3 (show j ∈ k2 ++ j :: r by simp) hoi ho
   have hxi : isXo cfg oi = false := by
    cases hq : isXo cfg oi with
    | false => rfl
    | true => have := h.lx i hi oi hoi hq; rw [hl] at this; cases this
   refine ⟨fun q hq => hget q ?_, fun q hq => hget q ?_⟩
   ·rintro rfl; exact hpair.war hx _ hd hq
   ·rintro rfl; exact hpair.dst hxi _ hq hd
  ·simp only [List.mem_singleton] at hi
   subst hi; exact hp
 ·intro i hi hl o2 d2 ho2 hd2
  rcases List.mem_append.1 hi with hi | hi
  ·exact h.bnd i hi hl o2 d2 ho2 hd2
  ·simp only [List.mem_singleton] at hi
   subst hi
   rw [ho] at ho2; cases ho2; rw [hd] at hd2; cases hd2; exact hlt
def maskS (s : Slots) (ds : List Nat) : Slots := ds.map (fun d => (d, AV.bad)) ++ s
theorem get_mask (s : Slots) (i : Nat) : ∀ ds : List Nat, get (maskS s ds) i = if i ∈ ds then .bad else get s i
 | [] => by simp [maskS]
 | d :: r => by
  have ih := get_mask s i r
  simp only [maskS, List.map_cons, List.cons_append, get]
  cases hb : Nat.beq d i with
  | true => have := Nat.eq_of_beq_eq_true hb; subst this; simp
  | false =>
   have hne : i ≠ d := fun e => by subst e; simp at hb
   simp only [cond_false]
   rw [show (List.map (fun d => (d, AV.bad)) r ++ s) = maskS s r from rfl, ih]
   simp [hne]
def owed (ops : Array Oper) (listed : Array Bool) (c1 : List Nat) : List Nat :=
 c1.filterMap fun i => if Li listed i then none else (ops[i]?).bind (·.dst)
theorem mem_owed {listed : Array Bool} {c1 : List Nat} {d : Nat} : d ∈ owed ops listed c1 ↔ ∃ i ∈ c1, Li listed i = false ∧ ∃ o, ops[i]? = some o ∧ o.dst = some d := by
 unfold owed
 rw [List.mem_filterMap]
 constructor
 ·rintro ⟨i, hi, h⟩
  cases hl : Li listed i with
  | true => rw [hl] at h; simp at h
  | false =>
   rw [hl] at h
   simp only [Bool.false_eq_true, if_false] at h
   cases ho : ops[i]? with
   | none => rw [ho] at h; simp at h
   | some o => rw [ho] at h; exact ⟨i, hi, hl, o, ho, by simpa using h⟩
 ·rintro ⟨i, hi, hl, o, ho, hd⟩
  exact ⟨i, hi, by simp [hl, ho, hd]⟩
def soon (ops : Array Oper) (listed : Array Bool) (c2 : List Nat) : List Nat :=
 c2.filterMap fun i => if Li listed i then (ops[i]?).bind (·.dst) else none
theorem mem_soon {listed : Array Bool} {c2 : List Nat} {d : Nat} : d ∈ soon ops listed c2 ↔ ∃ i ∈ c2, Li listed i = true ∧ ∃ o, ops[i]? = some o ∧ o.dst = some d := by
 unfold soon
 rw [List.mem_filterMap]
 constructor
 ·rintro ⟨i, hi, h⟩
  cases hl : Li listed i with
  | false => rw [hl] at h; simp at h
  | true =>
   rw [hl] at h
   simp only [if_true] at h
   cases ho : ops[i]? with
   | none => rw [ho] at h; simp at h
   | some o => rw [ho] at h; exact ⟨i, hi, hl, o, ho, by simpa using h⟩
 ·rintro ⟨i, hi, hl, o, ho, hd⟩
  exact ⟨i, hi, by simp [hl, ho, hd]⟩
def hid (ops : Array Oper) (listed : Array Bool) (c1 c2 : List Nat) : List Nat := owed ops listed c1 ++ soon ops listed c2
theorem Inv.srel {listed c1 c2 s H M loc a w} (h : Inv P cfg ops masks c K M0 loc0 H0 w0 D0 listed c1 c2 s H M loc a w) : SRel M w loc (maskS s (hid ops listed c1 c2)) a.tmps := by
 intro d
 rw [get_mask]
 split
 ·exact .bad _
 ·rename_i hn
  rcases h.slots d with ho | ho | hv
  ·exact (hn (List.mem_append.2 (.inl (mem_owed.2 ho)))).elim
  ·exact (hn (List.mem_append.2 (.inr (mem_soon.2 ho)))).elim
  ·exact hv
theorem Inv.looks (hg : Good P cfg ops masks c) {listed c1 c2 s H M loc a w} (h : Inv P cfg ops masks c K M0 loc0 H0 w0 D0 listed c1 c2 s H M loc a w) {i : Nat} {o : Oper} (hi : i ∈ c) (ho : ops[i]? = some o)
  (hready : ∀ j, befB masks j i = true → Li listed j = true) (hself : isXo cfg o = false → ∀ d, o.dst = some d → d ∉ o.looksAt ops) (hahead : i ∈ c1 ∨ ∃ r, c2 = i :: r) (hun : Li listed i = false) :
  ∀ d ∈ o.looksAt ops, d ∉ hid ops listed c1 c2 := by
 intro d hd hm0
 rcases List.mem_append.1 hm0 with hm | hm
 case inr =>
  obtain ⟨j, hj, hlj, oj, hoj, hdj⟩ := mem_soon.1 hm
  have hp : PairOk P cfg ops masks i j o oj := by
   rcases hahead with hi1 | ⟨r, rfl⟩
   ·obtain ⟨l1, l2, e⟩ := List.append_of_mem hi1
    exact hg.pair (l1 := l1) (i := i) (l2 := l2 ++ c2) (by rw [h.split, e]; simp) (by simp [hj]) ho hoj
   ·rcases List.mem_cons.1 hj with rfl | hj
    ·rw [hun] at hlj; cases hlj
    ·exact hg.pair (l1 := c1) (i := i) (l2 := r) h.split hj ho hoj
  rcases hp.apart with hap | hb
  ·exact (Oper.apart_spec hap).2.2 d hdj hd
  ·rw [h.cl j i hlj hb] at hun; cases hun
 obtain ⟨j, hj, hlj, oj, hoj, hdj⟩ := mem_owed.1 hm
 have hjx : isXo cfg oj = false := by
  cases hq : isXo cfg oj with
  | false => rfl
  | true => have := h.lx j hj oj hoj hq; rw [hlj] at this; cases this
 by_cases e : i = j
 ·subst e
  rw [ho] at hoj; cases hoj
  exact hself hjx d hdj hd
 ·have hjc : j ∈ c := by rw [h.split]; simp [hj]
  rcases two_of hi hjc e with ⟨l1, l2, e1, hm2⟩ | ⟨l1, l2, e1, hm2⟩
  ·-- i ahead of j
   have hp := hg.pair e1 hm2 ho hoj
   exact hp.war hjx d hdj hd
  ·have hp := hg.pair e1 hm2 hoj ho
   rcases hp.apart with hap | hb
   ·exact (Oper.apart_spec hap).1 d hdj hd
   ·have := hready j hb; rw [hlj] at this; cases this
theorem Li_set {listed : Array Bool} {i j : Nat} (hi : i < listed.size) : Li (listed.setIfInBounds i true) j = if j = i then true else Li listed j := by
 unfold Li
 simp only [Array.getD_eq_getD_getElem?, Array.getElem?_setIfInBounds]
 by_cases e : i = j
 ·subst e; simp [hi]
 ·rw [if_neg e, if_neg (fun x => e x.symm)]
theorem ev_mask {s : Slots} {ds : List Nat} {o : Oper} (h : ∀ d ∈ o.looksAt ops, d ∉ ds) : ∀ x ∈ o.op.operands, ev s x = ev (maskS s ds) x := by
 intro x hx
 cases x with
 | tmp t =>
  simp only [ev]
  rw [get_mask, if_neg]
  refine h t ?_
  simp only [Oper.looksAt, List.mem_append, List.mem_filterMap]
  exact .inl ⟨.tmp t, by simpa using hx, rfl⟩
 | _ => rfl
theorem guard_slot {o : Oper} {g gd : Nat} {want : Bool} (hg : o.guard = some (g, want)) (hgd : (ops[g]?).bind (·.dst) = some gd) : gd ∈ o.looksAt ops := by
 simp only [Oper.looksAt, List.mem_append]
 right; rw [hg]; simp [hgd]
theorem Inv.cl' {listed : Array Bool} {i : Nat} (hi : i < listed.size) (hcl : ∀ i j, Li listed i = true → befB masks j i = true → Li listed j = true) (hready : ∀ j, befB masks j i = true → Li listed j = true) :
  ∀ k j, Li (listed.setIfInBounds i true) k = true → befB masks j k = true → Li (listed.setIfInBounds i true) j = true := by
 intro k j hk hb
 rw [Li_set hi] at hk ⊢
 split
 ·rfl
 ·by_cases e : k = i
  ·subst e; exact hready j hb
  ·rw [if_neg e] at hk; exact hcl k j hk hb
theorem Early.keep {M : Mem} {loc : Locs} {H : List AObj} {w : World} {M' : Mem} {loc' : Locs} {H' : List AObj} {w' : World} {a a' : Act} {i b : Nat} (h : Early P cfg ops w0 H M loc a w i b) (hs : Step M loc H w M' loc' H' w')
  (ht : ∀ o d, ops[i]? = some o → o.dst = some d → isAl o = true → a'.tmps.getD d undef = a.tmps.getD d undef) : Early P cfg ops w0 H' M' loc' a' w' i b := by
 obtain ⟨o, t, d, v, h1, h2, h3, h4, h5, h6, h7, h8⟩ := h.ex
 have hk := hs.keep b h.hi h.free
 refine ⟨⟨o, t, d, v, h1, h2, h3, h4, h5, h6, ?_, by rw [hk.1]; exact h8⟩, h.lo, Nat.lt_of_lt_of_le h.hi hs.size, fun ho => h.free (hs.own b h.hi ho), by rw [hk.2]; exact h.ext, by rw [hs.base]; exact h.base⟩
 rw [ht o d h1 h4 (by unfold isAl; rw [h2, h3])]
 exact h7
theorem Inv.stepA (hg : Good P cfg ops masks c) {listed c1 c2 s H M loc a w} (h : Inv P cfg ops masks c K M0 loc0 H0 w0 D0 listed c1 c2 s H M loc a w) {i : Nat} {o : Oper} (hi : i ∈ c1) (ho : ops[i]? = some o) (hl : Li listed i = false)
  (hlt : i < ops.size) (hready : ∀ j, befB masks j i = true → Li listed j = true) {next : Act → World → Prop} {Q : Exit → Act → World → Prop}
  (hnext : ∀ a' w', (∃ M' loc', Inv P cfg ops masks c K M0 loc0 H0 w0 D0 (listed.setIfInBounds i true) c1 c2 s H M' loc' a' w') → next a' w') : wpOpIn (FW ro) 0 P ops Q i next a w := by
 have hic : i ∈ c := by rw [h.split]; simp [hi]
 have hx : isXo cfg o = false := by
  cases hq : isXo cfg o with
  | false => rfl
  | true => have := h.lx i hi o ho hq; rw [hl] at this; cases this
 obtain ⟨o', ho', hs⟩ := hg.op hic
 rw [ho] at ho'; cases ho'
 obtain ⟨hsure, d, hd, hself⟩ := hs hx
 have hlook := h.looks hg hic ho hready (fun _ d' hd' => by rw [hd] at hd'; cases hd'; exact hself) (.inl hi) hl
 have hsr := h.srel
 have hps := h.pend i hi hl
 have hsz : i < listed.size := by rw [h.sz]; exact hlt
 -- the frame behind it
 have hdlt : d < a.tmps.size := by rw [h.size]; exact h.bnd i hi hl o d ho hd
 have hdone : ∀ v w' M' loc', Rel M' loc' H w' → VRel M' w' loc' (get s d) v → Step M loc H w M' loc' H w' →
   Inv P cfg ops masks c K M0 loc0 H0 w0 D0 (listed.setIfInBounds i true) c1 c2 s H M' loc' (a.put o.dst v) w' := by
  intro v w' M' loc' r1 r2 r3
  have hi2 : i ∉ c2 := by
   intro hj
   obtain ⟨l1, l2, e1⟩ := List.append_of_mem hi
   exact (hg.self (l1 := l1) (i := i) (l2 := l2 ++ c2) (by rw [h.split, e1]; simp)).1 (by simp [hj])
  have hli2 : ∀ j ∈ c2, Li (listed.setIfInBounds i true) j = Li listed j := by
   intro j hj
   rw [Li_set hsz, if_neg]
   rintro rfl; exact hi2 hj
  obtain ⟨E, hE1, hE2⟩ := h.early
  refine ⟨h.split, by simp [h.sz], ?_, ?_, Inv.cl' hsz h.cl hready, h.log, r1, h.step.trans r3, ?_, ⟨E, ?_, fun j hj k hk hlj hlk => hE2 j hj k hk (hli2 j hj ▸ hlj) (hli2 k hk ▸ hlk)⟩, ?_, ?_, by simp [Act.put, hd, h.size], by simp [Act.put, hd, h.defers], h.start⟩
  ·intro j hj hlj
   rw [hli2 j hj] at hlj
   exact h.unl j hj hlj
  ·intro j hj oj hoj hxj
   rw [Li_set hsz]
   split
   ·rfl
   ·exact h.lx j hj oj hoj hxj
  ·intro q
   by_cases e : q = d
   ·subst e
    right; right
    have : (a.put o.dst v).tmps.getD q undef = v := by simp [Act.put, hd, Array.getD, hdlt]
    rw [this]; exact r2
   ·have hsame : (a.put o.dst v).tmps.getD q undef = a.tmps.getD q undef := by
     simp only [Act.put, hd, Array.getD_eq_getD_getElem?, Array.getElem?_setIfInBounds]
     rw [if_neg (fun x => e x.symm)]
    rw [hsame]
    rcases h.slots q with ⟨j, hj, hlj, oj, hoj, hdj⟩ | ⟨j, hj, hlj, rest⟩ | hv
    ·left
     refine ⟨j, hj, ?_, oj, hoj, hdj⟩
     rw [Li_set hsz, if_neg]
     ·exact hlj
     ·rintro rfl; rw [ho] at hoj; cases hoj; rw [hd] at hdj; cases hdj; exact e rfl
    ·exact .inr (.inl ⟨j, hj, by rw [hli2 j hj]; exact hlj, rest⟩)
    ·exact .inr (.inr (hv.keeps (r3.keeps h.rel)))
  ·intro j hj hlj
   rw [hli2 j hj] at hlj
   refine (hE1 j hj hlj).keep r3 fun oj dj hoj hdj hal => ?_
   obtain ⟨l1, l2, e1⟩ := List.append_of_mem hi
   have hp := hg.pair (l1 := l1) (i := i) (l2 := l2 ++ c2) (by rw [h.split, e1]; simp) (show j ∈ l2 ++ c2 by simp [hj]) ho hoj
   have hne : d ≠ dj := fun e => hp.al (.inr hal) d hd (e ▸ hdj)
   simp only [Act.put, hd, Array.getD_eq_getD_getElem?, Array.getElem?_setIfInBounds]
   rw [if_neg hne]
  ·intro j hj hlj
   rw [Li_set hsz] at hlj
   split at hlj
   ·cases hlj
   ·exact h.pend j hj hlj
  ·intro j hj hlj
   rw [Li_set hsz] at hlj
   split at hlj
   ·cases hlj
   ·exact h.bnd j hj hlj
 have hrunv : aop P cfg.ret (muOf cfg o) s o.op H (fun v H' => v = get s d ∧ H' = H) → o.wpIn (FW ro) 0 P a w next Q := by
  intro hop
  refine aop_sound (aop_congr (ev_mask hlook) hop) (h.start.2.step h.start.1 h.step) h.rel hsr fun v av H' M' loc' w' hK r1 r2 r3 => ?_
  obtain ⟨rfl, rfl⟩ := hK
  exact hnext _ _ ⟨M', loc', hdone v w' M' loc' r1 r2 r3⟩
 have hskipv : get s d = .tup [] → next (a.put o.dst undef) w := by
  intro hb
  exact hnext _ _ ⟨M, loc, hdone undef w M loc h.rel (by rw [hb]; exact vrel_undef) (Step.refl _ _ _ _)⟩
 unfold wpOpIn
 rw [ho]
 simp only
 unfold Pend at hps
 rw [ho] at hps
 simp only [hd] at hps
 cases hgd : o.guard with
 | none =>
  rw [hgd] at hps
  have : Region.wanted o (yielded ops a.tmps) = true := by simp [Region.wanted, hgd]
  rw [if_pos this]
  exact (hrunv hps)
 | some jw =>
  obtain ⟨g, want⟩ := jw
  rw [hgd] at hps
  simp only at hps
  split at hps
  case h_2 => exact hps.elim
  case h_1 gd hgdd =>
  split at hps
  case h_3 => exact hps.elim
  case h_2 hb =>
   have hmask : get (maskS s (hid ops listed c1 c2)) gd = .tup [] := by
    rw [get_mask, if_neg (hlook gd (guard_slot hgd hgdd))]; exact hb
   have hw : Region.wanted o (yielded ops a.tmps) = false := by
    simp only [Region.wanted, hgd, yielded_none hsr hgdd hmask]
    rfl
   rw [hw]
   exact ⟨fun _ _ => trivial, hskipv hps⟩
  case h_1 b hb =>
  have hmask : get (maskS s (hid ops listed c1 c2)) gd = .bool b := by
   rw [get_mask, if_neg (hlook gd (guard_slot hgd hgdd))]; exact hb
  have hglt : gd < a.tmps.size := by
   rcases Nat.lt_or_ge gd a.tmps.size with q | q
   ·exact q
   ·have := hsr gd
    rw [hmask] at this
    have e : a.tmps.getD gd undef = undef := by simp [Array.getD, Nat.not_lt.2 q]
    rw [e] at this
    unfold undef at this
    cases this
  have hy := yielded_of hsr hgdd hmask hglt
  have hw : Region.wanted o (yielded ops a.tmps) = (b == want) := by
   simp only [Region.wanted, hgd, hy]
   cases b <;> cases want <;> rfl
  rw [hw]
  cases b with
  | true =>
   cases want with
   | true => exact (hrunv hps)
   | false => exact ⟨fun _ _ => trivial, hskipv hps⟩
  | false =>
   cases want with
   | true => exact ⟨fun _ _ => trivial, hskipv hps⟩
   | false => exact (hrunv hps)
theorem Inv.stepB (hg : Good P cfg ops masks c) {listed c1 r s H M loc a w} {i : Nat} (h : Inv P cfg ops masks c K M0 loc0 H0 w0 D0 listed c1 (i :: r) s H M loc a w) {o : Oper} (ho : ops[i]? = some o) (hx : isXo cfg o = true)
  (hl : Li listed i = false) (hlt : i < ops.size) (hready : ∀ j, befB masks j i = true → Li listed j = true) {next : Act → World → Prop} {Q : Exit → Act → World → Prop}
  (hnext : ∀ a' w', (∃ s' H' M' loc', Inv P cfg ops masks c K M0 loc0 H0 w0 D0 (listed.setIfInBounds i true) (c1 ++ [i]) r s' H' M' loc' a' w') → next a' w') : wpOpIn (FW ro) 0 P ops Q i next a w := by
 have hic : i ∈ c := by rw [h.split]; simp
 have hlook := h.looks hg hic ho hready (fun hx' => by rw [hx] at hx'; cases hx') (.inr ⟨r, rfl⟩) hl
 have hsr := h.srel
 have hsz : i < listed.size := by rw [h.sz]; exact hlt
 obtain ⟨log, hlog, hk⟩ := h.log
 simp only [adrawL] at hk
 rw [ho] at hk
 simp only at hk
 rw [hx] at hk
 simp only at hk
 -- what is so behind it
 have hdone : ∀ s1 s' v w' H' M' loc', (∀ q, get s1 q = get s q) → (o.dst = none ∧ s' = s1 ∨ ∃ d, o.dst = some d ∧ d < cfg.N ∧ ∃ av, s' = (d, av) :: s1 ∧ VRel M' w' loc' av v) → Rel M' loc' H' w' → Step M loc H w M' loc' H' w' →
   pendAll P cfg ops masks i s' H' log (adrawL P cfg ops masks r log s' H' K) →
   Inv P cfg ops masks c K M0 loc0 H0 w0 D0 (listed.setIfInBounds i true) (c1 ++ [i]) r s' H' M' loc' (a.put o.dst v) w' := by
  intro s1 s' v w' H' M' loc' hs1 hs' r1 r3 hp
  obtain ⟨hp1, hp2⟩ := pendAll_elim hp
  have hget : ∀ q, o.dst ≠ some q → get s' q = get s q := by
   intro q hq
   rcases hs' with ⟨_, rfl⟩ | ⟨d, hd, _, av, rfl, _⟩
   ·exact hs1 q
   ·simp only [get]
    cases hb : Nat.beq d q with
    | true => have := Nat.eq_of_beq_eq_true hb; subst this; exact (hq hd).elim
    | false => exact hs1 q
  have htm : ∀ q, o.dst ≠ some q → (a.put o.dst v).tmps.getD q undef = a.tmps.getD q undef := by
   intro q hq
   cases hd : o.dst with
   | none => rfl
   | some d =>
    simp only [Act.put, Array.getD_eq_getD_getElem?, Array.getElem?_setIfInBounds]
    rw [if_neg (fun e => by subst e; exact hq hd)]
  have hir : i ∉ r := (hg.self (l1 := c1) (i := i) (l2 := r) h.split).1
  have hli2 : ∀ j ∈ r, Li (listed.setIfInBounds i true) j = Li listed j := by
   intro j hj
   rw [Li_set hsz, if_neg]
   rintro rfl; exact hir hj
  obtain ⟨E, hE1, hE2⟩ := h.early
  refine ⟨by rw [h.split]; simp, by simp [h.sz], ?_, ?_, Inv.cl' hsz h.cl hready, ⟨log, ?_, hp2⟩, r1, h.step.trans r3, ?_, ⟨E, ?_, fun j hj k hk hlj hlk => hE2 j (by simp [hj]) k (by simp [hk]) (hli2 j hj ▸ hlj) (hli2 k hk ▸ hlk)⟩, ?_, ?_, ?_, ?_, h.start⟩
  ·intro j hj hlj
   rw [hli2 j hj] at hlj
   exact h.unl j (by simp [hj]) hlj
  ·intro j hj oj hoj hxj
   rw [Li_set hsz]
   split
   ·rfl
   ·rename_i hne
    rcases List.mem_append.1 hj with hj | hj
    ·exact h.lx j hj oj hoj hxj
    ·simp only [List.mem_singleton] at hj; exact (hne hj).elim
  ·intro j hj oj hoj hlj
   rcases List.mem_append.1 hj with hj | hj
   ·exact hlog j hj oj hoj hlj
   ·simp only [List.mem_singleton] at hj
    subst hj
    rw [ho] at hoj; cases hoj
    exfalso
    cases hop : o.op <;> simp [hop, isXo, isX, isC, isL, isS] at hx hlj
    split at hlj <;> simp_all
  ·intro q
   by_cases hq : o.dst = some q
   ·right; right
    rcases hs' with ⟨hn, _⟩ | ⟨d, hd, hdN, av, rfl, hv⟩
    ·rw [hn] at hq; cases hq
    ·rw [hd] at hq; cases hq
     have e1 : get ((q, av) :: s1) q = av := by simp [get]
     have e2 : (a.put o.dst v).tmps.getD q undef = v := by
      have : q < a.tmps.size := by rw [h.size]; exact hdN
      simp [Act.put, hd, Array.getD, this]
     rw [e1, e2]; exact hv
   ·rw [hget q hq, htm q hq]
    rcases h.slots q with ⟨j, hj, hlj, oj, hoj, hdj⟩ | ⟨j, hj, hlj, rest⟩ | hv
    ·left
     refine ⟨j, by simp [hj], ?_, oj, hoj, hdj⟩
     rw [Li_set hsz, if_neg]
     ·exact hlj
     ·rintro rfl; rw [ho] at hoj; cases hoj; exact hq hdj
    ·rcases List.mem_cons.1 hj with rfl | hj
     ·rw [hl] at hlj; cases hlj
     ·exact .inr (.inl ⟨j, hj, by rw [hli2 j hj]; exact hlj, rest⟩)
    ·exact .inr (.inr (hv.keeps (r3.keeps h.rel)))
  ·intro j hj hlj
   rw [hli2 j hj] at hlj
   refine (hE1 j (by simp [hj]) hlj).keep r3 fun oj dj hoj hdj hal => ?_
   have hp := hg.pair (l1 := c1) (i := i) (l2 := r) h.split hj ho hoj
   exact htm dj fun hd => hp.al (.inr hal) dj hd hdj
  ·intro j hj hlj
   rw [Li_set hsz] at hlj
   split at hlj
   ·cases hlj
   ·rename_i hne
    rcases List.mem_append.1 hj with hj | hj
    ·have hjb : befB masks j i = false := by
      cases hq : befB masks j i with
      | false => rfl
      | true => have := hready j hq; rw [hlj] at this; cases this
     obtain ⟨oj, hoj, _⟩ := hg.op (show j ∈ c by rw [h.split]; simp [hj])
     have hxj : isXo cfg oj = false := by
      cases hq : isXo cfg oj with
      | false => rfl
      | true => have := h.lx j hj oj hoj hq; rw [hlj] at this; cases this
     cases hlo : (isL oj.op || isS (muOf cfg oj) oj.op) with
     | true => exact hp1 j (hlog j hj oj hoj hlo) hjb
     | false =>
      rw [Bool.or_eq_false_iff] at hlo
      refine Pend_heap hoj hxj hlo.1 hlo.2 (Pend_congr (fun oj' hoj' => ?_) (h.pend j hj hlj))
      rw [hoj] at hoj'; cases hoj'
      obtain ⟨k1, k2, e2⟩ := List.append_of_mem hj
      have e3 : c = k1 ++ j :: (k2 ++ i :: r) := by rw [h.split, e2]; simp
      have hpair := hg.pair e3 (show i ∈ k2 ++ i :: r by simp) hoj ho
      have hap : oj.apart ops o = true := by
       rcases hpair.apart with q | q
       ·exact q
       ·rw [hjb] at q; cases q
      have hsp := Oper.apart_spec hap
      exact ⟨fun q hq => hget q (fun e => hsp.2.2 q e hq), fun q hq => hget q (hsp.2.1 q hq)⟩
    ·simp only [List.mem_singleton] at hj; exact (hne hj).elim
  ·intro j hj hlj oj d hoj hdj
   rw [Li_set hsz] at hlj
   split at hlj
   ·cases hlj
   ·rename_i hne
    rcases List.mem_append.1 hj with hj | hj
    ·exact h.bnd j hj hlj oj d hoj hdj
    ·simp only [List.mem_singleton] at hj; exact (hne hj).elim
  ·cases hd : o.dst <;> simp [Act.put, h.size]
  ·cases hd : o.dst <;> simp [Act.put, h.defers]
 have hrunv : ∀ s1, (∀ q, get s1 q = get s q) → aop P cfg.ret (muOf cfg o) s1 o.op H (fun v H' => aput cfg.N s1 o.dst v fun s' => pendAll P cfg ops masks i s' H' log (adrawL P cfg ops masks r log s' H' K)) → o.wpIn (FW ro) 0 P a w next Q := by
  intro s1 hs1 hop
  have he : ∀ x ∈ o.op.operands, ev s1 x = ev (maskS s (hid ops listed c1 (i :: r))) x := by
   intro x hx'
   rw [← ev_mask hlook x hx']
   cases x with
   | tmp t => exact hs1 t
   | _ => rfl
  refine aop_sound (aop_congr he hop) (h.start.2.step h.start.1 h.step) h.rel hsr fun v av H' M' loc' w' hK r1 r2 r3 => ?_
  refine hnext _ _ ?_
  cases hd : o.dst with
  | none =>
   rw [hd] at hK
   have := hdone s1 s1 v w' H' M' loc' hs1 (.inl ⟨hd, rfl⟩) r1 r3 hK
   rw [hd] at this
   exact ⟨s1, H', M', loc', this⟩
  | some d =>
   rw [hd] at hK
   obtain ⟨hb, hK⟩ := chk_elim hK
   have := hdone s1 _ v w' H' M' loc' hs1 (.inr ⟨d, hd, by simpa [Nat.blt_eq] using hb, av, rfl, r2⟩) r1 r3 hK
   rw [hd] at this
   exact ⟨_, H', M', loc', this⟩
 have hskipv : ∀ s1, (∀ q, get s1 q = get s q) → aput cfg.N s1 o.dst (.tup []) (fun s' => pendAll P cfg ops masks i s' H log (adrawL P cfg ops masks r log s' H K)) → next (a.put o.dst undef) w := by
  intro s1 hs1 hK
  refine hnext _ _ ?_
  cases hd : o.dst with
  | none =>
   rw [hd] at hK
   have := hdone s1 s1 undef w H M loc hs1 (.inl ⟨hd, rfl⟩) h.rel (Step.refl _ _ _ _) hK
   rw [hd] at this
   exact ⟨s1, H, M, loc, this⟩
  | some d =>
   rw [hd] at hK
   obtain ⟨hb, hK⟩ := chk_elim hK
   have := hdone s1 _ undef w H M loc hs1 (.inr ⟨d, hd, by simpa [Nat.blt_eq] using hb, .tup [], rfl, vrel_undef⟩) h.rel (Step.refl _ _ _ _) hK
   rw [hd] at this
   exact ⟨_, H, M, loc, this⟩
 unfold wpOpIn
 rw [ho]
 simp only
 unfold aoper at hk
 simp only at hk
 cases hgd : o.guard with
 | none =>
  rw [hgd] at hk
  have : Region.wanted o (yielded ops a.tmps) = true := by simp [Region.wanted, hgd]
  rw [if_pos this]
  exact (hrunv s (fun _ => rfl) hk)
 | some jw =>
  obtain ⟨g, want⟩ := jw
  rw [hgd] at hk
  simp only at hk
  split at hk
  case h_2 => exact hk.elim
  case h_1 gd hgdd =>
  split at hk
  case h_3 => exact hk.elim
  case h_2 hb =>
   have hmask : get (maskS s (hid ops listed c1 (i :: r))) gd = .tup [] := by
    rw [get_mask, if_neg (hlook gd (guard_slot hgd hgdd))]; exact hb
   have hw : Region.wanted o (yielded ops a.tmps) = false := by
    simp only [Region.wanted, hgd, yielded_none hsr hgdd hmask]
    rfl
   rw [hw]
   exact ⟨fun _ _ => trivial, hskipv s (fun _ => rfl) hk⟩
  case h_1 b hb =>
  obtain ⟨hglt, hk⟩ := chk_elim hk
  have hglt : gd < cfg.N := by simpa [Nat.blt_eq] using hglt
  have hmask : get (maskS s (hid ops listed c1 (i :: r))) gd = .bool b := by
   rw [get_mask, if_neg (hlook gd (guard_slot hgd hgdd))]; exact hb
  have hy := yielded_of hsr hgdd hmask (by rw [h.size]; exact hglt)
  have hknow : ∀ q, get ((gd, .bool b) :: s) q = get s q := by
   intro q
   simp only [get]
   cases hq : Nat.beq gd q with
   | true => have := Nat.eq_of_beq_eq_true hq; subst this; exact hb.symm
   | false => rfl
  have hw : Region.wanted o (yielded ops a.tmps) = (b == want) := by
   simp only [Region.wanted, hgd, hy]
   cases b <;> cases want <;> rfl
  rw [hw]
  cases b with
  | true =>
   simp only [condP] at hk
   cases want with
   | true => exact (hrunv _ hknow hk)
   | false => exact ⟨fun _ _ => trivial, hskipv _ hknow hk⟩
  | false =>
   simp only [condP] at hk
   cases want with
   | true => exact ⟨fun _ _ => trivial, hskipv _ hknow hk⟩
   | false => exact (hrunv _ hknow hk)
theorem Inv.stepF (hg : Good P cfg ops masks c) {listed c1 c2 s H M loc a w} (h : Inv P cfg ops masks c K M0 loc0 H0 w0 D0 listed c1 c2 s H M loc a w) {i : Nat} {o : Oper} (hi : i ∈ c2) (ho : ops[i]? = some o) (hf : isFl P cfg o = true) (hl : Li listed i = false)
  (hlt : i < ops.size) (hready : ∀ j, befB masks j i = true → Li listed j = true) {next : Act → World → Prop} {Q : Exit → Act → World → Prop}
  (hnext : ∀ a' w', (∃ M' loc', Inv P cfg ops masks c K M0 loc0 H0 w0 D0 (listed.setIfInBounds i true) c1 c2 s H M' loc' a' w') → next a' w') : wpOpIn (FW ro) 0 P ops Q i next a w := by
 obtain ⟨t, d, v, hop, hgd, hd, hdN, hz⟩ := isFl_spec hf
 have hsz : i < listed.size := by rw [h.sz]; exact hlt
 have hdlt : d < a.tmps.size := by rw [h.size]; exact hdN
 have hi1 : i ∉ c1 := by
  intro hj
  obtain ⟨l1, l2, e1⟩ := List.append_of_mem hj
  exact (hg.self (l1 := l1) (i := i) (l2 := l2 ++ c2) (by rw [h.split, e1]; simp)).1 (by simp [hi])
 have hgr : Grown w (w.alloc (.cells v.cells t)) := ⟨by simp, fun b hb => heap_alloc_lt hb, rfl, rfl, rfl⟩
 obtain ⟨r1, r2⟩ := h.rel.grown hgr
 have hext0 : M.ext w.heap.size = 0 := by
  cases hq : M.ext w.heap.size with
  | zero => rfl
  | succ n =>
   obtain ⟨_, cs, T, fr, h2, _⟩ := h.rel.ext w.heap.size (by omega)
   have := cells_lt h2
   omega
 have hstep := h.step.size
 have hal : isAl o = true := isFl_al hf
 have hne : ∀ j ∈ c2, j ≠ i → ∀ oj dj, ops[j]? = some oj → oj.dst = some dj → dj ≠ d := by
  intro j hj hji oj dj hoj hdj
  rcases two_of (c := c) (i := i) (j := j) (by rw [h.split]; simp [hi]) (by rw [h.split]; simp [hj]) (fun e => hji e.symm) with ⟨l1, l2, e1, hm⟩ | ⟨l1, l2, e1, hm⟩
  ·have hp := hg.pair e1 hm ho hoj
   rintro rfl; exact hp.al (.inl hal) _ hd hdj
  ·have hp := hg.pair e1 hm hoj ho
   rintro rfl; exact hp.al (.inr hal) _ hdj hd
 have hsame : ∀ q, q ≠ d → (a.put o.dst (.pointer (some ⟨w.heap.size, 0, none⟩))).tmps.getD q undef = a.tmps.getD q undef := by
  intro q hq
  simp only [Act.put, hd, Array.getD_eq_getD_getElem?, Array.getElem?_setIfInBounds]
  rw [if_neg (fun x => hq x.symm)]
 have hat : (a.put o.dst (.pointer (some ⟨w.heap.size, 0, none⟩))).tmps.getD d undef = .pointer (some ⟨w.heap.size, 0, none⟩) := by
  simp [Act.put, hd, Array.getD, hdlt]
 obtain ⟨E, hE1, hE2⟩ := h.early
 have hI : Inv P cfg ops masks c K M0 loc0 H0 w0 D0 (listed.setIfInBounds i true) c1 c2 s H M loc (a.put o.dst (.pointer (some ⟨w.heap.size, 0, none⟩))) (w.alloc (.cells v.cells t)) := by
  refine ⟨h.split, by simp [h.sz], ?_, ?_, Inv.cl' hsz h.cl hready, h.log, r1, h.step.trans r2, ?_, ⟨fun j => if j = i then w.heap.size else E j, ?_, ?_⟩, ?_, ?_, by simp [Act.put, hd, h.size], by simp [Act.put, hd, h.defers], h.start⟩
  ·intro j hj hlj
   rw [Li_set hsz] at hlj
   split at hlj
   ·rename_i e; subst e; exact ⟨o, ho, hf⟩
   ·exact h.unl j hj hlj
  ·intro j hj oj hoj hxj
   rw [Li_set hsz]
   split
   ·rfl
   ·exact h.lx j hj oj hoj hxj
  ·intro q
   by_cases e : q = d
   ·subst e
    exact .inr (.inl ⟨i, hi, by rw [Li_set hsz, if_pos rfl], o, ho, hd⟩)
   ·rw [hsame q e]
    rcases h.slots q with ⟨j, hj, hlj, rest⟩ | ⟨j, hj, hlj, rest⟩ | hv
    ·refine .inl ⟨j, hj, ?_, rest⟩
     rw [Li_set hsz, if_neg]
     ·exact hlj
     ·rintro rfl; exact hi1 hj
    ·refine .inr (.inl ⟨j, hj, ?_, rest⟩)
     rw [Li_set hsz]; split
     ·rfl
     ·exact hlj
    ·exact .inr (.inr (hv.keeps (r2.keeps h.rel)))
  ·intro j hj hlj
   rw [Li_set hsz] at hlj
   by_cases e : j = i
   ·subst e
    simp only [if_true]
    exact ⟨⟨o, t, d, v, ho, hop, hgd, hd, hdN, hz, hat, heap_alloc_new _ _⟩, hstep, by simp, fun hq => Nat.lt_irrefl _ (hq.lt h.rel), hext0, h.rel.base⟩
   ·rw [if_neg e] at hlj
    simp only [if_neg e]
    refine (hE1 j hj hlj).keep r2 fun oj dj hoj hdj _ => hsame dj (hne j hj e oj dj hoj hdj)
  ·intro j hj k hk hlj hlk he
   rw [Li_set hsz] at hlj hlk
   by_cases ej : j = i
   ·by_cases ek : k = i
    ·rw [ej, ek]
    ·rw [if_neg ek] at hlk
     simp only [if_pos ej, if_neg ek] at he
     have := (hE1 k hk hlk).hi
     omega
   ·rw [if_neg ej] at hlj
    by_cases ek : k = i
    ·simp only [if_pos ek, if_neg ej] at he
     have := (hE1 j hj hlj).hi
     omega
    ·rw [if_neg ek] at hlk
     simp only [if_neg ej, if_neg ek] at he
     exact hE2 j hj k hk hlj hlk he
  ·intro j hj hlj
   rw [Li_set hsz] at hlj
   split at hlj
   ·cases hlj
   ·exact h.pend j hj hlj
  ·intro j hj hlj
   rw [Li_set hsz] at hlj
   split at hlj
   ·cases hlj
   ·exact h.bnd j hj hlj
 unfold wpOpIn
 rw [ho]
 simp only
 have hwt : Region.wanted o (yielded ops a.tmps) = true := by simp [Region.wanted, hgd]
 rw [if_pos hwt]
 have hzt : zeroT P t = some (v.cells.toList.map ofCell) := by unfold zeroT; rw [hz]; rfl
 obtain ⟨v', hrun, _, i', hi', hz'⟩ := zeroT_run hzt w
 have hvv : v' = v := by
  rw [hi'] at hz
  have hz2 : i'.zero = some v := hz
  rw [hz'] at hz2; cases hz2; rfl
 subst hvv
 have hr' : (Instr.alloc t true (.tuple #[])).run P w = .ok (.pointer (some ⟨w.heap.size, 0, none⟩)) (w.alloc (.cells v'.cells t)) := by
  simp only [Instr.alloc, Sem.run_bind, hrun, Result.andThen_ok, newVar, newRow, run_newObj, Sem.run_pure]
  rfl
 refine wpIn_of_wp (fun c hc => by rw [hop] at hc; cases hc) ?_
 obtain ⟨dst, op, type, pos, after, guard⟩ := o
 simp only at hop
 subst hop
 unfold Oper.wp
 have he : (execOp a.eval ⟨dst, .alloc t, type, pos, after, guard⟩).run P w = .ok (.value (.pointer (some ⟨w.heap.size, 0, none⟩))) (w.alloc (.cells v'.cells t)) := by
  simp only [execOp, Sem.run_bind, Sem.run_pure, hr', Result.andThen_ok]
 rw [he]
 exact hnext _ _ ⟨M, loc, hI⟩
theorem Inv.adopt (hg : Good P cfg ops masks c) {listed c1 i r s H M loc a w} (h : Inv P cfg ops masks c K M0 loc0 H0 w0 D0 listed c1 (i :: r) s H M loc a w) (hl : Li listed i = true) :
  ∃ s' H' loc', Inv P cfg ops masks c K M0 loc0 H0 w0 D0 listed (c1 ++ [i]) r s' H' M loc' a w := by
 obtain ⟨o, ho, hf⟩ := h.unl i (by simp) hl
 have hx : isXo cfg o = true := isFl_x hf
 have hal : isAl o = true := isFl_al hf
 obtain ⟨E, hE1, hE2⟩ := h.early
 have hE := hE1 i (by simp) hl
 obtain ⟨o2, t, d, v, ho2, hop, hgd, hd, hdN, hz, htm, hhp⟩ := hE.ex
 rw [ho] at ho2; cases ho2
 obtain ⟨log, hlog, hk⟩ := h.log
 simp only [adrawL] at hk
 rw [ho] at hk
 simp only at hk
 rw [hx] at hk
 simp only at hk
 unfold aoper at hk
 simp only at hk
 rw [hgd] at hk
 have hzt : zeroT P t = some (v.cells.toList.map ofCell) := by unfold zeroT; rw [hz]; rfl
 rw [hop, hd] at hk
 simp only [aop, hzt] at hk
 obtain ⟨hb, hK⟩ := chk_elim hk
 obtain ⟨hp1, hp2⟩ := pendAll_elim hK
 obtain ⟨r1, hkp, hown⟩ := h.rel.adopt (E i) (.cells (v.cells.toList.map ofCell)) hE.free
  ⟨E i, v.cells, t, (0, 0), rfl, hE.base, hE.ext, hhp, fun k _ hk => by omega, by simp, fun j hj => cells_ofCell_rel _ j hj⟩
 have hget : ∀ q, q ≠ d → get ((d, AV.ptr H.length 0) :: s) q = get s q := by
  intro q hq
  simp only [get]
  cases hb : Nat.beq d q with
  | true => exact (hq (Nat.eq_of_beq_eq_true hb).symm).elim
  | false => rfl
 have hatd : get ((d, AV.ptr H.length 0) :: s) d = .ptr H.length 0 := by simp [get]
 refine ⟨(d, .ptr H.length 0) :: s, H ++ [.cells (v.cells.toList.map ofCell)], locSet loc H.length (.blk (E i)), by rw [h.split]; simp, h.sz, fun j hj => h.unl j (by simp [hj]), ?_, h.cl, ⟨log, ?_, hp2⟩, r1, ?_, ?_, ⟨E, ?_, fun j hj k hk => hE2 j (by simp [hj]) k (by simp [hk])⟩, ?_, ?_, h.size, h.defers, h.start⟩
 ·intro j hj oj hoj hxj
  rcases List.mem_append.1 hj with hj | hj
  ·exact h.lx j hj oj hoj hxj
  ·simp only [List.mem_singleton] at hj; subst hj; exact hl
 ·intro j hj oj hoj hlj
  rcases List.mem_append.1 hj with hj | hj
  ·exact hlog j hj oj hoj hlj
  ·simp only [List.mem_singleton] at hj
   subst hj
   rw [ho] at hoj; cases hoj
   rw [hop] at hlj
   simp [isL, isS] at hlj
 ·-- the whole way
  have hs := h.step
  refine ⟨hs.base, hs.size, hs.os, hs.tape, hs.output, hs.keep, hs.imm, hs.shape, ?_, ?_, ?_⟩
  ·intro b hb ho'
   rcases hown b ho' with hq | rfl
   ·exact hs.own b hb hq
   ·have := hE.lo; omega
  ·intro j hj
   have : j < H.length := Nat.lt_of_lt_of_le hj hs.len
   simp only [locSet]; rw [if_neg (Nat.ne_of_lt this)]
   exact hs.locs j hj
  ·have := hs.len
   simp; omega
 ·intro q
  by_cases e : q = d
  ·subst e
   right; right
   rw [hatd, htm]
   exact .ptr _ _ _ (by simp [locSet])
  ·rw [hget q e]
   rcases h.slots q with ⟨j, hj, rest⟩ | ⟨j, hj, hlj, oj, hoj, hdj⟩ | hv
   ·exact .inl ⟨j, by simp [hj], rest⟩
   ·rcases List.mem_cons.1 hj with rfl | hj
    ·rw [ho] at hoj; cases hoj; rw [hd] at hdj; cases hdj; exact (e rfl).elim
    ·exact .inr (.inl ⟨j, hj, hlj, oj, hoj, hdj⟩)
   ·exact .inr (.inr (hv.keeps hkp))
 ·intro j hj hlj
  have hEj := hE1 j (by simp [hj]) hlj
  refine ⟨hEj.ex, hEj.lo, hEj.hi, fun hq => ?_, hEj.ext, hEj.base⟩
  rcases hown _ hq with hq | e
  ·exact hEj.free hq
  ·have := hE2 j (by simp [hj]) i (by simp) hlj hl e
   subst this
   exact (hg.self (l1 := c1) (i := j) (l2 := r) h.split).1 hj
 ·intro j hj hlj
  rcases List.mem_append.1 hj with hj | hj
  ·have hjb : befB masks j i = false := by
    cases hq : befB masks j i with
    | false => rfl
    | true => have := h.cl i j hl hq; rw [hlj] at this; cases this
   obtain ⟨oj, hoj, _⟩ := hg.op (show j ∈ c by rw [h.split]; simp [hj])
   have hxj : isXo cfg oj = false := by
    cases hq : isXo cfg oj with
    | false => rfl
    | true => have := h.lx j hj oj hoj hq; rw [hlj] at this; cases this
   cases hlo : (isL oj.op || isS (muOf cfg oj) oj.op) with
   | true => exact hp1 j (hlog j hj oj hoj hlo) hjb
   | false =>
    rw [Bool.or_eq_false_iff] at hlo
    refine Pend_heap hoj hxj hlo.1 hlo.2 (Pend_congr (fun oj' hoj' => ?_) (h.pend j hj hlj))
    rw [hoj] at hoj'; cases hoj'
    obtain ⟨k1, k2, e2⟩ := List.append_of_mem hj
    have e3 : c = k1 ++ j :: (k2 ++ i :: r) := by rw [h.split, e2]; simp
    have hpair := hg.pair e3 (show i ∈ k2 ++ i :: r by simp) hoj ho
    have hap : oj.apart ops o = true := by
     rcases hpair.apart with q | q
     ·exact q
     ·rw [hjb] at q; cases q
    have hsp := Oper.apart_spec hap
    exact ⟨fun q hq => hget q (fun e => hsp.2.2 d hd (e ▸ hq)), fun q hq => hget q (fun e => hsp.2.1 q hq (e ▸ hd))⟩
  ·simp only [List.mem_singleton] at hj; subst hj; rw [hl] at hlj; cases hlj
 ·intro j hj hlj oj dj hoj hdj
  rcases List.mem_append.1 hj with hj | hj
  ·exact h.bnd j hj hlj oj dj hoj hdj
  ·simp only [List.mem_singleton] at hj; subst hj; rw [hl] at hlj; cases hlj
theorem Inv.step1 (hg : Good P cfg ops masks c) {listed : Array Bool} {a : Act} {w : World} {i : Nat} (hlt : i < ops.size) (hl : Li listed i = false) (hready : ∀ j, befB masks j i = true → Li listed j = true) {next : Act → World → Prop} {Q : Exit → Act → World → Prop}
  (hnext : ∀ a' w', (∃ c1 c2 s' H' M' loc', Inv P cfg ops masks c K M0 loc0 H0 w0 D0 (listed.setIfInBounds i true) c1 c2 s' H' M' loc' a' w') → next a' w') :
  ∀ (n : Nat) (c1 c2 : List Nat) s H M loc, c2.length = n → Inv P cfg ops masks c K M0 loc0 H0 w0 D0 listed c1 c2 s H M loc a w → wpOpIn (FW ro) 0 P ops Q i next a w
 | 0, c1, c2, s, H, M, loc, hn, h => by
  have hc2 : c2 = [] := List.length_eq_zero_iff.1 hn
  subst hc2
  have hi : i ∈ c1 := by have := hg.all i hlt; rw [h.split] at this; simpa using this
  obtain ⟨o, ho, _⟩ := hg.op (hg.all i hlt)
  exact h.stepA hg hi ho hl hlt hready fun a' w' ⟨M', loc', hI⟩ => hnext a' w' ⟨_, _, _, _, M', loc', hI⟩
 | n + 1, c1, [], s, H, M, loc, hn, h => by simp at hn
 | n + 1, c1, j :: r, s, H, M, loc, hn, h => by
  obtain ⟨o, ho, _⟩ := hg.op (hg.all i hlt)
  by_cases hi : i ∈ c1
  ·exact h.stepA hg hi ho hl hlt hready fun a' w' ⟨M', loc', hI⟩ => hnext a' w' ⟨_, _, _, _, M', loc', hI⟩
  ·obtain ⟨oj, hoj, _⟩ := hg.op (show j ∈ c by rw [h.split]; simp)
   cases hlj : Li listed j with
   | true =>
    obtain ⟨s', H', loc', h'⟩ := h.adopt hg hlj
    exact Inv.step1 hg hlt hl hready hnext n _ r s' H' M loc' (by simpa using hn) h'
   | false =>
   cases hxj : isXo cfg oj with
   | false =>
    obtain ⟨s', h'⟩ := h.absorb hg hoj hxj
    exact Inv.step1 hg hlt hl hready hnext n _ r s' H M loc (by simpa using hn) h'
   | true =>
    by_cases e : i = j
    ·subst e
     rw [ho] at hoj; cases hoj
     exact h.stepB hg ho hxj hl hlt hready fun a' w' ⟨s', H', M', loc', hI⟩ => hnext a' w' ⟨_, _, _, _, M', loc', hI⟩
    ·have hir : i ∈ r := by
      have := hg.all i hlt
      rw [h.split] at this
      rcases List.mem_append.1 this with q | q
      ·exact (hi q).elim
      ·rcases List.mem_cons.1 q with q | q
       ·exact (e q).elim
       ·exact q
     have hp := hg.pair (l1 := c1) (i := j) (l2 := r) h.split hir hoj ho
     rcases hp.x hxj with hb | hf
     ·have h1 := hready j hb
      rw [hlj] at h1; cases h1
     ·exact h.stepF hg (by simp [hir]) ho hf hl hlt hready fun a' w' ⟨M', loc', hI⟩ => hnext a' w' ⟨_, _, _, _, M', loc', hI⟩
theorem Inv.finish (hg : Good P cfg ops masks c) : ∀ (n : Nat) {listed c1} (c2 : List Nat) {s H M loc a w}, c2.length = n → Inv P cfg ops masks c K M0 loc0 H0 w0 D0 listed c1 c2 s H M loc a w → (∀ i, i < ops.size → Li listed i = true) →
  ∃ s' H' loc', K s' H' ∧ Rel M loc' H' w ∧ SRel M w loc' s' a.tmps ∧ Step M0 loc0 H0 w0 M loc' H' w
 | _, listed, c1, [], s, H, M, loc, a, w, hn, h, hall => by
  obtain ⟨log, _, hk⟩ := h.log
  refine ⟨s, H, loc, hk, h.rel, fun d => ?_, h.step⟩
  rcases h.slots d with ⟨i, hi, hl, o, ho, _⟩ | ⟨i, hi, _⟩ | hv
  ·have : i < ops.size := (Array.getElem?_eq_some_iff.1 ho).1
   rw [hall i this] at hl; cases hl
  ·simp at hi
  ·exact hv
 | 0, listed, c1, j :: r, s, H, M, loc, a, w, hn, h, hall => by simp at hn
 | n + 1, listed, c1, j :: r, s, H, M, loc, a, w, hn, h, hall => by
  obtain ⟨o, ho, _⟩ := hg.op (show j ∈ c by rw [h.split]; simp)
  have hlt : j < ops.size := (Array.getElem?_eq_some_iff.1 ho).1
  obtain ⟨s', H', loc', h'⟩ := h.adopt hg (hall j hlt)
  exact Inv.finish hg n r (by simpa using hn) h' hall
theorem mem_preds {o : Oper} {p : Nat} : p ∈ predsOf o ↔ ∃ e ∈ o.after, Region.binds .any e = true ∧ e.on = p := by
 unfold predsOf
 rw [List.mem_filterMap]
 constructor
 ·rintro ⟨e, he, h⟩
  cases hb : Region.binds .any e with
  | true => rw [hb] at h; exact ⟨e, by simpa using he, hb, by simpa using h⟩
  | false => rw [hb] at h; cases h
 ·rintro ⟨e, he, hb, rfl⟩
  exact ⟨e, by simpa using he, by simp [hb]⟩
theorem pred_lt (hg : Good P cfg ops masks c) {o : Oper} {j p : Nat} (ho : ops[j]? = some o) (hp : p ∈ predsOf o) : p < ops.size ∧ p ≠ j := by
 have hlt : j < ops.size := (Array.getElem?_eq_some_iff.1 ho).1
 have := hg.mask j hlt
 unfold maskOk at this
 rw [ho] at this
 simp only [Bool.and_eq_true] at this
 have := List.all_eq_true.1 this.2 _ hp
 rw [Bool.and_eq_true] at this
 refine ⟨by simpa [Nat.blt_eq] using this.1, ?_⟩
 rintro rfl
 simp at this
theorem self_pred (hg : Good P cfg ops masks c) {o : Oper} {j : Nat} (ho : ops[j]? = some o) (hj : j ∈ c) : j ∉ predsOf o :=
 fun h => (pred_lt hg ho h).2 rfl
theorem Inv.some_ready (hg : Good P cfg ops masks c) {listed : Array Bool} (hsz : listed.size = ops.size) (hnil : Region.ready .any ops listed = []) : ∀ i, i < ops.size → Li listed i = true := by
  -- the first of our order that is not done
  have key : ∀ (l1 l2 : List Nat), c = l1 ++ l2 → (∀ i ∈ l1, Li listed i = true) → ∀ i ∈ l2, Li listed i = true := by
    intro l1 l2
    induction l2 generalizing l1 with
    | nil => intro _ _ i hi; simp at hi
    | cons j r ih =>
      intro e hall
      have hj : Li listed j = true := by
        cases hq : Li listed j with
        | true => rfl
        | false =>
          exfalso
          obtain ⟨o, ho, _⟩ := hg.op (show j ∈ c by rw [e]; simp)
          have hlt : j < ops.size := (Array.getElem?_eq_some_iff.1 ho).1
          have hm : j ∈ Region.ready .any ops listed := by
            unfold Region.ready
            rw [List.mem_filter]
            refine ⟨by simpa using hlt, ?_⟩
            rw [Bool.and_eq_true]
            constructor
            · have : listed.getD j true = false := by
                unfold Li at hq
                rw [Array.getD_eq_getD_getElem?, Array.getElem?_eq_getElem (by omega)] at hq ⊢
                exact hq
              rw [this]; rfl
            · rw [ho]
              simp only [Option.map_some, Option.getD_some]
              rw [Array.all_eq_true_iff_forall_mem]
              intro ed hed
              cases hb : Region.binds .any ed with
              | false => rfl
              | true =>
                simp only [Bool.not_true, Bool.false_or]
                have hp : ed.on ∈ predsOf o := mem_preds.2 ⟨ed, hed, hb, rfl⟩
                have hplt : ed.on < ops.size := (pred_lt hg ho hp).1
                have hpc := hg.all _ hplt
                rw [e] at hpc
                rcases List.mem_append.1 hpc with q | q
                · exact hall _ q
                · rcases List.mem_cons.1 q with q | q
                  · -- itself
                    obtain ⟨l, l', e'⟩ : ∃ l l', c = l ++ j :: l' := ⟨l1, r, e⟩
                    have := hg.mask j hlt
                    exfalso
                    exact (self_pred hg ho (by rw [e]; simp) (q ▸ hp)).elim
                  · obtain ⟨op, hop, _⟩ := hg.op (hg.all _ hplt)
                    have := (hg.pair (l1 := l1) (i := j) (l2 := r) e q ho hop).pred
                    exact (this hp).elim
          rw [hnil] at hm; simp at hm
      intro i hi
      rcases List.mem_cons.1 hi with rfl | hi
      · exact hj
      · exact ih (l1 ++ [j]) (by rw [e]; simp) (fun k hk => by
          rcases List.mem_append.1 hk with q | q
          · exact hall k q
          · simp only [List.mem_singleton] at q; subst q; exact hj) i hi
  intro i hi
  exact key [] c rfl (fun _ h => by simp at h) i (hg.all i hi)
theorem filter_less {p p' : Nat → Bool} : ∀ (l : List Nat), (∀ x, p' x = true → p x = true) → (∃ x ∈ l, p x = true ∧ p' x = false) → (l.filter p').length < (l.filter p).length
 | [], _, ⟨x, hx, _⟩ => by simp at hx
 | y :: r, h, hex => by
  have hle : ∀ (r : List Nat), (r.filter p').length ≤ (r.filter p).length := by
   intro r
   induction r with
   | nil => simp
   | cons z r ih =>
    rw [List.filter_cons, List.filter_cons]
    cases h1 : p' z with
    | true => simp [h z h1, ih]
    | false => cases p z <;> simp <;> omega
  rw [List.filter_cons, List.filter_cons]
  obtain ⟨x, hx, h1, h2⟩ := hex
  rcases List.mem_cons.1 hx with rfl | hx
  ·rw [h1, h2]
   have := hle r
   simp; omega
  ·have ih := filter_less r h ⟨x, hx, h1, h2⟩
   cases h3 : p' y with
   | true => simp [h y h3, ih]
   | false => cases p y <;> simp <;> omega
def leftN (ops : Array Oper) (listed : Array Bool) : Nat := ((List.range ops.size).filter fun i => !Li listed i).length
theorem Inv.any (hg : Good P cfg ops masks c) {Q : Exit → Act → World → Prop} (hQ : ∀ s H M loc a w, K s H → Rel M loc H w → SRel M w loc s a.tmps → a.tmps.size = cfg.N → a.defers = D0 → Step M0 loc0 H0 w0 M loc H w → Q .normal a w) :
  ∀ (fuel : Nat) (listed : Array Bool) (a : Act) (w : World), leftN ops listed ≤ fuel → (∃ c1 c2 s H M loc, Inv P cfg ops masks c K M0 loc0 H0 w0 D0 listed c1 c2 s H M loc a w) → wpAnyIn (FW ro) 0 P .any ops Q fuel listed a w := by
 have hend : ∀ (listed : Array Bool) (a : Act) (w : World), (∃ c1 c2 s H M loc, Inv P cfg ops masks c K M0 loc0 H0 w0 D0 listed c1 c2 s H M loc a w) → Region.ready .any ops listed = [] → Q .normal a w := by
  rintro listed a w ⟨c1, c2, s, H, M, loc, h⟩ hnil
  obtain ⟨s', H', loc', hK, hr, hs, hst⟩ := Inv.finish hg _ _ rfl h (Inv.some_ready hg h.sz hnil)
  exact hQ s' H' M loc' a w hK hr hs h.size h.defers hst
 intro fuel
 induction fuel with
 | zero =>
  rintro listed a w hl ⟨c1, c2, s, H, M, loc, h⟩
  have hall : ∀ i, i < ops.size → Li listed i = true := by
   intro i hi
   cases hq : Li listed i with
   | true => rfl
   | false =>
    exfalso
    have hm : i ∈ (List.range ops.size).filter fun i => !Li listed i := by simp [hi, hq]
    have := List.length_pos_of_mem hm
    unfold leftN at hl
    omega
  have hnil : Region.ready .any ops listed = [] := by
   rw [List.eq_nil_iff_forall_not_mem]
   intro i hm
   rw [mem_ready] at hm
   obtain ⟨h2, o, ho, _⟩ := hm
   have hlt : i < ops.size := (Array.getElem?_eq_some_iff.1 ho).1
   have := hall i hlt
   unfold Li at this
   rw [Array.getD_eq_getD_getElem?, Array.getElem?_eq_getElem (by rw [h.sz]; exact hlt)] at this h2
   simp at this h2
   rw [this] at h2; cases h2
  exact ⟨hnil, hend listed a w ⟨c1, c2, s, H, M, loc, h⟩ hnil⟩
 | succ fuel ih =>
  rintro listed a w hl ⟨c1, c2, s, H, M, loc, h⟩
  refine ⟨hend listed a w ⟨c1, c2, s, H, M, loc, h⟩, ?_⟩
  intro i hm
  have hm' := hm
  rw [mem_ready] at hm'
  obtain ⟨h2, o', ho', hedge⟩ := hm'
  have hlt : i < ops.size := (Array.getElem?_eq_some_iff.1 ho').1
  have hsz : i < listed.size := by rw [h.sz]; exact hlt
  have hli : Li listed i = false := by
   unfold Li
   rw [Array.getD_eq_getD_getElem?, Array.getElem?_eq_getElem hsz] at h2 ⊢
   exact h2
  obtain ⟨o, ho, _⟩ := hg.op (hg.all i hlt)
  have hpre : ∀ p ∈ predsOf o, Li listed p = true := by
   intro p hp
   obtain ⟨e, he, hb, rfl⟩ := mem_preds.1 hp
   rw [ho] at ho'; cases ho'
   exact hedge e he hb
  have hready : ∀ j, befB masks j i = true → Li listed j = true := by
   intro j hb
   rcases maskOk_spec (hg.mask i hlt) ho hb with hp | ⟨p, hp, hb2⟩
   ·exact hpre j hp
   ·exact h.cl p j (hpre p hp) hb2
  refine Inv.step1 hg hlt hli hready (fun a' w' hI => ih _ a' w' ?_ hI) _ c1 c2 s H M loc rfl h
  have : leftN ops (listed.setIfInBounds i true) < leftN ops listed := by
   refine filter_less _ (fun x hx => ?_) ⟨i, by simpa using hlt, by simp [hli], by rw [Li_set hsz]; simp⟩
   rw [Li_set hsz] at hx
   split at hx
   ·simp at hx
   ·exact hx
  omega
theorem adraw_sound {id : Nat} {s : Slots} {H : List AObj} {M : Mem} {loc : Locs} {a : Act} {w : World} {Q : Exit → Act → World → Prop} (h : adraw P cfg ops s H K) (ht : Tabs P M w) (hr : Rel M loc H w) (hs : SRel M w loc s a.tmps) (hN : a.tmps.size = cfg.N)
    (hQ : ∀ a' s' H' M' loc' w', K s' H' → Rel M' loc' H' w' → SRel M' w' loc' s' a'.tmps → a'.tmps.size = cfg.N → a'.defers = a.defers → Step M loc H w M' loc' H' w' → Q .normal a' w') : (Code.region id ops true).wpIn (FW ro) 0 P Q a w := by
  unfold adraw at h
  generalize canon cfg ops = c at h
  generalize masksOf ops = m at h
  obtain ⟨hok, hk⟩ := chk_elim h
  unfold drawOk at hok
  simp only [Bool.and_eq_true] at hok
  obtain ⟨⟨⟨⟨h1, h2⟩, h3⟩, h4⟩, h5⟩ := hok
  have hg : Good P cfg ops m c := by
    refine ⟨h4, fun i hi => ?_, fun i hi => ?_⟩
    · have := List.all_eq_true.1 h2 i (by simpa using hi)
      simpa using this
    · exact List.all_eq_true.1 h3 i (by simpa using hi)
  refine wpIn_region_any h5 ?_
  have hsame : SameMem w { w with drawn := w.drawn + 1 } := ⟨rfl, rfl, rfl, rfl⟩
  obtain ⟨r1, r2⟩ := hr.same hsame
  have hli : ∀ i, Li (Array.replicate ops.size false) i = false := by
    intro i; unfold Li; simp only [Array.getD_eq_getD_getElem?, Array.getElem?_replicate]; split <;> rfl
  refine Inv.any (K := K) (cfg := cfg) (M0 := M) (loc0 := loc) (H0 := H) (w0 := w) (D0 := a.defers) hg (fun s' H' M' loc' a' w' k1 k2 k3 k4 k5 k6 => hQ a' s' H' M' loc' w' k1 k2 k3 k4 k5 k6) ops.size _ a _ ?_ ?_
  · unfold leftN
    have := List.length_filter_le (fun i => !Li (Array.replicate ops.size false) i) (List.range ops.size)
    simpa using this
  · refine ⟨[], c, s, H, M, loc, ?_⟩
    exact { split := rfl, sz := by simp, unl := (fun i _ hi => by rw [hli] at hi; cases hi), lx := fun i hi => absurd hi (by simp), cl := (fun i j hi => by rw [hli] at hi; cases hi), log := ⟨[], fun i hi => absurd hi (by simp), hk⟩,
            rel := r1, step := r2, slots := fun d => .inr (.inr ((hs d).keeps (hsame.keeps M loc))), early := ⟨fun _ => 0, (fun i _ hi => by rw [hli] at hi; cases hi), (fun i _ j _ hi => by rw [hli] at hi; cases hi)⟩, pend := fun i hi => absurd hi (by simp), bnd := fun i hi => absurd hi (by simp), size := hN, defers := rfl, start := ⟨hr, ht⟩ }
end
end Go.Ab
end

noncomputable section
namespace Go.Ab
abbrev AQ := Exit → Slots → List AObj → Prop
def okExit : Exit → Prop
 | .panic _ | .outgrown => False
 | _ => True
def marksOf (l : List Nat) : List Deferred := l.map fun D => { target := .collected D, args := #[] }
def okD (dm : Nat) (loc : Locs) (H : List AObj) (w : World) (ds : List Deferred) : Prop :=
 dm ≤ w.heap.size ∧ ∃ l : List Nat, l.Nodup ∧ ds = marksOf l ∧ ∀ D ∈ l, dm ≤ D ∧ w.heap[D]? = some (.deferred (some [])) ∧ ¬ Owned loc H D
theorem okD.step {dm n : Nat} {M M' : Mem} {loc loc' : Locs} {H H' : List AObj} {w w' : World} {ds : List Deferred} (h : okD dm loc H w ds) (hs : StepN n M loc H w M' loc' H' w') : okD dm loc' H' w' ds := by
 obtain ⟨h0, l, h1, h2, h3⟩ := h
 refine ⟨Nat.le_trans h0 hs.size, l, h1, h2, fun D hD => ?_⟩
 obtain ⟨k1, k2, k3⟩ := h3 D hD
 have hlt := cells_lt k2
 exact ⟨k1, by rw [(hs.keep D hlt k3).1]; exact k2, fun ho => k3 (hs.own D hlt ho)⟩
theorem okD.nil {loc : Locs} {H : List AObj} {w : World} : okD w.heap.size loc H w [] := ⟨Nat.le_refl _, [], List.nodup_nil, rfl, fun D h => by simp at h⟩
def QP (N n dm : Nat) (M : Mem) (loc : Locs) (H : List AObj) (w : World) (Q : AQ) : Exit → Act → World → Prop := fun e a' w' =>
 ∃ v av H' M' loc', e = .panic [{ v, recovered := false }] ∧ Q (.panic []) [(0, av)] H' ∧ Rel M' loc' H' w' ∧ VRel M' w' loc' av v ∧ okD dm loc' H' w' a'.defers ∧ StepN n M loc H w M' loc' H' w'
def QN (N n dm : Nat) (M : Mem) (loc : Locs) (H : List AObj) (w : World) (Q : AQ) : Exit → Act → World → Prop := fun e a' w' =>
 ∃ s' H' M' loc', okExit e ∧ Q e s' H' ∧ Rel M' loc' H' w' ∧ SRel M' w' loc' s' a'.tmps ∧ a'.tmps.size = N ∧ okD dm loc' H' w' a'.defers ∧ StepN n M loc H w M' loc' H' w'
def QC (N n dm : Nat) (M : Mem) (loc : Locs) (H : List AObj) (w : World) (Q : AQ) : Exit → Act → World → Prop := fun e a' w' =>
 QN N n dm M loc H w Q e a' w' ∨ QP N n dm M loc H w Q e a' w'
def AWPr (ro : Option Nat) (P : Program) (N n : Nat) (c : Code) (s : Slots) (H : List AObj) (Q : AQ) : Prop :=
 ∀ M loc w a, n ≤ H.length → Rel M loc H w → SRel M w loc s a.tmps → a.tmps.size = N → ∀ dm, okD dm loc H w a.defers → Tabs P M w → c.wpIn (FW ro) 0 P (QC N n dm M loc H w Q) a w
abbrev AWP (P : Program) (N n : Nat) (c : Code) (s : Slots) (H : List AObj) (Q : AQ) : Prop := AWPr none P N n c s H Q
def AWPR (P : Program) (N n : Nat) (c : Code) (s : Slots) (H : List AObj) (Q : AQ) : Prop := ∀ ro, AWPr ro P N n c s H Q
theorem QC.mono {N n dm M loc H w Q Q'} (h : ∀ e s H, Q e s H → Q' e s H) {e a w'} (hq : QC N n dm M loc H w Q e a w') : QC N n dm M loc H w Q' e a w' := by
 rcases hq with ⟨s', H', M', loc', h1, h2, rest⟩ | ⟨v, av, H', M', loc', h1, h2, rest⟩
 ·exact .inl ⟨s', H', M', loc', h1, h _ _ _ h2, rest⟩
 ·exact .inr ⟨v, av, H', M', loc', h1, h _ _ _ h2, rest⟩
theorem AWP.mono {ro P N n c s H Q Q'} (h : AWPr ro P N n c s H Q) (hq : ∀ e s H, Q e s H → Q' e s H) : AWPr ro P N n c s H Q' :=
 fun M loc w a h0 h1 h2 h3 dm h4 ht => wpIn_mono (h M loc w a h0 h1 h2 h3 dm h4 ht) fun e a w => QC.mono hq
theorem AWP.sub {ro P N n c s s' H Q} (h : AWPr ro P N n c s' H Q) (hs : ∀ d, get s' d = get s d ∨ get s' d = .bad) : AWPr ro P N n c s H Q :=
 fun M loc w a h0 h1 h2 h3 dm h4 ht => h M loc w a h0 h1 (h2.sub hs) h3 dm h4 ht
theorem QC.step {N n m dm M loc H w M1 loc1 H1 w1 Q} (hst : StepN n M loc H w M1 loc1 H1 w1) (hnm : n ≤ m) {e a w'} (hq : QC N m dm M1 loc1 H1 w1 Q e a w') : QC N n dm M loc H w Q e a w' := by
 rcases hq with ⟨s', H', M', loc', h1, h2, h3, h4, h5, h6, h7⟩ | ⟨v, av, H', M', loc', h1, h2, h3, h4, h5, h6⟩
 ·exact .inl ⟨s', H', M', loc', h1, h2, h3, h4, h5, h6, hst.trans h7 hnm⟩
 ·exact .inr ⟨v, av, H', M', loc', h1, h2, h3, h4, h5, hst.trans h6 hnm⟩
theorem exitTo_len {id : Nat} : ∀ {k k' : List Item}, exitTo id k = some k' → k'.length ≤ k.length
  | [], _, h => by simp [exitTo] at h
  | x :: k, k', h => by
    cases x <;> simp only [exitTo] at h <;> first
      | (have := exitTo_len h; simp; omega)
      | (split at h
         · cases h; simp
         · have := exitTo_len h; simp; omega)
theorem findLabel_shape : ∀ {c : Code} {l : Nat} {r : Code}, findLabel c l = some r → r = .skip ∨ ∃ a b, r = .seq a b := by
 intro c l r h
 cases c with
 | seq a b =>
  simp only [findLabel] at h
  split at h
  ·cases h; exact .inr ⟨_, _, rfl⟩
  ·rename_i hn
   exact findLabel_shape h
 | label l' =>
  simp only [findLabel] at h
  split at h
  ·cases h; exact .inl rfl
  ·cases h
 | _ => simp [findLabel] at h
theorem gotoIn_shape {l : Nat} {x : Item} {k0 : List Item} : ∀ {k k' : List Item}, gotoIn l k = some k' → k.length ≤ k0.length → (∀ r, x = .code r → r ≠ .skip ∧ ∀ a b, r ≠ .seq a b) → k' ≠ x :: k0
  | [], _, h, _, _ => by simp [gotoIn] at h
  | y :: k, k', h, hl, hx => by
    have rec_ : gotoIn l k = some k' → k' ≠ x :: k0 := fun h => gotoIn_shape h (by simp at hl; omega) hx
    cases y <;> simp only [gotoIn] at h <;> first
      | exact rec_ h
      | (split at h
         · rename_i rest hr
           cases h
           intro e
           injection e with e1 e2
           rcases findLabel_shape hr with rfl | ⟨a, b, rfl⟩
           · exact (hx _ e1.symm).1 rfl
           · exact (hx _ e1.symm).2 a b rfl
         · exact rec_ h)
theorem steps_same {P : Program} {m1 m2 t : Machine} (hst : step P m1 = step P m2) (hne : t ≠ m1) (h : Steps P m1 t) : Steps P m2 t := by
 obtain ⟨n, hn⟩ := h
 cases n with
 | zero => simp [runN] at hn; exact (hne hn.symm).elim
 | succ n => exact ⟨n + 1, by simp only [runN] at hn ⊢; rw [← hst]; exact hn⟩
theorem lone_todo {fr fr' : Frame} {cs cs' : List Frame} {w w' : World} (h : lone fr cs w = lone fr' cs' w') : fr = fr' := by
 simp only [lone, Machine.mk.injEq] at h
 have := h.2.1
 simp at this
 exact this.1
theorem stepsW {ro : Option Nat} {P : Program} {m m' : Machine} : StepsIn (Machine.fenced P (FW ro)) P m m' ↔ Steps P m m' := stepsIn_wide
theorem atR_todo {b : Frame} {a a' : Act} {k k' : List Item} (h : b.atR a k = b.atR a' k') : k = k' := by
 have := congrArg Frame.todo h
 simpa [Frame.atR] using this
theorem wpIn_loop_unfold {ro : Option Nat} {P : Program} {c : Code} {Q : Exit → Act → World → Prop} {a : Act} {w : World} (hno : ∀ a w, ¬ Q .outgrown a w) (h : c.wpIn (FW ro) 0 P (Exit.then ((Code.loop c).wpIn (FW ro) 0 P Q) Q) a w) : (Code.loop c).wpIn (FW ro) 0 P Q a w := by
 intro b k cs hro hb hr
 have h0 : (lone (b.atR a (.code (.loop c) :: k)) cs w).fenced P (FW ro) := fenced_calm hb hr rfl
 obtain ⟨e, a₁, w₁, hq, harr⟩ := h b (.inLoop c :: k) cs hro hb hr
 cases e with
 | normal =>
  obtain ⟨e₂, a₂, w₂, hq₂, harr₂⟩ := hq b k cs hro hb hr
  refine ⟨e₂, a₂, w₂, hq₂, ?_⟩
  have hstep : step P (lone (b.atR a₁ (.code (.loop c) :: k)) cs w₁) = step P (lone (b.atR a₁ (.inLoop c :: k)) cs w₁) := by
   rw [stepR_loop, stepR_inLoop]
  refine ArrivesIn.of_steps (.head h0 stepR_loop harr) ?_
  have same : ∀ {m : Machine}, m ≠ lone (b.atR a₁ (.code (.loop c) :: k)) cs w₁ → StepsIn (Machine.fenced P (FW ro)) P (lone (b.atR a₁ (.code (.loop c) :: k)) cs w₁) m →
    StepsIn (Machine.fenced P (FW ro)) P (lone (b.atR a₁ (.inLoop c :: k)) cs w₁) m := fun hne hA => stepsW.2 (steps_same hstep hne (stepsW.1 hA))
  cases e₂ with
  | normal => exact same (fun h => by
     have := congrArg List.length (atR_todo (lone_todo h))
     simp at this) harr₂
  | exit id =>
   refine ⟨fun k' hk => same (fun h => ?_) (harr₂.1 k' hk), fun hr' hk => ?_⟩
   ·have h1 := congrArg List.length (atR_todo (lone_todo h))
    have h2 := exitTo_len hk
    simp at h1; omega
   ·obtain ⟨k₁, g1, g2⟩ := harr₂.2 hr' hk
    exact ⟨k₁, g1, same (fun h => by have := atR_todo (lone_todo h); simp at this) g2⟩
  | goto l =>
   refine ⟨fun k' hk => same (fun h => ?_) (harr₂.1 k' hk), fun hr' hk => ?_⟩
   ·have h1 := atR_todo (lone_todo h)
    exact gotoIn_shape (k0 := k) hk (Nat.le_refl _) (fun r hr => by cases hr; exact ⟨by simp, by simp⟩) h1
   ·obtain ⟨k₁, g1, g2⟩ := harr₂.2 hr' hk
    exact ⟨k₁, g1, same (fun h => by have := atR_todo (lone_todo h); simp at this) g2⟩
  | ret =>
   refine ⟨fun hn => ?_, fun hn => ?_⟩
   ·obtain ⟨todo, hs⟩ := harr₂.1 hn
    refine ⟨todo, same (fun h => ?_) hs⟩
    have := congrArg Frame.mode (lone_todo h)
    simp only [Frame.atR] at this
    cases this
   ·obtain ⟨k₁, hs⟩ := harr₂.2 hn
    exact ⟨k₁, same (fun h => by have := atR_todo (lone_todo h); simp at this) hs⟩
  | panic ch =>
   obtain ⟨todo, hs⟩ := harr₂
   refine ⟨todo, same (fun h => ?_) hs⟩
   have := congrArg Frame.mode (lone_todo h)
   simp only [Frame.atR] at this
   cases this
  | outgrown => exact (hno _ _ hq₂).elim
 | exit id => exact ⟨_, a₁, w₁, hq, .of_steps (.one h0 stepR_loop) (.pass (x := .inLoop c) rfl (fun _ _ => .inl (by simp)) harr)⟩
 | goto l => exact ⟨_, a₁, w₁, hq, .of_steps (.one h0 stepR_loop) (.pass (x := .inLoop c) rfl (fun _ _ => .inl (by simp)) harr)⟩
 | ret => exact ⟨_, a₁, w₁, hq, .of_steps (.one h0 stepR_loop) (.pass (x := .inLoop c) rfl (fun _ _ => .inl (by simp)) harr)⟩
 | panic ch => exact ⟨_, a₁, w₁, hq, .of_steps (.one h0 stepR_loop) (.pass (x := .inLoop c) rfl (fun _ _ => .inl (by simp)) harr)⟩
 | outgrown => exact ⟨_, a₁, w₁, hq, .of_steps (.one h0 stepR_loop) (.pass (x := .inLoop c) rfl (fun _ _ => .inl (by simp)) harr)⟩
theorem AWP.loop {ro : Option Nat} {P : Program} {N n : Nat} {c : Code} {s : Slots} {H : List AObj} {Q : AQ}
  (h : AWPr ro P N n c s H (fun e s' H' => match e with | .normal => AWPr ro P N n (.loop c) s' H' Q | e => Q e s' H')) : AWPr ro P N n (.loop c) s H Q := by
 intro M loc w a h0 h1 h2 h3 dm h4 ht
 refine wpIn_loop_unfold (fun a w hq => by
  rcases hq with ⟨_, _, _, _, hk, _⟩ | ⟨_, _, _, _, _, hk, _⟩
  ·exact hk
  ·cases hk) ?_
 refine wpIn_mono (h M loc w a h0 h1 h2 h3 dm h4 ht) fun e a' w' hq => ?_
 rcases hq with ⟨s', H', M', loc', hk, hQ, r1, r2, r3, r4, r5⟩ | ⟨v, av, H', M', loc', rfl, rest⟩
 rotate_left
 ·exact .inr ⟨v, av, H', M', loc', rfl, rest⟩
 cases e with
 | normal => exact wpIn_mono (hQ M' loc' w' a' r5.len r1 r2 r3 dm r4 (ht.step h1 r5)) fun e a w => QC.step r5 (Nat.le_refl _)
 | exit id => exact .inl ⟨s', H', M', loc', hk, hQ, r1, r2, r3, r4, r5⟩
 | goto l => exact .inl ⟨s', H', M', loc', hk, hQ, r1, r2, r3, r4, r5⟩
 | ret => exact .inl ⟨s', H', M', loc', hk, hQ, r1, r2, r3, r4, r5⟩
 | panic c => exact hk.elim
 | outgrown => exact hk.elim
theorem step_inScope {P : Program} {b : Frame} {a : Act} {k : List Item} {cs : List Frame} {w : World} {B : Code} : step P (lone (b.atR a (.inScope B :: k)) cs w) = .next (lone (b.atR a k) cs w) :=
 step_lone_go (by simp [stepG, stepG.exec, Frame.atR])
theorem step_scope {P : Program} {b : Frame} {a : Act} {k : List Item} {cs : List Frame} {w : World} {B : Code} : step P (lone (b.atR a (.code (.scope B) :: k)) cs w) = .next (lone (b.atR a (.code B :: .inScope B :: k)) cs w) :=
 step_lone_go (by simp [stepG, stepG.exec, Frame.atR])
def scopedWp (ro : Option Nat) (P : Program) (B c : Code) (Q : Exit → Act → World → Prop) (a : Act) (w : World) : Prop :=
 ∀ (b : Frame) (k : List Item) (cs : List Frame), b.roundOf = ro → ∃ e a' w', Q e a' w' ∧ ArrivesIn (Machine.fenced P (FW ro)) P (lone (b.atR a (.code c :: .inScope B :: k)) cs w) b k cs e a' w'
theorem scopedWp.mono {ro : Option Nat} {P : Program} {B c : Code} {Q Q' : Exit → Act → World → Prop} {a : Act} {w : World} (h : scopedWp ro P B c Q a w) (hq : ∀ e a w, Q e a w → Q' e a w) : scopedWp ro P B c Q' a w :=
 fun b k cs hro => let ⟨e, a', w', q, r⟩ := h b k cs hro; ⟨e, a', w', hq _ _ _ q, r⟩
theorem scoped_of_wp {ro : Option Nat} {P : Program} {B c : Code} {Q : Exit → Act → World → Prop} {a : Act} {w : World}
  (h : c.wpIn (FW ro) 0 P (fun e a' w' => match e with
   | .goto l => (match findLabel B l with | some r => scopedWp ro P B r Q a' w' | none => Q (.goto l) a' w')
   | e => Q e a' w') a w) : scopedWp ro P B c Q a w := by
 intro b k cs hro
 obtain ⟨e, a₁, w₁, hq, harr⟩ := h b (.inScope B :: k) cs hro trivial (roomW _)
 cases e with
 | normal => exact ⟨.normal, a₁, w₁, hq, StepsIn.trans harr (stepsW.2 (.one step_inScope))⟩
 | exit id =>
  have hx : exitTo id (.inScope B :: k) = exitTo id k := by simp [exitTo]
  exact ⟨.exit id, a₁, w₁, hq, fun k' hk => harr.1 k' (by rw [hx]; exact hk), fun hr hk => harr.2 hr (by rw [hx]; exact hk)⟩
 | goto l =>
  simp only at hq
  split at hq
  ·rename_i r hr
   obtain ⟨e₂, a₂, w₂, hq₂, harr₂⟩ := hq b k cs hro
   exact ⟨e₂, a₂, w₂, hq₂, .of_steps (harr.1 _ (by simp [gotoIn, hr])) harr₂⟩
  ·rename_i hr
   have hx : gotoIn l (.inScope B :: k) = gotoIn l k := by simp [gotoIn, hr]
   exact ⟨.goto l, a₁, w₁, hq, fun k' hk => harr.1 k' (by rw [hx]; exact hk), fun hr' hk => harr.2 hr' (by rw [hx]; exact hk)⟩
 | ret => exact ⟨.ret, a₁, w₁, hq, harr⟩
 | panic ch => exact ⟨.panic ch, a₁, w₁, hq, harr⟩
 | outgrown => exact ⟨.outgrown, a₁, w₁, hq, harr⟩
theorem wpIn_scope {ro : Option Nat} {P : Program} {B : Code} {Q : Exit → Act → World → Prop} {a : Act} {w : World} (h : scopedWp ro P B B Q a w) : (Code.scope B).wpIn (FW ro) 0 P Q a w := by
 intro b k cs hro hb hr
 obtain ⟨e, a₁, w₁, hq, harr⟩ := h b k cs hro
 exact ⟨e, a₁, w₁, hq, .of_steps (stepsW.2 (.one step_scope)) harr⟩
def AWPSr (ro : Option Nat) (P : Program) (N n : Nat) (B c : Code) (s : Slots) (H : List AObj) (Q : AQ) : Prop :=
 ∀ M loc w a, n ≤ H.length → Rel M loc H w → SRel M w loc s a.tmps → a.tmps.size = N → ∀ dm, okD dm loc H w a.defers → Tabs P M w → scopedWp ro P B c (QC N n dm M loc H w Q) a w
abbrev AWPS (P : Program) (N n : Nat) (B c : Code) (s : Slots) (H : List AObj) (Q : AQ) : Prop := AWPSr none P N n B c s H Q
def AWPSR (P : Program) (N n : Nat) (B c : Code) (s : Slots) (H : List AObj) (Q : AQ) : Prop := ∀ ro, AWPSr ro P N n B c s H Q
theorem AWPS.sub {ro P N n B c s s' H Q} (h : AWPSr ro P N n B c s' H Q) (hs : ∀ d, get s' d = get s d ∨ get s' d = .bad) : AWPSr ro P N n B c s H Q :=
 fun M loc w a h0 h1 h2 h3 dm h4 ht => h M loc w a h0 h1 (h2.sub hs) h3 dm h4 ht
def firstId : Code → Nat
 | .region id _ _ => id
 | .seq a _ => firstId a
 | .cond _ a _ => firstId a
 | .block _ b => firstId b
 | .loop b => firstId b
 | .scope b => firstId b
 | _ => 0
def restrict (s : Slots) : List Nat → Slots
 | [] => []
 | i :: r => (i, get s i) :: restrict s r
theorem get_restrict (s : Slots) (d : Nat) : ∀ l : List Nat, get (restrict s l) d = get s d ∨ get (restrict s l) d = .bad
 | [] => .inr rfl
 | i :: r => by
  simp only [restrict, get]
  cases h : Nat.beq i d with
  | true => left; have := Nat.eq_of_beq_eq_true h; subst this; rfl
  | false => exact get_restrict s d r
def seqQ (next : Slots → List AObj → Prop) (Q : AQ) : AQ := fun e s H => match e with
 | .normal => next s H
 | e => Q e s H
def blockQ (id : Nat) (Q : AQ) : AQ := fun e s H => match e with
 | .exit id' => bif Nat.beq id' id then Q .normal s H else Q (.exit id') s H
 | e => Q e s H
def AWPc (cfg : Cfg) (P : Program) (n : Nat) (c : Code) (s : Slots) (H : List AObj) (Q : AQ) : Prop := match cfg.rnd with
 | false => AWP P cfg.N n c s H Q
 | true => AWPR P cfg.N n c s H Q
def AWPSc (cfg : Cfg) (P : Program) (n : Nat) (B c : Code) (s : Slots) (H : List AObj) (Q : AQ) : Prop := match cfg.rnd with
 | false => AWPS P cfg.N n B c s H Q
 | true => AWPSR P cfg.N n B c s H Q
def okRo (cfg : Cfg) (ro : Option Nat) : Prop := cfg.rnd = false → ro = none
theorem AWPc.r {cfg : Cfg} {P : Program} {n : Nat} {c : Code} {s : Slots} {H : List AObj} {Q : AQ} {ro : Option Nat} (hro : okRo cfg ro) (h : AWPc cfg P n c s H Q) : AWPr ro P cfg.N n c s H Q := by
 unfold AWPc at h
 split at h
 ·rename_i hc; rw [hro hc]; exact h
 ·exact h ro
theorem AWPSc.r {cfg : Cfg} {P : Program} {n : Nat} {B c : Code} {s : Slots} {H : List AObj} {Q : AQ} {ro : Option Nat} (hro : okRo cfg ro) (h : AWPSc cfg P n B c s H Q) : AWPSr ro P cfg.N n B c s H Q := by
 unfold AWPSc at h
 split at h
 ·rename_i hc; rw [hro hc]; exact h
 ·exact h ro
def unskip : Code → Code
 | .seq .skip b => b
 | c => c
def scopeQ (P : Program) (cfg : Cfg) (n : Nat) (B : Code) (Q : AQ) : AQ := fun e s H => match e with
 | .goto l => match findLabel B l with
  | some r => AWPSc cfg P n B r (restrict s (cfg.live (firstId (unskip r)))) H Q
  | none => Q (.goto l) s H
 | e => Q e s H
theorem AWPSr.of {ro : Option Nat} {P : Program} {n : Nat} {B c : Code} {s : Slots} {H : List AObj} {Q : AQ} (cfg : Cfg) (hro : okRo cfg ro) (h : AWPr ro P cfg.N n c s H (scopeQ P cfg n B Q)) : AWPSr ro P cfg.N n B c s H Q := by
 intro M loc w a h0 h1 h2 h3 dm h4 ht
 refine scoped_of_wp (wpIn_mono (h M loc w a h0 h1 h2 h3 dm h4 ht) fun e a' w' hq => ?_)
 rcases hq with ⟨s', H', M', loc', hk, hQ, r1, r2, r3, r4, r5⟩ | ⟨v, av, H', M', loc', rfl, rest⟩
 rotate_left
 ·exact .inr ⟨v, av, H', M', loc', rfl, rest⟩
 cases e with
 | goto l =>
  simp only [scopeQ] at hQ
  simp only
  cases hf : findLabel B l with
  | some r =>
   rw [hf] at hQ
   have hy : AWPSr ro P cfg.N n B r s' H' Q := AWPS.sub (hQ.r hro) (fun d => get_restrict s' d _)
   exact (hy M' loc' w' a' r5.len r1 r2 r3 dm r4 (ht.step h1 r5)).mono fun e a w => QC.step r5 (Nat.le_refl _)
  | none =>
   rw [hf] at hQ
   exact .inl ⟨s', H', M', loc', hk, hQ, r1, r2, r3, r4, r5⟩
 | normal => exact .inl ⟨s', H', M', loc', hk, hQ, r1, r2, r3, r4, r5⟩
 | exit id => exact .inl ⟨s', H', M', loc', hk, hQ, r1, r2, r3, r4, r5⟩
 | ret => exact .inl ⟨s', H', M', loc', hk, hQ, r1, r2, r3, r4, r5⟩
 | panic c => exact hk.elim
 | outgrown => exact hk.elim
theorem AWPS.of {P : Program} {n : Nat} {B c : Code} {s : Slots} {H : List AObj} {Q : AQ} (cfg : Cfg) (h : AWP P cfg.N n c s H (scopeQ P cfg n B Q)) : AWPS P cfg.N n B c s H Q :=
 AWPSr.of cfg (fun _ => rfl) h
def rangeEnd (Q : AQ) (s : Slots) (id : Nat) (H : List AObj) : Prop :=
 ∃ N s0 ps as bd st, H[id]? = some (.lp N s0 ps as bd st) ∧ match st with
  | .ready => Q .normal s (H.set id .gone)
  | .done (.exit i) => Q (.exit i) s (H.set id .gone)
  | .done .ret => Q .ret s (H.set id .gone)
  | _ => False
def arange2 (P : Program) (cfg : Cfg) (n : Nat) (g : Operand) (ps : Array Tmp) (asg body : Code) (s : Slots) (H : List AObj) (Q : AQ) : Prop :=
 match cfg.rnd, ev s g with
 | false, .fn f caps => chk (plainFn P f) (ASpec P f (.yld H.length :: caps) (H ++ [.lp cfg.N (restrict s (cfg.live (firstId body))) ps.toList asg body .ready])
   (fun _ H' => rangeEnd Q s H.length H'))
 | _, _ => False
def apx (P : Program) (cfg : Cfg) (ops : Array Oper) (s : Slots) (H : List AObj) (Q : AQ) : Prop :=
 aops P cfg ops (List.range (ops.size - 1)) s H fun s' H' => match ops[ops.size - 1]? with
  | some o => alast P cfg s' o H' (Q .normal) fun av H2 => Q (.panic []) [(0, av)] H2
  | none => False
def awp (P : Program) (cfg : Cfg) (n : Nat) : Code → Slots → List AObj → AQ → Prop
 | .skip, s, H, Q => Q .normal s H
 | .region id ops draw, s, H, Q => match draw with
  | false => match cfg.px id with
   | false => aops P cfg ops (List.range ops.size) s H (Q .normal)
   | true => apx P cfg ops s H Q
  | true => adraw P cfg ops s H (Q .normal)
 | .seq a b, s, H, Q => awp P cfg n a s H (seqQ (fun s' H' => match cfg.cut (firstId b) with
   | true => AWPc cfg P n b (restrict s' (cfg.live (firstId b))) H' Q
   | false => awp P cfg n b s' H' Q) Q)
 | .cond c a b, s, H, Q => match ev s c with
  | .bool t => condP t (awp P cfg n a s H Q) (awp P cfg n b s H Q)
  | _ => False
 | .block id b, s, H, Q => awp P cfg n b s H (blockQ id Q)
 | .loop b, s, H, Q => AWPc cfg P n (.loop b) (restrict s (cfg.live (firstId b))) H Q
 | .exit id, s, H, Q => Q (.exit id) s H
 | .label _, s, H, Q => Q .normal s H
 | .ret, s, H, Q => Q .ret s H
 | .scope b, s, H, Q => awp P cfg n b s H (scopeQ P cfg n b Q)
 | .goto l, s, H, Q => Q (.goto l) s H
 | .rangeFunc g ps asg body, s, H, Q => arange2 P cfg n g ps asg body s H Q
 | _, _, _, _ => False
section
variable {P : Program} {M : Mem} {loc : Locs} {H : List AObj} {w : World}
theorem arange2_sound (cfg : Cfg) (n : Nat) {g : Operand} {ps : Array Tmp} {asg body : Code} {s : Slots} {H : List AObj} {Q : AQ} {ro : Option Nat} (hro : okRo cfg ro) (h : arange2 P cfg n g ps asg body s H Q) : AWPr ro P cfg.N n (.rangeFunc g ps asg body) s H Q := by
 intro M loc w a h0 h1 h2 h3 dm h4 ht
 unfold arange2 at h
 split at h
 case h_2 => exact h.elim
 case h_1 f caps hrnd hev =>
 obtain ⟨hp, h⟩ := chk_elim h
 cases hro hrnd
 have hf := vrel_ev h2 g
 rw [hev] at hf
 generalize hq : a.eval g = q at hf
 cases hf with
 | fn _ _ vs hvs hvr =>
 refine wpIn_rangeFunc ?_
 intro fn _
 obtain ⟨hd0, lD, hnd, hds, hlD⟩ := h4
 have hg1 : Grown w (w.alloc (.deferred (some []))) := ⟨by simp, fun b hb => heap_alloc_lt hb, rfl, rfl, rfl⟩
 obtain ⟨r1, r2⟩ := h1.grown hg1
 have k1 := r2.keeps h1
 have hsz1 : (w.alloc (.deferred (some []))).heap.size = w.heap.size + 1 := by simp
 let rec0 : Loop := { state := .ready, pending := none, fn, tmps := a.tmps, params := ps, assign := asg, body, defers := w.heap.size }
 have kn := keeps_alloc r1 (.loop rec0) 0 (some (.blk (w.heap.size + 1)))
 rw [← hsz1] at kn
 obtain ⟨r3, r4⟩ := r1.new (.loop rec0) 0 (fun h => absurd h (Nat.lt_irrefl 0)) (.blk (w.alloc (.deferred (some []))).heap.size)
  (.lp cfg.N (restrict s (cfg.live (firstId body))) ps.toList asg body .ready) (.inr rfl)
  ⟨_, rec0, rfl, r1.base, by simp [Mem.grow], heap_alloc_new _ _, rfl, rfl, rfl, h3, fun d => ((((h2.sub (fun d => get_restrict s d (cfg.live (firstId body)))).keeps k1).keeps kn) d), rfl, rfl⟩
 obtain ⟨W1, hW1⟩ : ∃ W1, W1 = (w.alloc (.deferred (some []))).alloc (.loop rec0) := ⟨_, rfl⟩
 have hD1 : W1.heap[w.heap.size]? = some (.deferred (some [])) := by
  rw [hW1, heap_alloc_lt (by rw [hsz1]; omega)]; exact heap_alloc_new _ _
 rw [← hW1] at r3 r4
 have r5 := Step.trans r2 r4
 have hall : VRels (M.grow (w.alloc (.deferred (some []))).heap.size 0) W1 (locSet loc H.length (.blk (w.alloc (.deferred (some []))).heap.size)) (.yld H.length :: caps) (#[.func (.yield (w.heap.size + 1)) #[] #[]] ++ vs) := by
  refine VRels.append (xs := [.yld H.length]) (vs := #[.func (.yield (w.heap.size + 1)) #[] #[]]) ⟨rfl, fun i hi => ?_⟩ ⟨hvs, fun i hi => (hvr i hi).keeps (r5.keeps h1)⟩
  have : i = 0 := by simpa using hi
  subst this
  exact .yld _ _ (by simp [locSet, hsz1])
 have hcalls := h _ _ _ _ (ht.step h1 r5) r3 hall
 unfold plainFn at hp
 split at hp
 case h_2 => cases hp
 case h_1 fnf hfn =>
 rw [Bool.and_eq_true] at hp
 have hname : (fnf.name == "runtime.NumGoroutine") = false := by simpa using hp.2
 have hbody : fnf.body.isNone = false := by
  cases hb : fnf.body with
  | none => rw [hb] at hp; simp at hp
  | some c => rfl
 refine ⟨w.heap.size + 1, [{ target := .collected w.heap.size, args := #[] }], W1, { target := .fn (.func f) vs, args := #[.func (.yield (w.heap.size + 1)) #[] #[]] }, W1, f,
  #[.func (.yield (w.heap.size + 1)) #[] #[]] ++ vs, W1, ?_, ?_, fun _ _ => trivial, ?_, fun h => by simp [FW] at h, ?_⟩
 ·rw [hW1]; exact run_enterLoop_outer _ _ _ _ _
 ·simp only [resolve, hq]
  simp [Act.eval, Deferred.ofValue]
 ·simp only [invoke, callFunc, Sem.run_bind, run_program, Result.andThen_ok, hfn, hname, hbody, Bool.false_eq_true, if_false, Sem.run_pure]
 ·refine (callsW hcalls).mono fun e W2 hh => ?_
  obtain ⟨v, r, H2, M2, loc2, rfl, hE, q1, q2, q3⟩ := hh
  obtain ⟨N0, s0, ps0, as0, bd0, st, hid, hE⟩ := hE
  have hlid : loc2 H.length = some (.blk (w.heap.size + 1)) := by
   rw [q3.locs H.length (by simp)]
   simp [locSet, hsz1]
  have hol := q1.objs _ _ hid
  rw [hlid] at hol
  obtain ⟨b, rec, e1, g1, g2, g3, g4, g5, g6, g7, g8, g9⟩ := hol
  cases e1
  have hnb2 : rec.state ≠ .busy := by
   intro hb
   cases st with
   | ready => rw [g9.1] at hb; cases hb
   | busy => exact hE.elim
   | done c => rw [g9.1] at hb; cases hb
  obtain ⟨q4, q5⟩ := q1.write H.length (w.heap.size + 1) _ .gone (.loop { rec with state := .exhausted }) hid (by intro h; cases h) hlid (fun cs T fr hc => by rw [g3] at hc; cases hc) trivial
  have r6 := StepN.trans r5 (Step.trans q3 q5) (by simp)
  have hDne : w.heap.size ≠ w.heap.size + 1 := by omega
  have hnoW1 : ¬ Owned (locSet loc H.length (.blk (w.alloc (.deferred (some []))).heap.size)) (H ++ [.lp cfg.N (restrict s (cfg.live (firstId body))) ps.toList asg body .ready]) w.heap.size := by
   rintro ⟨i, o, l, hi, hgn, hl, hb⟩
   by_cases hiH : i < H.length
   ·rw [List.getElem?_append_left hiH] at hi
    simp only [locSet] at hl
    rw [if_neg (Nat.ne_of_lt hiH)] at hl
    have := ((h1.objs i o hi).block_lt hgn (by rw [hl]; exact hb)).1
    omega
   ·have hiL : i = H.length := by
     have := (List.getElem?_eq_some_iff.1 hi).1
     simp at this; omega
    subst hiL
    simp only [locSet, if_true, Option.some.injEq] at hl
    subst hl
    simp only [Loc.block?, Option.some.injEq] at hb
    omega
  have hltW1 : w.heap.size < W1.heap.size := cells_lt hD1
  have hD2 := q3.keep w.heap.size hltW1 hnoW1
  have hD3 : (setBlk W2 (w.heap.size + 1) (.loop { rec with state := .exhausted })).heap[w.heap.size]? = some (.deferred (some [])) := by
   rw [setBlk_other hDne, hD2.1]; exact hD1
  have hnoW3 : ¬ Owned loc2 (H2.set H.length .gone) w.heap.size := by
   intro ho
   have ho2 := q5.own w.heap.size (Nat.lt_of_lt_of_le hltW1 q3.size) ho
   exact hnoW1 (q3.own w.heap.size hltW1 ho2)
  have hokD : okD dm loc2 (H2.set H.length .gone) (setBlk W2 (w.heap.size + 1) (.loop { rec with state := .exhausted })) ([{ target := .collected w.heap.size, args := #[] }] ++ a.defers) := by
   have hold := okD.step ⟨hd0, lD, hnd, hds, hlD⟩ r6
   obtain ⟨z0, l', z1, z2, z3⟩ := hold
   have hinj : l' = lD := by
    have : marksOf l' = marksOf lD := by rw [← z2, hds]
    unfold marksOf at this
    exact List.map_inj_right (fun x y h => by simpa using h) |>.1 this
   subst hinj
   refine ⟨z0, w.heap.size :: l', List.nodup_cons.2 ⟨fun hm => ?_, z1⟩, by rw [z2]; rfl, fun D hD => ?_⟩
   ·have := cells_lt (hlD _ hm).2.1
    omega
   ·rcases List.mem_cons.1 hD with rfl | hD
    ·exact ⟨hd0, hD3, hnoW3⟩
    ·exact z3 D hD
  have hS : SRel M2 (setBlk W2 (w.heap.size + 1) (.loop { rec with state := .exhausted })) loc2 s a.tmps := h2.keeps (Step.keeps r6 h1)
  have hst : StepN n M loc H w M2 loc2 (H2.set H.length .gone) (setBlk W2 (w.heap.size + 1) (.loop { rec with state := .exhausted })) := r6.mono h0
  have fin : ∀ e : Exit, okExit e → Q e s (H2.set H.length .gone) →
    QC cfg.N n dm M loc H w Q e { a with defers := [{ target := .collected w.heap.size, args := #[] }] ++ a.defers } (setBlk W2 (w.heap.size + 1) (.loop { rec with state := .exhausted })) :=
   fun e he hQ => .inl ⟨_, _, M2, loc2, he, hQ, q4, hS, h3, hokD, hst⟩
  cases st with
  | busy => exact hE.elim
  | ready =>
   refine ⟨none, setBlk W2 (w.heap.size + 1) (.loop { rec with state := .exhausted }), ?_, fin .normal trivial hE⟩
   exact (run_endLoop g3 hnb2).trans (congrArg (fun p => Result.ok p _) g9.2)
  | done c =>
   refine ⟨some c, setBlk W2 (w.heap.size + 1) (.loop { rec with state := .exhausted }), ?_, ?_⟩
   ·exact (run_endLoop g3 hnb2).trans (congrArg (fun p => Result.ok p _) g9.2)
   ·cases c with
    | exit i => exact wpIn_exit (fin (.exit i) trivial hE)
    | ret => exact wpIn_ret (fin .ret trivial hE)
    | _ => exact hE.elim
theorem apx_sound {cfg : Cfg} {n dm id : Nat} {ops : Array Oper} {s : Slots} {Q : AQ} {ro : Option Nat} {a : Act}
  (h : apx P cfg ops s H Q) (ht : Tabs P M w) (h0 : n ≤ H.length) (h1 : Rel M loc H w) (h2 : SRel M w loc s a.tmps) (h3 : a.tmps.size = cfg.N) (h4 : okD dm loc H w a.defers) :
  (Code.region id ops false).wpIn (FW ro) 0 P (QC cfg.N n dm M loc H w Q) a w := by
 unfold apx at h
 refine wpIn_region ?_
 cases hsz : ops.size with
 | zero =>
  rw [hsz] at h
  simp only [Nat.zero_sub, List.range_zero, aops] at h
  rw [show ops[0]? = none from Array.getElem?_eq_none (by omega)] at h
  exact h.elim
 | succ m =>
  rw [hsz] at h
  simp only [Nat.add_sub_cancel] at h
  rw [List.range_succ]
  refine aops_app _ s a _ h ht h1 h2 h3 fun a' s' H' M' loc' w' k1 k2 k3 k4 k5 k6 => ?_
  rw [wpOpsIn_cons]
  unfold wpOpIn
  cases ho : ops[m]? with
  | none => rw [ho] at k1; exact k1.elim
  | some o =>
  rw [ho] at k1
  simp only
  replace k1 : alast P cfg s' o H' (Q .normal) (fun av H2 => Q (.panic []) [(0, av)] H2) := k1
  unfold alast at k1
  obtain ⟨hg, k2p⟩ := chk_elim k1
  clear k1
  have k1 := k2p
  clear k2p
  have hg : o.guard = none := by
   cases hgg : o.guard with
   | none => rfl
   | some x => rw [hgg] at hg; cases hg
  have hw : Region.wanted o (yielded ops a'.tmps) = true := by simp [Region.wanted, hg]
  rw [if_pos hw]
  have hd : okD dm loc' H' w' a'.defers := by rw [k5]; exact h4.step k6
  obtain ⟨dst, op, type, pos, after, guard⟩ := o
  simp only at k1 hg
  subst hg
  cases op with
  | panic x =>
   simp only at k1
   refine ⟨fun _ _ => trivial, ?_⟩
   rw [Oper.semAt_eq _ _ _ (by intro c h; cases h)]
   split at k1
   case h_2 => exact k1.elim
   case h_1 t v hv =>
   have hx := vrel_ev k3 x
   rw [hv] at hx
   generalize hq : a'.eval x = q at hx
   cases hx with
   | iface _ _ u hu =>
   have he : (execOp a'.eval ⟨dst, .panic x, type, pos, after, none⟩).run P w' = .halt (.panic (.iface t u)) w' := by
    simp only [execOp, hq, Instr.panic]
    rfl
   rw [he]
   exact Or.inr ⟨_, _, H', M', loc', rfl, k1, k2, .iface t v u hu, hd, k6.mono h0⟩
  | call c =>
   obtain ⟨callee, args, argTypes⟩ := c
   simp only at k1
   split at k1
   case h_2 => exact k1.elim
   case h_1 f =>
   split at k1
   case h_2 => exact k1.elim
   case h_1 g cap hgf =>
   obtain ⟨hp, hspec⟩ := chk_elim k1
   have hf := vrel_ev k3 f
   rw [hgf] at hf
   generalize hq : a'.eval f = q at hf
   cases hf with
   | fn _ _ vs hvs hvr =>
   have hall := VRels.append (vrels_ev k3 args) ⟨hvs, hvr⟩
   have hcalls := hspec M' loc' w' _ (ht.step h1 k6) k2 hall
   unfold plainFn at hp
   split at hp
   case h_2 => cases hp
   case h_1 fnf hfn =>
   rw [Bool.and_eq_true] at hp
   have hname : (fnf.name == "runtime.NumGoroutine") = false := by simpa using hp.2
   have hbody : fnf.body.isNone = false := by
    cases hb : fnf.body with
    | none => rw [hb] at hp; simp at hp
    | some c => rfl
   have he : (execOp a'.eval ⟨dst, .call ⟨.value f, args, argTypes⟩, type, pos, after, none⟩).run P w' = .ok (.enter g (args.map a'.eval ++ vs)) w' := by
    simp only [execOp, resolve, hq, Deferred.ofValue, pure_bind, invoke, callFunc, Sem.run_bind, run_program, Result.andThen_ok, hfn, hname, hbody, Bool.false_eq_true, if_false, Sem.run_pure, Array.empty_append]
   refine ⟨fun _ _ => trivial, ?_⟩
   rw [Oper.semAt_eq _ _ _ (by intro c h; cases h), he]
   refine ⟨fun h => by simp [FW] at h, (callsW hcalls).mono fun e w2 hh => ?_⟩
   rcases hh with ⟨v, r, H2, M2, loc2, rfl, hK, r1, r2, r3⟩ | ⟨v, r, H2, M2, loc2, rfl, hK, r1, r2, r3⟩
   ·have hK2 := formed_elim hK
    have hs2 := k3.keeps (r3.keeps k2)
    obtain ⟨s2, g1, g2, g3, g4⟩ := aput_elim hK2 hs2 k4 r2
    exact .inl ⟨s2, H2, M2, loc2, trivial, g1, r1, g2, g3, by rw [g4]; exact hd.step r3, (k6.trans r3).mono h0⟩
   ·exact .inr ⟨v, r, H2, M2, loc2, rfl, hK, r1, r2, hd.step r3, (k6.trans r3).mono h0⟩
  | _ => exact k1.elim
theorem awp_soundR (cfg : Cfg) (n : Nat) {ro : Option Nat} (hro : okRo cfg ro) : ∀ (c : Code) (s : Slots) (H : List AObj) (Q : AQ), awp P cfg n c s H Q → AWPr ro P cfg.N n c s H Q := by
 intro c
 induction c with
 | skip => exact fun s H Q h M loc w a h0 h1 h2 h3 dm h4 ht => wpIn_skip (.inl ⟨s, H, M, loc, trivial, h, h1, h2, h3, h4, (Step.refl _ _ _ _).mono h0⟩)
 | region id ops draw =>
  intro s H Q h M loc w a h0 h1 h2 h3 dm h4 ht
  cases draw with
  | false =>
   simp only [awp] at h
   cases hpx : cfg.px id with
   | true => rw [hpx] at h; exact apx_sound h ht h0 h1 h2 h3 h4
   | false =>
   rw [hpx] at h
   exact wpIn_region (aops_sound _ s a _ h ht h1 h2 h3 fun a' s' H' M' loc' w' k1 k2 k3 k4 k5 k6 => .inl ⟨s', H', M', loc', trivial, k1, k2, k3, k4, by rw [k5]; exact h4.step k6, k6.mono h0⟩)
  | true =>
   exact adraw_sound (cfg := cfg) h ht h1 h2 h3 fun a' s' H' M' loc' w' k1 k2 k3 k4 k5 k6 => .inl ⟨s', H', M', loc', trivial, k1, k2, k3, k4, by rw [k5]; exact h4.step k6, k6.mono h0⟩
 | seq x y ihx ihy =>
  intro s H Q h M loc w a h0 h1 h2 h3 dm h4 ht
  refine wpIn_seq (wpIn_mono (ihx s H _ h M loc w a h0 h1 h2 h3 dm h4 ht) fun e a' w' hq => ?_)
  rcases hq with ⟨s', H', M', loc', hk, hQ, r1, r2, r3, r4, r5⟩ | ⟨v, av, H', M', loc', rfl, rest⟩
  rotate_left
  ·exact .inr ⟨v, av, H', M', loc', rfl, rest⟩
  cases e with
  | normal =>
   simp only [seqQ] at hQ
   have hy : AWPr ro P cfg.N n y s' H' Q := by
    cases hc : cfg.cut (firstId y) with
    | true =>
     rw [hc] at hQ
     exact AWP.sub (hQ.r hro) (fun d => get_restrict s' d _)
    | false =>
     rw [hc] at hQ
     exact ihy s' H' Q hQ
   exact wpIn_mono (hy M' loc' w' a' r5.len r1 r2 r3 dm r4 (ht.step h1 r5)) fun e a w => QC.step r5 (Nat.le_refl _)
  | exit id => exact .inl ⟨s', H', M', loc', hk, hQ, r1, r2, r3, r4, r5⟩
  | goto l => exact .inl ⟨s', H', M', loc', hk, hQ, r1, r2, r3, r4, r5⟩
  | ret => exact .inl ⟨s', H', M', loc', hk, hQ, r1, r2, r3, r4, r5⟩
  | panic c => exact hk.elim
  | outgrown => exact hk.elim
 | cond c x y ihx ihy =>
  intro s H Q h M loc w a h0 h1 h2 h3 dm h4 ht
  simp only [awp] at h
  split at h
  case h_2 => exact h.elim
  case h_1 t hbt =>
  have hv := vrel_ev h2 c
  rw [hbt] at hv
  generalize hq : a.eval c = q at hv
  cases hv
  cases t with
  | true => exact wpIn_cond hq (ihx s H Q h M loc w a h0 h1 h2 h3 dm h4 ht)
  | false => exact wpIn_cond hq (ihy s H Q h M loc w a h0 h1 h2 h3 dm h4 ht)
 | block id b ih =>
  intro s H Q h M loc w a h0 h1 h2 h3 dm h4 ht
  refine wpIn_block (wpIn_mono (ih s H _ h M loc w a h0 h1 h2 h3 dm h4 ht) fun e a' w' hq => ?_)
  rcases hq with ⟨s', H', M', loc', hk, hQ, r1, r2, r3, r4, r5⟩ | ⟨v, av, H', M', loc', rfl, rest⟩
  rotate_left
  ·exact .inr ⟨v, av, H', M', loc', rfl, rest⟩
  cases e with
  | exit id' =>
   simp only [blockQ] at hQ
   simp only [Exit.inBlock]
   cases hb : Nat.beq id' id with
   | true =>
    rw [hb] at hQ
    rw [if_pos (Nat.eq_of_beq_eq_true hb)]
    exact .inl ⟨s', H', M', loc', trivial, hQ, r1, r2, r3, r4, r5⟩
   | false =>
    rw [hb] at hQ
    rw [if_neg (fun e => by subst e; simp at hb)]
    exact .inl ⟨s', H', M', loc', trivial, hQ, r1, r2, r3, r4, r5⟩
  | normal => exact .inl ⟨s', H', M', loc', hk, hQ, r1, r2, r3, r4, r5⟩
  | goto l => exact .inl ⟨s', H', M', loc', hk, hQ, r1, r2, r3, r4, r5⟩
  | ret => exact .inl ⟨s', H', M', loc', hk, hQ, r1, r2, r3, r4, r5⟩
  | panic c => exact hk.elim
  | outgrown => exact hk.elim
 | loop b ih => exact fun s H Q h => AWP.sub (AWPc.r hro h) (fun d => get_restrict s d _)
 | exit id => exact fun s H Q h M loc w a h0 h1 h2 h3 dm h4 ht => wpIn_exit (.inl ⟨s, H, M, loc, trivial, h, h1, h2, h3, h4, (Step.refl _ _ _ _).mono h0⟩)
 | label l => exact fun s H Q h M loc w a h0 h1 h2 h3 dm h4 ht => wpIn_label (.inl ⟨s, H, M, loc, trivial, h, h1, h2, h3, h4, (Step.refl _ _ _ _).mono h0⟩)
 | ret => exact fun s H Q h M loc w a h0 h1 h2 h3 dm h4 ht => wpIn_ret (.inl ⟨s, H, M, loc, trivial, h, h1, h2, h3, h4, (Step.refl _ _ _ _).mono h0⟩)
 | scope b ih =>
  intro s H Q h M loc w a h0 h1 h2 h3 dm h4 ht
  exact wpIn_scope (AWPSr.of cfg hro (ih s H _ h) M loc w a h0 h1 h2 h3 dm h4 ht)
 | goto l => exact fun s H Q h M loc w a h0 h1 h2 h3 dm h4 ht => wpIn_goto (.inl ⟨s, H, M, loc, trivial, h, h1, h2, h3, h4, (Step.refl _ _ _ _).mono h0⟩)
 | rangeFunc g ps asg body _ _ => exact fun s H Q h => arange2_sound cfg n hro h
 | _ => exact fun s H Q h => h.elim
theorem awp_sound (cfg : Cfg) (n : Nat) (c : Code) (s : Slots) (H : List AObj) (Q : AQ) (h : awp P cfg n c s H Q) : AWP P cfg.N n c s H Q :=
 awp_soundR cfg n (fun _ => rfl) c s H Q h
theorem awpR_sound (cfg : Cfg) (n : Nat) (hrnd : cfg.rnd = true) (c : Code) (s : Slots) (H : List AObj) (Q : AQ) (h : awp P cfg n c s H Q) : AWPR P cfg.N n c s H Q :=
 fun ro => awp_soundR cfg n (fun h0 => by rw [hrnd] at h0; cases h0) c s H Q h
def aresult (P : Program) (s : Slots) (H : List AObj) : ResultVar → (AV → Prop) → Prop
 | .tmp t, K => K (get s t)
 | .cell a t, K => aload P t (get s a) H K
def aresults (P : Program) (s : Slots) (H : List AObj) : List ResultVar → (List AV → Prop) → Prop
 | [], K => K []
 | r :: rest, K => aresult P s H r fun v => aresults P s H rest fun vs => K (v :: vs)
def tupled : List AV → AV
 | [v] => v
 | vs => .tup vs
def slotsOf : Nat → List AV → Slots
 | _, [] => []
 | i, a :: r => (i, a) :: slotsOf (i + 1) r
def endQ (P : Program) (rs : List ResultVar) (Post : AV → List AObj → Prop) : AQ := fun e s H => match e with
 | .normal | .ret => aresults P s H rs fun vs => Post (tupled vs) H
 | _ => False
theorem get_slotsOf : ∀ (as : List AV) (k d : Nat), get (slotsOf k as) d = if k ≤ d then as.getD (d - k) .bad else .bad
 | [], k, d => by simp [slotsOf, get]
 | a :: r, k, d => by
  simp only [slotsOf, get]
  cases h : Nat.beq k d with
  | true => have := Nat.eq_of_beq_eq_true h; subst this; simp
  | false =>
   have hne : k ≠ d := fun e => by subst e; simp at h
   simp only [cond_false]
   rw [get_slotsOf r (k + 1) d]
   by_cases h1 : k ≤ d
   ·rw [if_pos h1, if_pos (by omega), show d - k = (d - (k + 1)) + 1 by omega]; rfl
   ·rw [if_neg h1, if_neg (by omega)]
def rvRead (tmps : Array Value) (r : ResultVar) : Sem Value := match r with
 | .tmp t => pure (tmps.getD t undef)
 | .cell a t => do loadVar t (← asAddr (tmps.getD a undef))
theorem aresults_run {s : Slots} {tmps : Array Value} (hs : SRel M w loc s tmps) (hr : Rel M loc H w) : ∀ (rs : List ResultVar) (K : List AV → Prop), aresults P s H rs K →
  ∃ vs avs, (rs.mapM (rvRead tmps)).run P w = .ok vs w ∧ K avs ∧ ∃ hl : vs.length = avs.length, ∀ i (h : i < avs.length), VRel M w loc avs[i] (vs[i]'(by omega))
 | [], K, h => ⟨[], [], rfl, h, rfl, fun i h => by simp at h⟩
 | r :: rest, K, h => by
  simp only [aresults] at h
  have hone : ∃ v av, (rvRead tmps r).run P w = .ok v w ∧ VRel M w loc av v ∧ aresults P s H rest fun vs => K (av :: vs) := by
   cases r with
   | tmp t => exact ⟨_, _, rfl, hs t, h⟩
   | cell a t =>
    obtain ⟨addr, x, av, he, hrun, hx, hK⟩ := aload_core h hr (hs a)
    refine ⟨x, av, ?_, hx, hK⟩
    simp only [rvRead, he, asAddr, pure_bind, hrun]
  obtain ⟨v, av, h1, h2, h3⟩ := hone
  obtain ⟨vs, avs, k1, k2, hl, k3⟩ := aresults_run hs hr rest _ h3
  refine ⟨v :: vs, av :: avs, ?_, k2, by simp [hl], fun i hi => ?_⟩
  ·rw [List.mapM_cons]
   simp only [Sem.run_bind, h1, k1, Result.andThen_ok, Sem.run_pure]
  ·cases i with
   | zero => exact h2
   | succ i => exact k3 i (by simpa using hi)
theorem results_run {fn : Func} {s : Slots} {tmps : Array Value} {Post : AV → Prop} (hs : SRel M w loc s tmps) (hr : Rel M loc H w) (h : aresults P s H fn.results.toList fun vs => Post (tupled vs)) :
  ∃ v av, (results fn tmps).run P w = .ok v w ∧ VRel M w loc av v ∧ Post av := by
 obtain ⟨vs, avs, h1, k2, hl, h3⟩ := aresults_run hs hr _ _ h
 have hm : (fn.results.mapM (rvRead tmps) : Sem (Array Value)).run P w = .ok vs.toArray w := by
  rw [Array.mapM_eq_mapM_toList]
  simp only [Sem.run_map, h1, Result.andThen_ok]
 have hres : (results fn tmps).run P w = .ok (if h : vs.toArray.size = 1 then vs.toArray[0] else .tuple vs.toArray) w := by
  have : results fn tmps = (do let vs ← fn.results.mapM (rvRead tmps); pure (if h : vs.size = 1 then vs[0] else .tuple vs)) := rfl
  rw [this]
  simp only [Sem.run_bind, hm, Result.andThen_ok, Sem.run_pure]
 refine ⟨_, tupled avs, hres, ?_, k2⟩
 clear hm hres h1 k2
 match avs, vs, hl, h3 with
 | [], [], _, _ => exact .tup [] #[] rfl (fun i h => by simp at h)
 | [a], [v], _, h3 => exact h3 0 (by simp)
 | a :: b :: r, v :: u :: q, hl, h3 =>
  have : ¬ ((v :: u :: q).toArray.size = 1) := by simp
  rw [dif_neg this]
  refine .tup _ _ (by simpa using hl) (fun i hi => ?_)
  have := h3 i hi
  simpa using this
theorem ASpec.of_awp {f : FuncId} {fn : Func} {c : Code} {args : List AV} {Post : AV → List AObj → Prop} (N : Nat) (hf : P.funcs[f]? = some fn) (hb : fn.body = some c) (hN : fn.ntmps = N) (hargs : Nat.ble args.length N = true)
  (h : AWP P N H.length c (slotsOf 0 args) H (endQ P fn.results.toList Post)) : ASpec P f args H Post := by
 intro M loc w vs ht hr hv
 obtain ⟨hvs, hv⟩ := hv
 have hle := Nat.le_of_ble_eq_true hargs
 refine callsOfW (ro := none) (k := 0) (callsIn_of_wp_marks (F := FW none) (n := 0) hf hb trivial ?_)
 refine wpIn_mono (h M loc w _ (Nat.le_refl _) hr ?_ ?_ w.heap.size okD.nil ht) fun e a' w' hq => ?_
 ·intro d
  rw [get_slotsOf]
  simp only [Nat.zero_le, if_true, Nat.sub_zero]
  by_cases hd : d < args.length
  ·rw [getD_lt _ _ _ hd]
   have := hv d hd
   have e : (vs ++ Array.replicate (fn.ntmps - vs.size) undef).getD d undef = vs[d]'(by omega) := by
    simp only [Array.getD_eq_getD_getElem?]
    rw [Array.getElem?_append_left (by omega), Array.getElem?_eq_getElem (by omega)]; rfl
   simp only [e]; exact this
  ·have : args.getD d .bad = .bad := by simp [List.getD, List.getElem?_eq_none (Nat.le_of_not_lt hd)]
   rw [this]; exact .bad _
 ·simp; omega
 ·rcases hq with ⟨s', H', M', loc', hk, hQ, r1, r2, r3, r4, r5⟩ | ⟨v, av, H', M', loc', rfl, hQ, _⟩
  rotate_left
  ·exact hQ.elim
  obtain ⟨_, l, hnd, hds, hlD⟩ := r4
  have key : ∀ (l : List Nat) (w' : World), l.Nodup → (∀ D ∈ l, w.heap.size ≤ D ∧ w'.heap[D]? = some (.deferred (some [])) ∧ ¬ Owned loc' H' D) → Rel M' loc' H' w' → SRel M' w' loc' s' a'.tmps → StepN H.length M loc H w M' loc' H' w' →
    aresults P s' H' (fn.results.toList) (fun vs => Post (tupled vs) H') →
    LeavesInM (FW none) 0 P fn a'.tmps (fun e w' => ∃ v r H' M' loc', e = .returned v ∧ Post r H' ∧ Rel M' loc' H' w' ∧ VRel M' w' loc' r v ∧ Step M loc H w M' loc' H' w') (marksOf l) .returning w' := by
   intro l
   induction l with
   | nil =>
    intro w' _ _ k1 k2 k3 k4
    obtain ⟨v, av, h1, h2, h3⟩ := results_run (Post := fun r => Post r H') k2 k1 k4
    exact ⟨v, h1, v, av, H', M', loc', rfl, h3, k1, h2, k3⟩
   | cons D l ih =>
    intro w' hnd hl k1 k2 k3 k4
    obtain ⟨hD0, hD1, hD2⟩ := hl D (List.mem_cons_self ..)
    obtain ⟨p1, p2⟩ := k1.poke hD1 hD2 (.deferred none) (by intro cs T fr h; cases h)
    refine ⟨by simp, .inl ⟨D, setBlk w' D (.deferred none), rfl, run_takeDeferred hD1, ih _ (List.nodup_cons.1 hnd).2 (fun D' hD' => ?_) p1 (k2.keeps p2) (k3.poke hD0 hD1) k4⟩⟩
    obtain ⟨g1, g2, g3⟩ := hl D' (List.mem_cons_of_mem _ hD')
    have hne : D' ≠ D := by
     rintro rfl
     exact (List.nodup_cons.1 hnd).1 hD'
    exact ⟨g1, by rw [setBlk_other hne]; exact g2, g3⟩
  cases e with
  | normal =>
   show LeavesInM (FW none) 0 P fn a'.tmps _ a'.defers .returning w'
   rw [hds]
   exact key l w' hnd hlD r1 r2 r5 hQ
  | ret =>
   show LeavesInM (FW none) 0 P fn a'.tmps _ a'.defers .returning w'
   rw [hds]
   exact key l w' hnd hlD r1 r2 r5 hQ
  | exit id => exact hQ.elim
  | goto l => exact hQ.elim
  | panic c => exact hk.elim
  | outgrown => exact hk.elim
def endQX (P : Program) (rs : List ResultVar) (Post PX : AV → List AObj → Prop) : AQ := fun e s H => match e with
 | .normal | .ret => aresults P s H rs fun vs => Post (tupled vs) H
 | .panic _ => PX (get s 0) H
 | _ => False
theorem ASpecX.of_awp {f : FuncId} {fn : Func} {c : Code} {args : List AV} {Post PX : AV → List AObj → Prop} (N : Nat) (hf : P.funcs[f]? = some fn) (hb : fn.body = some c) (hN : fn.ntmps = N) (hargs : Nat.ble args.length N = true)
  (h : AWP P N H.length c (slotsOf 0 args) H (endQX P fn.results.toList Post PX)) : ASpecX P f args H Post PX := by
 intro M loc w vs ht hr hv
 obtain ⟨hvs, hv⟩ := hv
 have hle := Nat.le_of_ble_eq_true hargs
 refine callsOfW (ro := none) (k := 0) (callsIn_of_wp_marks (F := FW none) (n := 0) hf hb trivial ?_)
 refine wpIn_mono (h M loc w _ (Nat.le_refl _) hr ?_ ?_ w.heap.size okD.nil ht) fun e a' w' hq => ?_
 ·intro d
  rw [get_slotsOf]
  simp only [Nat.zero_le, if_true, Nat.sub_zero]
  by_cases hd : d < args.length
  ·rw [getD_lt _ _ _ hd]
   have := hv d hd
   have e : (vs ++ Array.replicate (fn.ntmps - vs.size) undef).getD d undef = vs[d]'(by omega) := by
    simp only [Array.getD_eq_getD_getElem?]
    rw [Array.getElem?_append_left (by omega), Array.getElem?_eq_getElem (by omega)]; rfl
   simp only [e]; exact this
  ·have : args.getD d .bad = .bad := by simp [List.getD, List.getElem?_eq_none (Nat.le_of_not_lt hd)]
   rw [this]; exact .bad _
 ·simp; omega
 ·rcases hq with ⟨s', H', M', loc', hk, hQ, r1, r2, r3, r4, r5⟩ | ⟨v, av, H', M', loc', rfl, hQ, _⟩
  rotate_left
  ·obtain ⟨hR, hV, ⟨_, l, hnd, hds, hlD⟩, hSt⟩ := ‹_ ∧ _›
   show LeavesInM (FW none) 0 P fn a'.tmps _ a'.defers (.panicking _) w'
   rw [hds]
   have key : ∀ (l : List Nat) (w' : World), l.Nodup → (∀ D ∈ l, w.heap.size ≤ D ∧ w'.heap[D]? = some (.deferred (some [])) ∧ ¬ Owned loc' H' D) → Rel M' loc' H' w' → VRel M' w' loc' av v → StepN H.length M loc H w M' loc' H' w' →
     LeavesInM (FW none) 0 P fn a'.tmps (fun e w' => (∃ v r H' M' loc', e = .returned v ∧ Post r H' ∧ Rel M' loc' H' w' ∧ VRel M' w' loc' r v ∧ Step M loc H w M' loc' H' w') ∨
      ∃ v r H' M' loc', e = .panicked [{ v, recovered := false }] ∧ PX r H' ∧ Rel M' loc' H' w' ∧ VRel M' w' loc' r v ∧ Step M loc H w M' loc' H' w') (marksOf l) (.panicking [{ v, recovered := false }]) w' := by
    intro l
    induction l with
    | nil =>
     intro w' _ _ k1 k2 k3
     exact .inr ⟨v, av, H', M', loc', rfl, hQ, k1, k2, k3⟩
    | cons D l ih =>
     intro w' hnd hl k1 k2 k3
     obtain ⟨hD0, hD1, hD2⟩ := hl D (List.mem_cons_self ..)
     obtain ⟨p1, p2⟩ := k1.poke hD1 hD2 (.deferred none) (by intro cs T fr h; cases h)
     refine ⟨by simp, .inl ⟨D, setBlk w' D (.deferred none), rfl, run_takeDeferred hD1, ih _ (List.nodup_cons.1 hnd).2 (fun D' hD' => ?_) p1 (k2.keeps p2) (k3.poke hD0 hD1)⟩⟩
     obtain ⟨g1, g2, g3⟩ := hl D' (List.mem_cons_of_mem _ hD')
     have hne : D' ≠ D := by
      rintro rfl
      exact (List.nodup_cons.1 hnd).1 hD'
     exact ⟨g1, by rw [setBlk_other hne]; exact g2, g3⟩
   exact key l w' hnd hlD hR hV hSt
  obtain ⟨_, l, hnd, hds, hlD⟩ := r4
  have key : ∀ (l : List Nat) (w' : World), l.Nodup → (∀ D ∈ l, w.heap.size ≤ D ∧ w'.heap[D]? = some (.deferred (some [])) ∧ ¬ Owned loc' H' D) → Rel M' loc' H' w' → SRel M' w' loc' s' a'.tmps → StepN H.length M loc H w M' loc' H' w' →
    aresults P s' H' (fn.results.toList) (fun vs => Post (tupled vs) H') →
    LeavesInM (FW none) 0 P fn a'.tmps (fun e w' => (∃ v r H' M' loc', e = .returned v ∧ Post r H' ∧ Rel M' loc' H' w' ∧ VRel M' w' loc' r v ∧ Step M loc H w M' loc' H' w') ∨
      ∃ v r H' M' loc', e = .panicked [{ v, recovered := false }] ∧ PX r H' ∧ Rel M' loc' H' w' ∧ VRel M' w' loc' r v ∧ Step M loc H w M' loc' H' w') (marksOf l) .returning w' := by
   intro l
   induction l with
   | nil =>
    intro w' _ _ k1 k2 k3 k4
    obtain ⟨v, av, h1, h2, h3⟩ := results_run (Post := fun r => Post r H') k2 k1 k4
    exact ⟨v, h1, .inl ⟨v, av, H', M', loc', rfl, h3, k1, h2, k3⟩⟩
   | cons D l ih =>
    intro w' hnd hl k1 k2 k3 k4
    obtain ⟨hD0, hD1, hD2⟩ := hl D (List.mem_cons_self ..)
    obtain ⟨p1, p2⟩ := k1.poke hD1 hD2 (.deferred none) (by intro cs T fr h; cases h)
    refine ⟨by simp, .inl ⟨D, setBlk w' D (.deferred none), rfl, run_takeDeferred hD1, ih _ (List.nodup_cons.1 hnd).2 (fun D' hD' => ?_) p1 (k2.keeps p2) (k3.poke hD0 hD1) k4⟩⟩
    obtain ⟨g1, g2, g3⟩ := hl D' (List.mem_cons_of_mem _ hD')
    have hne : D' ≠ D := by
     rintro rfl
     exact (List.nodup_cons.1 hnd).1 hD'
    exact ⟨g1, by rw [setBlk_other hne]; exact g2, g3⟩
  cases e with
  | normal =>
   show LeavesInM (FW none) 0 P fn a'.tmps _ a'.defers .returning w'
   rw [hds]
   exact key l w' hnd hlD r1 r2 r5 hQ
  | ret =>
   show LeavesInM (FW none) 0 P fn a'.tmps _ a'.defers .returning w'
   rw [hds]
   exact key l w' hnd hlD r1 r2 r5 hQ
  | exit id => exact hQ.elim
  | goto l => exact hQ.elim
  | panic c => exact hk.elim
  | outgrown => exact hk.elim
end
end Go.Ab
end

noncomputable section
namespace Go.Ab
def codeFst : Code → Code
 | .seq a _ => a
 | .cond _ a _ => a
 | .block _ b => b
 | .loop b => b
 | .scope b => b
 | .rangeFunc _ _ _ b => b
 | c => c
def codeAsg : Code → Code
 | .rangeFunc _ _ a _ => a
 | c => c
def codeSnd : Code → Code
 | .seq _ b => b
 | .cond _ _ b => b
 | c => c
theorem kc {A B : Prop} (e : A = B) (h : A) : B := e ▸ h
def encI (n : Int) : List AV := [.int .i64 n]
def sameR : List (Nat × Ret) → FuncId → List Ret
 | [], _ => []
 | (g, r) :: l, f => bif Nat.beq g f then r :: sameR l f else []
def lookupR : List (Nat × Ret) → FuncId → List Ret
 | [], _ => []
 | (g, r) :: l, f => bif Nat.beq g f then r :: sameR l f else lookupR l f
def bodyOf (f : Func) : Code := match f.body with | some c => c | none => .skip
def resultsOf (f : Func) : List ResultVar := f.results.toList
def zipSlots : List Nat → List AV → Slots
 | k :: l, a :: r => (k, a) :: zipSlots l r
 | _, _ => []
def loopQ (P : Program) (N n : Nat) (c : Code) (Q : AQ) (live : Nat → List Nat) : AQ := fun e s H => match e with
 | .normal => AWP P N n c (restrict s (live (firstId (codeFst c)))) H Q
 | e => Q e s H
theorem AWP.loop' {P : Program} {N n : Nat} {s : Slots} {H : List AObj} {Q : AQ} (cfg : Cfg) (live : Nat → List Nat) (c : Code) (hc : c = .loop (codeFst c)) (hN : cfg.N = N)
  (h : awp P cfg n (codeFst c) s H (loopQ P N n c Q live)) : AWP P N n c s H Q := by
 have k := awp_sound cfg n _ _ _ _ h
 rw [hN] at k
 generalize hb : codeFst c = b at *
 subst hc
 refine AWP.loop (AWP.mono k fun e s' H' hq => ?_)
 cases e with
 | normal => exact AWP.sub hq (fun d => get_restrict s' d _)
 | _ => exact hq
def bindPs : List Nat → List AV → Slots → Slots
 | p :: ps, a :: as, s => bindPs ps as ((p, a) :: s)
 | _, _, s => s
def roundQ (id N : Nat) (s : Slots) (ps : List Nat) (asg body : Code) (Post : AV → List AObj → Prop) : AQ := fun e _ H =>
 H[id]? = some (.lp N s ps asg body .busy) ∧ match e with
  | .normal => Post (.bool true) (H.set id (.lp N s ps asg body .ready))
  | .exit i => Post (.bool false) (H.set id (.lp N s ps asg body (.done (.exit i))))
  | .ret => Post (.bool false) (H.set id (.lp N s ps asg body (.done .ret)))
  | _ => False
def ARound (P : Program) (N n id : Nat) (o o' : AObj) (asg body : Code) (s : Slots) (H : List AObj) (Q : AQ) : Prop :=
 AWPR P N n asg s H (fun e s' H' => match e with
  | .normal => H'[id]? = some o ∧ AWPR P N n body s' (H'.set id o') Q
  | _ => False)
def roundAwp (P : Program) (cfg : Cfg) (n id : Nat) (o o' : AObj) (asg body : Code) (s : Slots) (H : List AObj) (Q : AQ) : Prop :=
 awp P cfg n asg s H (seqQ (fun s' H' => match H'[id]? with
  | some q => needP (q = o) (awp P cfg n body s' (H'.set id o') Q)
  | none => False) (fun _ _ _ => False))
theorem ARound.of {P : Program} (cfg : Cfg) (n id : Nat) (o o' : AObj) (hrnd : cfg.rnd = true) (asg body : Code) (s : Slots) (H : List AObj) (Q : AQ) (h : roundAwp P cfg n id o o' asg body s H Q) : ARound P cfg.N n id o o' asg body s H Q := by
 intro ro
 refine AWP.mono (awpR_sound cfg n hrnd _ _ _ _ h ro) fun e s' H' hq => ?_
 cases e with
 | normal =>
  simp only [seqQ] at hq
  split at hq
  ·rename_i q hid
   obtain ⟨rfl, h2⟩ := hq
   exact ⟨hid, awpR_sound cfg n hrnd _ _ _ _ (h2 rfl)⟩
  ·exact hq.elim
 | _ => exact hq.elim
theorem ARound.sub {P : Program} {N n id : Nat} {o o' : AObj} {asg body : Code} {s s' : Slots} {H : List AObj} {Q : AQ} (h : ARound P N n id o o' asg body s' H Q) (hs : ∀ d, get s' d = get s d ∨ get s' d = .bad) : ARound P N n id o o' asg body s H Q :=
 fun ro => AWP.sub (h ro) hs
theorem SRel.bindPs {M : Mem} {w : World} {loc : Locs} : ∀ (ps : List Nat) (as : List AV) (vs : List Value) (s : Slots) (tmps : Array Value), SRel M w loc s tmps → as.length = vs.length → (∀ i (h : i < as.length) (h' : i < vs.length), VRel M w loc as[i] vs[i]) →
  (∀ p ∈ ps, p < tmps.size) → as.length = ps.length → SRel M w loc (Ab.bindPs ps as s) ((ps.zip vs).foldl (fun t (p, v) => t.setIfInBounds p v) tmps) ∧ ((ps.zip vs).foldl (fun t (p, v) => t.setIfInBounds p v) tmps).size = tmps.size
 | [], [], [], s, tmps, h, _, _, _, _ => ⟨h, rfl⟩
 | p :: ps, a :: as, v :: vs, s, tmps, h, hl, hv, hp, hl2 => by
  have h1 := h.put (hp p (List.mem_cons_self ..)) (hv 0 (by simp) (by simp))
  have ih := SRel.bindPs ps as vs ((p, a) :: s) (tmps.setIfInBounds p v) h1 (by simpa using hl) (fun i h h' => by
   have := hv (i + 1) (by simpa using h) (by simpa using h')
   simpa using this) (fun q hq => by simp; exact hp q (List.mem_cons_of_mem _ hq)) (by simpa using hl2)
  refine ⟨ih.1, ?_⟩
  have := ih.2
  simpa using this
 | [], _ :: _, _, _, _, _, _, _, _, hl2 => by simp at hl2
 | _ :: _, [], _, _, _, _, _, _, _, hl2 => by simp at hl2
 | _, _ :: _, [], _, _, _, hl, _, _, _ => by simp at hl
 | _, [], _ :: _, _, _, _, hl, _, _, _ => by simp at hl
theorem keeps_loop {M : Mem} {w : World} {loc : Locs} {b : Nat} {rec : Loop} (g3 : w.heap[b]? = some (.loop rec)) (o : Obj) : Keeps M w loc M (setBlk w b o) loc := by
 refine ⟨fun c k v hi => ?_, fun c cs T fr hc => ?_, fun _ _ h => h⟩
 ·have hne : c ≠ b := by
   rintro rfl
   obtain ⟨i1, i2⟩ := hi
   unfold World.cell? at i1
   simp only [g3] at i1
   cases i1
  exact ⟨by rw [cell_of_heap (setBlk_other hne)]; exact hi.1, hi.2⟩
 ·have hne : c ≠ b := by
   rintro rfl
   rw [g3] at hc; cases hc
  exact ⟨cs, fr, by rw [setBlk_other hne]; exact hc, rfl⟩
theorem AYield.of {P : Program} {id N : Nat} {args : List AV} {H : List AObj} {s : Slots} {ps : List Nat} {asg body : Code} {Post : AV → List AObj → Prop} (lv : List Nat) (hid : H[id]? = some (.lp N s ps asg body .ready)) (hlen : args.length = ps.length) (hps : ps.all (Nat.blt · N) = true)
    (h : ARound P N H.length id (.lp N s ps asg body .ready) (.lp N s ps asg body .busy) asg body (restrict (bindPs ps args s) lv) H (roundQ id N s ps asg body Post)) : AYield P id args H Post := by
  intro M loc w vs b ht hr hv hl
  have hro := hr.objs id _ hid
  rw [hl] at hro
  obtain ⟨b', rec, e, g1, g2, g3, g4, g5, g6, g7, g8, g9⟩ := hro
  cases e
  obtain ⟨hvs, hv⟩ := hv
  have hps2 : rec.params.size = ps.length := by rw [← g4]; simp
  refine ⟨rec.fn, (rec.params.zip vs).foldl (fun tmps (t, a) => tmps.setIfInBounds t a) rec.tmps, asg, body, ?_, roundIn_of_wpIn (F := FW none) trivial ?_⟩
  · rw [run_yield g3 (by omega), g5, g6]
  have hS : SRel M w loc s rec.tmps := g8
  have hfold : (rec.params.zip vs).foldl (fun tmps (t, a) => tmps.setIfInBounds t a) rec.tmps = ((ps.zip vs.toList).foldl (fun t (p, v) => t.setIfInBounds p v) rec.tmps) := by
    rw [← Array.foldl_toList, Array.toList_zip, g4]
  obtain ⟨b1, b2⟩ := SRel.bindPs ps args vs.toList s rec.tmps hS (by simp [hvs]) (fun i h h' => by
    have := hv i h
    simpa using this) (fun p hp => by
    have := List.all_eq_true.1 hps p hp
    rw [g7]
    simpa [Nat.blt_eq] using this) hlen
  rw [hfold]
  have hlt : id < H.length := (List.getElem?_eq_some_iff.1 hid).1
  have hA := (h.sub (fun d => get_restrict _ d lv)) (some b) M loc w { tmps := (ps.zip vs.toList).foldl (fun t (p, v) => t.setIfInBounds p v) rec.tmps, defers := [] } (Nat.le_refl _) hr b1 (by rw [b2, g7]) _ okD.nil ht
  refine wpIn_mono hA fun e1 a1 w1 hq1 => ?_
  rcases hq1 with ⟨s1, H1, M1, loc1, hok1, hQ1, y1, y2, y3, y4, y5⟩ | ⟨v, av, H1, M1, loc1, rfl, hQ1, _⟩
  rotate_left
  · exact hQ1.elim
  cases e1 with
  | normal =>
    obtain ⟨hid1, hbody⟩ := hQ1
    have hl1 : loc1 id = some (.blk b) := by rw [y5.locs id hlt]; exact hl
    have hro1 := y1.objs _ _ hid1
    rw [hl1] at hro1
    obtain ⟨b1', rec1, e1', f1, f2, f3, f4, f5, f6, f7, f8, f9⟩ := hro1
    cases e1'
    obtain ⟨r1, r2⟩ := y1.write id b _ (.lp N s ps asg body .busy) (.loop { rec1 with state := .busy }) hid1 (by intro h; cases h) hl1 (fun cs T fr hc => by rw [f3] at hc; cases hc)
      ⟨b, _, rfl, f1, f2, setBlk_same (cells_lt f3), f4, f5, f6, f7, fun d => (f8 d).keeps (keeps_loop f3 _), rfl, f9.2⟩
    refine ⟨setBlk w1 b (.loop { rec1 with state := .busy }), run_beginRound f3 f9.1, ?_⟩
    have y6 : StepN H.length M loc H w M1 loc1 (H1.set id (.lp N s ps asg body .busy)) (setBlk w1 b (.loop { rec1 with state := .busy })) := StepN.trans y5 r2 y5.len
    have hB := hbody (some b) M1 loc1 _ a1 (by simpa using y5.len) r1 (y2.keeps (r2.keeps y1)) y3 _ (y4.step r2) (ht.step hr y6)
    refine wpIn_mono hB fun e a' w' hq => ?_
    rcases hq with ⟨s', H', M', loc', hok, ⟨hid', hQ⟩, q1, q2, q3, q4, q5⟩ | ⟨v, av, H', M', loc', rfl, ⟨_, hQ⟩, _⟩
    rotate_left
    · exact hQ.elim
    have hlid : loc' id = some (.blk b) := by
      rw [q5.locs id hlt]; exact hl1
    have hol := q1.objs _ _ hid'
    rw [hlid] at hol
    obtain ⟨b2', rec', e2, k1, k2, k3, k4, k5, k6, k7, k8, k9⟩ := hol
    cases e2
    have fin : ∀ (jump : Option Code) (st : LpSt), (LpSt.of st (if jump.isNone then .ready else .done) jump) → Post (.bool jump.isNone) (H'.set id (.lp N s ps asg body st)) →
        ∃ v w'', (Instr.endRound b jump).run P w' = .ok v w'' ∧ ∃ v' r H'' M'' loc'', Ending.returned v = .returned v' ∧ Post r H'' ∧ Rel M'' loc'' H'' w'' ∧ VRel M'' w'' loc'' r v' ∧ Step M loc H w M'' loc'' H'' w'' := by
      intro jump st hst hP
      obtain ⟨p1, p2⟩ := q1.write id b _ (.lp N s ps asg body st) (.loop { rec' with state := if jump.isNone then .ready else .done, pending := jump }) hid' (by intro h; cases h) hlid (fun cs T fr hc => by rw [k3] at hc; cases hc)
        ⟨b, _, rfl, k1, k2, setBlk_same (cells_lt k3), k4, k5, k6, k7, fun d => (k8 d).keeps (keeps_loop k3 _), hst⟩
      have hstep : Step M loc H w M' loc' (H'.set id (.lp N s ps asg body st)) (setBlk w' b (.loop { rec' with state := if jump.isNone then .ready else .done, pending := jump })) :=
        StepN.trans y6 (StepN.trans q5 p2 (by simpa using q5.len)) (Nat.le_refl _)
      exact ⟨.bool jump.isNone, _, run_endRound jump k3, _, _, _, M', loc', rfl, hP, p1, .bool _, hstep⟩
    cases e with
    | normal => exact fin none .ready ⟨rfl, rfl⟩ hQ
    | ret => exact fin (some .ret) (.done .ret) ⟨rfl, rfl⟩ hQ
    | exit i => exact fin (some (.exit i)) (.done (.exit i)) ⟨rfl, rfl⟩ hQ
    | goto l => exact hQ.elim
    | panic c => exact hok.elim
    | outgrown => exact hok.elim
  | exit i => exact hQ1.elim
  | goto l => exact hQ1.elim
  | ret => exact hQ1.elim
  | panic c => exact hok1.elim
  | outgrown => exact hok1.elim
theorem ASpec.of_vc {P : Program} {f : FuncId} {fn : Func} {args : List AV} {H : List AObj} {Post : AV → List AObj → Prop} (cfg : Cfg) (hf : P.funcs[f]? = some fn) (hb : fn.body.isSome = true) (hN : fn.ntmps = cfg.N) (hargs : Nat.ble args.length cfg.N = true)
  (h : awp P cfg H.length (bodyOf fn) (slotsOf 0 args) H (endQ P (resultsOf fn) Post)) : ASpec P f args H Post := by
 cases hc : fn.body with
 | none => rw [hc] at hb; cases hb
 | some c =>
  refine ASpec.of_awp cfg.N hf hc hN hargs (awp_sound cfg _ _ _ _ _ ?_)
  have : bodyOf fn = c := by unfold bodyOf; rw [hc]
  rw [← this]; exact h
theorem ASpecX.of_vc {P : Program} {f : FuncId} {fn : Func} {args : List AV} {H : List AObj} {Post PX : AV → List AObj → Prop} (cfg : Cfg) (hf : P.funcs[f]? = some fn) (hb : fn.body.isSome = true) (hN : fn.ntmps = cfg.N) (hargs : Nat.ble args.length cfg.N = true)
  (h : awp P cfg H.length (bodyOf fn) (slotsOf 0 args) H (endQX P (resultsOf fn) Post PX)) : ASpecX P f args H Post PX := by
 cases hc : fn.body with
 | none => rw [hc] at hb; cases hb
 | some c =>
  refine ASpecX.of_awp cfg.N hf hc hN hargs (awp_sound cfg _ _ _ _ _ ?_)
  have : bodyOf fn = c := by unfold bodyOf; rw [hc]
  rw [← this]; exact h
abbrev PT := AV → List AObj → Prop
def nof : Nat → Bool
 | _ => false
def nol : Nat → List Nat
 | _ => []
end Go.Ab
end

noncomputable section
namespace Go.Ab
def Tip.ren (ρ : Nat → Nat) : Tip → Tip
 | .tok id => .tok (ρ id)
 | t => t
mutual
def AV.ren (ρ : Nat → Nat) : AV → AV
 | .ptr id off => .ptr (ρ id) off
 | .iptr cs off => .iptr (renL ρ cs) off
 | .sl sz s tip => .sl sz (Seq.ren ρ s) (tip.ren ρ)
 | .msl sz id off len => .msl sz (ρ id) off len
 | .mptr sz id i off => .mptr sz (ρ id) i off
 | .agg cs => .agg (renL ρ cs)
 | .tup vs => .tup (renL ρ vs)
 | .fn f cap => .fn f (renL ρ cap)
 | .bfn f cap => .bfn f (renL ρ cap)
 | .iface t v => .iface t (AV.ren ρ v)
 | .map id => .map (ρ id)
 | .bad => .bad
 | .int k n => .int k n
 | .bool b => .bool b
 | .str s => .str s
 | .nilp => .nilp
 | .nilf => .nilf
 | .nili => .nili
 | .nmap => .nmap
 | .meth t n v => .meth t n (AV.ren ρ v)
 | .yld id => .yld (ρ id)
 | .csl sz id off len => .csl sz (ρ id) off len
def Seq.ren (ρ : Nat → Nat) : Seq → Seq
 | .raw l => .raw (renLL ρ l)
 | .map enc d xs => .map (fun x => renL ρ (enc x)) d xs
 | .app a b => .app (Seq.ren ρ a) (Seq.ren ρ b)
def renL (ρ : Nat → Nat) : List AV → List AV
 | [] => []
 | a :: r => AV.ren ρ a :: renL ρ r
def renLL (ρ : Nat → Nat) : List (List AV) → List (List AV)
 | [] => []
 | a :: r => renL ρ a :: renLL ρ r
end
theorem renL_map (ρ : Nat → Nat) : ∀ l : List AV, renL ρ l = l.map (AV.ren ρ)
 | [] => rfl
 | a :: r => by simp [renL, renL_map ρ r]
theorem renLL_map (ρ : Nat → Nat) : ∀ l : List (List AV), renLL ρ l = l.map fun x => x.map (AV.ren ρ)
 | [] => rfl
 | a :: r => by simp [renLL, renLL_map ρ r, renL_map]
theorem Seq.ren_toList (ρ : Nat → Nat) : ∀ s : Seq, (Seq.ren ρ s).toList = s.toList.map fun x => x.map (AV.ren ρ)
 | .raw l => by simp [Seq.ren, Seq.toList, renLL_map]
 | .map enc d xs => by simp [Seq.ren, Seq.toList, renL_map]
 | .app a b => by simp [Seq.ren, Seq.toList, Seq.ren_toList ρ a, Seq.ren_toList ρ b]
def Enc.ren {α : Type} (ρ : Nat → Nat) (E : Enc α) : Enc α := ⟨fun a => AV.ren ρ (E.enc a), fun a K => E.spl a (fun v => K (AV.ren ρ v)), fun a K h => E.ok a _ h⟩
def MM.ren (ρ : Nat → Nat) : MM → MM
 | .nil => .nil
 | .typed E l => .typed (E.ren ρ) l
 | .put m k v => .put (MM.ren ρ m) k (AV.ren ρ v)
theorem MM.ren_toList (ρ : Nat → Nat) : ∀ m : MM, (MM.ren ρ m).toList = m.toList.map fun p => (p.1, AV.ren ρ p.2)
 | .nil => rfl
 | .typed E l => by simp [MM.ren, MM.toList, Enc.ren]
 | .put m k v => by simp only [MM.ren, MM.toList]; rw [MM.ren_toList ρ m, setM_map]
def renS (ρ : Nat → Nat) (s : Slots) : Slots := s.map fun p => (p.1, AV.ren ρ p.2)
theorem get_renS (ρ : Nat → Nat) : ∀ (s : Slots) d, get (renS ρ s) d = AV.ren ρ (get s d)
 | [], d => rfl
 | (i, a) :: s, d => by
  simp only [renS, List.map_cons, get]
  cases Nat.beq i d with
  | true => rfl
  | false => exact get_renS ρ s d
def AObj.ren (ρ : Nat → Nat) : AObj → AObj
 | .gone => .gone
 | .cells cs => .cells (renL ρ cs)
 | .tok => .tok
 | .arr sz s => .arr sz (Seq.ren ρ s)
 | .siter s pos => .siter s pos
 | .mp m => .mp (MM.ren ρ m)
 | .mpv m z => .mpv (MM.ren ρ m) z
 | .mit id z ps => .mit (ρ id) z ps
 | .csz id sz c => .csz (ρ id) sz c
 | .lp N s ps asg body st => .lp N (renS ρ s) ps asg body st
section
variable {M : Mem} {w : World} {loc loc2 : Locs} {ρ : Nat → Nat}
theorem VRel.ren_to (hl : ∀ i l, loc2 i = some l → loc (ρ i) = some l) {a v} (h : VRel M w loc2 a v) : VRel M w loc (AV.ren ρ a) v := by
 induction h with
 | bad v => exact .bad v
 | int k n => exact .int k n
 | bool b => exact .bool b
 | str s => exact .str s
 | nilp => exact .nilp
 | ptr id off b h => exact .ptr _ off b (hl _ _ h)
 | iptr cs off b o vals h1 h2 ih =>
  refine .iptr _ off b o vals (fun j hj => h1 j (by simpa [renL_map] using hj)) (fun j hj => ?_)
  simp only [renL_map, List.getElem_map]
  exact ih j (by simpa [renL_map] using hj)
 | slnil sz s tip hs ht =>
  refine .slnil _ _ _ (by rw [Seq.ren_toList, hs]; rfl) (fun id h => ?_)
  cases tip <;> simp only [Tip.ren, Tip.tok.injEq, reduceCtorEq] at h
  subst h; exact hl _ _ (ht _ rfl)
 | slz sz s tip a hs hn ht =>
  refine .slz _ _ _ a (by rw [Seq.ren_toList, hs]; rfl) (fun h => hn (by cases tip <;> simp [Tip.ren] at h ⊢)) (fun id h => ?_)
  cases tip <;> simp only [Tip.ren, Tip.tok.injEq, reduceCtorEq] at h
  subst h; exact hl _ _ (ht _ rfl)
 | sl sz s tip b o cap vals hz h1 h2 hcap hnil hfull htok ih =>
  have hlen : (Seq.ren ρ s).toList.length = s.toList.length := by rw [Seq.ren_toList]; simp
  have hg := VRel.sl (M := M) (w := w) (loc := loc) sz (Seq.ren ρ s) (tip.ren ρ) b o cap vals
   (fun i hi => by simp only [Seq.ren_toList, List.getElem_map, List.length_map]; exact hz i (by rwa [hlen] at hi))
   (fun i j hi hj => h1 i j (by rwa [hlen] at hi) hj)
   (fun i j hi hj => by
    simp only [Seq.ren_toList, List.getElem_map]
    exact ih i j (by rwa [hlen] at hi) (by simpa [Seq.ren_toList] using hj))
   (by rwa [hlen]) (by cases tip <;> simp [Tip.ren] at hnil ⊢) (by rw [hlen]; intro h; exact hfull (by cases tip <;> simp [Tip.ren] at h ⊢))
   (fun id h => by
    cases tip <;> simp only [Tip.ren, Tip.tok.injEq, reduceCtorEq] at h
    subst h
    rw [hlen]
    rcases htok _ rfl with ⟨c1, c2⟩ | ⟨c1, c2⟩
    ·exact .inl ⟨hl _ _ c1, c2⟩
    ·exact .inr ⟨hl _ _ c1, c2⟩)
  rw [hlen] at hg
  exact hg
 | msl sz id off len b cap h hle hc => exact .msl _ _ _ _ b cap (hl _ _ h) hle hc
 | mptr sz id i off b h => exact .mptr _ _ _ _ b (hl _ _ h)
 | agg cs vs hs h ih => exact .agg _ _ (by simp [renL_map, hs]) (fun i hi => by simp only [renL_map, List.getElem_map]; exact ih i (by simpa [renL_map] using hi))
 | tup cs vs hs h ih => exact .tup _ _ (by simp [renL_map, hs]) (fun i hi => by simp only [renL_map, List.getElem_map]; exact ih i (by simpa [renL_map] using hi))
 | fn f cs vs hs h ih => exact .fn f _ _ (by simp [renL_map, hs]) (fun i hi => by simp only [renL_map, List.getElem_map]; exact ih i (by simpa [renL_map] using hi))
 | bfn f cs vs hs h ih => exact .bfn f _ _ (by simp [renL_map, hs]) (fun i hi => by simp only [renL_map, List.getElem_map]; exact ih i (by simpa [renL_map] using hi))
 | nilf => exact .nilf
 | iface t a v h ih => exact .iface t _ v ih
 | nili => exact .nili
 | nmap => exact .nmap
 | map id b h => exact .map _ b (hl _ _ h)
 | meth t n a v h ih => exact .meth t n _ v ih
 | yld id b h => exact .yld _ b (hl _ _ h)
 | csl sz id off len b cap h hle => exact .csl _ _ _ _ b cap (hl _ _ h) hle
theorem VRel.ren_from (hl : ∀ i l, loc (ρ i) = some l → loc2 i = some l) {a' v} (h : VRel M w loc a' v) : ∀ a, a' = AV.ren ρ a → VRel M w loc2 a v := by
 induction h with
 | bad v => intro a e; cases a <;> simp only [AV.ren, reduceCtorEq] at e; exact .bad v
 | int k n => intro a e; cases a <;> simp only [AV.ren, AV.int.injEq, reduceCtorEq] at e; obtain ⟨rfl, rfl⟩ := e; exact .int _ _
 | bool b => intro a e; cases a <;> simp only [AV.ren, AV.bool.injEq, reduceCtorEq] at e; subst e; exact .bool _
 | str s => intro a e; cases a <;> simp only [AV.ren, AV.str.injEq, reduceCtorEq] at e; subst e; exact .str _
 | nilp => intro a e; cases a <;> simp only [AV.ren, reduceCtorEq] at e; exact .nilp
 | ptr id off b h =>
  intro a e; cases a <;> simp only [AV.ren, AV.ptr.injEq, reduceCtorEq] at e; obtain ⟨rfl, rfl⟩ := e
  exact .ptr _ _ b (hl _ _ h)
 | iptr cs off b o vals h1 h2 ih =>
  intro a e; cases a <;> simp only [AV.ren, AV.iptr.injEq, reduceCtorEq] at e; obtain ⟨rfl, rfl⟩ := e
  refine .iptr _ _ b o vals (fun j hj => h1 j (by simpa [renL_map] using hj)) (fun j hj => ih j (by simpa [renL_map] using hj) _ (by simp [renL_map]))
 | slnil sz s tip hs ht =>
  intro a e; cases a <;> simp only [AV.ren, AV.sl.injEq, reduceCtorEq] at e; obtain ⟨rfl, rfl, rfl⟩ := e
  refine .slnil _ _ _ (by rw [Seq.ren_toList] at hs; simpa using hs) (fun id h => ?_)
  subst h; exact hl _ _ (ht _ rfl)
 | slz sz s tip ad hs hn ht =>
  intro a e; cases a <;> simp only [AV.ren, AV.sl.injEq, reduceCtorEq] at e; obtain ⟨rfl, rfl, rfl⟩ := e
  refine .slz _ _ _ ad (by rw [Seq.ren_toList] at hs; simpa using hs) (fun h => hn (by rw [h]; rfl)) (fun id h => ?_)
  subst h; exact hl _ _ (ht _ rfl)
 | sl sz s tip b o cap vals hz h1 h2 hcap hnil hfull htok ih =>
  intro a e; cases a <;> simp only [AV.ren, AV.sl.injEq, reduceCtorEq] at e; obtain ⟨rfl, rfl, rfl⟩ := e
  rename_i s tip
  have hlen : (Seq.ren ρ s).toList.length = s.toList.length := by rw [Seq.ren_toList]; simp
  have hg := VRel.sl (M := M) (w := w) (loc := loc2) sz s tip b o cap vals
   (fun i hi => by have := hz i (by rwa [hlen]); simpa [Seq.ren_toList] using this)
   (fun i j hi hj => h1 i j (by rwa [hlen]) hj)
   (fun i j hi hj => ih i j (by rwa [hlen]) (by simpa [Seq.ren_toList] using hj) _ (by simp [Seq.ren_toList]))
   (by rwa [hlen] at hcap) (by cases tip <;> simp [Tip.ren] at hnil ⊢) (by intro h; subst h; have := hfull rfl; rwa [hlen] at this)
   (fun id h => by
    subst h
    have := htok _ rfl
    rw [hlen] at this
    rcases this with ⟨c1, c2⟩ | ⟨c1, c2⟩
    ·exact .inl ⟨hl _ _ c1, c2⟩
    ·exact .inr ⟨hl _ _ c1, c2⟩)
  rw [hlen]
  exact hg
 | msl sz id off len b cap h hle hc =>
  intro a e; cases a <;> simp only [AV.ren, AV.msl.injEq, reduceCtorEq] at e; obtain ⟨rfl, rfl, rfl, rfl⟩ := e
  exact .msl _ _ _ _ b cap (hl _ _ h) hle hc
 | mptr sz id i off b h =>
  intro a e; cases a <;> simp only [AV.ren, AV.mptr.injEq, reduceCtorEq] at e; obtain ⟨rfl, rfl, rfl, rfl⟩ := e
  exact .mptr _ _ _ _ b (hl _ _ h)
 | agg cs vs hs h ih =>
  intro a e; cases a <;> simp only [AV.ren, AV.agg.injEq, reduceCtorEq] at e; subst e
  exact .agg _ _ (by simpa [renL_map] using hs) (fun i hi => ih i (by simpa [renL_map] using hi) _ (by simp [renL_map]))
 | tup cs vs hs h ih =>
  intro a e; cases a <;> simp only [AV.ren, AV.tup.injEq, reduceCtorEq] at e; subst e
  exact .tup _ _ (by simpa [renL_map] using hs) (fun i hi => ih i (by simpa [renL_map] using hi) _ (by simp [renL_map]))
 | fn f cs vs hs h ih =>
  intro a e; cases a <;> simp only [AV.ren, AV.fn.injEq, reduceCtorEq] at e; obtain ⟨rfl, rfl⟩ := e
  exact .fn _ _ _ (by simpa [renL_map] using hs) (fun i hi => ih i (by simpa [renL_map] using hi) _ (by simp [renL_map]))
 | bfn f cs vs hs h ih =>
  intro a e; cases a <;> simp only [AV.ren, AV.bfn.injEq, reduceCtorEq] at e; obtain ⟨rfl, rfl⟩ := e
  exact .bfn _ _ _ (by simpa [renL_map] using hs) (fun i hi => ih i (by simpa [renL_map] using hi) _ (by simp [renL_map]))
 | nilf => intro a e; cases a <;> simp only [AV.ren, reduceCtorEq] at e; exact .nilf
 | iface t a v h ih =>
  intro a e; cases a <;> simp only [AV.ren, AV.iface.injEq, reduceCtorEq] at e; obtain ⟨rfl, rfl⟩ := e
  exact .iface _ _ v (ih _ rfl)
 | nili => intro a e; cases a <;> simp only [AV.ren, reduceCtorEq] at e; exact .nili
 | nmap => intro a e; cases a <;> simp only [AV.ren, reduceCtorEq] at e; exact .nmap
 | map id b h =>
  intro a e; cases a <;> simp only [AV.ren, AV.map.injEq, reduceCtorEq] at e; subst e
  exact .map _ b (hl _ _ h)
 | meth t n a v h ih =>
  intro a e; cases a <;> simp only [AV.ren, AV.meth.injEq, reduceCtorEq] at e; obtain ⟨rfl, rfl, rfl⟩ := e
  exact .meth _ _ _ v (ih _ rfl)
 | yld id b h =>
  intro a e; cases a <;> simp only [AV.ren, AV.yld.injEq, reduceCtorEq] at e; subst e
  exact .yld _ b (hl _ _ h)
 | csl sz id off len b cap h hle =>
  intro a e; cases a <;> simp only [AV.ren, AV.csl.injEq, reduceCtorEq] at e; obtain ⟨rfl, rfl, rfl, rfl⟩ := e
  exact .csl _ _ _ _ b cap (hl _ _ h) hle
theorem ORel.ren_to (hl : ∀ i l, loc2 i = some l → loc (ρ i) = some l) {l o} (h : ORel M w loc2 l o) : ORel M w loc l (AObj.ren ρ o) := by
 cases o with
 | gone => trivial
 | cells cs =>
  obtain ⟨b, vs, T, fr, e, h1, h2, h3, h4, h5, h6⟩ := h
  refine ⟨b, vs, T, fr, e, h1, h2, h3, h4, by simp [renL_map, h5], fun i hi => ?_⟩
  simp only [renL_map, List.getElem_map]
  exact (h6 i (by simpa [renL_map] using hi)).ren_to hl
 | tok => exact h
 | arr sz s =>
  obtain ⟨b, vs, T, fr, e, h1, h2, h3, h4, h5, h6, h7⟩ := h
  have hlen : (Seq.ren ρ s).toList.length = s.toList.length := by rw [Seq.ren_toList]; simp
  refine ⟨b, vs, T, fr, e, h1, h2, h3, h4, by rw [hlen]; exact h5, fun i hi => ?_, fun i j hi hj => ?_⟩
  ·simp only [Seq.ren_toList, List.getElem_map, List.length_map]; exact h6 i (by rwa [hlen] at hi)
  ·obtain ⟨v, hv, hr⟩ := h7 i j (by rwa [hlen] at hi) (by simpa [Seq.ren_toList] using hj)
   refine ⟨v, hv, ?_⟩
   simp only [Seq.ren_toList, List.getElem_map]
   exact hr.ren_to hl
 | siter s pos => exact h
 | mp es =>
  obtain ⟨b, ents, clock, e, h1, h2, h3, hq, h4, h5⟩ := h
  refine ⟨b, ents, clock, e, h1, h2, h3, hq, by simp [h4, MM.ren_toList], fun i hi => ?_⟩
  obtain ⟨k1, k2⟩ := h5 i (by simpa [MM.ren_toList] using hi)
  simp only [MM.ren_toList, List.getElem_map]
  exact ⟨k1, k2.ren_to hl⟩
 | mpv es z =>
  obtain ⟨b, ents, clock, e, h1, h2, h3, hq, h4, h5⟩ := h
  refine ⟨b, ents, clock, e, h1, h2, h3, hq, by simp [h4, MM.ren_toList], fun i hi => ?_⟩
  obtain ⟨k1, k2⟩ := h5 i (by simpa [MM.ren_toList] using hi)
  simp only [MM.ren_toList, List.getElem_map]
  exact ⟨k1, k2.ren_to hl⟩
 | mit id z ps =>
  obtain ⟨b, mb, seen, e, h1, h2, h3, h4, h5⟩ := h
  exact ⟨b, mb, seen, e, h1, h2, h3, hl _ _ h4, h5⟩
 | csz id sz c =>
  obtain ⟨e, b, vs, T, fr, h1, h2, h3⟩ := h
  exact ⟨e, b, vs, T, fr, hl _ _ h1, h2, h3⟩
 | lp N s ps asg body st =>
  obtain ⟨b, rec, e, h1, h2, h3, h4, h5, h6, h7, h8, h9⟩ := h
  exact ⟨b, rec, e, h1, h2, h3, h4, h5, h6, h7, fun d => by rw [get_renS]; exact (h8 d).ren_to hl, h9⟩
theorem ORel.ren_from (hl : ∀ i l, loc (ρ i) = some l → loc2 i = some l) {l o} (h : ORel M w loc l (AObj.ren ρ o)) : ORel M w loc2 l o := by
 cases o with
 | gone => trivial
 | cells cs =>
  obtain ⟨b, vs, T, fr, e, h1, h2, h3, h4, h5, h6⟩ := h
  exact ⟨b, vs, T, fr, e, h1, h2, h3, h4, by simpa [renL_map] using h5, fun i hi => (h6 i (by simpa [renL_map] using hi)).ren_from hl _ (by simp [renL_map])⟩
 | tok => exact h
 | arr sz s =>
  obtain ⟨b, vs, T, fr, e, h1, h2, h3, h4, h5, h6, h7⟩ := h
  have hlen : (Seq.ren ρ s).toList.length = s.toList.length := by rw [Seq.ren_toList]; simp
  refine ⟨b, vs, T, fr, e, h1, h2, h3, h4, by rw [hlen] at h5; exact h5, fun i hi => ?_, fun i j hi hj => ?_⟩
  ·have := h6 i (by rwa [hlen]); simpa [Seq.ren_toList] using this
  ·obtain ⟨v, hv, hr⟩ := h7 i j (by rwa [hlen]) (by simpa [Seq.ren_toList] using hj)
   exact ⟨v, hv, hr.ren_from hl _ (by simp [Seq.ren_toList])⟩
 | siter s pos => exact h
 | mp es =>
  obtain ⟨b, ents, clock, e, h1, h2, h3, hq, h4, h5⟩ := h
  refine ⟨b, ents, clock, e, h1, h2, h3, hq, by simpa [MM.ren_toList] using h4, fun i hi => ?_⟩
  obtain ⟨k1, k2⟩ := h5 i (by simpa [MM.ren_toList] using hi)
  simp only [MM.ren_toList, List.getElem_map] at k1 k2
  exact ⟨k1, k2.ren_from hl _ rfl⟩
 | mpv es z =>
  obtain ⟨b, ents, clock, e, h1, h2, h3, hq, h4, h5⟩ := h
  refine ⟨b, ents, clock, e, h1, h2, h3, hq, by simpa [MM.ren_toList] using h4, fun i hi => ?_⟩
  obtain ⟨k1, k2⟩ := h5 i (by simpa [MM.ren_toList] using hi)
  simp only [MM.ren_toList, List.getElem_map] at k1 k2
  exact ⟨k1, k2.ren_from hl _ rfl⟩
 | mit id z ps =>
  obtain ⟨b, mb, seen, e, h1, h2, h3, h4, h5⟩ := h
  exact ⟨b, mb, seen, e, h1, h2, h3, hl _ _ h4, h5⟩
 | csz id sz c =>
  obtain ⟨e, b, vs, T, fr, h1, h2, h3⟩ := h
  exact ⟨e, b, vs, T, fr, hl _ _ h1, h2, h3⟩
 | lp N s ps asg body st =>
  obtain ⟨b, rec, e, h1, h2, h3, h4, h5, h6, h7, h8, h9⟩ := h
  exact ⟨b, rec, e, h1, h2, h3, h4, h5, h6, h7, fun d => (h8 d).ren_from hl _ (by rw [get_renS]), h9⟩
end
end Go.Ab
end

noncomputable section
namespace Go.Ab
def selR (l : List Nat) (m : Nat) : Nat → Nat := fun i => l.getD i m
def isGone : AObj → Bool
 | .gone => true
 | _ => false
def Sel (n : Nat) (l : List Nat) (H H2 : List AObj) : Prop :=
 l.Nodup ∧ l.length = H2.length ∧ n ≤ l.length ∧ (∀ i, i < n → l[i]? = some i) ∧ ∀ i (h : i < H2.length), (H[l.getD i H.length]? = some (AObj.ren (selR l H.length) H2[i])) ∨ (isGone H2[i] = true ∧ l.getD i H.length < H.length)
section
variable {P : Program} {M : Mem} {w : World} {loc : Locs} {H H2 : List AObj} {n : Nat}
theorem gone_ren {ρ : Nat → Nat} {o : AObj} (h : AObj.ren ρ o = .gone) : o = .gone := by
 cases o <;> simp [AObj.ren] at h ⊢
theorem Rel.select {l : List Nat} (hr : Rel M loc H w) (hs : Sel n l H H2) :
  Rel M (fun i => loc (selR l H.length i)) H2 w ∧ StepN n M loc H w M (fun i => loc (selR l H.length i)) H2 w := by
 obtain ⟨hnd, hlen, hn, hid, hobj⟩ := hs
 have hget : ∀ (i : Nat) (o : AObj), H2[i]? = some o → (o = .gone → False) → i < H2.length ∧ H[selR l H.length i]? = some (AObj.ren (selR l H.length) o) := by
  intro i o hi hg
  obtain ⟨hlt, rfl⟩ := List.getElem?_eq_some_iff.1 hi
  rcases hobj i hlt with h | ⟨h, _⟩
  ·exact ⟨hlt, h⟩
  ·exfalso; apply hg; revert h; cases H2[i] <;> simp [isGone]
 have hinj : ∀ i j, i < H2.length → j < H2.length → selR l H.length i = selR l H.length j → i = j := by
  intro i j hi hj e
  have hi' : i < l.length := by omega
  have hj' : j < l.length := by omega
  simp only [selR, getD_lt _ _ _ hi', getD_lt _ _ _ hj'] at e
  rcases Nat.lt_trichotomy i j with q | q | q
  ·exact (List.pairwise_iff_getElem.1 hnd i j hi' hj' q e).elim
  ·exact q
  ·exact (List.pairwise_iff_getElem.1 hnd j i hj' hi' q e.symm).elim
 have hlg : ∀ i l', loc (selR l H.length i) = some l' → (fun i => loc (selR l H.length i)) i = some l' := fun i l' h => h
 have hgone : ∀ o : AObj, (o = .gone → False) → (AObj.ren (selR l H.length) o = .gone → False) := fun o h e => h (gone_ren e)
 refine ⟨⟨hr.base, hr.ext, ?_, ?_, ?_⟩, ⟨rfl, Nat.le_refl _, rfl, rfl, rfl, fun _ _ _ => ⟨rfl, rfl⟩, fun _ _ _ h => h, fun _ cs _ fr h => ⟨cs, fr, h, rfl⟩, ?_, ?_, by omega⟩⟩
 ·intro i hi
  refine hr.dom _ ?_
  simp [selR, List.getD, List.getElem?_eq_none (show l.length ≤ i by omega)]
 ·intro i o hi
  by_cases hg : o = .gone
  ·subst hg; trivial
  ·obtain ⟨_, h⟩ := hget i o hi hg
   exact (hr.objs _ _ h).ren_from hlg
 ·intro i j oi oj li lj b hi hj gi gj hli hlj bi bj
  obtain ⟨h1, h2⟩ := hget i oi hi gi
  obtain ⟨h3, h4⟩ := hget j oj hj gj
  exact hinj i j h1 h3 (hr.inj _ _ _ _ li lj b h2 h4 (hgone _ gi) (hgone _ gj) hli hlj bi bj)
 ·intro b _ ⟨i, o, l', hi, hg, hl, hb⟩
  obtain ⟨_, h⟩ := hget i o hi hg
  exact ⟨_, _, l', h, hgone _ hg, hl, hb⟩
 ·intro i hi
  have := hid i hi
  simp only [selR, List.getD, this, Option.getD_some]
def ReSt (n : Nat) (s : Slots) (H : List AObj) (s2 : Slots) (H2 : List AObj) : Prop :=
 ∀ M loc w (tmps : Array Value), n ≤ H.length → Rel M loc H w → SRel M w loc s tmps → ∃ M2 loc2, Rel M2 loc2 H2 w ∧ SRel M2 w loc2 s2 tmps ∧ StepN n M loc H w M2 loc2 H2 w
theorem ReSt.trans {s H s1 H1 s2 H2} (h : ReSt n s H s1 H1) (k : ReSt n s1 H1 s2 H2) : ReSt n s H s2 H2 := by
 intro M loc w tmps h0 h1 h2
 obtain ⟨M1, l1, a1, a2, a3⟩ := h M loc w tmps h0 h1 h2
 obtain ⟨M2, l2, b1, b2, b3⟩ := k M1 l1 w tmps a3.len a1 a2
 exact ⟨M2, l2, b1, b2, a3.trans b3 (Nat.le_refl _)⟩
theorem AWP.re {ro : Option Nat} {N : Nat} {c : Code} {s s2 : Slots} {Q : AQ} (h : ReSt n s H s2 H2) (k : AWPr ro P N n c s2 H2 Q) : AWPr ro P N n c s H Q := by
 intro M loc w a h0 h1 h2 h3 dm h4 ht
 obtain ⟨M2, l2, b1, b2, b3⟩ := h M loc w a.tmps h0 h1 h2
 exact wpIn_mono (k M2 l2 w a b3.len b1 b2 h3 dm (h4.step b3) (ht.step h1 b3)) fun e a w => QC.step b3 (Nat.le_refl _)
def Le (a b : AV) : Prop := ∀ M w loc v, VRel M w loc a v → VRel M w loc b v
theorem Le.refl (a : AV) : Le a a := fun _ _ _ _ h => h
theorem Le.bad (a : AV) : Le a .bad := fun _ _ _ v _ => .bad v
theorem Le.trans {a b c : AV} (h : Le a b) (k : Le b c) : Le a c := fun M w loc v x => k M w loc v (h M w loc v x)
theorem Le.sl {sz sz' : Nat} {s s' : Seq} {tip tip' : Tip} (hs : s'.toList = s.toList) (hz : sz' = sz ∨ (s.toList = [] ∧ ∀ id, tip' ≠ .tok id)) (ht : tip' = tip ∨ tip' = .none) : Le (.sl sz s tip) (.sl sz' s' tip') := by
 intro M w loc v h
 cases h with
 | slnil _ _ _ h1 h2 =>
  refine .slnil _ _ _ (by rw [hs]; exact h1) (fun id e => ?_)
  rcases ht with rfl | rfl
  ·exact h2 id e
  ·cases e
 | slz _ _ _ ad h1 hn h2 =>
  refine .slz _ _ _ ad (by rw [hs]; exact h1) ?_ (fun id e => ?_)
  ·rcases ht with rfl | rfl
   ·exact hn
   ·intro e; cases e
  ·rcases ht with rfl | rfl
   ·exact h2 id e
   ·cases e
 | sl _ _ _ b o cap vals hz' h1 h2 hcap hnil hfull htok =>
  have hsz : ∀ (i : Nat) (h : i < s.toList.length), sz' = sz := by
   intro i h
   rcases hz with e | e
   ·exact e
   ·rw [e.1] at h; simp at h
  rw [← hs]
  refine .sl sz' s' tip' b o cap vals (fun i hi => ?_) (fun i j hi hj => ?_) (fun i j hi hj => ?_) (by rw [hs]; exact hcap) ?_ ?_ ?_
  ·have hi' : i < s.toList.length := by rwa [hs] at hi
   rw [hsz i hi']
   have := hz' i hi'
   simpa [hs] using this
  ·have hi' : i < s.toList.length := by rwa [hs] at hi
   rw [hsz i hi'] at hj ⊢
   exact h1 i j hi' hj
  ·have hi' : i < s.toList.length := by rwa [hs] at hi
   have := h2 i j hi' (by simpa [hs] using hj)
   simpa [hs] using this
  ·rcases ht with rfl | rfl
   ·exact hnil
   ·intro h; cases h
  ·rcases ht with rfl | rfl
   ·rw [hs]; exact hfull
   ·intro h; cases h
  ·intro id e
   rcases ht with rfl | rfl
   ·rw [hs]
    rcases htok id e with c | ⟨c1, cs, T, fr, c2, c3⟩
    ·exact .inl c
    ·rcases hz with ez | ez
     ·subst ez; exact .inr ⟨c1, cs, T, fr, c2, c3⟩
     ·exact (ez.2 id e).elim
   ·cases e
theorem ReSt.le {s s2 : Slots} (h : ∀ d, Le (get s d) (get s2 d)) (hn : n ≤ H.length) : ReSt n s H s2 H :=
 fun M loc w tmps h0 h1 h2 => ⟨M, loc, h1, fun d => h d M w loc _ (h2 d), (Step.refl M loc H w).mono hn⟩
theorem ReSt.sel {l : List Nat} {s s2 : Slots} (hs : Sel n l H H2) (h : ∀ d, get s d = AV.ren (selR l H.length) (get s2 d) ∨ get s2 d = .bad) : ReSt n s H s2 H2 := by
 intro M loc w tmps h0 h1 h2
 obtain ⟨r1, r2⟩ := h1.select hs
 refine ⟨_, _, r1, fun d => ?_, r2⟩
 rcases h d with e | e
 ·have := h2 d
  rw [e] at this
  exact this.ren_from (fun i l' h => h) _ rfl
 ·rw [e]; exact .bad _
theorem ReSt.tok {s s2 : Slots} {k sz sz' : Nat} {q q' : Seq} {tip : Tip} (hk : get s k = .sl sz q tip) (ht : tip = .nil ∨ tip = .full) (hq : q'.toList = q.toList) (hz : sz' = sz ∨ q.toList = [])
  (h2 : ∀ d, d ≠ k → get s2 d = get s d) (h2k : get s2 k = .sl sz' q' (.tok H.length)) : ReSt n s H s2 (H ++ [.tok]) := by
 intro M loc w tmps h0 h1 h3
 obtain ⟨r1, r2⟩ := h1.xtok
 have hkeep := r2.keeps h1
 refine ⟨_, _, r1, fun d => ?_, r2.mono h0⟩
 by_cases e : d = k
 ·subst e
  have hv := h3 d
  rw [hk] at hv
  rw [h2k]
  generalize tmps.getD d undef = v at hv
  cases hv with
  | slnil _ _ _ c1 c2 => exact .slnil _ _ _ (by rw [hq]; exact c1) (fun id e => by cases e; simp [locSet])
  | slz _ _ _ ad c1 _ c2 => exact .slz _ _ _ ad (by rw [hq]; exact c1) (fun e => by cases e) (fun id e => by cases e; simp [locSet])
  | sl _ _ _ b o cap vals hz' d1 d2 hcap hnil hfull htok =>
   have hf : tip = .full := by
    rcases ht with rfl | rfl
    ·exact (hnil rfl).elim
    ·rfl
   have hsz : ∀ (i : Nat) (h : i < q.toList.length), sz' = sz := by
    intro i h
    rcases hz with e | e
    ·exact e
    ·rw [e] at h; simp at h
   rw [← hq]
   refine .sl sz' q' _ b o cap vals (fun i hi => ?_) (fun i j hi hj => ?_) (fun i j hi hj => ?_) (by rw [hq]; exact hcap) (by intro h; cases h) (by intro h; cases h) ?_
   ·have hi' : i < q.toList.length := by rwa [hq] at hi
    rw [hsz i hi']
    have := hz' i hi'
    simpa [hq] using this
   ·have hi' : i < q.toList.length := by rwa [hq] at hi
    rw [hsz i hi'] at hj ⊢
    exact hkeep.imm _ _ _ (d1 i j hi' hj)
   ·have hi' : i < q.toList.length := by rwa [hq] at hi
    have := (d2 i j hi' (by simpa [hq] using hj)).keeps hkeep
    simpa [hq] using this
   ·intro id e
    cases e
    rw [hq]
    exact .inl ⟨by simp [locSet], hfull hf⟩
 ·rw [h2 d e]
  exact (h3 d).keeps hkeep
theorem ReSt.freeze {s s2 : Slots} {id sz : Nat} {q : Seq} (ho : H[id]? = some (.arr sz q)) (hn : n ≤ H.length)
  (h2 : ∀ d, get s2 d = get s d ∨ get s2 d = .bad ∨ ∃ off len q', get s d = .msl sz id off len ∧ off + len ≤ q.toList.length ∧ get s2 d = .sl sz q' .none ∧ q'.toList = (q.toList.take (off + len)).drop off) :
  ReSt n s H s2 (H.set id .gone) := by
 intro M loc w tmps h0 h1 h3
 obtain ⟨b, vs, T, fr, hl, c1, c2, c3, c4, c5, c6, c7⟩ := h1.objs id _ ho
 have hng : (AObj.arr sz q = AObj.gone → False) := by intro h; cases h
 obtain ⟨r1, r2⟩ := h1.drop id
 have hnb : ∀ i o x, (H.set id AObj.gone)[i]? = some o → (o = .gone → False) → loc i = some x → x.block? ≠ some b := by
  intro i o x hi hg hx hb
  have hi' : i ≠ id ∧ H[i]? = some o := by
   rw [List.getElem?_set] at hi
   split at hi
   ·split at hi
    ·cases hi; exact (hg rfl).elim
    ·cases hi
   ·rename_i e; exact ⟨fun x => e x.symm, hi⟩
  exact hi'.1 (h1.inj i id o _ x _ b hi'.2 ho hg hng hx hl hb rfl)
 have hk : Keeps M w loc (M.grow b (q.toList.length * sz)) w loc := by
  refine ⟨fun c k v hi => ⟨hi.1, ?_⟩, fun _ cs _ fr h => ⟨cs, fr, h, rfl⟩, fun _ _ h => h⟩
  by_cases e : c = b
  ·subst e; rcases hi.2 with z | z <;> omega
  ·simp only [Mem.grow]; rw [if_neg e]; exact hi.2
 refine ⟨M.grow b (q.toList.length * sz), loc, ⟨r1.base, ?_, r1.dom, ?_, r1.inj⟩, fun d => ?_, ⟨rfl, Nat.le_refl _, rfl, rfl, rfl, ?_, hk.imm, hk.shape, r2.own, fun _ _ => rfl, by simpa using h0⟩⟩
 ·intro c hc
  simp only [Mem.grow] at hc ⊢
  by_cases e : c = b
  ·subst e; rw [if_pos rfl]; exact ⟨c1, vs, T, fr, c3, c5⟩
  ·rw [if_neg e] at hc ⊢; exact r1.ext c hc
 ·intro i o hi
  by_cases hg : o = .gone
  ·subst hg; trivial
  ·refine (r1.objs i o hi).keeps_far hk rfl (fun c hc => ⟨rfl, ?_⟩)
   simp only [Mem.grow]
   rw [if_neg]
   rintro rfl
   cases hx : loc i with
   | none => rw [hx] at hc; cases hc
   | some x => rw [hx] at hc; exact hnb i o x hi hg hx hc
 ·rcases h2 d with e | e | ⟨off, len, q', e1, e2, e3, e4⟩
  ·rw [e]; exact (h3 d).keeps hk
  ·rw [e]; exact .bad _
  ·have hv := h3 d
   rw [e1] at hv
   rw [e3]
   generalize tmps.getD d undef = v at hv
   cases hv with
   | msl _ _ _ _ b' cap hb' hle hc =>
   rw [hl] at hb'
   cases hb'
   have hlen : q'.toList.length = len := by rw [e4]; simp; omega
   have hget : ∀ i (hi : i < q'.toList.length), ∃ hi' : off + i < q.toList.length, q'.toList[i] = q.toList[off + i] := by
    intro i hi
    have hi2 : off + i < q.toList.length := by omega
    refine ⟨hi2, ?_⟩
    have e5 : q'.toList[i]? = some q.toList[off + i] := by
     rw [e4, List.getElem?_drop, List.getElem?_take, if_pos (by omega), List.getElem?_eq_getElem hi2]
    rw [List.getElem?_eq_getElem hi] at e5
    exact Option.some.inj e5
   have hmul : ∀ i, i < q.toList.length → i * sz + sz ≤ q.toList.length * sz := by
    intro i hi
    have := Nat.mul_le_mul_right sz (show i + 1 ≤ q.toList.length from hi)
    rwa [Nat.succ_mul] at this
   have hg := VRel.sl (M := M.grow b (q.toList.length * sz)) (w := w) (loc := loc) sz q' .none b (off * sz) cap (fun i j => vs.getD ((off + i) * sz + j) undef)
    (fun i hi => by obtain ⟨hi', e⟩ := hget i hi; rw [e]; exact c6 _ hi')
    (fun i j hi hj => by
     obtain ⟨hi', e⟩ := hget i hi
     have := hmul _ hi'
     refine ⟨?_, .inr ?_⟩
     ·rw [← Nat.add_mul, cell_eq c3, Array.getElem?_eq_getElem (by omega)]
      simp [Array.getD, show (off + i) * sz + j < vs.size by omega]
     ·simp only [Mem.grow, if_true]; rw [← Nat.add_mul]; omega)
    (fun i j hi hj => by
     obtain ⟨hi', e⟩ := hget i hi
     obtain ⟨v, hv1, hv2⟩ := c7 (off + i) j hi' (by rw [← e]; exact hj)
     simp only [e]
     rw [Array.getD_eq_getD_getElem?, hv1]
     exact hv2.keeps hk)
    (by rw [hlen]; exact hle) (by intro h; cases h) (fun h => by cases h) (fun id h => by cases h)
   rw [hlen] at hg
   exact hg
 ·intro c hc hno
  refine ⟨rfl, ?_⟩
  simp only [Mem.grow]
  rw [if_neg]
  rintro rfl
  exact hno ⟨id, _, _, ho, hng, hl, rfl⟩
def callR (l : List Nat) (m : Nat) : Nat → Nat := fun i => if i < l.length then l.getD i 0 else m + (i - l.length)
theorem ASpec.sel {f : FuncId} {args : List AV} {Post : AV → List AObj → Prop}
  (h : ASpec P f args H (fun r H' => ∃ l H2 r2, Sel H.length l H' H2 ∧ Le r (AV.ren (selR l H'.length) r2) ∧ Post r2 H2)) : ASpec P f args H Post := by
 intro M loc w vs ht hr hv
 refine (h M loc w vs ht hr hv).mono fun e w' hh => ?_
 obtain ⟨v, r, H', M', loc', he, ⟨l, H2, r2, hs, hle, hP⟩, r1, r2', r3⟩ := hh
 obtain ⟨k1, k2⟩ := r1.select hs
 exact ⟨v, _, _, _, _, he, hP, k1, (hle _ _ _ _ r2').ren_from (fun i l' h => h) _ rfl, StepN.trans r3 k2 (Nat.le_refl _)⟩
theorem ASpecX.sel {f : FuncId} {args : List AV} {Post PX : AV → List AObj → Prop}
  (h : ASpecX P f args H (fun r H' => ∃ l H2 r2, Sel H.length l H' H2 ∧ Le r (AV.ren (selR l H'.length) r2) ∧ Post r2 H2) (fun r H' => ∃ l H2 r2, Sel H.length l H' H2 ∧ Le r (AV.ren (selR l H'.length) r2) ∧ PX r2 H2)) : ASpecX P f args H Post PX := by
 intro M loc w vs ht hr hv
 refine (h M loc w vs ht hr hv).mono fun e w' hh => ?_
 rcases hh with ⟨v, r, H', M', loc', he, ⟨l, H2, r2, hs, hle, hP⟩, r1, r2', r3⟩ | ⟨v, r, H', M', loc', he, ⟨l, H2, r2, hs, hle, hP⟩, r1, r2', r3⟩
 ·obtain ⟨k1, k2⟩ := r1.select hs
  exact .inl ⟨v, _, _, _, _, he, hP, k1, (hle _ _ _ _ r2').ren_from (fun i l' h => h) _ rfl, StepN.trans r3 k2 (Nat.le_refl _)⟩
 ·obtain ⟨k1, k2⟩ := r1.select hs
  exact .inr ⟨v, _, _, _, _, he, hP, k1, (hle _ _ _ _ r2').ren_from (fun i l' h => h) _ rfl, StepN.trans r3 k2 (Nat.le_refl _)⟩
end
end Go.Ab
end

noncomputable section
namespace Go.Ab
section
variable {P : Program} {M : Mem} {w : World} {loc : Locs} {H : List AObj} {n : Nat}
def grafted (ρ : Nat → Nat) : List Nat → List AObj → List AObj → List AObj
 | [], _, H => H
 | _ :: _, [], H => H
 | k :: l, o :: Hl, H => grafted ρ l Hl (H.set k (AObj.ren ρ o))
theorem grafted_length (ρ : Nat → Nat) : ∀ (l : List Nat) (Hl H : List AObj), (grafted ρ l Hl H).length = H.length
 | [], _, H => rfl
 | _ :: _, [], H => rfl
 | k :: l, o :: Hl, H => by simp [grafted, grafted_length ρ l Hl]
theorem grafted_other (ρ : Nat → Nat) : ∀ (l : List Nat) (Hl H : List AObj) (j : Nat), j ∉ l → (grafted ρ l Hl H)[j]? = H[j]?
 | [], _, H, j, _ => rfl
 | _ :: _, [], H, j, _ => rfl
 | k :: l, o :: Hl, H, j, h => by
  simp only [List.mem_cons, not_or] at h
  rw [grafted, grafted_other ρ l Hl _ j h.2, List.getElem?_set_ne (fun e => h.1 e.symm)]
theorem grafted_get (ρ : Nat → Nat) : ∀ (l : List Nat) (Hl H : List AObj), l.Nodup → (∀ k ∈ l, k < H.length) → ∀ i (h : i < l.length) (h' : i < Hl.length), (grafted ρ l Hl H)[l[i]]? = some (AObj.ren ρ Hl[i])
 | [], _, H, _, _, i, h, _ => by simp at h
 | _ :: _, [], H, _, _, i, _, h' => by simp at h'
 | k :: l, o :: Hl, H, hnd, hlt, 0, h, h' => by
  rw [List.nodup_cons] at hnd
  simp only [List.getElem_cons_zero, grafted]
  rw [grafted_other ρ l Hl _ k hnd.1, List.getElem?_set_self (hlt k (by simp))]
 | k :: l, o :: Hl, H, hnd, hlt, i + 1, h, h' => by
  rw [List.nodup_cons] at hnd
  simp only [List.getElem_cons_succ, grafted]
  exact grafted_get ρ l Hl _ hnd.2 (fun q hq => by simpa using hlt q (by simp [hq])) i (by simpa using h) (by simpa using h')
def graftH (ρ : Nat → Nat) (l : List Nat) (H Hl : List AObj) : List AObj := grafted ρ l Hl H ++ (Hl.drop l.length).map (AObj.ren ρ)
theorem Rel.part {l : List Nat} {Hl : List AObj} (hr : Rel M loc H w) (hnd : l.Nodup) (hlen : l.length = Hl.length)
  (hobj : ∀ i (h : i < Hl.length), H[l.getD i 0]? = some (AObj.ren (callR l H.length) Hl[i])) : Rel M (fun i => loc (callR l H.length i)) Hl w := by
 have hρ : ∀ i, i < l.length → callR l H.length i = l.getD i 0 := fun i hi => by simp only [callR]; rw [if_pos hi]
 have hget : ∀ (i : Nat) (o : AObj), Hl[i]? = some o → i < l.length ∧ H[callR l H.length i]? = some (AObj.ren (callR l H.length) o) := by
  intro i o hi
  obtain ⟨hlt, rfl⟩ := List.getElem?_eq_some_iff.1 hi
  exact ⟨by omega, by rw [hρ i (by omega)]; exact hobj i hlt⟩
 have hinj : ∀ i j, i < l.length → j < l.length → callR l H.length i = callR l H.length j → i = j := by
  intro i j hi hj e
  rw [hρ i hi, hρ j hj, getD_lt _ _ _ hi, getD_lt _ _ _ hj] at e
  rcases Nat.lt_trichotomy i j with q | q | q
  ·exact (List.pairwise_iff_getElem.1 hnd i j hi hj q e).elim
  ·exact q
  ·exact (List.pairwise_iff_getElem.1 hnd j i hj hi q e.symm).elim
 have hgone : ∀ o : AObj, (o = .gone → False) → (AObj.ren (callR l H.length) o = .gone → False) := fun o h e => h (gone_ren e)
 refine ⟨hr.base, hr.ext, ?_, ?_, ?_⟩
 ·intro i hi
  refine hr.dom _ ?_
  simp only [callR]; rw [if_neg (by omega)]; omega
 ·intro i o hi
  by_cases hg : o = .gone
  ·subst hg; trivial
  ·obtain ⟨_, h⟩ := hget i o hi
   exact (hr.objs _ _ h).ren_from (fun i l' h => h)
 ·intro i j oi oj li lj b hi hj gi gj hli hlj bi bj
  obtain ⟨h1, h2⟩ := hget i oi hi
  obtain ⟨h3, h4⟩ := hget j oj hj
  exact hinj i j h1 h3 (hr.inj _ _ _ _ li lj b h2 h4 (hgone _ gi) (hgone _ gj) hli hlj bi bj)
theorem ASpecE.graft {f : FuncId} {args argsl : List AV} {Hl : List AObj} {Postl : Bool → AV → List AObj → Prop} (l : List Nat) (h : ASpecE P f argsl Hl Postl) (hnd : l.Nodup) (hlen : l.length = Hl.length)
  (hargs : args = argsl.map (AV.ren (callR l H.length))) (hobj : ∀ i (h : i < Hl.length), H[l.getD i 0]? = some (AObj.ren (callR l H.length) Hl[i])) :
  ASpecE P f args H (fun b r H' => ∃ rl Hl', Postl b rl Hl' ∧ l.length ≤ Hl'.length ∧ r = AV.ren (callR l H.length) rl ∧ H' = graftH (callR l H.length) l H Hl') := by
 intro M loc w vs ht hr hv
 have hrl := hr.part hnd hlen hobj
 have hlt : ∀ k ∈ l, k < H.length := by
  intro k hk
  obtain ⟨i, hi, rfl⟩ := List.getElem_of_mem hk
  have := hobj i (by omega)
  rw [getD_lt _ _ _ hi] at this
  exact (List.getElem?_eq_some_iff.1 this).1
 have hρ : ∀ i, i < l.length → callR l H.length i = l.getD i 0 := fun i hi => by simp only [callR]; rw [if_pos hi]
 have hargs' : VRels M w (fun i => loc (callR l H.length i)) argsl vs := by
  subst hargs
  obtain ⟨h1, h2⟩ := hv
  refine ⟨by simpa using h1, fun i hi => ?_⟩
  have := h2 i (by simpa using hi)
  exact this.ren_from (fun i l' h => h) _ (by simp)
 refine (h M _ w vs ht hrl hargs').mono fun e w' hh => ?_
 obtain ⟨bE, v, rl, Hl', M', locl', he, hP, r1, r2, r3⟩ := hh
 have hle : l.length ≤ Hl'.length := by rw [hlen]; exact r3.len
 let loc' : Locs := fun j => if j < H.length then loc j else locl' (l.length + (j - H.length))
 have hl' : ∀ i x, locl' i = some x → loc' (callR l H.length i) = some x := by
  intro i x hx
  by_cases hi : i < l.length
  ·rw [hρ i hi]
   have h1 : l.getD i 0 < H.length := by rw [getD_lt _ _ _ hi]; exact hlt _ (List.getElem_mem hi)
   show (if l.getD i 0 < H.length then _ else _) = _
   rw [if_pos h1]
   have h2 := r3.locs i (by omega)
   rw [hx] at h2
   simp only [hρ i hi] at h2
   exact h2.symm
  ·simp only [callR]; rw [if_neg hi]
   show (if H.length + (i - l.length) < H.length then _ else _) = _
   rw [if_neg (by omega), show l.length + (H.length + (i - l.length) - H.length) = i by omega]
   exact hx
 have hlow : ∀ j, j < H.length → loc' j = loc j := fun j hj => by show (if j < H.length then _ else _) = _; rw [if_pos hj]
 have hHlen : (graftH (callR l H.length) l H Hl').length = H.length + (Hl'.length - l.length) := by simp [graftH, grafted_length]
 -- where an object of the new heap comes from
 have hcase : ∀ (j : Nat) (o : AObj), (graftH (callR l H.length) l H Hl')[j]? = some o →
   (j < H.length ∧ j ∉ l ∧ H[j]? = some o) ∨ (∃ i o', Hl'[i]? = some o' ∧ o = AObj.ren (callR l H.length) o' ∧ j = callR l H.length i) := by
  intro j o hj
  by_cases hjl : j < H.length
  ·rw [graftH, List.getElem?_append_left (by rw [grafted_length]; exact hjl)] at hj
   by_cases hm : j ∈ l
   ·right
    obtain ⟨i, hi, rfl⟩ := List.getElem_of_mem hm
    rw [grafted_get _ _ _ _ hnd hlt i hi (by omega)] at hj
    cases hj
    refine ⟨i, _, List.getElem?_eq_getElem (by omega), rfl, ?_⟩
    rw [hρ i hi, getD_lt _ _ _ hi]
   ·left
    rw [grafted_other _ _ _ _ _ hm] at hj
    exact ⟨hjl, hm, hj⟩
  ·right
   rw [graftH, List.getElem?_append_right (by rw [grafted_length]; omega), grafted_length, List.getElem?_map, List.getElem?_drop] at hj
   cases ho : Hl'[l.length + (j - H.length)]? with
   | none => rw [ho] at hj; cases hj
   | some o' =>
    rw [ho] at hj; cases hj
    refine ⟨_, o', ho, rfl, ?_⟩
    simp only [callR]; rw [if_neg (by omega)]; omega
 have hkeep : Keeps M w loc M' w' loc' := ⟨r3.imm, r3.shape, fun i x hx => by rw [hlow i (hr.lt hx)]; exact hx⟩
 -- the blocks that the function saw
 have hownl : ∀ b, Owned (fun i => loc (callR l H.length i)) Hl b → ∃ i, i < l.length ∧ ∃ o x, H[l.getD i 0]? = some o ∧ (o = .gone → False) ∧ loc (l.getD i 0) = some x ∧ x.block? = some b := by
  rintro b ⟨i, o, x, hi, hg, hx, hb⟩
  obtain ⟨hil, rfl⟩ := List.getElem?_eq_some_iff.1 hi
  have hi' : i < l.length := by omega
  refine ⟨i, hi', _, x, hobj i hil, fun e => hg (gone_ren e), ?_, hb⟩
  simp only [hρ i hi'] at hx
  exact hx
 have hunseen : ∀ j o x b, H[j]? = some o → (o = .gone → False) → loc j = some x → x.block? = some b → j ∉ l → ¬ Owned (fun i => loc (callR l H.length i)) Hl b := by
  intro j o x b ho hg hx hb hm hown
  obtain ⟨i, hi, o2, x2, ho2, hg2, hx2, hb2⟩ := hownl b hown
  have := hr.inj _ _ _ _ _ _ b ho ho2 hg hg2 hx hx2 hb hb2
  rw [getD_lt _ _ _ hi] at this
  exact hm (this ▸ List.getElem_mem hi)
 have hρinj : ∀ i j, i < Hl'.length → j < Hl'.length → callR l H.length i = callR l H.length j → i = j := by
  intro i j hi hj e
  by_cases h1 : i < l.length <;> by_cases h2 : j < l.length
  ·rw [hρ i h1, hρ j h2, getD_lt _ _ _ h1, getD_lt _ _ _ h2] at e
   rcases Nat.lt_trichotomy i j with q | q | q
   ·exact (List.pairwise_iff_getElem.1 hnd i j h1 h2 q e).elim
   ·exact q
   ·exact (List.pairwise_iff_getElem.1 hnd j i h2 h1 q e.symm).elim
  ·rw [hρ i h1, getD_lt _ _ _ h1] at e
   have := hlt _ (List.getElem_mem h1)
   simp only [callR] at e; rw [if_neg h2] at e; omega
  ·rw [hρ j h2, getD_lt _ _ _ h2] at e
   have := hlt _ (List.getElem_mem h2)
   simp only [callR] at e; rw [if_neg h1] at e; omega
  ·simp only [callR] at e; rw [if_neg h1, if_neg h2] at e; omega
 have hback : ∀ i x, i < Hl'.length → loc' (callR l H.length i) = some x → locl' i = some x := by
  intro i x hi hx
  by_cases h1 : i < l.length
  ·rw [hρ i h1] at hx
   have h2 : l.getD i 0 < H.length := by rw [getD_lt _ _ _ h1]; exact hlt _ (List.getElem_mem h1)
   rw [hlow _ h2] at hx
   have h3 := r3.locs i (by omega)
   simp only [hρ i h1] at h3
   rw [h3]; exact hx
  ·simp only [callR] at hx; rw [if_neg h1] at hx
   have : loc' (H.length + (i - l.length)) = locl' i := by
    show (if H.length + (i - l.length) < H.length then _ else _) = _
    rw [if_neg (by omega), show l.length + (H.length + (i - l.length) - H.length) = i by omega]
   rw [this] at hx; exact hx
 refine ⟨bE, v, _, _, M', loc', he, ⟨rl, Hl', hP, hle, rfl, rfl⟩, ⟨?_, r1.ext, ?_, ?_, ?_⟩, r2.ren_to hl', ⟨r3.base, r3.size, r3.os, r3.tape, r3.output, ?_, r3.imm, r3.shape, ?_, hlow, by rw [hHlen]; omega⟩⟩
 ·exact r1.base
 ·intro j hj
  rw [hHlen] at hj
  show (if j < H.length then _ else _) = _
  rw [if_neg (by omega)]
  exact r1.dom _ (by omega)
 ·intro j o hj
  by_cases hg : o = .gone
  ·subst hg; trivial
  rcases hcase j o hj with ⟨h1, h2, h3⟩ | ⟨i, o', h1, rfl, rfl⟩
  ·rw [hlow j h1]
   refine (hr.objs j o h3).keeps_far hkeep r3.base (fun b hb => ?_)
   cases hx : loc j with
   | none => rw [hx] at hb; cases hb
   | some x =>
    rw [hx] at hb
    have hb0 := (hr.objs j o h3).block_lt hg (b := b) (by rw [hx]; exact hb)
    exact r3.keep b hb0.1 (hunseen j o x b h3 hg hx hb h2)
  ·have hi : i < Hl'.length := (List.getElem?_eq_some_iff.1 h1).1
   have ho := (r1.objs i o' h1).ren_to hl'
   have hlo : locl' i = loc' (callR l H.length i) := by
    cases hq : locl' i with
    | some x => exact (hl' i x hq).symm
    | none =>
     cases hq2 : loc' (callR l H.length i) with
     | none => rfl
     | some x => have := hback i x hi hq2; rw [hq] at this; cases this
   rw [hlo] at ho
   exact ho
 ·intro j k oj ok lj lk b hj hk gj gk hlj hlk bj bk
  have hmix : ∀ j oj lj i o', j < H.length → j ∉ l → H[j]? = some oj → (oj = .gone → False) → loc' j = some lj → lj.block? = some b → Hl'[i]? = some o' → (o' = .gone → False) →
    ∀ x, loc' (callR l H.length i) = some x → x.block? = some b → False := by
   intro j oj lj i o' h1 h2 h3 h4 h5 h6 h7 h8 x h9 h10
   rw [hlow j h1] at h5
   have hi : i < Hl'.length := (List.getElem?_eq_some_iff.1 h7).1
   have hb0 := (hr.objs j oj h3).block_lt h4 (b := b) (by rw [h5]; exact h6)
   have hown : Owned locl' Hl' b := ⟨i, o', x, h7, h8, hback i x hi h9, h10⟩
   exact hunseen j oj lj b h3 h4 h5 h6 h2 (r3.own b hb0.1 hown)
  rcases hcase j oj hj with ⟨h1, h2, h3⟩ | ⟨i, o', h1, rfl, rfl⟩
  ·rcases hcase k ok hk with ⟨k1, k2, k3⟩ | ⟨i, o', k1, rfl, rfl⟩
   ·rw [hlow j h1] at hlj; rw [hlow k k1] at hlk
    exact hr.inj j k oj ok lj lk b h3 k3 gj gk hlj hlk bj bk
   ·exact (hmix j oj lj i o' h1 h2 h3 gj hlj bj k1 (fun e => gk (by rw [e]; rfl)) lk hlk bk).elim
  ·rcases hcase k ok hk with ⟨k1, k2, k3⟩ | ⟨i2, o2, k1, rfl, rfl⟩
   ·exact (hmix k ok lk i o' k1 k2 k3 gk hlk bk h1 (fun e => gj (by rw [e]; rfl)) lj hlj bj).elim
   ·have hi : i < Hl'.length := (List.getElem?_eq_some_iff.1 h1).1
    have hi2 : i2 < Hl'.length := (List.getElem?_eq_some_iff.1 k1).1
    have := r1.inj i i2 o' o2 lj lk b h1 k1 (fun e => gj (by rw [e]; rfl)) (fun e => gk (by rw [e]; rfl)) (hback i lj hi hlj) (hback i2 lk hi2 hlk) bj bk
    rw [this]
 ·intro b hb hno
  refine r3.keep b hb (fun hown => hno ?_)
  obtain ⟨i, hi, o2, x2, ho2, hg2, hx2, hb2⟩ := hownl b hown
  exact ⟨_, o2, x2, ho2, hg2, hx2, hb2⟩
 ·intro b hb ⟨j, o, x, hj, hg, hx, hbx⟩
  rcases hcase j o hj with ⟨h1, h2, h3⟩ | ⟨i, o', h1, rfl, rfl⟩
  ·rw [hlow j h1] at hx
   exact ⟨j, o, x, h3, hg, hx, hbx⟩
  ·have hi : i < Hl'.length := (List.getElem?_eq_some_iff.1 h1).1
   have hown : Owned locl' Hl' b := ⟨i, o', x, h1, fun e => hg (by rw [e]; rfl), hback i x hi hx, hbx⟩
   obtain ⟨i2, hi2, o2, x2, ho2, hg2, hx2, hb2⟩ := hownl b (r3.own b hb hown)
   exact ⟨_, o2, x2, ho2, hg2, hx2, hb2⟩
theorem ASpec.graft {f : FuncId} {args argsl : List AV} {Hl : List AObj} {Postl : AV → List AObj → Prop} (l : List Nat) (h : ASpec P f argsl Hl Postl) (hnd : l.Nodup) (hlen : l.length = Hl.length)
  (hargs : args = argsl.map (AV.ren (callR l H.length))) (hobj : ∀ i (h : i < Hl.length), H[l.getD i 0]? = some (AObj.ren (callR l H.length) Hl[i])) :
  ASpec P f args H (fun r H' => ∃ rl Hl', Postl rl Hl' ∧ l.length ≤ Hl'.length ∧ r = AV.ren (callR l H.length) rl ∧ H' = graftH (callR l H.length) l H Hl') :=
 ((h.e.graft l hnd hlen hargs hobj).mono (Post' := bothE _ fun _ _ => False) fun b r H' ⟨rl, Hl', hP, rest⟩ => by
  cases b with
  | true => exact ⟨rl, Hl', hP, rest⟩
  | false => exact hP.elim).r
theorem ASpecX.graft {f : FuncId} {args argsl : List AV} {Hl : List AObj} {Postl PXl : AV → List AObj → Prop} (l : List Nat) (h : ASpecX P f argsl Hl Postl PXl) (hnd : l.Nodup) (hlen : l.length = Hl.length)
  (hargs : args = argsl.map (AV.ren (callR l H.length))) (hobj : ∀ i (h : i < Hl.length), H[l.getD i 0]? = some (AObj.ren (callR l H.length) Hl[i])) :
  ASpecX P f args H (fun r H' => ∃ rl Hl', Postl rl Hl' ∧ l.length ≤ Hl'.length ∧ r = AV.ren (callR l H.length) rl ∧ H' = graftH (callR l H.length) l H Hl')
   (fun r H' => ∃ rl Hl', PXl rl Hl' ∧ l.length ≤ Hl'.length ∧ r = AV.ren (callR l H.length) rl ∧ H' = graftH (callR l H.length) l H Hl') :=
 ((h.e.graft l hnd hlen hargs hobj).mono fun b r H' ⟨rl, Hl', hP, rest⟩ => by
  cases b with
  | true => exact ⟨rl, Hl', hP, rest⟩
  | false => exact ⟨rl, Hl', hP, rest⟩).x
end
end Go.Ab
end

noncomputable section
namespace Go.Ab
def Les : List AV → List AV → Prop
 | [], [] => True
 | a :: l, b :: r => Le a b ∧ Les l r
 | _, _ => False
theorem Les.refl : ∀ l, Les l l
 | [] => trivial
 | a :: l => ⟨Le.refl a, Les.refl l⟩
theorem Les.len : ∀ {l r : List AV}, Les l r → l.length = r.length
 | [], [], _ => rfl
 | a :: l, b :: r, h => by simp [Les.len h.2]
 | [], _ :: _, h => h.elim
 | _ :: _, [], h => h.elim
theorem Les.get : ∀ {l r : List AV}, Les l r → ∀ i (h : i < l.length) (h' : i < r.length), Le l[i] r[i]
 | a :: l, b :: r, h, 0, _, _ => h.1
 | a :: l, b :: r, h, i + 1, h1, h2 => Les.get h.2 i (by simpa using h1) (by simpa using h2)
 | [], _, _, i, h, _ => by simp at h
 | _ :: _, [], h, _, _, _ => h.elim
section
variable {P : Program} {n : Nat}
theorem ASpec.le {f : FuncId} {args args' : List AV} {H : List AObj} {Post : AV → List AObj → Prop} (k : ASpec P f args' H Post) (hle : Les args args') : ASpec P f args H Post := by
 intro M loc w vs ht hr hv
 obtain ⟨h1, h2⟩ := hv
 have hl := hle.len
 exact k M loc w vs ht hr ⟨by omega, fun i hi => hle.get i (by omega) hi M w loc _ (h2 i (by omega))⟩
theorem ASpec.call {f : FuncId} {args args' : List AV} {H H0 : List AObj} {r0 : AV} {Post : AV → List AObj → Prop} (k : ASpec P f args' H (fun r H' => r = r0 ∧ H' = H0)) (hle : Les args args') (h : Post r0 H0) : ASpec P f args H Post :=
 (k.le hle).mono fun r H' ⟨e1, e2⟩ => by subst e1 e2; exact h
theorem ASpec.anyH {f : FuncId} {args : List AV} {r0 : AV} {Hl : List AObj} (H : List AObj) (k : ASpec P f args [] (fun r H' => r = r0 ∧ H' = Hl)) (args' : List AV) (r' : AV) (Hl' : List AObj)
  (ha : args.map (AV.ren (callR [] H.length)) = args') (hr : AV.ren (callR [] H.length) r0 = r') (hh : Hl.map (AObj.ren (callR [] H.length)) = Hl') :
  ASpec P f args' H (fun r H' => r = r' ∧ H' = H ++ Hl') := by
 subst ha hr hh
 refine (ASpec.graft [] k (by simp) rfl rfl (fun i h => by simp at h)).mono fun r H' hx => ?_
 obtain ⟨rl, Hl2, ⟨e1, e2⟩, _, e3, e4⟩ := hx
 subst e1 e2 e3 e4
 exact ⟨rfl, by simp [graftH, grafted]⟩
theorem ASpec.pureH {f : FuncId} {args : List AV} {r0 : AV} (H : List AObj) (k : ASpec P f args [] (fun r H' => r = r0 ∧ H' = [])) (args' : List AV) (r' : AV)
  (ha : args.map (AV.ren (callR [] H.length)) = args') (hr : AV.ren (callR [] H.length) r0 = r') :
  ASpec P f args' H (fun r H' => r = r' ∧ H' = H) := by
 have := ASpec.anyH H k args' r' [] ha hr rfl
 simpa using this
theorem ASpec.oneH {f : FuncId} {args : List AV} {r0 : AV} {o o' : AObj} (H : List AObj) (id : Nat) (k : ASpec P f args [o] (fun r H' => r = r0 ∧ H' = [o'])) (args' : List AV) (r' : AV) (q' : AObj)
  (ha : args.map (AV.ren (callR [id] H.length)) = args') (hr : AV.ren (callR [id] H.length) r0 = r') (hH : H[id]? = some (AObj.ren (callR [id] H.length) o)) (hq : AObj.ren (callR [id] H.length) o' = q') :
  ASpec P f args' H (fun r H' => r = r' ∧ H' = H.set id q') := by
 subst ha hr hq
 refine (ASpec.graft [id] k (by simp) rfl rfl (fun i h => ?_)).mono fun r H' hx => ?_
 ·have : i = 0 := by simpa using h
  subst this
  simpa using hH
 ·obtain ⟨rl, Hl2, ⟨e1, e2⟩, _, e3, e4⟩ := hx
  subst e1 e2 e3 e4
  exact ⟨rfl, by simp [graftH, grafted]⟩
def Slots2 (R : AV → AV → Prop) : Slots → Slots → Prop
 | [], [] => True
 | (i, a) :: s, (j, b) :: t => i = j ∧ R a b ∧ Slots2 R s t
 | _, _ => False
theorem Slots2.get {R : AV → AV → Prop} (h0 : R .bad .bad) : ∀ {s t : Slots}, Slots2 R s t → ∀ d, R (get s d) (get t d)
 | [], [], _, d => h0
 | (i, a) :: s, (j, b) :: t, h, d => by
  obtain ⟨rfl, h1, h2⟩ := h
  simp only [Ab.get]
  cases Nat.beq i d with
  | true => exact h1
  | false => exact Slots2.get h0 h2 d
 | [], _ :: _, h, _ => h.elim
 | _ :: _, [], h, _ => h.elim
theorem AWP.shape {ro : Option Nat} {N : Nat} {c : Code} {s : Slots} {H : List AObj} {Q : AQ} (l : List Nat) (s2 : Slots) (H2 : List AObj) (hsel : Sel n l H H2)
  (hs : Slots2 (fun a b => Le a (AV.ren (selR l H.length) b)) s s2) (k : AWPr ro P N n c s2 H2 Q) : AWPr ro P N n c s H Q := by
 intro M loc w a h0
 refine AWP.re (ReSt.trans (ReSt.le (s2 := renS (selR l H.length) s2) (fun d => ?_) h0) (ReSt.sel hsel fun d => .inl (get_renS _ _ _))) k M loc w a h0
 rw [get_renS]
 exact Slots2.get (R := fun a b => Le a (AV.ren (selR l H.length) b)) (Le.refl _) hs d
theorem AWP.spell {ro : Option Nat} {N : Nat} {c : Code} {s : Slots} {H : List AObj} {Q : AQ} (s2 : Slots) (hs : Slots2 Le s s2) (k : AWPr ro P N n c s2 H Q) : AWPr ro P N n c s H Q := by
 intro M loc w a h0
 exact AWP.re (ReSt.le (fun d => Slots2.get (Le.refl _) hs d) h0) k M loc w a h0
theorem Sel.one {o o' : AObj} {H : List AObj} (i : Nat) (h : H[i]? = some o) (e : AObj.ren (selR [i] H.length) o' = o) : Sel 0 [i] H [o'] := by
 refine ⟨by simp, rfl, by omega, by simp, fun j hj => ?_⟩
 have : j = 0 := by simpa using hj
 subst this
 left; simpa [e] using h
theorem Sel.none {H : List AObj} : Sel 0 [] H [] := ⟨by simp, rfl, by omega, by simp, fun j hj => by simp at hj⟩
end
theorem wrap64 {x : Int} (h1 : -9223372036854775808 ≤ x) (h2 : x ≤ 9223372036854775807) : IntKind.wrap .i64 x = x := by
 simp only [IntKind.wrap, IntKind.bits, IntKind.signed]
 have e : (2 : Int) ^ 64 = 18446744073709551616 := by decide
 have e2 : (2 : Int) ^ (64 - 1) = 9223372036854775808 := by decide
 simp only [e, e2, Bool.true_and, decide_eq_true_eq]
 split <;> omega
theorem wrapN {n : Nat} (h : n ≤ 9223372036854775807) : IntKind.wrap .i64 (n : Int) = n := wrap64 (by omega) (by omega)
theorem condD {p : Prop} [Decidable p] {A B : Prop} (h1 : p → A) (h2 : ¬ p → B) : condP (decide p) A B := by
 by_cases h : p
 ·rw [decide_eq_true h]; exact h1 h
 ·rw [decide_eq_false h]; exact h2 h
theorem condB {b : Bool} {A B : Prop} (h1 : b = true → A) (h2 : b = false → B) : condP b A B := by cases b <;> simp_all [condP]
theorem condE {a b : Int} {A B : Prop} (h1 : a = b → A) (h2 : a ≠ b → B) : condP (a == b) A B := by
 by_cases h : a = b
 ·rw [beq_iff_eq.2 h]; exact h1 h
 ·rw [beq_eq_false_iff_ne.2 h]; exact h2 h
theorem condNe {a b : Int} {A B : Prop} (h1 : a ≠ b → A) (h2 : a = b → B) : condP (a != b) A B := by
 by_cases h : a = b
 ·rw [bne, beq_iff_eq.2 h]; exact h2 h
 ·rw [bne, beq_eq_false_iff_ne.2 h]; exact h1 h
theorem needJ {p A : Prop} (h : p) (k : A) : needP p A := ⟨h, fun _ => k⟩
theorem oneB : ∀ x : UInt8, List.all (encB x) oneAV = true := fun _ => rfl
theorem bytesOf_map (l : List UInt8) : bytesOf (.map encB 0 l) = ⟨l.toArray⟩ := by
 simp only [bytesOf, Seq.toList, List.map_map]
 congr 2
 have : cellByte ∘ encB = id := by
  funext b
  show UInt8.ofNat (Int.toNat (b.toNat : Int)) = b
  rw [Int.toNat_natCast]
  exact UInt8.ofNat_toNat
 rw [this, List.map_id]
theorem allBytes_map (l : List UInt8) : allBytes (.map encB 0 l) := by
 intro x hx
 simp only [Seq.toList, List.mem_map] at hx
 obtain ⟨b, _, rfl⟩ := hx
 exact ⟨_, rfl⟩
theorem encB_ofNat {x : Int} (h0 : 0 ≤ x) (h1 : x < 256) : [AV.int .u8 x] = encB (UInt8.ofNat x.toNat) := by
 simp only [encB]
 rw [UInt8.toNat_ofNat']
 congr 2
 have : x.toNat % 2 ^ 8 = x.toNat := Nat.mod_eq_of_lt (by omega)
 omega
end Go.Ab
end

noncomputable section
namespace Go.Ab
theorem Le.slE {sz : Nat} {s s' : Seq} {tip tip' : Tip} (hl : s'.toList.length = s.toList.length)
  (he : ∀ i (h : i < s.toList.length) (h' : i < s'.toList.length), Les s.toList[i] s'.toList[i]) (ht : tip' = tip ∨ tip' = .none) : Le (.sl sz s tip) (.sl sz s' tip') := by
 intro M w loc v h
 cases h with
 | slnil _ _ _ h1 h2 =>
  have h1' : s'.toList = [] := List.length_eq_zero_iff.1 (by rw [hl, h1]; rfl)
  refine .slnil _ _ _ h1' (fun id e => ?_)
  rcases ht with rfl | rfl
  ·exact h2 id e
  ·cases e
 | slz _ _ _ ad h1 hn h2 =>
  have h1' : s'.toList = [] := List.length_eq_zero_iff.1 (by rw [hl, h1]; rfl)
  refine .slz _ _ _ ad h1' ?_ (fun id e => ?_)
  ·rcases ht with rfl | rfl
   ·exact hn
   ·intro e; cases e
  ·rcases ht with rfl | rfl
   ·exact h2 id e
   ·cases e
 | sl _ _ _ b o cap vals hz h1 h2 hcap hnil hfull htok =>
  rw [← hl]
  refine .sl sz s' tip' b o cap vals (fun i hi => ?_) (fun i j hi hj => ?_) (fun i j hi hj => ?_) (by rw [hl]; exact hcap) ?_ ?_ ?_
  ·have hi' : i < s.toList.length := by omega
   rw [← (he i hi' hi).len]; exact hz i hi'
  ·exact h1 i j (by omega) hj
  ·have hi' : i < s.toList.length := by omega
   have hx := he i hi' hi
   have hj' : j < s.toList[i].length := by rw [hx.len]; exact hj
   exact hx.get j hj' hj M w loc _ (h2 i j hi' hj')
  ·rcases ht with rfl | rfl
   ·exact hnil
   ·intro h; cases h
  ·rcases ht with rfl | rfl
   ·rw [hl]; exact hfull
   ·intro h; cases h
  ·intro id e
   rcases ht with rfl | rfl
   ·rw [hl]; exact htok id e
   ·cases e
section
variable {P : Program} {M : Mem} {w : World} {loc : Locs} {H H2 : List AObj} {n : Nat}
theorem VRel.tokOf {sz sz' : Nat} {q q' : Seq} {tip : Tip} {v : Value} {k : Nat} (h : VRel M w loc (.sl sz q tip) v) (hl : loc k = some .xtok) (ht : tip = .nil ∨ tip = .full) (hq : q'.toList = q.toList) (hz : sz' = sz ∨ q.toList = []) :
  VRel M w loc (.sl sz' q' (.tok k)) v := by
 cases h with
 | slnil _ _ _ c1 c2 => exact .slnil _ _ _ (by rw [hq]; exact c1) (fun id e => by cases e; exact hl)
 | slz _ _ _ ad c1 _ c2 => exact .slz _ _ _ ad (by rw [hq]; exact c1) (fun e => by cases e) (fun id e => by cases e; exact hl)
 | sl _ _ _ b o cap vals hz' d1 d2 hcap hnil hfull htok =>
  have hf : tip = .full := by
   rcases ht with rfl | rfl
   ·exact (hnil rfl).elim
   ·rfl
  have hsz : ∀ (i : Nat) (h : i < q.toList.length), sz' = sz := by
   intro i h
   rcases hz with e | e
   ·exact e
   ·rw [e] at h; simp at h
  rw [← hq]
  refine .sl sz' q' _ b o cap vals (fun i hi => ?_) (fun i j hi hj => ?_) (fun i j hi hj => ?_) (by rw [hq]; exact hcap) (by intro h; cases h) (by intro h; cases h) ?_
  ·have hi' : i < q.toList.length := by rwa [hq] at hi
   rw [hsz i hi']
   have := hz' i hi'
   simpa [hq] using this
  ·have hi' : i < q.toList.length := by rwa [hq] at hi
   rw [hsz i hi'] at hj ⊢
   exact d1 i j hi' hj
  ·have hi' : i < q.toList.length := by rwa [hq] at hi
   have := d2 i j hi' (by simpa [hq] using hj)
   simpa [hq] using this
  ·intro id e
   cases e
   rw [hq]
   exact .inl ⟨hl, hfull hf⟩
theorem ReSt.tokCell {s : Slots} {id j sz sz' : Nat} {q q' : Seq} {tip : Tip} {cs : List AV} (ho : H[id]? = some (.cells cs)) (hj : cs[j]? = some (.sl sz q tip)) (ht : tip = .nil ∨ tip = .full) (hq : q'.toList = q.toList) (hz : sz' = sz ∨ q.toList = []) :
    ReSt n s H s (H.set id (.cells (cs.set j (.sl sz' q' (.tok H.length)))) ++ [.tok]) := by
  intro M loc w tmps h0 h1 h3
  obtain ⟨r1, r2⟩ := h1.xtok
  have hkeep := r2.keeps h1
  have hlt : id < H.length := (List.getElem?_eq_some_iff.1 ho).1
  have ho' : (H ++ [AObj.tok])[id]? = some (.cells cs) := by rw [List.getElem?_append_left hlt]; exact ho
  have hx : locSet loc H.length .xtok H.length = some .xtok := by simp [locSet]
  obtain ⟨r3, r4⟩ := r1.respell id (.cells cs) (.cells (cs.set j (.sl sz' q' (.tok H.length)))) ho' (by intro h; cases h) (by intro h; cases h) (fun hO => by
    obtain ⟨b, vs, T, fr, e1, e2, e3, e4, e5, hs, e6⟩ := hO
    refine ⟨b, vs, T, fr, e1, e2, e3, e4, e5, by simpa using hs, fun i hi => ?_⟩
    have hi' : i < cs.length := by simpa using hi
    by_cases e : i = j
    · subst e
      have hv := e6 i hi'
      have hc : cs[i] = .sl sz q tip := by
        rw [List.getElem?_eq_getElem hi'] at hj; exact Option.some.inj hj
      rw [hc] at hv
      simp only [List.getElem_set_self]
      exact hv.tokOf hx ht hq hz
    · simp only [List.getElem_set_ne (fun h => e h.symm)]
      exact e6 i hi')
  refine ⟨_, _, ?_, h3.keeps hkeep, ?_⟩
  · rw [List.set_append_left _ _ hlt] at r3; exact r3
  · have := (r2.trans r4).mono h0
    rw [List.set_append_left _ _ hlt] at this
    exact this
theorem ReSt.leCell {s : Slots} {id : Nat} {cs cs' : List AV} (ho : H[id]? = some (.cells cs)) (h : Les cs cs') : ReSt n s H s (H.set id (.cells cs')) := by
  intro M loc w tmps h0 h1 h3
  have hl := h.len
  obtain ⟨r1, r2⟩ := h1.respell id (.cells cs) (.cells cs') ho (by intro h; cases h) (by intro h; cases h) (fun hO => by
    obtain ⟨b, vs, T, fr, e1, e2, e3, e4, e5, hs, e6⟩ := hO
    exact ⟨b, vs, T, fr, e1, e2, e3, e4, e5, by omega, fun i hi => h.get i (by omega) hi M w loc _ (e6 i (by omega))⟩)
  exact ⟨M, loc, r1, h3, r2.mono h0⟩
theorem leAppE {α : Type} {en : α → List AV} {d : α} {acc : List α} {x : α} {sz : Nat} {tip : Tip} {ex : List AV} (hx : Les ex (en x)) :
  Le (.sl sz (.app (.map en d acc) (.raw [ex])) tip) (.sl sz (.map en d (acc ++ [x])) tip) := by
 refine Le.slE (by simp [Seq.toList]) (fun i h h' => ?_) (.inl rfl)
 simp only [Seq.toList, List.map_append, List.map_cons, List.map_nil] at h h' ⊢
 by_cases e : i < (acc.map en).length
 ·rw [List.getElem_append_left e, List.getElem_append_left e]
  exact Les.refl _
 ·have hi : i = (acc.map en).length := by simp at h h' e ⊢; omega
  subst hi
  rw [List.getElem_append_right (Nat.le_refl _), List.getElem_append_right (Nat.le_refl _)]
  simpa using hx
theorem ASpec.subH {f : FuncId} {args : List AV} {r0 : AV} {Hl Hl2 : List AObj} (l : List Nat) (H Hx : List AObj) (k : ASpec P f args Hl (fun r H' => r = r0 ∧ H' = Hl2)) (args' : List AV) (r' : AV)
  (hnd : l.Nodup) (hlen : l.length = Hl.length) (ha : args.map (AV.ren (callR l H.length)) = args') (hr : AV.ren (callR l H.length) r0 = r')
  (hobj : ∀ i (h : i < Hl.length), H[l.getD i 0]? = some (AObj.ren (callR l H.length) Hl[i])) (hx : graftH (callR l H.length) l H Hl2 = Hx) :
  ASpec P f args' H (fun r H' => r = r' ∧ H' = Hx) := by
 subst ha hr hx
 refine (ASpec.graft l k hnd hlen rfl hobj).mono fun r H' hh => ?_
 obtain ⟨rl, Hl', ⟨e1, e2⟩, _, e3, e4⟩ := hh
 subst e1 e2 e3 e4
 exact ⟨rfl, rfl⟩
end
end Go.Ab
end

noncomputable section
namespace Go.Ab
section
variable {P : Program} {M : Mem} {w : World} {loc : Locs} {H H2 : List AObj} {n : Nat}
def MLe (a b : List (ByteArray × AV)) : Prop := ∃ hs : b.length = a.length, ∀ i (h : i < a.length), (b[i]'(by omega)).1 = a[i].1 ∧ Le a[i].2 (b[i]'(by omega)).2
theorem MLe.of_eq {a b : List (ByteArray × AV)} (h : b = a) : MLe a b := by
 subst h; exact ⟨rfl, fun i h => ⟨rfl, Le.refl _⟩⟩
theorem ORel.mle {l : Option Loc} {m m' : MM} (h : MLe m.toList m'.toList) (ho : ORel M w loc l (.mp m)) : ORel M w loc l (.mp m') := by
 obtain ⟨hs, he⟩ := h
 obtain ⟨b, ents, clock, e, h1, h2, h3, hq, h4, h5⟩ := ho
 refine ⟨b, ents, clock, e, h1, h2, h3, hq, by omega, fun i hi => ?_⟩
 obtain ⟨k1, k2⟩ := h5 i (by omega)
 obtain ⟨e1, e2⟩ := he i (by omega)
 exact ⟨by rw [e1]; exact k1, e2 M w loc _ k2⟩
theorem ReSt.map {s : Slots} {id : Nat} {m m' : MM} (ho : H[id]? = some (.mp m)) (h : MLe m.toList m'.toList) : ReSt n s H s (H.set id (.mp m')) := by
 intro M loc w tmps h0 h1 h3
 obtain ⟨r1, r2⟩ := h1.respell id (.mp m) (.mp m') ho (by intro h; cases h) (by intro h; cases h) (fun hO => ORel.mle h hO)
 exact ⟨M, loc, r1, h3, r2.mono h0⟩
theorem ASpec.inMap {f : FuncId} {args : List AV} {Post : AV → List AObj → Prop} (id : Nat) {m : MM} (m' : MM) (ho : H[id]? = some (.mp m)) (h : MLe m.toList m'.toList) (k : ASpec P f args (H.set id (.mp m')) Post) : ASpec P f args H Post := by
 intro M loc w vs ht hr hv
 obtain ⟨r1, r2⟩ := hr.respell id (.mp m) (.mp m') ho (by intro h; cases h) (by intro h; cases h) (fun hO => ORel.mle h hO)
 refine (k M loc w vs (ht.step hr r2) r1 hv).mono fun e w' ⟨v, r, H', M', loc', he, hP, q1, q2, q3⟩ => ⟨v, r, H', M', loc', he, hP, q1, q2, StepN.trans r2 q3 (by simp)⟩
theorem ASpec.outMap {f : FuncId} {args : List AV} {Post : AV → List AObj → Prop} (k : ASpec P f args H (fun r H' => ∃ (id : Nat) (m m' : MM), H'[id]? = some (.mp m) ∧ MLe m.toList m'.toList ∧ Post r (H'.set id (.mp m')))) : ASpec P f args H Post := by
 intro M loc w vs ht hr hv
 refine (k M loc w vs ht hr hv).mono fun e w' ⟨v, r, H', M', loc', he, ⟨id, m, m', ho, hm, hP⟩, q1, q2, q3⟩ => ?_
 obtain ⟨r1, r2⟩ := q1.respell id (.mp m) (.mp m') ho (by intro h; cases h) (by intro h; cases h) (fun hO => ORel.mle hm hO)
 exact ⟨v, r, _, M', loc', he, hP, r1, q2, StepN.trans q3 r2 (by have := q3.len; exact this)⟩
theorem mle_put {α : Type} {E : Enc α} {l : List (ByteArray × α)} {k : ByteArray} {v : AV} {a : α} (h : v = E.enc a) : MLe (MM.put (.typed E l) k v).toList (MM.typed E (setM l k a)).toList := by
 subst h
 exact MLe.of_eq (by simp only [MM.toList]; rw [setM_map])
theorem mle_nil {α : Type} {E : Enc α} : MLe MM.nil.toList (MM.typed E []).toList := MLe.of_eq rfl
end
end Go.Ab
end

noncomputable section
namespace Go.Ab
section
variable {P : Program} {M : Mem} {w w' : World} {loc : Locs} {H : List AObj}
theorem ASpec.of_calls {f : FuncId} {args : List AV} {r0 : AV} (h : ∀ M loc w vs, Tabs P M w → VRels M w loc args vs → Calls P f vs w fun e w' => ∃ v, e = .returned v ∧ VRel M w' loc r0 v ∧ Grown w w') :
  ASpec P f args H (fun r H' => r = r0 ∧ H' = H) := by
 intro M loc w vs ht hr hv
 refine (h M loc w vs ht hv).mono fun e w' ⟨v, he, hvr, hg⟩ => ?_
 obtain ⟨r1, r2⟩ := hr.grown hg
 exact ⟨v, r0, H, M, loc, he, ⟨rfl, rfl⟩, r1, hvr, r2⟩
end
end Go.Ab
end

noncomputable section
namespace Go.Ab
open Go.ChangeShapes Go.WideShapes Go.ChangeAt Go.RowKit
def mem0 (w : World) : Mem := ⟨w.heap.size, fun _ => 0⟩
theorem rel0 (w : World) : Rel (mem0 w) (fun _ => none) [] w :=
 ⟨Nat.le_refl _, fun b h => absurd h (Nat.lt_irrefl 0), fun _ _ => rfl, fun i o h => by simp at h, fun i j oi oj li lj b h => by simp at h⟩
theorem tabsN {P : Program} {w : World} (h : (P.globalNamed "internal/strconv.uint64pow10", P.globalNamed "internal/bytealg.MaxLen") = (none, none)) : Tabs P (mem0 w) w :=
 by
 refine ⟨fun g hg => ?_, fun g hg => ?_⟩
 ·rw [(Prod.mk.inj h).1] at hg; cases hg
 ·rw [(Prod.mk.inj h).2] at hg; cases hg
theorem below_of_step {w w' : World} {M' : Mem} {loc' : Locs} {H' : List AObj} (h : Step (mem0 w) (fun _ => none) [] w M' loc' H' w') : Below w.heap.size w w' :=
 ⟨h.os, h.tape, h.output, h.size, fun k hk => (h.keep k hk (fun ⟨i, o, l, h, _⟩ => by simp at h)).1⟩
theorem ASpec.run {P : Program} {f : FuncId} {as : List AV} {vs : Array Value} {w : World} (k : ASpec P f as [] (fun r H' => r = .bool true ∧ H' = [])) (ht : Tabs P (mem0 w) w) (hv : VRels (mem0 w) w (fun _ => none) as vs) :
  Calls P f vs w fun e w' => e = .returned (.bool true) ∧ Below w.heap.size w w' :=
 (k (mem0 w) (fun _ => none) w vs ht (rel0 w) hv).mono fun e w' ⟨v, r, H', M', loc', he, ⟨h1, h2⟩, h3, h4, h5⟩ => by
  subst h1
  cases h4
  exact ⟨he, below_of_step h5⟩
theorem vrels_nil {M : Mem} {w : World} {loc : Locs} : VRels M w loc [] #[] := ⟨rfl, fun i h => by simp at h⟩
theorem vrels_cons {M : Mem} {w : World} {loc : Locs} {a : AV} {as : List AV} {v : Value} {vs : List Value} (h : VRel M w loc a v) (k : VRels M w loc as vs.toArray) : VRels M w loc (a :: as) (v :: vs).toArray := by
 obtain ⟨k1, k2⟩ := k
 refine ⟨by simpa using k1, fun i hi => ?_⟩
 cases i with
 | zero => exact h
 | succ i => exact k2 i (by simpa using hi)
section
variable {H : Type} {enc : TypeId × Value → H} {P : Program}
theorem trodAll_stays (hl : laidOutB P = true) {W W' : World} (hb : Below W.heap.size W W') : ∀ {ts : List TypeId} {vs : List Value} {ds : List (DataW H)} {ps : List MemPlace},
  (∀ t ∈ ts, P.readableRec t = true ∧ t < P.types.size) → (∀ x ∈ ps, x.block < W.heap.size) → DataW.TrodAll enc P W 0 (fun _ => true) true ts vs ds ps → ∀ sp : Nat → Bool, (∀ p ∈ ps, sp p.block = true) → DataW.TrodAll enc P W' 0 sp true ts vs ds ps
 | [], [], [], ps, _, _, h, _, _ => h
 | t :: ts, v :: vs, d :: ds, ps, hr, hlt, h, sp, hs => by
  obtain ⟨p, q, h1, h2, rfl⟩ := h
  refine ⟨p, q, ?_, trodAll_stays hl hb (fun t ht => hr t (by simp [ht])) (fun x hx => hlt x (by simp [hx])) h2 sp (fun x hx => hs x (by simp [hx])), rfl⟩
  exact WideElems.Trod_stays hl (hr t (by simp)).1 (hr t (by simp)).2 h1 (fun x hx => hb.same (hlt x (by simp [hx]))) (fun x hx => hs x (by simp [hx]))
 | [], [], _ :: _, _, _, _, h, _, _ => h.elim
 | [], _ :: _, _, _, _, _, h, _, _ => by cases h
 | _ :: _, [], _, _, _, _, h, _, _ => by cases h
 | _ :: _, _ :: _, [], _, _, _, h, _, _ => by cases h
theorem law_post {bt : TypeId} {f : Func} {s : ChangeSpec} {W W' : World} {args : Array Value} {ds gs : List (DataW H)} {before : List MemPlace}
  (hl : laidOutB P = true) (hr : (f.params.toList.all fun t => P.readableRec t && decide (t < P.types.size)) = true) (hv : s.vars = []) (hb4 : f.resultTypes = #[bt]) (hbt : P.underlying bt = some .bool)
  (hW : DataW.Whole enc P f.params.toList s.vars false W args.toList ds gs before)
  (hs : (s.fn H ds).results = [.lit (.bool true)] ∧ (s.fn H ds).args = ds ∧ (s.fn H ds).vars = [])
  (hb : Below W.heap.size W W') : s.post enc P f false true false false W args (.bool true) W' := by
 have hW' := hW
 obtain ⟨p, q, hA, hV, rfl, hz, hn⟩ := hW
 rw [hv] at hV
 obtain ⟨rfl, rfl⟩ := trodVars_none hV
 have hlt : ∀ x ∈ p, x.block < W.heap.size := fun x hx => by simpa using hW'.lt x (by simp [hx])
 refine ⟨ds, [], _, [], p, [], hW', ?_, ?_, ?_, hb.frame _, fun h => by cases h⟩
 ·simp only [List.append_nil]
  rw [hs.1, hb4]
  exact trodAll_cons_mk (shut_bool hbt _) trodAll_mk0
 ·simp only [List.append_nil]
  rw [hs.2.1]
  refine trodAll_stays hl hb (fun t ht => ?_) hlt hA _ (fun x hx => by simpa using hlt x hx)
  have := List.all_eq_true.1 hr t ht
  simpa using this
 ·simp only [List.append_nil]
  rw [hs.2.2, hv]
  rfl
end
end Go.Ab
end

noncomputable section
namespace Go.Ab
open Go.ChangeShapes Go.WideShapes
def VL (w : World) : List AV → List Value → Prop
 | [], [] => True
 | a :: l, v :: r => VRel (mem0 w) w (fun _ => none) a v ∧ VL w l r
 | _, _ => False
theorem VL.len {w : World} : ∀ {l : List AV} {r : List Value}, VL w l r → l.length = r.length
 | [], [], _ => rfl
 | a :: l, v :: r, h => by simp [VL.len h.2]
 | [], _ :: _, h => h.elim
 | _ :: _, [], h => h.elim
theorem VL.get {w : World} : ∀ {l : List AV} {r : List Value}, VL w l r → ∀ i (h : i < l.length) (h' : i < r.length), VRel (mem0 w) w (fun _ => none) l[i] r[i]
 | a :: l, v :: r, h, 0, _, _ => h.1
 | a :: l, v :: r, h, i + 1, h1, h2 => VL.get h.2 i (by simpa using h1) (by simpa using h2)
 | [], _, _, i, h, _ => by simp at h
 | _ :: _, [], h, _, _, _ => h.elim
theorem VL.app {w : World} : ∀ {l l2 : List AV} {r r2 : List Value}, VL w l r → VL w l2 r2 → VL w (l ++ l2) (r ++ r2)
 | [], _, [], _, _, h => h
 | a :: l, _, v :: r, _, h, k => ⟨h.1, VL.app h.2 k⟩
 | [], _, _ :: _, _, h, _ => h.elim
 | _ :: _, _, [], _, h, _ => h.elim
structure Codec (P : Program) (t : TypeId) (α : Type) where
 enc : α → List AV
 ok : α → Prop
 dflt : α
 opens : ∀ {H : Type} (e : TypeId × Value → H) (w : World) (fuel : Nat) (cs : List Value) (x : DataW H × List MemPlace),
  DataW.trod e P w 0 (fun _ => true) true fuel t cs = some x → ∃ a, ok a ∧ VL w (enc a) cs
section
variable {P : Program}
def Codec.int {t : TypeId} (k : IntKind) (ht : P.underlying t = some (.int k)) : Codec P t Int where
 enc n := [.int k n]
 ok n := (Lit.int k n).wf = true
 dflt := 0
 opens := by
  intro H e w fuel cs x h
  cases fuel with
  | zero => simp [DataW.trod] at h
  | succ f =>
   simp only [DataW.trod, ht] at h
   split at h <;> simp_all
   rename_i k' n hk
   obtain ⟨⟨rfl, h1⟩, h2⟩ := h
   exact ⟨n, h1, .int _ _, trivial⟩
def Codec.str {t : TypeId} (ht : P.underlying t = some .string) : Codec P t ByteArray where
 enc s := [.str s]
 ok s := s.size ≤ maxLen
 dflt := ByteArray.empty
 opens := by
  intro H e w fuel cs x h
  cases fuel with
  | zero => simp [DataW.trod] at h
  | succ f =>
   simp only [DataW.trod, ht] at h
   split at h <;> simp_all
   rename_i s
   exact ⟨s, h.1, .str _, trivial⟩
theorem mapM_some {α β : Type} (f : α → Option β) : ∀ (l : List α) (r : List β), l.mapM f = some r → r.length = l.length ∧ ∀ i (h : i < l.length) (h' : i < r.length), f l[i] = some r[i]
 | [], r, h => by
  simp at h; subst h; simp
 | a :: l, r, h => by
  rw [List.mapM_cons] at h
  cases ha : f a with
  | none => simp [ha] at h
  | some b =>
   cases hl : l.mapM f with
   | none => simp [ha, hl] at h
   | some q =>
    simp [ha, hl] at h
    subst h
    obtain ⟨h1, h2⟩ := mapM_some f l q hl
    refine ⟨by simp [h1], fun i hi hi' => ?_⟩
    cases i with
    | zero => exact ha
    | succ i => exact h2 i (by simpa using hi) (by simpa using hi')
theorem choose_list {α : Type} (n : Nat) (R : Nat → α → Prop) (h : ∀ i, i < n → ∃ a, R i a) : ∃ l : List α, l.length = n ∧ ∀ i (hi : i < l.length), R i l[i] := by
 induction n with
 | zero => exact ⟨[], rfl, fun i hi => by simp at hi⟩
 | succ n ih =>
  obtain ⟨l, h1, h2⟩ := ih (fun i hi => h i (by omega))
  obtain ⟨a, ha⟩ := h n (by omega)
  refine ⟨l ++ [a], by simp [h1], fun i hi => ?_⟩
  by_cases hl : i < l.length
  ·rw [List.getElem_append_left hl]; exact h2 i hl
  ·have e : i = n := by simp at hi; omega
   subst e
   rw [List.getElem_append_right (by omega)]
   simpa using ha
theorem cells_get {w : World} {a : Addr} {n : Nat} {cs : List Value} (h : w.cells? 0 a n = some cs) : cs.length = n ∧ ∀ i (hi : i < cs.length), w.cell? (a.add i) = some cs[i] := by
 unfold World.cells? at h
 rw [if_pos (Nat.zero_le _)] at h
 obtain ⟨h1, h2⟩ := mapM_some _ _ _ h
 refine ⟨by simpa using h1, fun i hi => ?_⟩
 have := h2 i (by rw [← h1]; exact hi) hi
 simpa using this
theorem add_cell {a : Addr} (h : a.spot = none) (n : Nat) : a.add n = ⟨a.block, a.off + n, none⟩ := by
 obtain ⟨b, o, s⟩ := a
 simp only at h; subst h
 unfold Addr.add
 split
 ·simp_all
 ·rfl
theorem cell_in {w : World} {b k : Nat} {v : Value} (h : w.cell? ⟨b, k, none⟩ = some v) : b < w.heap.size := by
 unfold World.cell? at h
 split at h
 ·rename_i hb; exact (Array.getElem?_eq_some_iff.1 hb).1
 ·cases h
def Codec.slice {t e : TypeId} {α : Type} {sz : Nat} (c : Codec P e α) (ht : P.underlying t = some (.slice e)) (hsz : P.cellsOf e = sz) (h1 : 1 ≤ sz) (hlen : ∀ a, (c.enc a).length = sz) : Codec P t (List α) where
 enc l := [.sl sz (.map c.enc c.dflt l) .none]
 ok l := l.length ≤ maxLen ∧ ∀ a ∈ l, c.ok a
 dflt := []
 opens := by
  intro H en w fuel cs x h
  cases fuel with
  | zero => simp [DataW.trod] at h
  | succ f =>
   simp only [DataW.trod, ht] at h
   split at h
   all_goals first | (simp_all; done) | skip
   ·exact ⟨[], ⟨by simp, fun a ha => by simp at ha⟩, .slnil _ _ _ rfl (fun id h => by cases h), trivial⟩
   ·rename_i e' a len cap heq
    cases heq
    split at h
    case isFalse => cases h
    rename_i hcond
    obtain ⟨_, hlc, hcm⟩ := hcond
    cases hel : (List.range len).mapM (fun i => (w.cells? 0 (a.add (i * P.cellsOf e)) (P.cellsOf e)).bind (DataW.trod en P w 0 (fun _ => true) true f e)) with
    | none => simp [hel] at h
    | some elems =>
    simp only [hel, Option.bind_some, if_true] at h
    cases hre : (List.range (cap - len)).mapM (fun j => (w.cells? 0 (a.add ((len + j) * P.cellsOf e)) (P.cellsOf e)).bind (DataW.trod en P w 0 (fun _ => true) true f e)) with
    | none => simp [hre] at h
    | some rest =>
    rw [hsz] at hel hre
    obtain ⟨l1, g1⟩ := mapM_some _ _ _ hel
    obtain ⟨l2, g2⟩ := mapM_some _ _ _ hre
    simp only [List.length_range] at l1 l2
    have hone : ∀ i, i < cap → ∃ y, (w.cells? 0 (a.add (i * sz)) sz).bind (DataW.trod en P w 0 (fun _ => true) true f e) = some y := by
     intro i hi
     by_cases hl : i < len
     ·have := g1 i (by simpa using hl) (by omega)
      simp only [List.getElem_range] at this
      exact ⟨_, this⟩
     ·have := g2 (i - len) (by simp; omega) (by omega)
      simp only [List.getElem_range] at this
      rw [show len + (i - len) = i by omega] at this
      exact ⟨_, this⟩
    rcases Nat.eq_zero_or_pos cap with hc | hc
    ·have : len = 0 := by omega
     subst hc; subst this
     exact ⟨[], ⟨by simp, fun a ha => by simp at ha⟩, .slz _ _ _ a rfl (by intro h; cases h) (fun id h => by cases h), trivial⟩
    ·have hspot : a.spot = none := by
      obtain ⟨y, hy⟩ := hone 0 hc
      cases hq : w.cells? 0 (a.add (0 * sz)) sz with
      | none => rw [hq] at hy; cases hy
      | some q =>
       obtain ⟨k1, k2⟩ := cells_get hq
       have := k2 0 (by omega)
       rw [Nat.zero_mul] at this
       have e0 : (a.add 0).add 0 = a := by simp [Addr.add]
       rw [e0] at this
       unfold World.cell? at this
       split at this
       ·split at this
        ·cases this
        ·rename_i hs; simpa using hs
       ·cases this
     have hR : ∀ i, i < len → ∃ b : α, c.ok b ∧ ∃ q, w.cells? 0 (a.add (i * sz)) sz = some q ∧ VL w (c.enc b) q := by
      intro i hi
      obtain ⟨y, hy⟩ := hone i (by omega)
      cases hq : w.cells? 0 (a.add (i * sz)) sz with
      | none => simp [hq] at hy
      | some q =>
       simp only [hq, Option.bind_some] at hy
       obtain ⟨b, hb1, hb2⟩ := c.opens en w f q y hy
       exact ⟨b, hb1, q, rfl, hb2⟩
     obtain ⟨l, hl1, hl2⟩ := choose_list len _ hR
     refine ⟨l, ⟨by omega, fun b hb => ?_⟩, ?_, trivial⟩
     ·obtain ⟨i, hi, rfl⟩ := List.getElem_of_mem hb
      exact (hl2 i hi).1
     ·obtain ⟨b, o, s⟩ := a
      simp only at hspot; subst hspot
      have hlen2 : (Seq.map c.enc c.dflt l).toList.length = len := by simp [Seq.toList, hl1]
      have hg := VRel.sl (M := mem0 w) (w := w) (loc := fun _ => none) sz (.map c.enc c.dflt l) .none b o cap (fun i j => (w.cell? ⟨b, o + i * sz + j, none⟩).getD undef)
       (fun i hi => by simp only [Seq.toList, List.getElem_map]; exact hlen _)
       (fun i j hi hj => by
        obtain ⟨_, q, hq, _⟩ := hl2 i (by omega)
        obtain ⟨k1, k2⟩ := cells_get hq
        have := k2 j (by omega)
        rw [add_cell (a := ⟨b, o, none⟩) rfl, add_cell (a := ⟨b, o + i * sz, none⟩) rfl] at this
        refine ⟨by simp [this], .inl (cell_in this)⟩)
       (fun i j hi hj => by
        simp only [Seq.toList, List.getElem_map] at hj ⊢
        obtain ⟨_, q, hq, hv⟩ := hl2 i (by omega)
        obtain ⟨k1, k2⟩ := cells_get hq
        have hjs : j < sz := by rw [hlen] at hj; exact hj
        have := k2 j (by omega)
        rw [add_cell (a := ⟨b, o, none⟩) rfl, add_cell (a := ⟨b, o + i * sz, none⟩) rfl] at this
        simp only [this, Option.getD_some]
        exact hv.get j hj (by omega))
       (by omega) (by intro h; cases h) (fun h => by cases h) (fun id h => by cases h)
      rw [hlen2] at hg
      exact hg
def Codec.iso {t : TypeId} {α β : Type} (c : Codec P t α) (f : α → β) (enc : β → List AV) (ok : β → Prop) (h : ∀ a, c.enc a = enc (f a)) (hok : ∀ a, c.ok a → ok (f a)) : Codec P t β where
 enc := enc
 ok := ok
 dflt := f c.dflt
 opens := by
  intro H e w fuel cs x hx
  obtain ⟨a, h1, h2⟩ := c.opens e w fuel cs x hx
  exact ⟨f a, hok a h1, by rw [← h]; exact h2⟩
structure FC (P : Program) (fs : List Field) (o n : Nat) (α : Type) where
 enc : α → List AV
 ok : α → Prop
 dflt : α
 opens : ∀ {H : Type} (e : TypeId × Value → H) (w : World) (fuel : Nat) (cs : List Value) (xs : List (DataW H × List MemPlace)),
  (fs.mapM fun f => DataW.trod e P w 0 (fun _ => true) true fuel f.type ((cs.drop f.offset).take (P.cellsOf f.type))) = some xs → ∃ a, ok a ∧ VL w (enc a) ((cs.drop o).take n)
def FC.nil {o : Nat} : FC P [] o 0 Unit where
 enc _ := []
 ok _ := True
 dflt := ()
 opens := by
  intro H e w fuel cs xs h
  exact ⟨(), trivial, by rw [List.take_zero]; trivial⟩
def FC.cons {f : Field} {fs : List Field} {o k n : Nat} {α β : Type} (c : Codec P f.type α) (ho : f.offset = o) (hk : P.cellsOf f.type = k) (r : FC P fs (o + k) n β) : FC P (f :: fs) o (k + n) (α × β) where
 enc x := c.enc x.1 ++ r.enc x.2
 ok x := c.ok x.1 ∧ r.ok x.2
 dflt := (c.dflt, r.dflt)
 opens := by
  intro H e w fuel cs xs h
  rw [List.mapM_cons] at h
  cases h1 : DataW.trod e P w 0 (fun _ => true) true fuel f.type ((cs.drop f.offset).take (P.cellsOf f.type)) with
  | none => simp [h1] at h
  | some y =>
   cases h2 : (fs.mapM fun f => DataW.trod e P w 0 (fun _ => true) true fuel f.type ((cs.drop f.offset).take (P.cellsOf f.type))) with
   | none => simp [h1, h2] at h
   | some ys =>
    rw [ho, hk] at h1
    obtain ⟨a, a1, a2⟩ := c.opens e w fuel _ _ h1
    obtain ⟨b, b1, b2⟩ := r.opens e w fuel cs _ h2
    refine ⟨(a, b), ⟨a1, b1⟩, ?_⟩
    have e3 : (cs.drop o).take (k + n) = (cs.drop o).take k ++ (cs.drop (o + k)).take n := by
     rw [List.take_add, List.drop_drop]
    rw [e3]
    exact VL.app a2 b2
def Codec.struct {t : TypeId} {fs : Array Field} {n : Nat} {α : Type} (ht : P.underlying t = some (.struct fs)) (c : FC P fs.toList 0 n α) (hn : P.cellsOf t = n) : Codec P t α where
 enc := c.enc
 ok := c.ok
 dflt := c.dflt
 opens := by
  intro H e w fuel cs x h
  cases fuel with
  | zero => simp [DataW.trod] at h
  | succ f =>
   simp only [DataW.trod, ht] at h
   split at h
   case isFalse => cases h
   rename_i hl
   cases hm : (fs.toList.mapM fun g => DataW.trod e P w 0 (fun _ => true) true f g.type ((cs.drop g.offset).take (P.cellsOf g.type))) with
   | none => simp [hm] at h
   | some xs =>
    obtain ⟨a, h1, h2⟩ := c.opens e w f cs xs hm
    refine ⟨a, h1, ?_⟩
    rw [List.drop_zero, List.take_of_length_le (by omega)] at h2
    exact h2
def plainT (P : Program) (t : TypeId) : Bool := match P.underlying t with | some (.struct _) | some (.array _ _) | none => false | _ => true
theorem no_agg {t : TypeId} (ht : plainT P t = true) {W : World} {r : Reach} {b : Nat} {cs : Array Value} (h : Value.okWide P W r b t (.agg cs)) : False := by
 unfold plainT at ht
 unfold Value.okWide at h
 split at h
 ·rename_i hu; rw [hu] at ht; cases ht
 ·rename_i hu; rw [hu] at ht; cases ht
 ·unfold Cell.okWide at h
  split at h <;> first | contradiction | skip
  all_goals (unfold Cell.ok at h; split at h <;> simp_all)
theorem Codec.arg1 {t : TypeId} {α : Type} (c : Codec P t α) (ht : plainT P t = true) {H : Type} {en : TypeId × Value → H} {W : World} {r : Reach} {b : Nat} {v : Value} {d : DataW H} {ps : List MemPlace}
  (hval : Value.okWide P W r b t v) (h : DataW.Trod en P W 0 (fun _ => true) true t v d ps) : ∃ a, c.ok a ∧ ∀ av, c.enc a = [av] → VRel (mem0 W) W (fun _ => none) av v := by
 obtain ⟨f, hf⟩ := h
 obtain ⟨a, h1, h2⟩ := c.opens en W f _ _ hf
 refine ⟨a, h1, fun av he => ?_⟩
 have hc : v.cells.toList = [v] := by
  cases v <;> first | rfl | exact (no_agg ht hval).elim
 rw [he, hc] at h2
 exact h2.1
def structT (P : Program) (t : TypeId) : Bool := match P.underlying t with | some (.struct _) => true | _ => false
theorem is_agg {t : TypeId} (ht : structT P t = true) {W : World} {r : Reach} {b : Nat} {v : Value} (h : Value.okWide P W r b t v) : ∃ cs, v = .agg cs := by
 unfold structT at ht
 split at ht
 case h_2 => cases ht
 case h_1 fs hu =>
 unfold Value.okWide at h
 simp only [hu] at h
 obtain ⟨cs, e, _⟩ := h
 exact ⟨cs, e⟩
theorem Codec.argAgg {t : TypeId} {α : Type} (c : Codec P t α) (ht : structT P t = true) {H : Type} {en : TypeId × Value → H} {W : World} {r : Reach} {b : Nat} {v : Value} {d : DataW H} {ps : List MemPlace}
  (hval : Value.okWide P W r b t v) (h : DataW.Trod en P W 0 (fun _ => true) true t v d ps) : ∃ a, c.ok a ∧ VRel (mem0 W) W (fun _ => none) (.agg (c.enc a)) v := by
 obtain ⟨f, hf⟩ := h
 obtain ⟨a, h1, h2⟩ := c.opens en W f _ _ hf
 obtain ⟨cs, rfl⟩ := is_agg ht hval
 have hc : (Value.agg cs).cells.toList = cs.toList := rfl
 rw [hc] at h2
 have hl := h2.len
 refine ⟨a, h1, .agg _ _ (by simp [hl]) (fun i hi => ?_)⟩
 have := h2.get i hi (by simpa [hl] using hi)
 simpa using this
end
end Go.Ab
end

noncomputable section
namespace Go.Ab
section
variable {P : Program} {n : Nat} {H : List AObj}
end
end Go.Ab
end

noncomputable section
namespace Go.Ab
section
variable {P : Program} {n : Nat} {H : List AObj}
theorem oarr_eq {M : Mem} {w : World} {loc : Locs} {l : Option Loc} {sz : Nat} {q q' : Seq} (hq : q'.toList = q.toList) (hO : ORel M w loc l (.arr sz q)) : ORel M w loc l (.arr sz q') := by
 obtain ⟨b, vs, T, fr, c1, c2, c3, c4, c5, c6, c7, c8⟩ := hO
 refine ⟨b, vs, T, fr, c1, c2, c3, c4, c5, by rw [hq]; exact c6, fun i hi => ?_, fun i j hi hj => ?_⟩
 ·simp only [hq] at hi ⊢; exact c7 i hi
 ·simp only [hq] at hi hj ⊢; exact c8 i j hi hj
theorem oarr_pre {M : Mem} {w : World} {loc : Locs} {l : Option Loc} {sz k : Nat} {q q' : Seq} (hq : q'.toList = q.toList.take k) (hO : ORel M w loc l (.arr sz q)) : ORel M w loc l (.arr sz q') := by
 obtain ⟨b, vs, T, fr, c1, c2, c3, c4, c5, c6, c7, c8⟩ := hO
 have hl : q'.toList.length ≤ q.toList.length := by rw [hq]; simp; omega
 have hget : ∀ i (hi : i < q'.toList.length), ∃ hi' : i < q.toList.length, q'.toList[i] = q.toList[i] := by
  intro i hi
  have hi2 : i < q.toList.length := by omega
  refine ⟨hi2, ?_⟩
  have e5 : q'.toList[i]? = some q.toList[i] := by
   rw [hq, List.getElem?_take, if_pos (by rw [hq] at hi; simp at hi; omega), List.getElem?_eq_getElem hi2]
  rw [List.getElem?_eq_getElem hi] at e5
  exact Option.some.inj e5
 refine ⟨b, vs, T, fr, c1, c2, c3, c4, c5, Nat.le_trans (Nat.mul_le_mul_right sz hl) c6, fun i hi => ?_, fun i j hi hj => ?_⟩
 ·obtain ⟨h1, h2⟩ := hget i hi
  rw [h2]; exact c7 i h1
 ·obtain ⟨h1, h2⟩ := hget i hi
  obtain ⟨v, w1, w2⟩ := c8 i j h1 (by rw [← h2]; exact hj)
  exact ⟨v, w1, by simp only [h2]; exact w2⟩
theorem ReSt.arr {s : Slots} {id sz : Nat} {q q' : Seq} (ho : H[id]? = some (.arr sz q)) (hq : q'.toList = q.toList) : ReSt n s H s (H.set id (.arr sz q')) := by
 intro M loc w tmps h0 h1 h3
 obtain ⟨r1, r2⟩ := h1.respell id (.arr sz q) (.arr sz q') ho (by intro h; cases h) (by intro h; cases h) (oarr_eq hq)
 exact ⟨M, loc, r1, h3, r2.mono h0⟩
theorem ReSt.arrPre {s : Slots} {id sz k : Nat} {q q' : Seq} (ho : H[id]? = some (.arr sz q)) (hq : q'.toList = q.toList.take k) : ReSt n s H s (H.set id (.arr sz q')) := by
 intro M loc w tmps h0 h1 h3
 obtain ⟨r1, r2⟩ := h1.respell id (.arr sz q) (.arr sz q') ho (by intro h; cases h) (by intro h; cases h) (oarr_pre hq)
 exact ⟨M, loc, r1, h3, r2.mono h0⟩
theorem ASpec.arrEnd {f : FuncId} {args : List AV} {Post : AV → List AObj → Prop}
  (h : ASpec P f args H (fun r H' => ∃ id sz q q', H'[id]? = some (.arr sz q) ∧ q'.toList = q.toList ∧ Post r (H'.set id (.arr sz q')))) : ASpec P f args H Post := by
 intro M loc w vs ht hr hv
 refine (h M loc w vs ht hr hv).mono fun e w' hh => ?_
 obtain ⟨v, r, H', M', loc', he, ⟨id, sz, q, q', ho, hq, hP⟩, r1, r2, r3⟩ := hh
 obtain ⟨k1, k2⟩ := r1.respell id (.arr sz q) (.arr sz q') ho (by intro h; cases h) (by intro h; cases h) (oarr_eq hq)
 exact ⟨v, r, _, M', loc', he, hP, k1, r2.keeps (k2.keeps r1), StepN.trans r3 k2 r3.len⟩
end
end Go.Ab
end

noncomputable section
namespace Go.Ab
section
variable {P : Program} {M : Mem} {w : World} {loc : Locs} {H H2 : List AObj} {n : Nat}
def okL (l : List Nat) (gb : List Bool) : Bool :=
 (List.range l.length).all fun i => (List.range l.length).all fun j => Nat.beq i j || !Nat.beq (l.getD i 0) (l.getD j 0) || gb.getD i false || gb.getD j false
theorem okL_get {l : List Nat} {gb : List Bool} (h : okL l gb = true) {i j : Nat} (hi : i < l.length) (hj : j < l.length) (e : l.getD i 0 = l.getD j 0) : i = j ∨ gb.getD i false = true ∨ gb.getD j false = true := by
 unfold okL at h
 rw [List.all_eq_true] at h
 have h1 := h i (List.mem_range.2 hi)
 rw [List.all_eq_true] at h1
 have h2 := h1 j (List.mem_range.2 hj)
 simp only [Bool.or_eq_true, Bool.not_eq_true'] at h2
 rcases h2 with ((h2 | h2) | h2) | h2
 ·exact .inl (Nat.eq_of_beq_eq_true h2)
 ·rw [e, Nat.beq_refl] at h2; cases h2
 ·exact .inr (.inl h2)
 ·exact .inr (.inr h2)
def SelM (n : Nat) (l : List Nat) (gb : List Bool) (H H2 : List AObj) : Prop :=
 okL l gb = true ∧ H2.map isGone = gb ∧ l.length = H2.length ∧ n ≤ l.length ∧ (∀ i, i < n → l[i]? = some i) ∧ ∀ i (h : i < H2.length), (H[l.getD i H.length]? = some (AObj.ren (selR l H.length) H2[i])) ∨ isGone H2[i] = true
theorem Rel.selectM {l : List Nat} {gb : List Bool} (hr : Rel M loc H w) (hs : SelM n l gb H H2) :
  Rel M (fun i => loc (selR l H.length i)) H2 w ∧ StepN n M loc H w M (fun i => loc (selR l H.length i)) H2 w := by
 obtain ⟨hnd, hgb, hlen, hn, hid, hobj⟩ := hs
 have hget : ∀ (i : Nat) (o : AObj), H2[i]? = some o → (o = .gone → False) → i < H2.length ∧ gb.getD i false = false ∧ H[selR l H.length i]? = some (AObj.ren (selR l H.length) o) := by
  intro i o hi hg
  obtain ⟨hlt, rfl⟩ := List.getElem?_eq_some_iff.1 hi
  have hng : isGone H2[i] = false := by
   cases hq : isGone H2[i] with
   | false => rfl
   | true => exfalso; apply hg; revert hq; cases H2[i] <;> simp [isGone]
  refine ⟨hlt, ?_, ?_⟩
  ·subst hgb
   rw [List.getD_eq_getElem?_getD, List.getElem?_map, hi]
   exact hng
  ·rcases hobj i hlt with h | h
   ·exact h
   ·rw [hng] at h; cases h
 have hinj : ∀ i j, i < H2.length → j < H2.length → gb.getD i false = false → gb.getD j false = false → selR l H.length i = selR l H.length j → i = j := by
  intro i j hi hj g1 g2 e
  have hi' : i < l.length := by omega
  have hj' : j < l.length := by omega
  simp only [selR] at e
  have e2 : l.getD i 0 = l.getD j 0 := by
   rw [List.getD_eq_getElem?_getD, List.getD_eq_getElem?_getD, List.getElem?_eq_getElem hi', List.getElem?_eq_getElem hj'] at e ⊢
   exact e
  rcases okL_get hnd hi' hj' e2 with q | q | q
  ·exact q
  ·rw [g1] at q; cases q
  ·rw [g2] at q; cases q
 have hlg : ∀ i l', loc (selR l H.length i) = some l' → (fun i => loc (selR l H.length i)) i = some l' := fun i l' h => h
 have hgone : ∀ o : AObj, (o = .gone → False) → (AObj.ren (selR l H.length) o = .gone → False) := fun o h e => h (gone_ren e)
 refine ⟨⟨hr.base, hr.ext, ?_, ?_, ?_⟩, ⟨rfl, Nat.le_refl _, rfl, rfl, rfl, fun _ _ _ => ⟨rfl, rfl⟩, fun _ _ _ h => h, fun _ cs _ fr h => ⟨cs, fr, h, rfl⟩, ?_, ?_, by omega⟩⟩
 ·intro i hi
  refine hr.dom _ ?_
  simp [selR, List.getD, List.getElem?_eq_none (show l.length ≤ i by omega)]
 ·intro i o hi
  by_cases hg : o = .gone
  ·subst hg; trivial
  ·obtain ⟨_, _, h⟩ := hget i o hi hg
   exact (hr.objs _ _ h).ren_from hlg
 ·intro i j oi oj li lj b hi hj gi gj hli hlj bi bj
  obtain ⟨h1, q1, h2⟩ := hget i oi hi gi
  obtain ⟨h3, q3, h4⟩ := hget j oj hj gj
  exact hinj i j h1 h3 q1 q3 (hr.inj _ _ _ _ li lj b h2 h4 (hgone _ gi) (hgone _ gj) hli hlj bi bj)
 ·intro b _ ⟨i, o, l', hi, hg, hl, hb⟩
  obtain ⟨_, _, h⟩ := hget i o hi hg
  exact ⟨_, _, l', h, hgone _ hg, hl, hb⟩
 ·intro i hi
  have := hid i hi
  simp only [selR, List.getD, this, Option.getD_some]
theorem ReSt.selM {l : List Nat} {gb : List Bool} {s s2 : Slots} (hs : SelM n l gb H H2) (h : ∀ d, get s d = AV.ren (selR l H.length) (get s2 d) ∨ get s2 d = .bad) : ReSt n s H s2 H2 := by
 intro M loc w tmps h0 h1 h2
 obtain ⟨r1, r2⟩ := h1.selectM hs
 refine ⟨_, _, r1, fun d => ?_, r2⟩
 rcases h d with e | e
 ·have := h2 d
  rw [e] at this
  exact this.ren_from (fun i l' h => h) _ rfl
 ·rw [e]; exact .bad _
theorem AWP.shapeM {ro : Option Nat} {N : Nat} {c : Code} {s : Slots} {Q : AQ} (l : List Nat) (gb : List Bool) (s2 : Slots) (H2 : List AObj) (hsel : SelM n l gb H H2)
  (hs : Slots2 (fun a b => Le a (AV.ren (selR l H.length) b)) s s2) (k : AWPr ro P N n c s2 H2 Q) : AWPr ro P N n c s H Q := by
 intro M loc w a h0
 refine AWP.re (ReSt.trans (ReSt.le (s2 := renS (selR l H.length) s2) (fun d => ?_) h0) (ReSt.selM hsel fun d => .inl (get_renS _ _ _))) k M loc w a h0
 rw [get_renS]
 exact Slots2.get (R := fun a b => Le a (AV.ren (selR l H.length) b)) (Le.refl _) hs d
end
end Go.Ab
end

noncomputable section
namespace Go.Ab
section
variable {P : Program} {H : List AObj}
theorem AYield.sel {id : Nat} {args : List AV} {Post : AV → List AObj → Prop}
  (h : AYield P id args H (fun r H' => ∃ l H2 r2, Sel H.length l H' H2 ∧ Le r (AV.ren (selR l H'.length) r2) ∧ Post r2 H2)) : AYield P id args H Post := by
 intro M loc w vs b ht hr hv hl
 obtain ⟨f, tmps, asg, body, h1, h2⟩ := h M loc w vs b ht hr hv hl
 refine ⟨f, tmps, asg, body, h1, h2.mono fun e w' hh => ?_⟩
 obtain ⟨v, r, H', M', loc', he, ⟨l, H2, r2, hs, hle, hP⟩, r1, r2', r3⟩ := hh
 obtain ⟨k1, k2⟩ := r1.select hs
 exact ⟨v, _, _, _, _, he, hP, k1, (hle _ _ _ _ r2').ren_from (fun i l' h => h) _ rfl, StepN.trans r3 k2 (Nat.le_refl _)⟩
theorem AYield.reEnd {id : Nat} {args : List AV} {Post : AV → List AObj → Prop}
  (h : AYield P id args H (fun r H' => ∃ r2 H2, ReSt H.length [(0, r)] H' [(0, r2)] H2 ∧ Post r2 H2)) : AYield P id args H Post := by
 intro M loc w vs b ht hr hv hl
 obtain ⟨f, tmps, asg, body, h1, h2⟩ := h M loc w vs b ht hr hv hl
 refine ⟨f, tmps, asg, body, h1, h2.mono fun e w' hh => ?_⟩
 obtain ⟨v, r, H', M', loc', he, ⟨r2, H2, hre, hP⟩, a1, a2, a3⟩ := hh
 obtain ⟨M2, l2, b1, b2, b3⟩ := hre M' loc' w' #[v] a3.len a1 (fun d => by
  cases d with
  | zero => exact a2
  | succ d => exact .bad _)
 have hv2 := b2 0
 exact ⟨v, r2, H2, M2, l2, he, hP, b1, hv2, StepN.trans a3 b3 (Nat.le_refl _)⟩
end
def SelL (H : List AObj) (ρ : Nat → Nat) : List Nat → List AObj → Prop
 | [], [] => True
 | i :: l, o :: H2 => H[i]? = some (AObj.ren ρ o) ∧ SelL H ρ l H2
 | _, _ => False
theorem SelL.at {H : List AObj} {ρ : Nat → Nat} : ∀ {l : List Nat} {H2 : List AObj}, SelL H ρ l H2 → l.length = H2.length ∧ ∀ (d i : Nat) (h : i < H2.length), H[l.getD i d]? = some (AObj.ren ρ H2[i])
 | [], [], _ => ⟨rfl, fun _ i h => absurd h (Nat.not_lt_zero _)⟩
 | i :: l, o :: H2, h => by
  obtain ⟨a, b⟩ := SelL.at h.2
  refine ⟨by simp [a], fun d j hj => ?_⟩
  cases j with
  | zero => exact h.1
  | succ j => exact b d j (by simpa using hj)
end Go.Ab
end

noncomputable section
namespace Go.Ab
open Go.Sort
section
variable {P : Program} {M : Mem} {w w' : World} {loc : Locs} {H : List AObj}
theorem modify_at {hp : Array Obj} {b : Nat} {c : Array Value} {T : TypeId} {fr : Nat × Nat} (f : Array Value → Array Value) (h : hp[b]? = some (.cells c T fr)) : hp.modify b (onCells f) = hp.setIfInBounds b (.cells (f c) T fr) := by
 apply Array.ext_getElem?
 intro k
 simp only [Array.getElem?_modify, Array.getElem?_setIfInBounds]
 by_cases e : b = k
 ·subst e
  rw [if_pos rfl, if_pos rfl, h, if_pos (Array.getElem?_eq_some_iff.1 h).1]
  rfl
 ·rw [if_neg e, if_neg e]
theorem ASpec.sorts {α : Type} [Inhabited α] {f : FuncId} {enc : α → Value} {en : α → List AV} {e1 : α → AV} {d0 : α} {srt : List α → List α} (hen : ∀ x, en x = [e1 x])
  (hrel : ∀ M w loc x v, VRel M w loc (e1 x) v ↔ v = enc x) (hs : ∀ l, (srt l).length = l.length)
  (hc : ∀ blk off cap (ss : List α) w, Holds enc w blk off ss.toArray → blk < w.heap.size → ss.length < 4611686018427387904 →
   Calls P f #[.slice (some ⟨blk, off, none⟩) ss.length cap] w fun e w' => e = .returned (.tuple #[]) ∧ ∃ n os, w' = grow (putRow enc (Sort.ahead w n) blk off (srt ss).toArray) os)
  {id : Nat} {q : Seq} {l : List α} (hid : H[id]? = some (.arr 1 q)) (hq : q.toList = l.map en) (hl : l.length < 4611686018427387904) :
  ASpec P f [.msl 1 id 0 l.length] H (fun r H' => r = .tup [] ∧ H' = H.set id (.arr 1 (.map en d0 (srt l)))) := by
 intro M loc w vs ht hr hv
 obtain ⟨hsz, hv⟩ := hv
 have hv0 := hv 0 (by simp)
 simp only [List.getElem_cons_zero] at hv0
 have hvs : vs = #[vs[0]'(by simp at hsz; omega)] := by
  apply Array.ext
  ·simpa using hsz
  ·intro i h1 h2
   have : i = 0 := by simp at h2; omega
   subst this; rfl
 generalize vs[0]'(by simp at hsz; omega) = v0 at hv0 hvs
 subst hvs
 clear hv hsz
 cases hv0 with
 | msl _ _ _ _ b cap hloc hle hcb =>
 obtain ⟨b', cs, Tb, fr, hloc', hbase, hext, hbk, hsoft, hds, hdz, hdc⟩ := hr.objs id _ hid
 rw [hloc] at hloc'; cases hloc'
 have hblt := cells_lt hbk
 have hql : q.toList.length = l.length := by rw [hq]; simp
 have hcell : ∀ j (hj : j < l.length), cs[j]? = some (enc l[j]) := by
  intro j hj
  have e1' : q.toList[j]'(by omega) = [e1 l[j]] := by
   have : q.toList[j]? = some [e1 l[j]] := by rw [hq, List.getElem?_map, List.getElem?_eq_getElem hj]; simp [hen]
   rw [List.getElem?_eq_getElem (by omega)] at this
   exact Option.some.inj this
  obtain ⟨v, h1, h2⟩ := hdc j 0 (by omega) (by rw [e1']; simp)
  have h2' : VRel M w loc (e1 l[j]) v := by
   have : (q.toList[j]'(by omega))[0]'(by rw [e1']; simp) = e1 l[j] := by simp [e1']
   rw [this] at h2; exact h2
  rw [hrel] at h2'
  subst h2'
  simpa using h1
 have hH : Holds enc w b (0 * 1) l.toArray := by
  intro j hj
  have hj' : j < l.length := by simpa using hj
  have hcj := hcell j hj'
  refine ⟨?_, ?_⟩
  ·simp only [World.cell?, hbk, Nat.zero_mul, Nat.zero_add]
   rw [getElem!_pos _ j hj]
   simpa using hcj
  ·have hjs : j < cs.size := (Array.getElem?_eq_some_iff.1 hcj).1
   simp only [World.frozen?, hbk, Nat.zero_mul, Nat.zero_add]
   have := hsoft.1 j hjs
   simp only [Bool.and_eq_false_iff, decide_eq_false_iff_not]
   by_cases h : fr.1 ≤ j
   ·right; exact fun h2 => this ⟨h, h2⟩
   ·left; exact h
 refine (hc b (0 * 1) cap l w hH hblt hl).mono fun e w' hh => ?_
 obtain ⟨he, n, os, hw⟩ := hh
 have hcsl : l.length ≤ cs.size := by rw [hql] at hds; omega
 -- the row, written
 have hput : putRow enc (Sort.ahead w n) b (0 * 1) (srt l).toArray = setBlk (Sort.ahead w n) b (.cells (putCells enc 0 (srt l).toArray cs) Tb fr) := by
  simp only [putRow, mapBlock, setBlk, Sort.ahead, Nat.zero_mul]
  rw [modify_at _ hbk]
 have hsame : SameMem w (Sort.ahead w n) := ⟨rfl, rfl, rfl, rfl⟩
 obtain ⟨r0, st0⟩ := hr.same hsame
 have hpc : (putCells enc 0 (srt l).toArray cs).size = cs.size := by simp [putCells]
 have hpg : ∀ j (hj : j < l.length), (putCells enc 0 (srt l).toArray cs)[j]? = some (enc ((srt l)[j]'(by rw [hs]; exact hj))) := by
  intro j hj
  have hj2 : j < (srt l).length := by rw [hs]; exact hj
  simp only [putCells, Array.getElem?_mapIdx]
  rw [hcell j hj, Option.map_some]
  simp only [Nat.zero_le, true_and, Nat.zero_add, List.size_toArray, Nat.sub_zero]
  rw [if_pos hj2, getElem!_pos _ j (by simpa using hj2)]
  simp
 obtain ⟨r1, st1⟩ := r0.write id b _ (.arr 1 (.map en d0 (srt l))) (.cells (putCells enc 0 (srt l).toArray cs) Tb fr) hid (by intro h; cases h) hloc
  (fun cs' T' fr' h => by
   rw [show (Sort.ahead w n).heap = w.heap from rfl, hbk] at h
   cases h
   exact ⟨_, _, rfl, hpc⟩)
  (by
   refine ⟨b, _, Tb, fr, rfl, hbase, hext, setBlk_same hblt, ⟨?_, fun h => (h rfl).elim⟩, ?_, ?_, ?_⟩
   ·intro k hk; exact hsoft.1 k (by rw [hpc] at hk; exact hk)
   ·simp only [Seq.toList, List.length_map, hs, hpc]; omega
   ·intro i h; simp only [Seq.toList, List.getElem_map, hen]; rfl
   ·intro i j h hj
    simp only [Seq.toList, List.length_map, List.getElem_map, hen] at h hj ⊢
    have hj0 : j = 0 := by simp at hj; omega
    subst hj0
    have hi : i < l.length := by rw [hs] at h; exact h
    refine ⟨_, by rw [Nat.mul_one, Nat.add_zero]; exact hpg i hi, ?_⟩
    simp only [List.getElem_cons_zero]
    exact (hrel _ _ _ _ _).2 rfl)
 have hg : Grown (setBlk (Sort.ahead w n) b (.cells (putCells enc 0 (srt l).toArray cs) Tb fr)) w' := by
  rw [hw, hput]
  exact ⟨by simp [grow], fun c hc => heap_grow_old _ _ hc, rfl, rfl, rfl⟩
 obtain ⟨r2, st2⟩ := r1.grown hg
 refine ⟨.tuple #[], .tup [], _, M, loc, he, ⟨rfl, rfl⟩, r2, .tup _ _ rfl (fun i h => by simp at h), ?_⟩
 exact StepN.trans (StepN.trans st0 st1 (Nat.le_refl _)) st2 (by simp)
theorem ASpec.reEnd {f : FuncId} {args : List AV} {Post : AV → List AObj → Prop}
  (h : ASpec P f args H (fun r H' => ∃ r2 H2, ReSt H.length [(0, r)] H' [(0, r2)] H2 ∧ Post r2 H2)) : ASpec P f args H Post := by
 intro M loc w vs ht hr hv
 refine (h M loc w vs ht hr hv).mono fun e w' hh => ?_
 obtain ⟨v, r, H', M', loc', he, ⟨r2, H2, hre, hP⟩, a1, a2, a3⟩ := hh
 obtain ⟨M2, l2, b1, b2, b3⟩ := hre M' loc' w' #[v] a3.len a1 (fun d => by
  cases d with
  | zero => exact a2
  | succ d => exact .bad _)
 have hv2 := b2 0
 exact ⟨v, r2, H2, M2, l2, he, hP, b1, hv2, StepN.trans a3 b3 (Nat.le_refl _)⟩
theorem ReSt.refl (n : Nat) (s : Slots) : ReSt n s H s H := fun M loc w tmps h0 h1 h2 =>
 ⟨M, loc, h1, h2, rfl, Nat.le_refl _, rfl, rfl, rfl, fun _ _ _ => ⟨rfl, rfl⟩, fun _ _ _ h => h, fun _ cs _ fr h => ⟨cs, fr, h, rfl⟩, fun _ _ h => h, fun _ _ => rfl, h0⟩
theorem ReSt.freeze1 {n id sz len : Nat} {q q' : Seq} (ho : H[id]? = some (.arr sz q)) (hn : n ≤ H.length) (hlen : len ≤ q.toList.length) (hq : q'.toList = q.toList.take len) :
  ReSt n [(0, .msl sz id 0 len)] H [(0, .sl sz q' .none)] (H.set id .gone) := by
 refine ReSt.freeze ho hn fun d => ?_
 cases d with
 | zero => exact .inr (.inr ⟨0, len, q', rfl, by omega, rfl, by simpa using hq⟩)
 | succ d => exact .inl rfl
end
end Go.Ab
end
