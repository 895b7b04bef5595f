/- own texts -/
import Derived.Test.YtkmolhmdikjmpaaGreatQ5
import Derived.Test.YtkmolhmdikjmpaaGreatQ6
set_option linter.unusedVariables false
set_option linter.unusedSimpArgs false
set_option linter.unusedSectionVars false
set_option maxRecDepth 100000
set_option maxHeartbeats 4000000
noncomputable section
open Go Go.Ab Go.Proofs V S T C
namespace Ph
open W (sl1 slS slN slR leNone renN renS)
open X (hasI getM putI OkX okX_nil okX_put mp_ren largeD_spec largeD_ok)
open Xd (ofI slE smE)
open Pc (slK slKLe UpK)
open Dk (chkF getP chk_up largeK_ok)
open E (PA pa)
open Rr (okX_of ofI_len)
open Ft (NsOk OkG okG_nil okG_put relOf ns_of solB sol_iff Sol sol_at)
open Rc (Nm RS gX hasX outP slL slLle sub_len up_nd univ univ_len univ_root univ_g OkS okS_nil okS_put missing18 reachM reach_spec xV More more_put)
open Pn (solveM outV solve_at solve_more solve_none solve_found solve_lack rel_in)
open Ps (okG_of awake_spec solve_len)
open Pl (Up)
theorem wake (H : List AObj) : ASpec Tryz.prog 26 [] H (fun r H' => ∃ x : Unit, r = .bool true ∧ H' = H ∧ PB true (.bool true) H) := ASpec.call (awake_spec _) (Les.refl _) ⟨(), rfl, rfl, pb rfl⟩
theorem am2 {w : List Nm} {s : Nm} (hw : w.length ≤ 1000000) {R : Bool} : ∀ (m i : Nat), m + i = w.length → decide (s ∈ w.drop i) = R →
  AWP Tryz.prog 18 0 c37_2 [(0, slL w), (1, .str (B s)), (5, .int .i64 i)] [] (q37_2 0 (PB R)) := by
 intro m
 induction m with
 | zero =>
  intro i hm h
  rw [List.drop_eq_nil_of_le (by omega)] at h
  have h : false = R := by simpa using h
  subst h
  exact v37_2 _ _ _ _ _ (condD (fun hc => by omega) fun _ => pb rfl)
 | succ m ih =>
  intro i hm h
  rw [dropD w [] i (by omega)] at h
  refine v37_2 _ _ _ _ _ (condD (fun hc => needJ ⟨by omega, by omega⟩ ?_) fun hc => by omega)
  rw [Int.toNat_natCast, succ64 (by omega)]
  generalize w.getD i [] = y at h ⊢
  refine condS (fun e => ?_) fun e => ih (i + 1) (by omega) ?_
  ·subst e
   have h : true = R := by simpa using h
   subst h
   exact pb rfl
  ·have e' : ¬ s = y := fun x => e x.symm
   rw [← h]
   simp [e']
theorem among_spec (w : List Nm) (s : Nm) (hw : w.length ≤ 1000000) (H : List AObj) : ASpec Tryz.prog 37 [slL w, .str (B s)] H (fun r H' => r = .bool (decide (s ∈ w)) ∧ H' = H) := by
 have k : ASpec Tryz.prog 37 [slL w, .str (B s)] [] (fun r H' => r = .bool (decide (s ∈ w)) ∧ H' = []) :=
  ASpec.sel (s37 w s _ (am2 hw w.length 0 (by omega) rfl))
 exact ASpec.pureH H k _ _ rfl rfl
theorem okS_of : ∀ (e : List Ent) (es : Kn), OkS es → OkS (ofI e es)
 | [], _, h => h
 | x :: e, es, h => okS_of e _ (okS_put h)
theorem missing_at {es : Kn} (hes : OkX es) (hS : OkS es) (hl : es.length ≤ 100) {root : List Need} (hr : root.length ≤ 1000) (H : List AObj) (q p : Nat) (hqp : q ≠ p) (hq : H[q]? = some (.mp (.typed EK es))) (hp : H[p]? = some (.cells [.map q])) :
  ASpec Tryz.prog 38 [.ptr p 0, slN root] H (fun r H' => r = slL (outP (hasX true es) (reachM true es (root.map (·.1)))) ∧ H' = H) := by
 have hu : (univ es (root.map (·.1))).length ≤ 100000 := by
  have := univ_len (root := root.map (·.1)) hS
  rw [List.length_map] at this
  omega
 have k : ASpec Tryz.prog 38 [xV true, slN root] (HX es) (fun r H' => r = slL (outP (hasX true es) (reachM true es (root.map (·.1)))) ∧ H' = HX es) :=
  missing18 (b := true) (root := root) (U := univ es (root.map (·.1))) hes univ_g (by omega) (fun n hn => univ_root (List.mem_map.2 ⟨n, hn, rfl⟩)) (by omega) (R := reachM true es (root.map (·.1))) rfl
 have := X.liftX H q p hqp hq hp k (args' := [.ptr p 0, slN root]) (r' := slL (outP (hasX true es) (reachM true es (root.map (·.1))))) rfl rfl
 rwa [set_same hq] at this
theorem missing_in {es : Kn} {root : List Nm} {s : Nm} (h1 : RS (gX true es) root s) (h2 : hasI es s = false) : s ∈ outP (hasX true es) (reachM true es root) := by
 have h3 := ((reach_spec true es root).2 s).2 h1
 unfold outP
 rw [List.mem_filter]
 exact ⟨h3, by simp [hasX, h2]⟩
theorem find_key {α : Type} {k : ByteArray} : ∀ {l : List (ByteArray × α)} {v : α}, findM l k = some v → ∃ q ∈ l, q.1 = k
 | [], v, h => by cases h
 | q :: r, v, h => by
  simp only [findM] at h
  split at h
  ·rename_i e; exact ⟨q, by simp, e.symm⟩
  ·obtain ⟨x, hx, e⟩ := find_key h
   exact ⟨x, List.mem_cons_of_mem _ hx, e⟩
theorem sol_len {es : Kn} {root : List Need} {l : List Pk} (hs : Sol es root l) : l.length ≤ es.length := by
 have hu : Up (l.map (·.1)) := List.pairwise_map.2 ((chk_up hs.ck).imp fun {a b} h => Dp.less_iff.1 h)
 have h := sub_len (a := l.map (·.1)) (b := es.map fun q => q.1.data.toList) (up_nd hu) fun x hx => by
  obtain ⟨p, hp, rfl⟩ := List.mem_map.1 hx
  obtain ⟨y, hy, _⟩ := rel_in (hs.rel p hp)
  unfold getM at hy
  cases hf : findM es (B p.1) with
  | none => rw [hf] at hy; cases hy
  | some v =>
   obtain ⟨q, hq, e⟩ := find_key hf
   exact List.mem_map.2 ⟨q, hq, by rw [e]⟩
 simpa using h
theorem sol_names {es : Kn} {root : List Need} {l : List Pk} (hs : Sol es root l) : ∀ p ∈ l, p.1.length ≤ 1000 := fun p hp => by
 have := Pn.chk_fit hs.ck p hp
 unfold Dk.fitP at this
 rw [Bool.and_eq_true] at this
 have := fitM_short this.1
 omega
abbrev HL (c : Ch) (es : Kn) : List AObj := [.cells (encCh c), .mp (.typed EK es), .cells [.map 1]]
section
variable {c : Ch} {es0 es1 : Kn} (hm : More es0 es1) (hx : OkX es1) (hg : OkG es1) (hl : c.2.length ≤ 60) (hp : ∀ p ∈ c.2, p.1.length ≤ 200) (hr : c.1.length ≤ 40) (hN : okN c.1) (hok : needOk c.1 = true)
include hm hx hg hl hp hr hN hok
theorem fin8 (more : List Ent) : AWP Tryz.prog 139 0 c7_8 [(1, slE more), (5, .ptr 0 0), (7, .ptr 2 0), (8, slK (solveM es0 c.1 2000).1), (9, .int .i64 (solveM es0 c.1 2000).2.1), (11, .int .i64 more.length)] (HL c es1) (q7_2 0 (PB true)) := by
 have hns := (ns_of hok).1
 have F1 : (solveM es0 c.1 2000).2.1 ≠ 3 → solveM es1 c.1 2000 = solveM es0 c.1 2000 := fun h => solve_more hm h
 have F3 : (solveM es1 c.1 2000).2.1 = 2 → solB es1 c.1 c.2 = false := fun h => by
  cases hb : solB es1 c.1 c.2 with
  | false => rfl
  | true => exact (solve_none hg hns h c.2 (sol_iff.1 hb)).elim
 have hS := fun H q p a b d => sol_at hx hg (root := c.1) (l := c.2) (by omega) (by omega) (fun p h => by have := hp p h; omega) hns H q p a b d
 refine v7_8 more c es1 _ _ _ _ _ (condD (fun hc => by omega) fun _ => ?_)
 refine ASpec.call (solve_at hx hg hN hns (by omega) 2000 (by decide) _ 1 2 (by omega) rfl rfl) (Les.refl _) ⟨((solveM es1 c.1 2000).1, (solveM es1 c.1 2000).2.1, B (solveM es1 c.1 2000).2.2), rfl, rfl, ?_⟩
 have hlen := solve_len es1 c.1 2000 (by decide)
 have hlen0 := solve_len es0 c.1 2000 (by decide)
 generalize solveM es1 c.1 2000 = x at *
 generalize solveM es0 c.1 2000 = y at *
 refine condE (fun k1 => ?_) fun k1 => ?_
 ·have e := F1 (by rw [k1]; decide)
  subst e
  refine condNe (fun h => (h k1).elim) fun _ => ?_
  refine ASpec.call (Dk.rsameP_spec x.1 x.1 hlen _) (Les.refl _) ⟨_, rfl, rfl, condBn (fun h => by simp at h) fun _ => ?_⟩
  refine condE (fun k2 => by rw [k1] at k2; cases k2) fun _ => ?_
  exact condNe (fun _ => wake _) fun h => by rw [k1] at h; cases h
 ·refine condE (fun k2 => ?_) fun k2 => ?_
  ·have e := F1 (by rw [k2]; decide)
   subst e
   refine condNe (fun h => (h k2).elim) fun _ => ?_
   refine ASpec.call (hS _ 1 2 (by omega) rfl rfl) (Les.refl _) ⟨_, rfl, rfl, condB (fun h => by rw [F3 k2] at h; cases h) fun _ => ?_⟩
   refine condNe (fun h => (h k2).elim) fun _ => ?_
   exact ASpec.call (hS _ 1 2 (by omega) rfl rfl) (Les.refl _) ⟨_, rfl, rfl, condBn (fun _ => wake _) fun h => by rw [F3 k2] at h; cases h⟩
  ·refine condNe (fun _ => wake _) fun h2 => ?_
   exact ASpec.call (hS _ 1 2 (by omega) rfl rfl) (Les.refl _) ⟨_, rfl, rfl, condBn (fun _ => wake _) fun h => by rw [F3 h2] at h; cases h⟩
end
theorem at8 {more : List Ent} (hmo : more.length ≤ 30 ∧ ∀ x ∈ more, x.1.length ≤ 200 ∧ x.2.length ≤ 9000) {c : Ch} {es0 : Kn} (hl : c.2.length ≤ 60) (hp : ∀ p ∈ c.2, p.1.length ≤ 200) (hr : c.1.length ≤ 40) (hN : okN c.1) (hok : needOk c.1 = true) :
  ∀ (d i : Nat) (es : Kn), d + i = more.length → OkX es → OkG es → More es0 es →
  AWP Tryz.prog 139 0 c7_8 [(1, slE more), (5, .ptr 0 0), (7, .ptr 2 0), (8, slK (solveM es0 c.1 2000).1), (9, .int .i64 (solveM es0 c.1 2000).2.1), (11, .int .i64 i)] (HL c es) (q7_2 0 (PB true)) := by
 have h30 := hmo.1
 intro d
 induction d with
 | zero =>
  intro i es hd hx hg hm
  have : i = more.length := by omega
  subst this
  exact fin8 hm hx hg hl hp hr hN hok more
 | succ d ih =>
  intro i es hd hx hg hm
  have hy := hmo.2 _ (memD more ([], []) i (by omega))
  refine v7_8 more c es _ _ _ _ _ (condD (fun hc => needJ ⟨by omega, by omega⟩ (needJ ⟨by omega, by omega⟩ ?_)) fun hc => by omega)
  rw [Int.toNat_natCast, succ64 (by omega)]
  generalize more.getD i ([], []) = x at hy ⊢
  exact ASpec.call (X.put_spec es x.1 x.2 (by unfold lim; omega) _ 1 2 (by omega) rfl rfl) (Les.refl _) ⟨putI es x.1 x.2, rfl, rfl, ih (i + 1) _ (by omega) (okX_put hx) (okG_put hg) (hm.trans (more_put es x.1 x.2))⟩
theorem plainHolds_spec (e more : List Ent) (c : Ch) : ASpec Tryz.prog 7 [slE e, slE more, .agg (encCh c)] [] (fun r H' => r = .bool true ∧ H' = []) := by
 refine ASpec.sel (s7 e more c (PB true) (ASpec.call (largeD_spec e _) (Les.refl _) ⟨_, rfl, rfl, condB (fun _ => wake _) fun h1 => ?_⟩))
 refine ASpec.call (largeD_spec more _) (Les.refl _) ⟨_, rfl, rfl, condB (fun _ => wake _) fun h2 => ?_⟩
 refine ASpec.call (largeN_spec c.1 _) (Les.refl _) ⟨_, rfl, rfl, condB (fun _ => wake _) fun h3 => ?_⟩
 have he := largeD_ok h1
 have hmo := largeD_ok h2
 have h30 := he.1
 have hr : c.1.length ≤ 40 := by
  unfold largeN at h3
  split at h3
  ·cases h3
  ·omega
 have hN := largeN_ok h3
 refine ASpec.call (rneedCheck_spec c.1 hN _) (Les.refl _) ⟨_, rfl, rfl, condBn (fun _ => wake _) fun hok => ?_⟩
 have hns := (ns_of hok).1
 refine ASpec.call (Dk.large_spec c.2 _) (Les.refl _) ⟨_, rfl, rfl, condB (fun _ => wake _) fun h4 => ?_⟩
 obtain ⟨hl, hp⟩ := largeK_ok h4
 have hsm : smE e := ⟨by omega, he.2⟩
 have hX := okX_of e [] okX_nil
 have hG := okG_of e [] okG_nil
 have hS := okS_of e [] okS_nil
 have hL := ofI_len e
 refine ASpec.call (Xd.xof_spec e hsm _) (Les.refl _) ⟨ofI e [], rfl, rfl, ?_⟩
 generalize ofI e [] = es at hX hG hS hL ⊢
 refine ASpec.call (solve_at hX hG hN hns (by omega) 2000 (by decide) _ 1 2 (by omega) rfl rfl) (Les.refl _) ⟨((solveM es c.1 2000).1, (solveM es c.1 2000).2.1, B (solveM es c.1 2000).2.2), rfl, rfl, ?_⟩
 have loop := at8 (more := more) (c := c) (es0 := es) hmo hl hp hr hN hok more.length 0 es (by omega) hX hG (More.refl es)
 have found : (solveM es c.1 2000).2.1 = 1 → ASpec Tryz.prog 39 [.ptr 2 0, slN c.1, slK (solveM es c.1 2000).1] (HL c es) (fun r H' => r = .bool true ∧ H' = HL c es) := fun h => by
  have hs := solve_found hG hok h
  have hb := sol_iff.2 hs
  have h1 := sol_len hs
  have := sol_at hX hG (root := c.1) (l := (solveM es c.1 2000).1) (by omega) (by omega) (sol_names hs) hns (HL c es) 1 2 (by omega) rfl rfl
  rwa [hb] at this
 refine condE (fun k3 => ?_) fun k3 => ?_
 ·refine ASpec.call (missing_at hX hS (by omega) (by omega) _ 1 2 (by omega) rfl rfl) (Les.refl _) ⟨_, rfl, rfl, ?_⟩
  obtain ⟨a1, a2⟩ := solve_lack hG hok k3
  have hin := missing_in a1 a2
  have hlen : (outP (hasX true es) (reachM true es (c.1.map (·.1)))).length ≤ 1000000 := by
   have h1 : (outP (hasX true es) (reachM true es (c.1.map (·.1)))).length ≤ (reachM true es (c.1.map (·.1))).length := List.length_filter_le _ _
   have h2 := Rc.reach_len true es (c.1.map (·.1))
   have h3 := univ_len (root := c.1.map (·.1)) hS
   rw [List.length_map] at h3
   omega
  refine ASpec.call (among_spec _ (solveM es c.1 2000).2.2 hlen _) (Les.refl _) ⟨_, rfl, rfl, condBn (fun h => ?_) fun _ => ?_⟩
  ·rw [decide_eq_true hin] at h; cases h
  ·exact condE (fun k1 => by rw [k3] at k1; cases k1) fun _ => loop
 ·refine condE (fun k1 => ?_) fun _ => loop
  exact ASpec.call (found k1) (Les.refl _) ⟨true, rfl, rfl, condBn (fun h => by cases h) fun _ => loop⟩
end Ph
end
