/- Q7: several of this proof's own texts, one behind the other: what each proves stands at its head. -/
import Derived.Shelf.SortM.Plain
import Derived.Shelf.SortM.SortNone
import Derived.Ground.SlgmProg
import Derived.Test.YtkmolhmdikjmpaaGreatProg
import Derived.Test.YtkmolhmdikjmpaaGreatA3
import Derived.Test.YtkmolhmdikjmpaaGreatQ4
import Derived.Test.YtkmolhmdikjmpaaGreatQ5
import Derived.Test.YtkmolhmdikjmpaaGreatQ6
import Derived.Shelf.Lays
import Derived.Shelf.Small.Strs
set_option linter.unusedVariables false
set_option linter.unusedSimpArgs false
set_option linter.unusedSectionVars false
set_option maxRecDepth 100000
set_option maxHeartbeats 4000000
noncomputable section
namespace Go.Proofs
open Go.Shelf
end Go.Proofs
end

noncomputable section
open Go Go.Ab Go.Proofs Go.Sort T
namespace So
def sortL (l : List (List UInt8)) : List (List UInt8) := l.mergeSort fun x y => decide (x ≤ y)
end So
end

noncomputable section
open Go Go.Ab Go.Proofs
namespace Pl
open Dp (less_iff less_trans less_irrefl less_tri)
abbrev Nm := List UInt8
def addM (x : Nm) : List Nm → List Nm
 | [] => [x]
 | y :: r => if (Op.bytesLess x y || x == y) = true then (if x = y then x :: r else x :: y :: r) else y :: addM x r
abbrev Up (l : List Nm) : Prop := l.Pairwise fun a b => a < b
theorem tri (a b : Nm) : a < b ∨ a = b ∨ b < a := by
 by_cases h : a = b
 ·exact .inr (.inl h)
 ·cases hx : Op.bytesLess a b with
  | true => exact .inl (less_iff.1 hx)
  | false => exact .inr (.inr (less_iff.1 (less_tri hx h)))
theorem ltT {a b c : Nm} (h : a < b) (k : b < c) : a < c := List.lt_trans h k
theorem ltI {a : Nm} (h : a < a) : False := List.lt_irrefl a h
theorem addM_mem {x y : Nm} : ∀ {o : List Nm}, y ∈ addM x o ↔ y = x ∨ y ∈ o
 | [] => by simp [addM]
 | z :: r => by
  simp only [addM]
  split
  ·split
   ·rename_i e; subst e; simp
   ·simp
  ·have := addM_mem (x := x) (y := y) (o := r)
   simp only [List.mem_cons, this]
   constructor
   ·rintro (h | h | h) <;> simp [h]
   ·rintro (h | h | h) <;> simp [h]
theorem addM_up {x : Nm} : ∀ {o : List Nm}, Up o → Up (addM x o)
 | [], _ => by simp [addM, Up]
 | z :: r, h => by
  have h' := List.pairwise_cons.1 h
  simp only [addM]
  split
  ·rename_i hb
   split
   ·rename_i e; subst e; exact h
   ·rename_i hne
    have hl : x < z := by
     rw [Bool.or_eq_true] at hb
     rcases hb with hb | hb
     ·exact less_iff.1 hb
     ·exact (hne (beq_iff_eq.1 hb)).elim
    refine List.pairwise_cons.2 ⟨fun y hy => ?_, h⟩
    rcases List.mem_cons.1 hy with e | m
    ·subst e; exact hl
    ·exact ltT hl (h'.1 y m)
  ·rename_i hb
   rw [Bool.or_eq_true, not_or] at hb
   have hl : z < x := by
    rcases tri x z with h1 | h1 | h1
    ·exact (hb.1 (less_iff.2 h1)).elim
    ·exact (hb.2 (beq_iff_eq.2 h1)).elim
    ·exact h1
   refine List.pairwise_cons.2 ⟨fun y hy => ?_, addM_up h'.2⟩
   rcases addM_mem.1 hy with e | m
   ·subst e; exact hl
   ·exact h'.1 y m
def addAll (l : List Nm) (o : List Nm) : List Nm := l.foldl (fun o x => addM x o) o
theorem addAll_up : ∀ (l : List Nm) {o : List Nm}, Up o → Up (addAll l o)
 | [], _, h => h
 | x :: l, _, h => addAll_up l (addM_up h)
theorem addAll_mem : ∀ (l : List Nm) {o : List Nm} {y : Nm}, y ∈ addAll l o ↔ y ∈ l ∨ y ∈ o
 | [], o, y => by simp [addAll]
 | x :: l, o, y => by
  show y ∈ addAll l (addM x o) ↔ _
  rw [addAll_mem l, addM_mem, List.mem_cons]
  constructor
  ·rintro (h | h | h) <;> simp [h]
  ·rintro ((h | h) | h) <;> simp [h]
theorem addAll_len : ∀ (l : List Nm) {o : List Nm}, (addAll l o).length ≤ l.length + o.length
 | [], o => by simp [addAll]
 | x :: l, o => by
  have h1 := addAll_len l (o := addM x o)
  have h2 : ∀ o : List Nm, (addM x o).length ≤ o.length + 1 := by
   intro o
   induction o with
   | nil => simp [addM]
   | cons y r ih => simp only [addM]; split <;> (try split) <;> simp <;> omega
  have h3 := h2 o
  show (addAll l (addM x o)).length ≤ _
  simp only [List.length_cons]; omega
end Pl
end

noncomputable section
open Go Go.Ab Go.Proofs
namespace Rc
open Pl (Up tri ltT ltI addM addM_mem addM_up addAll addAll_up addAll_mem)
open So (sortL)
abbrev Nm := List UInt8
def allN (m : T.Mani) : List Nm := m.2.flatMap fun r => r.2.map (·.1)
def mnM (m : T.Mani) : List Nm := addAll (allN m) []
section
variable (g : Nm → List Nm)
inductive RS (root : List Nm) : Nm → Prop
 | base {x : Nm} : x ∈ root → RS root x
 | step {x y : Nm} : RS root x → y ∈ g x → RS root y
variable {root U : List Nm} (hU1 : ∀ x ∈ root, x ∈ U) (hU2 : ∀ x, ∀ y ∈ g x, y ∈ U)
include hU1 hU2
end
section
variable (g : Nm → List Nm) {root U : List Nm} (hU1 : ∀ x ∈ root, x ∈ U) (hU2 : ∀ x, ∀ y ∈ g x, y ∈ U)
include hU1 hU2
end
end Rc
end

noncomputable section
open Go Go.Ab Go.Proofs V S T C
namespace Rc
open Pl (Up)
open W (sl1 slS slN slR)
open So (sortL)
abbrev slL (l : List Nm) : AV := .sl 1 (.map encL [] l) .none
theorem selN {n : Nat} {l : List Nat} {H H2 : List AObj} (h1 : l.Nodup) (h0 : n ≤ l.length) (h2 : ∀ i, i < n → l[i]? = some i) (h3 : SelL H (selR l H.length) l H2) : Sel n l H H2 := by
 obtain ⟨a, b⟩ := SelL.at h3
 exact ⟨h1, a, h0, h2, fun i hi => .inl (b _ i hi)⟩
theorem slotsR {ρ : Nat → Nat} : ∀ {s s2 : Slots}, s = s2.map (fun p => (p.1, AV.ren ρ p.2)) → Slots2 (fun a b => Le a (AV.ren ρ b)) s s2
 | _, [], h => by subst h; trivial
 | _, p :: r, h => by subst h; exact ⟨rfl, Le.refl _, slotsR rfl⟩
section
variable {rs : List Rel} {nn i0 : Int} {Post : AV → List AObj → Prop}
end
theorem slLle (ρ : Nat → Nat) (l : List Nm) (t : Tip) : Le (.sl 1 (.map encL [] l) t) (AV.ren ρ (slL l)) := Le.sl (s' := Seq.ren ρ (.map encL [] l)) (by simp [Ab.Seq.toList, Seq.ren]; exact fun a _ => rfl) (.inl rfl) (.inr rfl)
end Rc
end

noncomputable section
open Go Go.Ab Go.Proofs V S T C
namespace Rc
open Pl (Up)
open W (sl1 slS slN slR)
open So (sortL)
open X (hasI getM OkX mp_ren)
section
variable {es : Kn} {x : Nm} {t o : List Nm}
end
def getX (b : Bool) (es : Kn) (k : Nm) : Mani × Bool := if b = true then getM es k else ((k, []), false)
def gX (b : Bool) (es : Kn) (k : Nm) : List Nm := mnM (getX b es k).1
section
variable {b : Bool} {es : Kn} (hes : OkX es) {root : List Need} {U : List Nm} (hU : ∀ x, ∀ y ∈ gX b es x, y ∈ U) (hUl : U.length ≤ 1000000)
include hes
include hU hUl
variable (hr : ∀ n ∈ root, n.1 ∈ U) (hrl : root.length ≤ 1000000)
include hr hrl
end
end Rc
end

noncomputable section
open Go Go.Ab Go.Proofs V S T C
namespace Rc
open W (sl1 slS slN slR)
open So (sortL)
open X (hasI getM OkX mp_ren)
section
variable (p : Nm → Bool)
end
section
variable {b : Bool} {es : Kn}
variable (hes : OkX es) {root : List Need} {U : List Nm} (hU : ∀ x, ∀ y ∈ gX b es x, y ∈ U) (hUl : U.length ≤ 1000000) (hr : ∀ n ∈ root, n.1 ∈ U) (hrl : root.length ≤ 1000000)
include hes hU hUl hr hrl
end
end Rc
end

noncomputable section
open Go Go.Ab Go.Proofs V S T C
namespace Xd
open X (hasI getM readK putI OkX find_none)
open Pl (Up tri ltT ltI)
open Dp (less_iff less_trans less_irrefl less_tri)
open So (sortL)
abbrev Nm := List UInt8
def kdOf (k : Nm) : Known → Kd
 | some m => (m, true)
 | none => ((k, []), false)
def insK (x : Kd) : List Kd → List Kd
 | [] => [x]
 | y :: r => if Op.bytesLess x.1.1 y.1.1 = true then x :: y :: r else y :: insK x r
def atF (s : Nm) : List Kd → Option Kd
 | [] => none
 | y :: r => if y.1.1 = s then some y else atF s r
def hasD (l : List Kd) (s : Nm) : Bool := (atF s l).isSome
def getKd (l : List Kd) (s : Nm) : Mani × Bool := match atF s l with
 | some y => (y.1, y.2)
 | none => ((s, []), false)
def putKd (l : List Kd) (s b : Nm) : Int × List Kd :=
 if fitM s = false ∨ 8192 < b.length then (1, l) else if hasD l s = true then (6, l) else (0, insK (kdOf s (readK s b)) l)
theorem insK_len (x : Kd) : ∀ l : List Kd, (insK x l).length = l.length + 1
 | [] => rfl
 | y :: r => by
  simp only [insK]
  split
  ·rfl
  ·simp [insK_len x r]
theorem insK_mem {x y : Kd} : ∀ {l : List Kd}, y ∈ insK x l ↔ y = x ∨ y ∈ l
 | [] => by simp [insK]
 | z :: r => by
  simp only [insK]
  split
  ·simp
  ·have := insK_mem (x := x) (y := y) (l := r)
   simp only [List.mem_cons, this]
   constructor
   ·rintro (h | h | h) <;> simp [h]
   ·rintro (h | h | h) <;> simp [h]
theorem atF_none {s : Nm} : ∀ {l : List Kd}, atF s l = none ↔ ∀ y ∈ l, y.1.1 ≠ s
 | [] => by simp [atF]
 | y :: r => by
  simp only [atF]
  split
  ·rename_i h; simp [h]
  ·rename_i h; rw [atF_none]; simp [h]
theorem atF_ins {x : Kd} {s : Nm} : ∀ {l : List Kd}, atF x.1.1 l = none → atF s (insK x l) = if x.1.1 = s then some x else atF s l
 | [], _ => by simp [insK, atF]
 | y :: r, h => by
  simp only [atF] at h
  split at h
  ·cases h
  ·rename_i hy
   simp only [insK]
   split
   ·simp only [atF]
   ·simp only [atF]
    rw [atF_ins h]
    by_cases e : y.1.1 = s
    ·rw [if_pos e, if_pos e, if_neg (fun h => hy (by rw [e, h]))]
    ·rw [if_neg e, if_neg e]
abbrev UpD (l : List Kd) : Prop := l.Pairwise fun a b => Op.bytesLess a.1.1 b.1.1 = true
theorem insK_up {x : Kd} : ∀ {l : List Kd}, UpD l → atF x.1.1 l = none → UpD (insK x l)
 | [], _, _ => by simp [insK]
 | y :: r, h, hn => by
  have h' := List.pairwise_cons.1 h
  have hy := atF_none.1 hn y (by simp)
  have hr : atF x.1.1 r = none := atF_none.2 fun z hz => atF_none.1 hn z (by simp [hz])
  simp only [insK]
  split
  ·rename_i hb
   refine List.pairwise_cons.2 ⟨fun z hz => ?_, h⟩
   rcases List.mem_cons.1 hz with rfl | hz
   ·exact hb
   ·exact less_trans hb (h'.1 z hz)
  ·rename_i hb
   have hlt : Op.bytesLess y.1.1 x.1.1 = true := less_tri (by simpa using hb) (fun e => hy e.symm)
   refine List.pairwise_cons.2 ⟨fun z hz => ?_, insK_up h'.2 hr⟩
   rcases insK_mem.1 hz with rfl | hz
   ·exact hlt
   ·exact h'.1 z hz
structure RelX (es : Kn) (l : List Kd) : Prop where
 up : UpD l
 look : ∀ s, atF s l = (findM es (B s)).map (kdOf s)
 len : l.length = es.length
 nd : (es.map (·.1)).Nodup
theorem rel0 : RelX [] [] := ⟨List.Pairwise.nil, fun s => rfl, rfl, List.Pairwise.nil⟩
theorem setM_app {α : Type} (k : ByteArray) (v : α) : ∀ es : List (ByteArray × α), findM es k = none → setM es k v = es ++ [(k, v)]
 | [], _ => rfl
 | p :: l, h => by
  simp only [findM] at h
  split at h
  ·cases h
  ·rename_i e
   simp only [setM, if_neg e]
   rw [setM_app k v l h]; rfl
theorem find_keys {α : Type} {k : ByteArray} : ∀ {es : List (ByteArray × α)}, findM es k = none ↔ k ∉ es.map (·.1)
 | [] => by simp [findM]
 | p :: l => by
  simp only [findM, List.map_cons, List.mem_cons, not_or]
  split
  ·rename_i h; simp [h]
  ·rename_i h; rw [find_keys]; simp [h]
theorem kdOf_name (k b : Nm) : (kdOf k (readK k b)).1.1 = k := by
 unfold readK
 split
 ·rfl
 ·rename_i h
  show (W.readM b).1.1 = k
  exact Classical.byContradiction fun hn => h (.inr hn)
theorem B_inj {a b : Nm} (h : B a = B b) : a = b := by
 have := congrArg (fun x : ByteArray => x.data.toList) h
 simpa using this
theorem rel_has {es : Kn} {l : List Kd} (h : RelX es l) (s : Nm) : hasD l s = hasI es s := by
 unfold hasD hasI
 rw [h.look s, Option.isSome_map]
theorem rel_get {es : Kn} {l : List Kd} (h : RelX es l) (s : Nm) : getKd l s = getM es s := by
 unfold getKd getM
 rw [h.look s]
 cases findM es (B s) with
 | none => rfl
 | some v => cases v <;> rfl
theorem rel_put {es : Kn} {l : List Kd} (h : RelX es l) (s b : Nm) : (putKd l s b).1 = (putI es s b).1 ∧ RelX (putI es s b).2 (putKd l s b).2 := by
 unfold putKd putI
 rw [rel_has h]
 split
 ·exact ⟨rfl, h⟩
 ·split
  ·exact ⟨rfl, h⟩
  ·rename_i hn
   have hn : hasI es s = false := by simpa using hn
   have hf := find_none hn
   have ha : atF (kdOf s (readK s b)).1.1 l = none := by rw [kdOf_name, h.look s, hf]; rfl
   refine ⟨rfl, insK_up h.up ha, fun t => ?_, ?_, ?_⟩
   ·rw [atF_ins ha, kdOf_name, findM_set, h.look t]
    by_cases e : s = t
    ·subst e; rw [if_pos rfl, if_pos rfl]; rfl
    ·rw [if_neg e, if_neg (fun hh => e (B_inj hh).symm)]
   ·rw [insK_len, setM_app _ _ _ hf, h.len]; simp
   ·rw [setM_app _ _ _ hf, List.map_append, List.nodup_append]
    refine ⟨h.nd, by simp, fun a ha b hb => ?_⟩
    simp at hb
    subst hb
    rintro rfl
    exact (find_keys.1 hf) ha
end Xd
end

noncomputable section
namespace Go.Proofs
open Go.Shelf
end Go.Proofs
open Go Go.Ab Go.Proofs V S T C
namespace Dp
end Dp
end

noncomputable section
open Go Go.Ab Go.Proofs V S T C
open W (sl1 slS slN slR leNone readM cons_dec)
namespace Dp
abbrev PA (r0 : AV) : AV → List AObj → Prop := fun r H' => ∃ l H2 r2, Sel 0 l H' H2 ∧ Le r (AV.ren (selR l H'.length) r2) ∧ (r2 = r0 ∧ H2 = [])
theorem pa {r r0 : AV} {H' : List AObj} (h : Le r (AV.ren (selR [] H'.length) r0)) : PA r0 r H' := ⟨[], [], r0, Sel.none, h, rfl, rfl⟩
def readB (s b : List UInt8) : Mani × Bool := if (readM b).2 ≠ 0 ∨ (readM b).1.1 ≠ s then ((s, []), false) else ((readM b).1, true)
abbrev PMB (v : Mani × Bool) : AV → List AObj → Prop := PA (.tup [.agg (encM v.1), .bool v.2])
theorem pmNone {v : Mani × Bool} {s : List UInt8} {H' : List AObj} (h : v = ((s, []), false)) : PMB v (.tup [.agg [.str (B s), .sl 0 (.raw []) .nil], .bool false]) H' := by
 subst h
 exact pa (Le.tup ⟨Le.agg ⟨Le.refl _, Le.sl (s' := Seq.ren _ (.map T.encR (0, []) [])) rfl (.inr ⟨rfl, fun _ h => by cases h⟩) (.inr rfl), trivial⟩, Le.refl _, trivial⟩)
theorem pmSome {v : Mani × Bool} {m : Mani} {H' : List AObj} (h : v = (m, true)) : PMB v (.tup [.agg (encM m), .bool true]) H' := by
 subst h
 exact pa (Le.refl _)
theorem rread_spec (s b : List UInt8) (hb : b.length ≤ 1000000) (H : List AObj) : ASpec Tryz.prog 106 [.str (B s), .str (B b)] H (fun r H' => r = .tup [.agg (encM (readB s b).1), .bool (readB s b).2] ∧ H' = H) := by
 have k : ASpec Tryz.prog 106 [.str (B s), .str (B b)] [] (fun r H' => r = .tup [.agg (encM (readB s b).1), .bool (readB s b).2] ∧ H' = []) := by
  refine ASpec.sel (s106 _ _ _ (ASpec.call (W.rread_spec b hb _) (Les.refl _) ⟨((readM b).1, (readM b).2), rfl, rfl, condNe (fun h => pmNone ?_) fun h => condSn (fun h2 => pmNone ?_) fun h2 => pmSome ?_⟩))
  ·rw [readB, if_pos (.inl h)]
  ·rw [readB, if_pos (.inr h2)]
  ·rw [readB, if_neg (by rintro (h3 | h3); exact h3 h; exact h3 h2)]
 exact ASpec.pureH H k _ _ rfl rfl
end Dp
end

noncomputable section
open Go Go.Ab Go.Proofs V S T C
open W (sl1 slS slN slR)
namespace Xd
open X (hasI getM readK putI OkX find_none PA pa mp_ren selX)
theorem cellEnd {H : List AObj} {P : Program} {f : FuncId} {args : List AV} {Post : AV → List AObj → Prop}
    (h : ASpec P f args H (fun r H' => ∃ id cs cs', H'[id]? = some (.cells cs) ∧ Les cs cs' ∧ Post r (H'.set id (.cells cs')))) : ASpec P f args H Post := by
  intro M loc w vs ht hr hv
  refine (h M loc w vs ht hr hv).mono fun e w' hh => ?_
  obtain ⟨v, r, H', M', loc', he, ⟨id, cs, cs', ho, hq, hP⟩, r1, r2, r3⟩ := hh
  have hl := hq.len
  obtain ⟨k1, k2⟩ := r1.respell id (.cells cs) (.cells cs') ho (by intro h; cases h) (by intro h; cases h) (fun hO => by
    obtain ⟨b, vs, T, fr, e1, e2, e3, e4, e5, hs, e6⟩ := hO
    exact ⟨b, vs, T, fr, e1, e2, e3, e4, e5, by omega, fun i hi => hq.get i (by omega) hi _ _ _ _ (e6 i (by omega))⟩)
  exact ⟨v, r, _, M', loc', he, hP, k1, r2.keeps (k2.keeps r1), StepN.trans r3 k2 r3.len⟩
abbrev agK (l : List Kd) : AV := .agg (encXd l)
theorem liftK {H : List AObj} {p : Nat} {x x' : List Kd} {f : FuncId} {args args' : List AV} {r0 r' : AV} (hp : H[p]? = some (.cells (encXd x))) (k : ASpec Tryz.prog f args [.cells (encXd x)] (fun r H' => r = r0 ∧ H' = [.cells (encXd x')]))
  (ha : args.map (AV.ren (callR [p] H.length)) = args') (hr : AV.ren (callR [p] H.length) r0 = r') :
  ASpec Tryz.prog f args' H (fun r H' => r = r' ∧ H' = H.set p (.cells (encXd x'))) := by
 refine ASpec.subH [p] H _ k args' r' (by simp) rfl ha hr (fun i hi => ?_) ?_
 ·match i, hi with
  | 0, _ => exact hp
 ·have e : graftH (callR [p] H.length) [p] H [.cells (encXd x')] = H.set p (.cells (encXd x')) ++ [] := rfl
  rw [e, List.append_nil]
def ixD (s : Nm) : List Kd → Nat → Int
 | [], _ => -1
 | y :: r, i => if y.1.1 = s then i else ixD s r (i + 1)
theorem ix_none {s : Nm} : ∀ {l : List Kd} {i : Nat}, atF s l = none → ixD s l i = -1
 | [], _, _ => rfl
 | y :: r, i, h => by
  simp only [atF] at h
  split at h
  ·cases h
  ·rename_i hy; simp only [ixD, if_neg hy]; exact ix_none h
theorem ix_some {s : Nm} : ∀ {l : List Kd} {i : Nat} {y : Kd}, atF s l = some y → ∃ j : Nat, ixD s l i = ((i + j : Nat) : Int) ∧ j < l.length ∧ l.getD j noKd = y
 | [], _, _, h => by cases h
 | z :: r, i, y, h => by
  simp only [atF] at h
  split at h
  ·rename_i hz; cases h; exact ⟨0, by simp [ixD, hz], by simp, rfl⟩
  ·rename_i hz
   obtain ⟨j, h1, h2, h3⟩ := ix_some (i := i + 1) h
   exact ⟨j + 1, by simp only [ixD, if_neg hz]; rw [h1]; congr 1; omega, by simp; omega, by simpa using h3⟩
theorem ix_has (s : Nm) (l : List Kd) : decide (ixD s l 0 ≥ 0) = hasD l s := by
 unfold hasD
 cases h : atF s l with
 | none => rw [ix_none h]; rfl
 | some y => obtain ⟨j, h1, _, _⟩ := ix_some (i := 0) h; rw [h1]; simp
theorem at2 {l : List Kd} {s : Nm} (hl : l.length ≤ lim) {R : Int} : ∀ (m i : Nat), m + i = l.length → ixD s (l.drop i) i = R →
  AWP Tryz.prog 23 0 c115_2 [(1, .str (B s)), (2, .ptr 0 0), (5, .int .i64 i)] [.cells (encXd l)] (q115_2 0 (PA (.int .i64 R))) := by
 unfold lim at hl
 intro m
 induction m with
 | zero =>
  intro i hm h
  refine v115_2 _ _ _ _ _ (condD (fun hc => by omega) fun _ => ?_)
  rw [List.drop_eq_nil_of_le (by omega)] at h
  subst h
  exact pa (Le.refl _)
 | succ m ih =>
  intro i hm h
  rw [dropD l noKd i (by omega)] at h
  simp only [ixD] at h
  refine v115_2 _ _ _ _ _ (condD (fun hc => needJ ⟨by omega, by omega⟩ ?_) fun hc => by omega)
  rw [Int.toNat_natCast, succ64 (by omega)]
  generalize l.getD i noKd = y at h ⊢
  refine condS (fun h1 => pa ?_) fun h1 => ?_
  ·rw [if_pos h1] at h; subst h; exact Le.refl _
  ·rw [if_neg h1] at h; exact ih (i + 1) (by omega) h
theorem at_spec (l : List Kd) (s : Nm) (hl : l.length ≤ lim) (H : List AObj) : ASpec Tryz.prog 115 [agK l, .str (B s)] H (fun r H' => r = .int .i64 (ixD s l 0) ∧ H' = H) := by
 have k : ASpec Tryz.prog 115 [agK l, .str (B s)] [] (fun r H' => r = .int .i64 (ixD s l 0) ∧ H' = []) :=
  ASpec.sel (s115 _ _ _ (at2 hl l.length 0 (by omega) rfl))
 exact ASpec.pureH H k _ _ rfl rfl
theorem has_spec (l : List Kd) (s : Nm) (hl : l.length ≤ lim) (H : List AObj) : ASpec Tryz.prog 63 [agK l, .str (B s)] H (fun r H' => r = .bool (hasD l s) ∧ H' = H) := by
 have k : ASpec Tryz.prog 63 [agK l, .str (B s)] [] (fun r H' => r = .bool (hasD l s) ∧ H' = []) := by
  refine ASpec.sel (s63 _ _ _ (ASpec.call (at_spec l s hl _) (Les.refl _) ⟨_, rfl, rfl, pa ?_⟩))
  rw [ix_has]; exact Le.refl _
 exact ASpec.pureH H k _ _ rfl rfl
theorem leR0 {ρ : Nat → Nat} : Le (.sl 0 (.raw []) .nil) (AV.ren ρ (.sl 2 (.map T.encR (0, []) []) .none)) := Le.sl (s' := Seq.ren _ (.map T.encR (0, []) [])) rfl (.inr ⟨rfl, fun _ h => by cases h⟩) (.inr rfl)
theorem get_spec (l : List Kd) (s : Nm) (hl : l.length ≤ lim) (H : List AObj) : ASpec Tryz.prog 66 [agK l, .str (B s)] H (fun r H' => r = .tup [.agg (encM (getKd l s).1), .bool (getKd l s).2] ∧ H' = H) := by
 have k : ASpec Tryz.prog 66 [agK l, .str (B s)] [] (fun r H' => r = .tup [.agg (encM (getKd l s).1), .bool (getKd l s).2] ∧ H' = []) := by
  refine ASpec.sel (s66 _ _ _ (ASpec.call (at_spec l s hl _) (Les.refl _) ⟨_, rfl, rfl, ?_⟩))
  unfold getKd
  cases h : atF s l with
  | none =>
   rw [ix_none h]
   exact condD (fun _ => pa (Le.tup ⟨Le.agg ⟨Le.refl _, leR0, trivial⟩, Le.refl _, trivial⟩)) fun h => (h (by omega)).elim
  | some y =>
   obtain ⟨j, h1, h2, h3⟩ := ix_some (i := 0) h
   rw [h1, Nat.zero_add]
   refine condD (fun h => by omega) fun _ => needJ ⟨by omega, by omega⟩ (needJ ⟨by omega, by omega⟩ ⟨⟨rfl, rfl⟩, ⟨rfl, rfl⟩, pa ?_⟩)
   rw [Int.toNat_natCast, h3]
   exact Le.refl _
 exact ASpec.pureH H k _ _ rfl rfl
theorem kdOf_read (s b : Nm) : kdOf s (readK s b) = Dp.readB s b := by
 unfold readK Dp.readB
 split <;> rfl
abbrev P1 (r0 : AV) (x' : List Kd) : AV → List AObj → Prop := fun r H' => ∃ q H2 r2, Sel 1 q H' H2 ∧ Le r (AV.ren (selR q H'.length) r2) ∧ (r2 = r0 ∧ H2 = [.cells (encXd x')])
theorem p1 {x' : List Kd} {r r0 : AV} (q : List AObj) (h : ∀ ρ, Le r (AV.ren ρ r0)) : P1 r0 x' r (.cells (encXd x') :: q) := by
 refine ⟨[0], [.cells (encXd x')], r0, ⟨by decide, rfl, Nat.le_refl _, fun j hj => ?_, fun j hj => ?_⟩, h _, rfl, rfl⟩
 ·match j, hj with
  | 0, _ => rfl
 ·match j, hj with
  | 0, _ => exact .inl rfl
abbrev PC (r0 : AV) (x' : List Kd) : AV → List AObj → Prop := fun r H' => ∃ id cs cs', H'[id]? = some (.cells cs) ∧ Les cs cs' ∧ P1 r0 x' r (H'.set id (.cells cs'))
theorem pc {x' : List Kd} {r r0 : AV} {cs : List AV} (q : List AObj) (h : Les cs (encXd x')) (h2 : ∀ ρ, Le r (AV.ren ρ r0)) : PC r0 x' r (.cells cs :: q) :=
 ⟨0, cs, encXd x', rfl, h, p1 q h2⟩
theorem put15 {l o R : List Kd} {x : Kd} {b : Bool} (ho : o.length ≤ 10000000) (h : o ++ (if b = true then [] else [x]) = R) :
  AWP Tryz.prog 83 1 c57_15 [(0, .ptr 0 0), (7, .ptr 1 0), (8, .bool x.2), (9, .sl 3 (.map encKd noKd o) (.tok 2)), (10, .bool b)] [.cells (encXd l), .cells (encM x.1), .tok] (q57_0 1 (PC (.int .i64 0) R)) := by
 refine v57_15 _ _ _ _ _ _ _ (condBn (fun hb => needJ (by omega) ?_) fun hb => ?_)
 ·rw [if_neg (by rw [hb]; simp)] at h
  subst h
  exact pc _ ⟨Le.sl (s' := .map encKd noKd (o ++ [x])) (by simp [Ab.Seq.toList]; rfl) (.inl rfl) (.inr rfl), trivial⟩ fun ρ => Le.refl _
 ·rw [if_pos hb, List.append_nil] at h
  subst h
  exact pc _ ⟨Le.sl (s' := .map encKd noKd o) rfl (.inl rfl) (.inr rfl), trivial⟩ fun ρ => Le.refl _
theorem put9 {l : List Kd} {x : Kd} (hl : l.length ≤ lim) {R : List Kd} : ∀ (m i : Nat) (o : List Kd) (b : Bool), m + i = l.length → o.length ≤ i + b.toNat → o ++ (if b = true then l.drop i else insK x (l.drop i)) = R →
  AWP Tryz.prog 83 1 c57_9 [(0, .ptr 0 0), (1, .str (B x.1.1)), (7, .ptr 1 0), (8, .bool x.2), (9, .sl 3 (.map encKd noKd o) (.tok 2)), (10, .bool b), (11, .int .i64 i)] [.cells (encXd l), .cells (encM x.1), .tok] (q57_2 1 (PC (.int .i64 0) R)) := by
 unfold lim at hl
 intro m
 induction m with
 | zero =>
  intro i o b hm ho h
  have hb1 : b.toNat ≤ 1 := by cases b <;> decide
  rw [List.drop_eq_nil_of_le (by omega)] at h
  exact v57_9 _ _ _ _ _ _ _ _ _ (condD (fun hc => by omega) fun _ => put15 (by omega) h)
 | succ m ih =>
  intro i o b hm ho h
  have hb1 : b.toNat ≤ 1 := by cases b <;> decide
  rw [dropD l noKd i (by omega)] at h
  refine v57_9 _ _ _ _ _ _ _ _ _ (condD (fun hc => ?_) fun hc => by omega)
  rw [Int.toNat_natCast, succ64 (by omega)]
  generalize l.getD i noKd = y at h ⊢
  have one : o ++ y :: (if b = true then l.drop (i + 1) else insK x (l.drop (i + 1))) = R →
    AWP Tryz.prog 83 1 c57_9 [(0, .ptr 0 0), (1, .str (B x.1.1)), (7, .ptr 1 0), (8, .bool x.2), (9, .sl 3 (.app (.map encKd noKd o) (.raw [encKd y])) (.tok 3)), (10, .bool b), (11, .int .i64 (i + 1 : Nat))] [.cells (encXd l), .cells (encM x.1), .gone, .tok] (q57_2 1 (PC (.int .i64 0) R)) := by
   intro h
   refine AWP.shape [0, 1, 3] [(0, .ptr 0 0), (1, .str (B x.1.1)), (7, .ptr 1 0), (8, .bool x.2), (9, .sl 3 (.map encKd noKd (o ++ [y])) (.tok 2)), (10, .bool b), (11, .int .i64 (i + 1 : Nat))] [.cells (encXd l), .cells (encM x.1), .tok] ⟨by decide, rfl, by decide, fun j hj => ?_, fun j hj => ?_⟩
    ⟨rfl, Le.refl _, rfl, Le.refl _, rfl, Le.refl _, rfl, Le.refl _, rfl, leAppE (Les.refl _), rfl, Le.refl _, rfl, Le.refl _, trivial⟩ (ih (i + 1) (o ++ [y]) b (by omega) (by simp; omega) (by rw [← h]; simp))
   ·match j, hj with
    | 0, _ => rfl
   ·match j, hj with
    | 0, _ | 1, _ | 2, _ => exact .inl rfl
  refine condBn (fun hb => needJ ⟨by omega, by omega⟩ ?_) fun hb => needJ ⟨by omega, by omega⟩ (needJ (by omega) (one (by rw [← h, if_pos hb, if_pos hb])))
  rw [if_neg (by rw [hb]; simp)] at h
  simp only [insK] at h
  rw [B_toList, B_toList]
  refine condB (fun h1 => needJ (by omega) (needJ ⟨by omega, by omega⟩ (needJ (by omega) ?_))) fun h1 => needJ ⟨by omega, by omega⟩ (needJ (by omega) (one (by rw [← h, if_neg (show ¬ Op.bytesLess x.1.1 y.1.1 = true by rw [h1]; simp), if_neg (show ¬ b = true by rw [hb]; simp)])))
  rw [if_pos h1] at h
  refine AWP.shape [0, 1, 4] [(0, .ptr 0 0), (1, .str (B x.1.1)), (7, .ptr 1 0), (8, .bool x.2), (9, .sl 3 (.map encKd noKd ((o ++ [x]) ++ [y])) (.tok 2)), (10, .bool true), (11, .int .i64 (i + 1 : Nat))] [.cells (encXd l), .cells (encM x.1), .tok] ⟨by decide, rfl, by decide, fun j hj => ?_, fun j hj => ?_⟩
    ⟨rfl, Le.refl _, rfl, Le.refl _, rfl, Le.refl _, rfl, Le.refl _, rfl, ?_, rfl, Le.refl _, rfl, Le.refl _, trivial⟩ (ih (i + 1) ((o ++ [x]) ++ [y]) true (by omega) (by rw [hb] at ho; simp at ho ⊢; omega) (by rw [← h, if_pos rfl]; simp))
  ·match j, hj with
   | 0, _ => rfl
  ·match j, hj with
   | 0, _ | 1, _ | 2, _ => exact .inl rfl
  ·have ren : ∀ (ρ : Nat → Nat) (z : Kd), renL ρ (encKd z) = encKd z := fun ρ z => rfl
   exact Le.sl (s' := Seq.ren _ (.map encKd noKd ((o ++ [x]) ++ [y]))) (by simp [Ab.Seq.toList, Seq.ren, ren]; exact ⟨rfl, rfl⟩) (.inl rfl) (.inl rfl)
theorem put0 (l : List Kd) (s b : Nm) (hl : l.length ≤ lim) (hs : s.length ≤ lim) (hb : b.length ≤ 1000000) : ASpec Tryz.prog 57 [.ptr 0 0, .str (B s), .str (B b)] [.cells (encXd l)] (fun r H' => r = .int .i64 (putKd l s b).1 ∧ H' = [.cells (encXd (putKd l s b).2)]) := by
 have same : ∀ (e : Int), putKd l s b = (e, l) → PC (.int .i64 (putKd l s b).1) (putKd l s b).2 (.int .i64 e) [.cells (encXd l)] := by
  intro e h
  rw [h]
  exact pc [] (Les.refl _) fun ρ => Le.refl _
 refine ASpec.sel (cellEnd (s57 _ _ _ _ ?_))
 refine ASpec.call (rfit_spec (l := s) (by unfold big; unfold lim at hs; omega) _) (Les.refl _) ⟨_, rfl, rfl, condBn (fun h1 => same 1 ?_) fun h1 => ?_⟩
 ·rw [putKd, if_pos (.inl h1)]
 rw [B_size]
 refine condD (fun h2 => same 1 ?_) fun h2 => ?_
 ·rw [putKd, if_pos (.inr (by omega))]
 refine ASpec.call (has_spec l s hl _) (Les.refl _) ⟨_, rfl, rfl, condB (fun h3 => same 6 ?_) fun h3 => ?_⟩
 ·rw [putKd, if_neg (by rw [h1]; simp; omega), if_pos h3]
 have hp : putKd l s b = (0, insK (kdOf s (readK s b)) l) := by rw [putKd, if_neg (by rw [h1]; simp; omega), if_neg (by rw [h3]; simp)]
 rw [hp, kdOf_read]
 have hn : (Dp.readB s b).1.1 = s := by rw [← kdOf_read]; exact kdOf_name s b
 refine ASpec.call (Dp.rread_spec s b hb _) (Les.refl _) ⟨_, rfl, rfl, ?_⟩
 generalize Dp.readB s b = x at hn ⊢
 subst hn
 refine AWP.re (ReSt.tok (k := 9) (q' := .map encKd noKd []) (sz' := 3) (s2 := [(0, .ptr 0 0), (1, .str (B x.1.1)), (7, .ptr 1 0), (8, .bool x.2), (9, .sl 3 (.map encKd noKd []) (.tok 2)), (10, .bool false), (11, .int .i64 (0 : Nat))]) rfl (.inl rfl) rfl (.inr rfl) (fun d hd => ?_) rfl) ?_
 ·simp only [Ab.get]
  have e : Nat.beq 9 d = false := by
   cases hx : Nat.beq 9 d with
   | false => rfl
   | true => exact absurd (Nat.eq_of_beq_eq_true hx).symm hd
  rw [e]; rfl
 ·exact put9 hl l.length 0 [] false (by omega) (by simp) (by simp)
theorem put_spec {H : List AObj} {p : Nat} (l : List Kd) (hp : H[p]? = some (.cells (encXd l))) (s b : Nm) (hl : l.length ≤ lim) (hs : s.length ≤ lim) (hb : b.length ≤ 1000000) :
  ASpec Tryz.prog 57 [.ptr p 0, .str (B s), .str (B b)] H (fun r H' => r = .int .i64 (putKd l s b).1 ∧ H' = H.set p (.cells (encXd (putKd l s b).2))) :=
 liftK hp (put0 l s b hl hs hb) rfl rfl
def ofKd : List Ent → List Kd → List Kd
 | [], l => l
 | e :: r, l => ofKd r (putKd l e.1 e.2).2
def ofI : List Ent → Kn → Kn
 | [], es => es
 | e :: r, es => ofI r (putI es e.1 e.2).2
theorem putKd_len (l : List Kd) (s b : Nm) : (putKd l s b).2.length ≤ l.length + 1 := by
 unfold putKd
 split
 ·simp
 ·split
  ·simp
  ·simp [insK_len]
abbrev smE (e : List Ent) : Prop := e.length ≤ 60 ∧ ∀ x ∈ e, x.1.length ≤ 200 ∧ x.2.length ≤ 9000
abbrev slE (e : List Ent) : AV := .sl 2 (.map encEn ([], []) e) .none
theorem of3 {e : List Ent} (he : smE e) {R : List Kd} : ∀ (m i : Nat) (l : List Kd), m + i = e.length → l.length ≤ i → ofKd (e.drop i) l = R →
  AWP Tryz.prog 25 0 c20_3 [(0, slE e), (2, .ptr 0 0), (3, .ptr 1 0), (4, .int .i64 i)] [.cells [.sl 0 (.raw []) .nil], .cells (encXd l)] (q20_2 0 (PA (agK R))) := by
 intro m
 induction m with
 | zero =>
  intro i l hm hl h
  refine v20_3 _ _ _ _ _ (condD (fun hc => by omega) fun _ => pa ?_)
  rw [List.drop_eq_nil_of_le (by omega)] at h
  have h' : l = R := h
  subst h'
  exact Le.refl _
 | succ m ih =>
  intro i l hm hl h
  have h30 := he.1
  have hx := he.2 _ (memD e ([], []) i (by omega))
  rw [dropD e ([], []) i (by omega)] at h
  refine v20_3 _ _ _ _ _ (condD (fun hc => needJ ⟨by omega, by omega⟩ (needJ ⟨by omega, by omega⟩ (needJ (allBytes_map _) ?_))) fun hc => by omega)
  rw [bytesOf_map, Int.toNat_natCast, succ64 (by omega)]
  generalize e.getD i ([], []) = x at h hx ⊢
  simp only [ofKd] at h
  have hlen := putKd_len l x.1 x.2
  exact ASpec.call (put_spec l rfl x.1 x.2 (by unfold lim; omega) (by unfold lim; omega) (by omega)) (Les.refl _) ⟨putKd l x.1 x.2, rfl, rfl, ih (i + 1) _ (by omega) (by omega) h⟩
theorem of_spec (e : List Ent) (he : smE e) (H : List AObj) : ASpec Tryz.prog 20 [slE e] H (fun r H' => r = agK (ofKd e []) ∧ H' = H) := by
 have k : ASpec Tryz.prog 20 [slE e] [] (fun r H' => r = agK (ofKd e []) ∧ H' = []) := by
  refine ASpec.sel (s20 _ _ ?_)
  refine AWP.re (ReSt.leCell (id := 1) (cs' := encXd []) rfl ⟨Le.sl rfl (.inr ⟨rfl, fun _ h => by cases h⟩) (.inr rfl), trivial⟩) ?_
  exact of3 he e.length 0 [] (by omega) (by simp) rfl
 exact ASpec.pureH H k _ _ rfl rfl
abbrev PX0 (es : Kn) (r0 : AV) : AV → List AObj → Prop := fun r H' => ∃ l H2 r2, Sel 0 l H' H2 ∧ Le r (AV.ren (selR l H'.length) r2) ∧ (r2 = r0 ∧ H2 = HX es)
theorem selX0 (es : Kn) (q : List AObj) : Sel 0 [0, 1] (HX es ++ q) (HX es) := by
 obtain ⟨h1, h2, h3, h4, h5⟩ := selX es q
 exact ⟨h1, h2, Nat.zero_le _, fun i hi => by omega, h5⟩
theorem xof3 {e : List Ent} (he : smE e) {R : Kn} : ∀ (m i : Nat) (es : Kn), m + i = e.length → ofI (e.drop i) es = R →
  AWP Tryz.prog 21 0 c12_3 [(3, .ptr 1 0), (7, slE e), (8, .int .i64 e.length), (9, .int .i64 i)] (HX es) (q12_2 0 (PX0 R (.ptr 1 0))) := by
 intro m
 induction m with
 | zero =>
  intro i es hm h
  refine v12_3 _ _ _ _ _ _ (condD (fun hc => by omega) fun _ => ?_)
  rw [List.drop_eq_nil_of_le (by omega)] at h
  have h' : es = R := h
  subst h'
  exact ⟨_, _, _, selX0 es [], Le.refl _, rfl, rfl⟩
 | succ m ih =>
  intro i es hm h
  have h30 := he.1
  have hx := he.2 _ (memD e ([], []) i (by omega))
  rw [dropD e ([], []) i (by omega)] at h
  refine v12_3 _ _ _ _ _ _ (condD (fun hc => needJ ⟨by omega, by omega⟩ ?_) fun hc => by omega)
  rw [Int.toNat_natCast, succ64 (by omega)]
  generalize e.getD i ([], []) = x at h hx ⊢
  simp only [ofI] at h
  refine ASpec.call (X.put_spec es x.1 x.2 (by unfold lim; omega) _ 0 1 (by omega) rfl rfl) (Les.refl _) ⟨putI es x.1 x.2, rfl, rfl, ?_⟩
  refine AWP.shape [0, 1] [(3, .ptr 1 0), (7, slE e), (8, .int .i64 e.length), (9, .int .i64 (i + 1 : Nat))] (HX (putI es x.1 x.2).2) (selX0 _ [_])
   ⟨rfl, Le.refl _, rfl, Le.refl _, rfl, Le.refl _, rfl, Le.refl _, trivial⟩ (ih (i + 1) _ (by omega) h)
theorem xof0 (e : List Ent) (he : smE e) : ASpec Tryz.prog 12 [slE e] [] (fun r H' => r = .ptr 1 0 ∧ H' = HX (ofI e [])) := by
 refine ASpec.sel (s12 _ _ (ASpec.call (X.new_spec []) (Les.refl _) ⟨(), rfl, rfl, ?_⟩))
 exact xof3 he e.length 0 [] (by omega) rfl
theorem xof_spec (e : List Ent) (he : smE e) (H : List AObj) : ASpec Tryz.prog 12 [slE e] H (fun r H' => r = .ptr (H.length + 1) 0 ∧ H' = H ++ [.mp (.typed EK (ofI e [])), .cells [.map H.length]]) := by
 refine (ASpec.subH [] H (H ++ [.mp (.typed EK (ofI e [])), .cells [.map H.length]]) (xof0 e he) [slE e] (.ptr (H.length + 1) 0) (by simp) rfl rfl (by simp [AV.ren, callR]) (fun i hi => by cases hi) ?_)
 simp [graftH, grafted, HX, mp_ren]
 simp [AObj.ren, renL, AV.ren, callR]
end Xd
end

noncomputable section
open Go Go.Ab Go.Proofs V S T C
namespace Rc
open Pl (Up tri ltT ltI addM addM_mem addM_up addAll addAll_up addAll_mem addAll_len)
open So (sortL)
open X (hasI getM readK putI OkX okX_put okX_nil find_none)
open W (readM)
open Xd (ofI ofKd RelX)
def small (m : Mani) : Prop := m.2.length ≤ 8 ∧ ∀ r ∈ m.2, r.2.length ≤ 6
theorem set_mem {α : Type} {k : ByteArray} {v : α} : ∀ {l : List (ByteArray × α)} {p : ByteArray × α}, p ∈ setM l k v → p ∈ l ∨ p = (k, v)
 | [], p, h => by simp [setM] at h; exact .inr h
 | q :: l, p, h => by
  simp only [setM] at h
  split at h
  ·rcases List.mem_cons.1 h with h | h
   ·exact .inr h
   ·exact .inl (by simp [h])
  ·rcases List.mem_cons.1 h with h | h
   ·exact .inl (by simp [h])
   ·rcases set_mem h with h | h
    ·exact .inl (by simp [h])
    ·exact .inr h
theorem find_mem {α : Type} {k : ByteArray} {v : α} : ∀ {l : List (ByteArray × α)}, findM l k = some v → ∃ p ∈ l, p.2 = v
 | [], h => by cases h
 | q :: l, h => by
  simp only [findM] at h
  split at h
  ·cases h; exact ⟨q, by simp, rfl⟩
  ·obtain ⟨p, h1, h2⟩ := find_mem h; exact ⟨p, by simp [h1], h2⟩
end Rc
end

noncomputable section
open Go Go.Ab Go.Proofs V S T C
namespace Rr
open Pl (Up addM addM_mem addM_up addAll addAll_up addAll_mem addAll_len)
open W (sl1 slS slN slR)
open X (hasI getM OkX mp_ren PA pa)
open Xd (hasD getKd agK)
open Rc (Nm slL slLle slotsR selN small mnM allN)
theorem add4 {o : List Nm} {x : Nm} (hl : o.length ≤ 1000000) {R : List Nm} : ∀ (m i : Nat) (r : List Nm) (b : Bool), m + i = o.length → r.length ≤ i + b.toNat → R = r ++ (if b = true then o.drop i else addM x (o.drop i)) →
  AWP Tryz.prog 48 0 c79_4 [(0, slL o), (1, .str (B x)), (5, .sl 1 (.map encL [] r) (.tok 0)), (6, .bool b), (7, .int .i64 i)] [.tok] (q79_2 0 (PA (slL R))) := by
 intro m
 induction m with
 | zero =>
  intro i r b hm hr hR
  have hb1 : b.toNat ≤ 1 := by cases b <;> decide
  refine v79_4 _ _ _ _ _ _ _ (condD (fun h => by omega) fun _ => condBn (fun hb => needJ (by omega) ?_) fun hb => ?_)
  ·rw [if_neg (by rw [hb]; simp), List.drop_eq_nil_of_le (by omega)] at hR
   simp only [addM] at hR
   subst hR
   exact pa (Le.trans (leAppE (Les.refl _)) (slLle _ _ _))
  ·rw [if_pos hb, List.drop_eq_nil_of_le (by omega), List.append_nil] at hR
   subst hR
   exact pa (slLle _ _ _)
 | succ m ih =>
  intro i r b hm hr hR
  have hb1 : b.toNat ≤ 1 := by cases b <;> decide
  rw [dropD o [] i (by omega)] at hR
  have nxt1 : ∀ (y : Nm) (b : Bool), r.length ≤ i + b.toNat → R = (r ++ [y]) ++ (if b = true then o.drop (i + 1) else addM x (o.drop (i + 1))) →
    AWP Tryz.prog 48 0 c79_4 [(0, slL o), (1, .str (B x)), (5, .sl 1 (.app (.map encL [] r) (.raw [[.str (B y)]])) (.tok 1)), (6, .bool b), (7, .int .i64 (IntKind.wrap .i64 ((i : Int) + 1)))] [.gone, .tok] (q79_2 0 (PA (slL R))) := by
   intro y b hr h
   rw [succ64 (by omega)]
   exact AWP.shape [1] [(0, slL o), (1, .str (B x)), (5, .sl 1 (.map encL [] (r ++ [y])) (.tok 0)), (6, .bool b), (7, .int .i64 (i + 1 : Nat))] [.tok] (Sel.mk0 (by decide) ⟨rfl, trivial⟩)
    ⟨rfl, slLle _ _ _, rfl, Le.refl _, rfl, leAppE (Les.refl _), rfl, Le.refl _, rfl, Le.refl _, trivial⟩ (ih (i + 1) (r ++ [y]) b (by omega) (by simp; omega) h)
  refine v79_4 _ _ _ _ _ _ _ (condD (fun _ => ?_) fun h => by omega)
  rw [Int.toNat_natCast]
  generalize o.getD i [] = y at hR ⊢
  refine condBn (fun hb => needJ ⟨by omega, by omega⟩ ?_) fun hb => needJ ⟨by omega, by omega⟩ (needJ (by omega) (nxt1 y b hr (by rw [hR, if_pos hb, if_pos hb]; simp)))
  rw [if_neg (by rw [hb]; simp)] at hR
  simp only [addM] at hR
  rw [B_toList, B_toList]
  refine condB (fun hc => needJ (by omega) (needJ ⟨by omega, by omega⟩ ?_)) fun hc => needJ ⟨by omega, by omega⟩ (needJ (by omega) (nxt1 y b hr (by rw [hR, if_neg (by rw [hc]; simp), if_neg (by rw [hb]; simp)]; simp)))
  rw [if_pos hc] at hR
  have ce : ∀ {A C : Prop}, (x = y → A) → (x ≠ y → C) → condP (x == y) A C := fun {A C} h1 h2 => condB (fun h => h1 (beq_iff_eq.1 h)) fun h => h2 (beq_eq_false_iff_ne.1 h)
  refine ce (fun he => ?_) fun hne => needJ ⟨by omega, by omega⟩ (needJ (by omega) ?_)
  ·rw [if_pos he] at hR
   exact nxt1 x true (by rw [hb] at hr; simp at hr ⊢; omega) (by rw [hR, if_pos rfl]; simp)
  ·rw [if_neg hne] at hR
   rw [succ64 (by omega)]
   have := ih (i + 1) ((r ++ [x]) ++ [y]) true (by omega) (by rw [hb] at hr; simp at hr ⊢; omega) (by rw [hR, if_pos rfl]; simp)
   refine AWP.shape [2] [(0, slL o), (1, .str (B x)), (5, .sl 1 (.map encL [] ((r ++ [x]) ++ [y])) (.tok 0)), (6, .bool true), (7, .int .i64 (i + 1 : Nat))] [.tok] (Sel.mk0 (by decide) ⟨rfl, trivial⟩)
    ⟨rfl, slLle _ _ _, rfl, Le.refl _, rfl, ?_, rfl, Le.refl _, rfl, Le.refl _, trivial⟩ this
   exact Le.sl (s' := Seq.ren _ (.map encL [] ((r ++ [x]) ++ [y]))) (by simp [Ab.Seq.toList, Seq.ren, renLL]; first | exact ⟨rfl, rfl⟩ | rfl | exact ⟨fun a _ => rfl, rfl, rfl⟩) (.inl rfl) (.inl rfl)
theorem add_spec (o : List Nm) (x : Nm) (hl : o.length ≤ 1000000) (H : List AObj) : ASpec Tryz.prog 79 [slL o, .str (B x)] H (fun r H' => r = slL (addM x o) ∧ H' = H) := by
 have k : ASpec Tryz.prog 79 [slL o, .str (B x)] [] (fun r H' => r = slL (addM x o) ∧ H' = []) := by
  refine ASpec.sel (s79 _ _ _ ?_)
  refine AWP.re (ReSt.tok (k := 5) (q' := .map encL [] []) (sz' := 1) (s2 := [(0, slL o), (1, .str (B x)), (5, .sl 1 (.map encL [] []) (.tok 0)), (6, .bool false), (7, .int .i64 (0 : Nat))]) rfl (.inl rfl) rfl (.inr rfl) (fun d hd => ?_) rfl) ?_
  ·simp only [Ab.get]
   have e : Nat.beq 5 d = false := by
    cases hx : Nat.beq 5 d with
    | false => rfl
    | true => exact absurd (Nat.eq_of_beq_eq_true hx).symm hd
   rw [e]; rfl
  ·exact add4 hl o.length 0 [] false (by omega) (by simp) rfl
 exact ASpec.pureH H k _ _ rfl rfl
theorem nilL : Le (.sl 0 (.raw []) .nil) (slL []) := Le.sl rfl (.inr ⟨rfl, fun _ h => by cases h⟩) (.inr rfl)
theorem addAll_cons (x : Nm) (l o : List Nm) : addAll (x :: l) o = addAll l (addM x o) := rfl
theorem addAll_app (a b o : List Nm) : addAll (a ++ b) o = addAll b (addAll a o) := by unfold addAll; rw [List.foldl_append]
theorem addM_len (x : Nm) (o : List Nm) : (addM x o).length ≤ o.length + 1 := by
 have := addAll_len [x] (o := o)
 simp [addAll] at this; omega
section
variable {m : Mani}
end
section
variable {l : List Kd} (hl : l.length ≤ lim) (hsm : ∀ x, small (getKd l x).1) {U : List Nm} (hU : ∀ x, ∀ y ∈ mnM (getKd l x).1, y ∈ U) (hUl : U.length ≤ 100000)
include hl hsm
include hU hUl
end
section
variable {es : Kn} (hes : OkX es) (hsm : ∀ x, small (getM es x).1) {k : Nm}
include hes hsm
end
end Rr
end

noncomputable section
open Go Go.Ab Go.Proofs V S T C
namespace Rr
open X (hasI getM putI OkX okX_put)
open Xd (hasD getKd agK ofI ofKd RelX rel0 rel_put rel_has rel_get putKd putKd_len)
theorem okX_of : ∀ (e : List Ent) (es : Kn), OkX es → OkX (ofI e es)
 | [], _, h => h
 | x :: e, es, h => okX_of e _ (okX_put h)
theorem rel_of : ∀ (e : List Ent) (es : Kn) (l : List Kd), RelX es l → RelX (ofI e es) (ofKd e l)
 | [], _, _, h => h
 | x :: e, es, l, h => rel_of e _ _ (rel_put h x.1 x.2).2
theorem ofKd_len : ∀ (e : List Ent) (l : List Kd), (ofKd e l).length ≤ e.length + l.length
 | [], l => by simp [ofKd]
 | x :: e, l => by
  have h1 := ofKd_len e (putKd l x.1 x.2).2
  have h2 := putKd_len l x.1 x.2
  simp only [ofKd, List.length_cons]; omega
end Rr
end

noncomputable section
open Go Go.Ab Go.Proofs V S T C
namespace Wn
open W (sl1 slS slN slR)
open X (PA pa)
open Rc (Nm slL slLle slotsR selN)
end Wn
end

noncomputable section
open Go Go.Ab Go.Proofs
namespace Ft
open Pl (Up addAll addAll_up addAll_mem)
open Rc (RS)
open So (sortL)
abbrev Nm := List UInt8
def visL (g : Nm → List Nm) (v : List Nm → List Nm → List Nm) : List Nm → List Nm → List Nm
 | [], o => o
 | n :: r, o => visL g v r (if n ∈ o then o else v (g n) (o ++ [n]))
def visitF (g : Nm → List Nm) : Nat → List Nm → List Nm → List Nm
 | 0, _, o => o
 | f + 1, l, o => visL g (visitF g f) l o
section
variable (g : Nm → List Nm)
structure Did (l o o' : List Nm) : Prop where
 nd : o'.Nodup
 sub : ∀ x ∈ o, x ∈ o'
 all : ∀ x ∈ l, x ∈ o'
 mem : ∀ x ∈ o', x ∈ o ∨ RS g l x
 cl : ∀ x ∈ o', x ∈ o ∨ ∀ y ∈ g x, y ∈ o'
variable {root U : List Nm} (hU1 : ∀ x ∈ root, x ∈ U) (hU2 : ∀ x, ∀ y ∈ g x, y ∈ U)
include hU1 hU2
end
section
variable (g : Nm → List Nm)
variable {root P : List Nm} (hP : ∀ x, x ∉ P → g x = [])
include hP
end
end Ft
end

noncomputable section
open Go Go.Ab Go.Proofs V S T C
namespace Ft
open W (sl1 slS slN slR)
open X (hasI getM OkX mp_ren)
open Pc (slK slKLe)
open Dk (Nm chkF getP get_spec)
open E (PA pa)
theorem grafted_same {ρ : Nat → Nat} : ∀ (l : List Nat) (Hl H : List AObj), l.length = Hl.length → (∀ i (h : i < Hl.length), H[l.getD i 0]? = some (AObj.ren ρ Hl[i])) → grafted ρ l Hl H = H
 | [], [], H, _, _ => rfl
 | i :: l, o :: Hl, H, hl, h => by
  have h0 := h 0 (by simp)
  simp only [List.getD_cons_zero, List.getElem_cons_zero] at h0
  have e : H.set i (AObj.ren ρ o) = H := set_same h0
  simp only [grafted]
  rw [e]
  exact grafted_same l Hl H (by simpa using hl) fun k hk => by
   have := h (k + 1) (by simp; omega)
   simpa using this
def lowR (v : Int) : List Rel → Nat
 | [] => 0
 | x :: r => if x.1 < v then 1 + lowR v r else 0
def relM (m : Mani) (v : Int) : Rel × Bool :=
 if v < 0 ∨ 1000000000 ≤ v then ((0, []), false) else if lowR v m.2 < m.2.length ∧ (m.2.getD (lowR v m.2) (0, [])).1 = v then (m.2.getD (lowR v m.2) (0, []), true) else ((0, []), false)
theorem lowR_le (v : Int) : ∀ l : List Rel, lowR v l ≤ l.length
 | [] => Nat.le_refl _
 | x :: r => by
  have := lowR_le v r
  simp only [lowR]
  split <;> simp <;> omega
theorem lowR_lt (v : Int) : ∀ (l : List Rel) (i : Nat), i < lowR v l → (l.getD i (0, [])).1 < v
 | [], i, h => by simp [lowR] at h
 | x :: r, i, h => by
  simp only [lowR] at h
  split at h
  ·cases i with
   | zero => simpa
   | succ i => simpa using lowR_lt v r i (by omega)
  ·omega
structure Rise (l : List Rel) : Prop where
 low : ∀ r ∈ l, 0 ≤ r.1 ∧ r.1 < 1000000000
 up : l.Pairwise fun a b => a.1 < b.1
theorem lowR_ge (v : Int) : ∀ (l : List Rel), l.Pairwise (fun a b => a.1 < b.1) → ∀ i, lowR v l ≤ i → i < l.length → v ≤ (l.getD i (0, [])).1
 | [], _, i, _, hi => by simp at hi
 | x :: r, hu, i, h, hi => by
  rw [List.pairwise_cons] at hu
  simp only [lowR] at h
  split at h
  ·cases i with
   | zero => omega
   | succ i => simpa using lowR_ge v r hu.2 i (by omega) (by simpa using hi)
  ·rename_i hx
   cases i with
   | zero => simpa using (by omega : v ≤ x.1)
   | succ i =>
    have hm := hu.1 _ (memD r (0, []) i (by simpa using hi))
    simp only [List.getD_cons_succ]
    omega
theorem cmp_spec (x : Rel) (v : Int) (h1 : 0 ≤ x.1 ∧ x.1 < 1000000000) (h2 : 0 ≤ v ∧ v < 1000000000) (H : List AObj) : ASpec Tryz.prog 195 [.agg (T.encR x), .int .i64 v] H (fun r H' => r = .int .i64 (x.1 - v) ∧ H' = H) := by
 have k : ASpec Tryz.prog 195 [.agg (T.encR x), .int .i64 v] [] (fun r H' => r = .int .i64 (x.1 - v) ∧ H' = []) := by
  refine ASpec.sel (s195 _ _ _ (pa ?_))
  rw [wrap64 (by omega) (by omega)]; exact Le.refl _
 exact ASpec.pureH H k _ _ rfl rfl
theorem bsr3 {l : List Rel} {v : Int} (hs : Rise l) (hl : l.length ≤ lim) (hv : 0 ≤ v ∧ v < 1000000000) : ∀ (m i j : Nat), j - i ≤ m → i ≤ lowR v l → lowR v l ≤ j → j ≤ l.length →
  AWP Tryz.prog 49 0 c194_3 [(0, slR l), (1, .int .i64 v), (2, .fn 195 []), (8, .int .i64 l.length), (9, .int .i64 i), (10, .int .i64 j)] []
   (q194_2 0 (PA (.tup [.int .i64 (lowR v l : Nat), .bool (decide (lowR v l < l.length ∧ (l.getD (lowR v l) (0, [])).1 = v))]))) := by
 unfold lim at hl
 have hel : ∀ i, i < l.length → 0 ≤ (l.getD i (0, [])).1 ∧ (l.getD i (0, [])).1 < 1000000000 := fun i hi => hs.low _ (memD l (0, []) i hi)
 have done : ∀ i : Nat, i = lowR v l → condP (decide ((i : Int) < (l.length : Int))) (needP (0 ≤ (i : Int) ∧ (i : Int) < (l.length : Int)) (ASpec Tryz.prog 195 [.agg (T.encR (l.getD (i : Int).toNat (0, []))), .int .i64 v] []
   (fun r H' => ∃ x : Int, r = .int .i64 x ∧ H' = [] ∧ PA (.tup [.int .i64 (lowR v l : Nat), .bool (decide (lowR v l < l.length ∧ (l.getD (lowR v l) (0, [])).1 = v))]) (.tup [.int .i64 i, .bool (x == 0)]) [])))
   (PA (.tup [.int .i64 (lowR v l : Nat), .bool (decide (lowR v l < l.length ∧ (l.getD (lowR v l) (0, [])).1 = v))]) (.tup [.int .i64 i, .bool false]) []) := by
  rintro i rfl
  refine condD (fun h => needJ ⟨by omega, h⟩ ?_) fun h => pa ?_
  ·rw [Int.toNat_natCast]
   refine ASpec.call (cmp_spec _ v (hel _ (by omega)) hv _) (Les.refl _) ⟨_, rfl, rfl, pa ?_⟩
   have e : ((l.getD (lowR v l) (0, [])).1 - v == 0) = decide (lowR v l < l.length ∧ (l.getD (lowR v l) (0, [])).1 = v) := by
    rw [Bool.eq_iff_iff, beq_iff_eq, decide_eq_true_eq]
    constructor
    ·intro h2; exact ⟨by omega, by omega⟩
    ·intro h2; omega
   rw [e]; exact Le.refl _
  ·rw [decide_eq_false (show ¬ (lowR v l < l.length ∧ (l.getD (lowR v l) (0, [])).1 = v) from fun h2 => h (by omega))]; exact Le.refl _
 intro m
 induction m with
 | zero =>
  intro i j h1 h2 h3 h4
  exact v194_3 _ _ _ _ _ _ _ (condD (fun hc => by omega) fun _ => done i (by omega))
 | succ m ih =>
  intro i j h1 h2 h3 h4
  refine v194_3 _ _ _ _ _ _ _ (condD (fun hc => needJ (by omega) ?_) fun _ => done i (by omega))
  rw [Sg.mid64 (by omega)]
  have hm1 : i ≤ (i + j) / 2 := by omega
  have hm2 : (i + j) / 2 < j := by omega
  refine needJ ⟨by omega, by omega⟩ ?_
  generalize (i + j) / 2 = h at hm1 hm2 ⊢
  rw [Int.toNat_natCast]
  refine ASpec.call (cmp_spec _ v (hel h (by omega)) hv _) (Les.refl _) ⟨_, rfl, rfl, condD (fun hc => ?_) fun hc => ?_⟩
  ·rw [Sg.suc64 (by omega)]
   refine ih (h + 1) j (by omega) ?_ h3 h4
   rcases Nat.lt_or_ge h (lowR v l) with hk | hk
   ·omega
   ·have := lowR_ge v l hs.up h hk (by omega); omega
  ·refine ih i h (by omega) h2 ?_ (by omega)
   rcases Nat.lt_or_ge h (lowR v l) with hk | hk
   ·have := lowR_lt v l h hk; omega
   ·exact hk
theorem leRel0 : Le (.agg [.int .i64 0, .sl 0 (.raw []) .nil]) (.agg (T.encR (0, []))) := Le.agg ⟨Le.refl _, Le.sl rfl (.inr ⟨rfl, fun _ h => by cases h⟩) (.inr rfl), trivial⟩
theorem rel_spec (m : Mani) (v : Int) (hs : Rise m.2) (hl : m.2.length ≤ lim) (hn : ∀ r ∈ m.2, okN r.2) (H : List AObj) :
  ASpec Tryz.prog 125 [.agg (encM m), .int .i64 v] H (fun r H' => r = .tup [.agg (T.encR (relM m v).1), .bool (relM m v).2] ∧ H' = H) := by
 have k : ASpec Tryz.prog 125 [.agg (encM m), .int .i64 v] [] (fun r H' => r = .tup [.agg (T.encR (relM m v).1), .bool (relM m v).2] ∧ H' = []) := by
  have z : ∀ {H'}, relM m v = ((0, []), false) → PA (.tup [.agg (T.encR (relM m v).1), .bool (relM m v).2]) (.tup [.agg [.int .i64 0, .sl 0 (.raw []) .nil], .bool false]) H' := fun e => by
   rw [e]; exact pa (Le.tup ⟨leRel0, Le.refl _, trivial⟩)
  refine ASpec.sel (s125 m v (PA (.tup [.agg (T.encR (relM m v).1), .bool (relM m v).2])) (condD (fun h => z ?_) fun h => condD (fun h2 => z ?_) fun h2 => ?_))
  ·unfold relM; rw [if_pos (by omega)]
  ·unfold relM; rw [if_pos (by omega)]
  ·have hv : 0 ≤ v ∧ v < 1000000000 := by omega
   have k3 : ASpec Tryz.prog 194 [slR m.2, .int .i64 v, .fn 195 []] [] (fun r H' => r = .tup [.int .i64 (lowR v m.2 : Nat), .bool (decide (lowR v m.2 < m.2.length ∧ (m.2.getD (lowR v m.2) (0, [])).1 = v))] ∧ H' = []) :=
    ASpec.sel (s194 _ _ _ (bsr3 hs hl hv m.2.length 0 m.2.length (by omega) (by omega) (lowR_le v m.2) (by omega)))
   have k2 : ASpec Tryz.prog 156 [.agg (encM m), .int .i64 v] [] (fun r H' => r = .tup [.int .i64 (lowR v m.2 : Nat), .bool (decide (lowR v m.2 < m.2.length ∧ (m.2.getD (lowR v m.2) (0, [])).1 = v))] ∧ H' = []) :=
    ASpec.sel (s156 m v _ (ASpec.call (ASpec.pureH _ k3 _ _ rfl rfl) (Les.refl _) ⟨(((lowR v m.2 : Nat) : Int), _), rfl, rfl, pa (Le.refl _)⟩))
   refine ASpec.call (ASpec.pureH _ k2 _ _ rfl rfl) (Les.refl _) ⟨(((lowR v m.2 : Nat) : Int), _), rfl, rfl, condBn (fun hf => z ?_) fun hf => ?_⟩
   ·have hf := of_decide_eq_false hf
    unfold relM; rw [if_neg (by omega), if_neg hf]
   ·have hf := of_decide_eq_true hf
    refine needJ ⟨by omega, by show ((lowR v m.2 : Nat) : Int) < _; omega⟩ ?_
    show ASpec Tryz.prog 99 [.agg (T.encR (m.2.getD ((lowR v m.2 : Nat) : Int).toNat (0, [])))] _ _
    rw [Int.toNat_natCast]
    refine ASpec.call (X.cloneR_spec _ (hn _ (memD m.2 (0, []) _ hf.1)) _) (Les.refl _) ⟨m.2.getD (lowR v m.2) (0, []), rfl, rfl, ?_⟩
    have e : relM m v = (m.2.getD (lowR v m.2) (0, []), true) := by unfold relM; rw [if_neg (by omega), if_pos hf]
    rw [e]; exact pa (Le.refl _)
 exact ASpec.pureH H k _ _ rfl rfl
end Ft
end

noncomputable section
open Go Go.Ab Go.Proofs V S T C
namespace Ft
open W (sl1 slS slN slR leNone renN renS readM)
open X (hasI getM putI OkX mp_ren)
open Pc (slK slKLe)
open Dk (Nm chkF getP get_spec)
open E (PA pa)
open Sp (hasS)
def OkG (es : Kn) : Prop := ∀ p ∈ es, ∀ m, p.2 = some m → manOk m = true
theorem read_man {bs : Nm} (h : (readM bs).2 = 0) : manOk (readM bs).1 = true := by
 unfold readM at h ⊢
 split at h
 ·cases h
 ·rename_i hb
  rw [if_neg hb]
  unfold W.endM at h ⊢
  split at h
  ·rename_i hc; exact (hc h).elim
  ·rename_i hc
   split at h
   ·rename_i hm
    rw [if_neg hc, if_pos hm]
    exact hm
   ·cases h
theorem okG_nil : OkG [] := fun p h => by cases h
theorem okG_put {es : Kn} {k bs : Nm} (h : OkG es) : OkG (putI es k bs).2 := by
 unfold putI
 split
 ·exact h
 ·split
  ·exact h
  ·intro p hp m hm
   rcases Rc.set_mem hp with hp | rfl
   ·exact h p hp m hm
   ·unfold X.readK at hm
    split at hm
    ·cases hm
    ·rename_i hc
     simp only [Option.some.injEq] at hm
     subst hm
     exact read_man (by
      by_cases h0 : (readM bs).2 = 0
      ·exact h0
      ·exact (hc (.inl h0)).elim)
theorem rel_low : ∀ {l : List Rel} {e : Int}, relF e l = true → -1 ≤ e → (∀ r ∈ l, e < r.1 ∧ r.1 < 1000000000 ∧ needOk r.2 = true) ∧ l.Pairwise fun a b => a.1 < b.1
 | [], _, _, _ => ⟨by simp, List.Pairwise.nil⟩
 | x :: l, e, h, he => by
  simp only [relF] at h
  split at h
  ·cases h
  ·rename_i hn
   have h1 : e < x.1 := by omega
   have h2 : x.1 < 1000000000 := by omega
   have h3 : needOk x.2 = true := by
    cases hb : needOk x.2 with
    | true => rfl
    | false => exact (hn (.inr (.inr hb))).elim
   obtain ⟨r1, r2⟩ := rel_low h (by omega)
   refine ⟨fun r hr => ?_, List.pairwise_cons.2 ⟨fun y hy => (r1 y hy).1, r2⟩⟩
   rcases List.mem_cons.1 hr with rfl | hr
   ·exact ⟨h1, h2, h3⟩
   ·have := r1 r hr
    exact ⟨by omega, this.2⟩
theorem needs_ok : ∀ {l : List Need} {last : Nm}, needsF last l = true → ∀ n ∈ l, fitM n.1 = true ∧ Sg.ok n.2
 | [], _, _, n, hn => by simp at hn
 | x :: l, last, h, n, hn => by
  simp only [needsF] at h
  split at h
  ·cases h
  ·rename_i hx
   rcases List.mem_cons.1 hn with rfl | hn
   ·refine ⟨?_, ?_⟩
    ·cases hb : fitM n.1 with
     | true => rfl
     | false => exact (hx (.inl hb)).elim
    ·show chkS (-1) n.2 = true
     cases hb : chkS (-1) n.2 with
     | true => rfl
     | false => exact (hx (.inr (.inr (.inr hb)))).elim
   ·exact needs_ok h n hn
def NsOk (l : List Need) : Prop := ∀ n ∈ l, fitM n.1 = true ∧ Sg.ok n.2
theorem ns_of {l : List Need} (h : needOk l = true) : NsOk l ∧ l.length ≤ 6 := by
 unfold needOk at h
 rw [Bool.and_eq_true] at h
 exact ⟨needs_ok h.1, of_decide_eq_true h.2⟩
theorem man_rise {m : Mani} (h : manOk m = true) : Rise m.2 ∧ ∀ r ∈ m.2, NsOk r.2 ∧ r.2.length ≤ 6 := by
 unfold manOk at h
 rw [Bool.and_eq_true] at h
 obtain ⟨h1, h2⟩ := rel_low h.1 (by omega)
 exact ⟨⟨fun r hr => by have := h1 r hr; omega, h2⟩, fun r hr => ns_of (h1 r hr).2.2⟩
theorem get_cases {es : Kn} (hg : OkG es) (k : Nm) : (getM es k).1.2 = [] ∨ manOk (getM es k).1 = true := by
 unfold getM
 split
 ·rename_i m hm
  obtain ⟨p, hp, e⟩ := Rc.find_mem hm
  exact .inr (hg p hp _ e)
 ·exact .inl rfl
theorem get_rise {es : Kn} (hg : OkG es) (k : Nm) : Rise (getM es k).1.2 ∧ ∀ r ∈ (getM es k).1.2, NsOk r.2 ∧ r.2.length ≤ 6 := by
 rcases get_cases hg k with h | h
 ·rw [h]; exact ⟨⟨by simp, List.Pairwise.nil⟩, by simp⟩
 ·exact man_rise h
theorem get_okN {es : Kn} (hx : OkX es) (k : Nm) : (getM es k).1.2.length ≤ lim ∧ ∀ r ∈ (getM es k).1.2, okN r.2 := by
 unfold getM
 split
 ·rename_i m hm
  exact ⟨(hx _ _ hm).2.1, (hx _ _ hm).2.2⟩
 ·exact ⟨by simp, by simp⟩
def relOf (es : Kn) (p : Pk) : Rel × Bool := relM (getM es p.1).1 p.2
theorem relM_mem {m : Mani} {v : Int} : (relM m v).1 ∈ m.2 ∨ (relM m v).1 = (0, []) := by
 unfold relM
 split
 ·exact .inr rfl
 ·split
  ·rename_i h; exact .inl (memD m.2 (0, []) _ h.1)
  ·exact .inr rfl
theorem rel_needs {es : Kn} (hg : OkG es) (p : Pk) : NsOk (relOf es p).1.2 ∧ (relOf es p).1.2.length ≤ 6 := by
 unfold relOf
 rcases relM_mem (m := (getM es p.1).1) (v := p.2) with h | h
 ·exact (get_rise hg p.1).2 _ h
 ·rw [h]; exact ⟨fun n hn => by simp at hn, by simp⟩
def metB (l : List Pk) (n : Need) : Bool := (getP l n.1).2 && hasS n.2 (getP l n.1).1
theorem leRl (x : Rel) (ρ : Nat → Nat) : Le (.agg (T.encR x)) (AV.ren ρ (.agg (T.encR x))) := Le.agg ⟨Le.refl _, leNone renN, trivial⟩
section
variable {es : Kn} (hx : OkX es) (hg : OkG es) {root : List Need} {l : List Pk} (hl : l.length ≤ 100000)
include hx hg hl
def lackB (es : Kn) (l : List Pk) (p : Pk) : Bool := (relOf es p).1.2.any fun n => !metB l n
def ixK (f : Pk → Bool) : List Pk → Nat → Int
 | [], _ => -1
 | p :: r, i => if f p = true then (i : Int) else ixK f r (i + 1)
omit hx hg hl in
theorem ixK_first (f : Pk → Bool) : ∀ (r : List Pk) (i : Nat), (ixK f r i < 0 ∧ r.find? f = none) ∨ ∃ j : Nat, ixK f r i = ((i + j : Nat) : Int) ∧ j < r.length ∧ r.find? f = some (r.getD j noPk)
 | [], i => .inl ⟨by simp [ixK], rfl⟩
 | p :: r, i => by
  simp only [ixK, List.find?_cons]
  split
  ·rename_i h
   rw [h]
   exact .inr ⟨0, by simp, by simp, by simp⟩
  ·rename_i h
   rw [show f p = false by simpa using h]
   rcases ixK_first f r (i + 1) with h1 | ⟨j, h1, h2, h3⟩
   ·exact .inl h1
   ·exact .inr ⟨j + 1, by rw [h1]; congr 1; omega, by simp; omega, by simpa using h3⟩
end
end Ft
end

noncomputable section
open Go Go.Ab Go.Proofs V S T C
namespace Ft
open W (sl1 slS slN slR leNone renN renS)
open X (hasI getM putI OkX mp_ren optI)
open Pc (slK slKLe)
open Dk (chkF getP get_spec)
open E (PA pa)
open Rc (RS slL slLle slotsR selN)
open So (sortL)
theorem grafted_out {ρ : Nat → Nat} : ∀ (l : List Nat) (Hl H : List AObj) (i : Nat) (a : AObj), i ∉ l → grafted ρ l Hl (H.set i a) = (grafted ρ l Hl H).set i a
 | [], Hl, H, i, a, _ => by cases Hl <;> rfl
 | k :: l, [], H, i, a, _ => rfl
 | k :: l, o :: Hl, H, i, a, h => by
  simp only [List.mem_cons, not_or] at h
  simp only [grafted]
  rw [List.set_comm _ _ (fun e => h.1 e), grafted_out l Hl _ i a h.2]
theorem grafted_set {ρ : Nat → Nat} : ∀ (l : List Nat) (Hl H : List AObj) (j : Nat) (o' : AObj), l.Nodup → l.length = Hl.length → j < l.length → grafted ρ l (Hl.set j o') H = (grafted ρ l Hl H).set (l.getD j 0) (AObj.ren ρ o')
 | [], _, H, j, o', _, _, h => by simp at h
 | k :: l, [], H, j, o', _, hl, _ => by simp at hl
 | k :: l, o :: Hl, H, 0, o', hn, hl, _ => by
  rw [List.nodup_cons] at hn
  simp only [List.set_cons_zero, grafted, List.getD_cons_zero]
  rw [grafted_out l Hl H k _ hn.1, grafted_out l Hl H k _ hn.1, List.set_set]
 | k :: l, o :: Hl, H, j + 1, o', hn, hl, h => by
  rw [List.nodup_cons] at hn
  simp only [List.set_cons_succ, grafted, List.getD_cons_succ]
  exact grafted_set l Hl _ j o' hn.2 (by simpa using hl) (by simpa using h)
theorem sameSet {f : FuncId} {args args' : List AV} {r0 r' : AV} {Hl : List AObj} (l : List Nat) (H : List AObj) (j : Nat) (o' : AObj) (k : ASpec Tryz.prog f args Hl (fun r H' => r = r0 ∧ H' = Hl.set j o'))
  (hnd : l.Nodup) (hlen : l.length = Hl.length) (hj : j < l.length) (ha : args.map (AV.ren (callR l H.length)) = args') (hr : AV.ren (callR l H.length) r0 = r')
  (hobj : ∀ i (h : i < Hl.length), H[l.getD i 0]? = some (AObj.ren (callR l H.length) Hl[i])) :
  ASpec Tryz.prog f args' H (fun r H' => r = r' ∧ H' = H.set (l.getD j 0) (AObj.ren (callR l H.length) o')) :=
 ASpec.subH l H _ k args' r' hnd hlen ha hr hobj (by
  unfold graftH
  rw [List.drop_eq_nil_of_le (by rw [List.length_set]; omega), List.map_nil, List.append_nil, grafted_set l Hl H j o' hnd hlen hj, grafted_same l Hl H hlen hobj])
def gF (es : Kn) (l : List Pk) (x : List UInt8) : List (List UInt8) := if (getP l x).2 = true then (relOf es (x, (getP l x).1)).1.2.map (·.1) else []
section
variable {es : Kn} (hx : OkX es) (hg : OkG es) {root : List Need} {l : List Pk} (hl : l.length ≤ 100000) {U : List (List UInt8)} (hU1 : ∀ x ∈ root.map (·.1), x ∈ U) (hU2 : ∀ x, ∀ y ∈ gF es l x, y ∈ U) (hUl : U.length ≤ 1000000)
include hx hg hl hU1 hU2 hUl
end
end Ft
end

noncomputable section
open Go Go.Ab Go.Proofs V S T C
namespace Ft
open W (sl1 slS slN slR leNone renN renS)
open X (hasI getM putI OkX mp_ren optI)
open Pc (slK slKLe)
open Dk (chkF getP get_spec)
open E (PA pa)
open Rc (RS slL slLle slotsR selN)
open So (sortL)
open Pl (Up)
abbrev NM := List UInt8
structure Vis (o : List NM) (ps : List Nat) (w : List NM) : Prop where
 nd : ps.Nodup
 lt : ∀ i ∈ ps, i < o.length
 row : w = ps.reverse.map (fun i => o.getD i [])
def unionU (es : Kn) (root : List Need) (l : List Pk) : List NM := root.map (·.1) ++ l.flatMap fun p => (relOf es p).1.2.map (·.1)
def neededM (es : Kn) (root : List Need) (l : List Pk) : List NM := sortL (visitF (gF es l) ((unionU es root l).length + 1) (root.map (·.1)) [])
section
variable {es : Kn} (hx : OkX es) (hg : OkG es) {root : List Need} {l : List Pk} (hl : l.length ≤ 1000) (hr : root.length ≤ 1000)
include hx hg hl hr
end
end Ft
end

noncomputable section
open Go Go.Ab Go.Proofs V S T C
namespace Ft
open W (sl1 slS slN slR leNone renN renS)
open X (hasI getM putI OkX mp_ren optI)
open Pc (slK slKLe UpK dropM)
open Dk (chkF getP get_spec chk_up)
open E (PA pa)
open Rc (RS slL slLle slotsR selN)
open So (sortL)
open Pl (Up)
open Sp (hasS)
section
variable {es : Kn} (hx : OkX es) (hg : OkG es) {root : List Need} {l : List Pk} (hl : l.length ≤ 1000) (hr : root.length ≤ 1000) (hp : ∀ p ∈ l, p.1.length ≤ 1000) (hns : NsOk root)
include hx hg hl hr
include hp hns
end
structure Sol (es : Kn) (root : List Need) (l : List Pk) : Prop where
 ck : chkF none l = true
 met : ∀ n ∈ root, metB l n = true
 rel : ∀ p ∈ l, (relOf es p).2 = true
 lack : ∀ p ∈ l, lackB es l p = false
 need : ∀ p ∈ l, p.1 ∈ neededM es root l
end Ft
end

noncomputable section
open Go Go.Ab Go.Proofs V S T C
namespace Pn
open W (sl1 slS slN slR leNone renN renS)
open X (hasI getM OkX mp_ren)
open Xd (getKd agK ofI ofKd RelX rel_get)
open Pc (slK slKLe UpK)
open Dk (chkF getP chk_up)
open E (PA pa)
open Rc (Nm slL slLle slotsR selN)
open Rr (add_spec addM_len nilL addAll_cons)
open Pl (Up addM addAll addAll_len addAll_up addAll_mem addM_up)
open Sp (hasS)
open Sg (ok meetS meet_ok)
open Ft (Rise relM relOf lowR lowR_le metB NsOk OkG get_rise get_okN rel_needs leRel0 leRl rel_spec)
def relL (m : Mani) (v : Int) : Rel × Bool := match m.2.find? (fun r => r.1 == v) with
 | some r => (r, true)
 | none => ((0, []), false)
theorem relL_low (v : Int) : ∀ {l : List Rel}, l.Pairwise (fun a b => a.1 < b.1) → (match l.find? (fun r => r.1 == v) with | some r => (r, true) | none => ((0, []), false)) = (if lowR v l < l.length ∧ (l.getD (lowR v l) (0, [])).1 = v then (l.getD (lowR v l) (0, []), true) else ((0, []), false))
 | [], _ => by simp [lowR]
 | x :: r, hu => by
  have hu := List.pairwise_cons.1 hu
  rw [List.find?_cons]
  by_cases h1 : x.1 < v
  ·have e : (x.1 == v) = false := beq_eq_false_iff_ne.2 (by omega)
   rw [e]
   simp only [lowR, if_pos h1]
   rw [relL_low v hu.2, Nat.add_comm 1, List.getD_cons_succ, List.length_cons]
   by_cases h2 : lowR v r < r.length ∧ (r.getD (lowR v r) (0, [])).1 = v
   ·rw [if_pos h2, if_pos ⟨by omega, h2.2⟩]
   ·rw [if_neg h2, if_neg fun h3 => h2 ⟨by omega, h3.2⟩]
  ·simp only [lowR, if_neg h1, List.getD_cons_zero, List.length_cons]
   by_cases h2 : x.1 = v
   ·rw [show (x.1 == v) = true from beq_iff_eq.2 h2, if_pos ⟨by omega, h2⟩]
   ·rw [show (x.1 == v) = false from beq_eq_false_iff_ne.2 h2, if_neg fun h => h2 h.2]
    have hn : r.find? (fun r => r.1 == v) = none := by
     rw [List.find?_eq_none]
     intro y hy
     have := hu.1 y hy
     have : ¬ y.1 = v := by omega
     simpa using this
    rw [hn]
theorem relL_eq {m : Mani} (h : Rise m.2) (v : Int) : relL m v = relM m v := by
 unfold relL relM
 by_cases hv : v < 0 ∨ 1000000000 ≤ v
 ·rw [if_pos hv]
  have hn : m.2.find? (fun r => r.1 == v) = none := by
   rw [List.find?_eq_none]
   intro y hy
   have := h.low y hy
   have : ¬ y.1 = v := by omega
   simpa using this
  rw [hn]
 ·rw [if_neg hv]; exact relL_low v h.up
theorem relL2 {m : Mani} {v : Int} (hl : m.2.length ≤ lim) {R : Rel × Bool} : ∀ (k i : Nat), k + i = m.2.length → (match (m.2.drop i).find? (fun r => r.1 == v) with | some r => (r, true) | none => ((0, []), false)) = R →
  AWP Tryz.prog 28 0 c17_2 [(1, .int .i64 v), (2, .ptr 0 0), (4, .ptr 1 0), (6, .int .i64 i)] [.cells (encM m), .cells [.int .i64 0, .sl 0 (.raw []) .nil]] (q17_2 0 (PA (.tup [.agg (T.encR R.1), .bool R.2]))) := by
 unfold lim at hl
 intro k
 induction k with
 | zero =>
  intro i hm h
  rw [List.drop_eq_nil_of_le (by omega)] at h
  subst h
  exact v17_2 _ _ _ _ _ (condD (fun hc => by omega) fun _ => pa (Le.tup ⟨leRel0, Le.refl _, trivial⟩))
 | succ k ih =>
  intro i hm h
  rw [dropD m.2 (0, []) i (by omega), List.find?_cons] at h
  refine v17_2 _ _ _ _ _ (condD (fun _ => needJ ⟨by omega, by omega⟩ ?_) fun hc => by omega)
  rw [Int.toNat_natCast, succ64 (by omega)]
  generalize m.2.getD i (0, []) = x at h ⊢
  refine condE (fun e => needJ ⟨by omega, by omega⟩ (pa ?_)) fun e => ?_
  ·rw [show (x.1 == v) = true from beq_iff_eq.2 e] at h
   subst h
   exact Le.tup ⟨leRl _ _, Le.refl _, trivial⟩
  ·rw [show (x.1 == v) = false from beq_eq_false_iff_ne.2 e] at h
   exact ih (i + 1) (by omega) h
theorem rrel_spec (m : Mani) (v : Int) (hl : m.2.length ≤ lim) (H : List AObj) : ASpec Tryz.prog 17 [.agg (encM m), .int .i64 v] H (fun r H' => r = .tup [.agg (T.encR (relL m v).1), .bool (relL m v).2] ∧ H' = H) := by
 have k : ASpec Tryz.prog 17 [.agg (encM m), .int .i64 v] [] (fun r H' => r = .tup [.agg (T.encR (relL m v).1), .bool (relL m v).2] ∧ H' = []) :=
  ASpec.sel (s17 _ _ _ (relL2 hl m.2.length 0 (by omega) rfl))
 exact ASpec.pureH H k _ _ rfl rfl
section
variable {es : Kn} (hx : OkX es) (hg : OkG es)
include hx hg
theorem needs0 (p : Pk) : ASpec Tryz.prog 77 [.ptr 1 0, .agg (encPk p)] (HX es) (fun r H' => r = slN (relOf es p).1.2 ∧ H' = HX es) := by
 have hr := get_rise hg p.1
 have hn := get_okN hx p.1
 refine ASpec.sel (s77 es p (X.PX es (slN (relOf es p).1.2)) (ASpec.call (X.get_spec es p.1 hx _ 0 1 (by omega) rfl rfl) (Les.refl _) ⟨getM es p.1, rfl, rfl, ?_⟩))
 refine ASpec.call (rel_spec (getM es p.1).1 p.2 hr.1 hn.1 hn.2 _) (Les.refl _) ⟨relOf es p, rfl, rfl, ?_⟩
 exact X.px (es := es) [_, _, _] (leNone renN)
theorem needs_at (p : Pk) (H : List AObj) (q k : Nat) (hqk : q ≠ k) (hq : H[q]? = some (.mp (.typed EK es))) (hk : H[k]? = some (.cells [.map q])) :
  ASpec Tryz.prog 77 [.ptr k 0, .agg (encPk p)] H (fun r H' => r = slN (relOf es p).1.2 ∧ H' = H) := by
 have := X.liftX H q k hqk hq hk (needs0 hx hg p) (args' := [.ptr k 0, .agg (encPk p)]) (r' := slN (relOf es p).1.2) rfl rfl
 rwa [set_same hq] at this
theorem rneeds_spec {d : List Kd} (hd : RelX es d) (hdl : d.length ≤ 1000) (p : Pk) (H : List AObj) : ASpec Tryz.prog 80 [agK d, .agg (encPk p)] H (fun r H' => r = slN (relOf es p).1.2 ∧ H' = H) := by
 have hr := get_rise hg p.1
 have hn := get_okN hx p.1
 have k : ASpec Tryz.prog 80 [agK d, .agg (encPk p)] [] (fun r H' => r = slN (relOf es p).1.2 ∧ H' = []) := by
  refine ASpec.sel (s80 d p _ (ASpec.call (Xd.get_spec d p.1 (by unfold lim; omega) _) (Les.refl _) ⟨getKd d p.1, rfl, rfl, ?_⟩))
  repeat refine ⟨⟨rfl, rfl⟩, ?_⟩
  rw [rel_get hd]
  refine ASpec.call (rrel_spec (getM es p.1).1 p.2 hn.1 _) (Les.refl _) ⟨relL (getM es p.1).1 p.2, rfl, rfl, ?_⟩
  rw [relL_eq hr.1]
  exact pa (leNone renN)
 exact ASpec.pureH H k _ _ rfl rfl
end
def findN (s : Nm) : List Need → List Span × Bool
 | [] => ([], false)
 | n :: r => if n.1 = s then (n.2, true) else findN s r
def ixF (s : Nm) : List Need → Nat → Int
 | [], _ => -1
 | n :: r, i => if n.1 = s then (i : Int) else ixF s r (i + 1)
theorem ixF_find (s : Nm) : ∀ (r : List Need) (i : Nat), (ixF s r i < 0 ∧ findN s r = ([], false)) ∨ ∃ j : Nat, ixF s r i = ((i + j : Nat) : Int) ∧ j < r.length ∧ findN s r = ((r.getD j ([], [])).2, true)
 | [], i => .inl ⟨by simp [ixF], rfl⟩
 | n :: r, i => by
  simp only [ixF, findN]
  by_cases h : n.1 = s
  ·rw [if_pos h, if_pos h]; exact .inr ⟨0, by simp, by simp, rfl⟩
  ·rw [if_neg h, if_neg h]
   rcases ixF_find s r (i + 1) with h1 | ⟨j, h1, h2, h3⟩
   ·exact .inl h1
   ·exact .inr ⟨j + 1, by rw [h1]; congr 1; omega, by simpa using h2, by rw [h3]; rfl⟩
theorem sel1 {a : AObj} {q : List AObj} (h : AObj.ren (selR [0] (a :: q).length) a = a := by rfl) : Sel 1 [0] (a :: q) [a] :=
 selN (by decide) (by decide) (fun i h => by match i, h with | 0, _ => rfl) ⟨by rw [h]; rfl, trivial⟩
theorem clo_spec (x : Need) (s : Nm) : ASpec Tryz.prog 127 [.agg (encN x), .ptr 0 0] [.cells [.str (B s)]] (fun r H' => r = .bool (decide (x.1 = s)) ∧ H' = [.cells [.str (B s)]]) := by
 refine ASpec.sel (s127 x s _ ⟨[0], [.cells [.str (B s)]], .bool (decide (x.1 = s)), sel1, ?_, rfl, rfl⟩)
 rw [show (ByteArray.toList ⟨x.1.toArray⟩ == ByteArray.toList ⟨s.toArray⟩) = decide (x.1 = s) from Dk.nameEq x.1 s]
 exact Le.refl _
theorem ix2 {ns : List Need} {s : Nm} (hl : ns.length ≤ 1000000) {R : Int} : ∀ (m i : Nat), m + i = ns.length → ixF s (ns.drop i) i = R →
  AWP Tryz.prog 19 1 c126_2 [(0, slN ns), (1, .fn 127 [.ptr 0 0]), (7, .int .i64 ns.length), (8, .int .i64 i)] [.cells [.str (B s)]] (q126_2 1 (fun r H' => r = .int .i64 R ∧ H' = [.cells [.str (B s)]])) := by
 intro m
 induction m with
 | zero =>
  intro i hm h
  rw [List.drop_eq_nil_of_le (by omega)] at h
  have h : -1 = R := h
  subst h
  exact v126_2 _ _ _ _ _ _ (condD (fun h => by omega) fun _ => ⟨rfl, rfl⟩)
 | succ m ih =>
  intro i hm h
  rw [dropD ns ([], []) i (by omega)] at h
  simp only [ixF] at h
  refine v126_2 _ _ _ _ _ _ (condD (fun _ => needJ ⟨by omega, by omega⟩ ?_) fun h => by omega)
  rw [Int.toNat_natCast, succ64 (by omega)]
  generalize ns.getD i ([], []) = y at h ⊢
  refine ASpec.call (clo_spec y s) (Les.refl _) ⟨_, rfl, rfl, condB (fun e => ⟨?_, rfl⟩) fun e => ih (i + 1) (by omega) ?_⟩
  ·rw [if_pos (of_decide_eq_true e)] at h; rw [h]
  ·rw [if_neg (of_decide_eq_false e)] at h; exact h
theorem idx_spec (ns : List Need) (s : Nm) (hl : ns.length ≤ 1000000) : ASpec Tryz.prog 126 [slN ns, .fn 127 [.ptr 0 0]] [.cells [.str (B s)]] (fun r H' => r = .int .i64 (ixF s ns 0) ∧ H' = [.cells [.str (B s)]]) :=
 s126 ns s _ (ix2 hl ns.length 0 (by omega) rfl)
theorem find_spec (ns : List Need) (s : Nm) (hl : ns.length ≤ 1000000) (hns : okN ns) (H : List AObj) : ASpec Tryz.prog 84 [slN ns, .str (B s)] H (fun r H' => r = .tup [slS (findN s ns).1, .bool (findN s ns).2] ∧ H' = H) := by
 have k : ASpec Tryz.prog 84 [slN ns, .str (B s)] [] (fun r H' => r = .tup [slS (findN s ns).1, .bool (findN s ns).2] ∧ H' = []) := by
  refine ASpec.sel (s84 ns s _ (ASpec.call (idx_spec ns s hl) (Les.refl _) ⟨_, rfl, rfl, ?_⟩))
  rcases ixF_find s ns 0 with ⟨h1, h2⟩ | ⟨j, h1, h2, h3⟩
  ·refine condD (fun _ => ?_) fun h => (h h1).elim
   rw [h2]
   exact pa (Le.tup ⟨Le.sl rfl (.inr ⟨rfl, fun _ h => by cases h⟩) (.inr rfl), Le.refl _, trivial⟩)
  ·refine condD (fun h => by rw [h1] at h; omega) fun _ => ?_
   rw [h1, Nat.zero_add, Int.toNat_natCast]
   refine needJ ⟨by omega, by omega⟩ ?_
   have hy := hns.2 _ (memD ns ([], []) j h2)
   rw [h3]
   generalize ns.getD j ([], []) = y at hy ⊢
   exact ASpec.call (X.cloneS_spec y.2 hy.2 _) (Les.refl _) ⟨_, rfl, rfl, pa (Le.tup ⟨leNone renS, Le.refl _, trivial⟩)⟩
 exact ASpec.pureH H k _ _ rfl rfl
theorem rfd2 {ns : List Need} {s : Nm} (hl : ns.length ≤ 1000000) {R : List Span × Bool} : ∀ (m i : Nat), m + i = ns.length → findN s (ns.drop i) = R →
  AWP Tryz.prog 25 0 c86_2 [(0, slN ns), (1, .str (B s)), (6, .int .i64 i)] [] (q86_2 0 (PA (.tup [slS R.1, .bool R.2]))) := by
 intro m
 induction m with
 | zero =>
  intro i hm h
  rw [List.drop_eq_nil_of_le (by omega)] at h
  have h : ([], false) = R := h
  subst h
  exact v86_2 _ _ _ _ _ (condD (fun h => by omega) fun _ => pa (Le.tup ⟨Le.sl rfl (.inr ⟨rfl, fun _ h => by cases h⟩) (.inr rfl), Le.refl _, trivial⟩))
 | succ m ih =>
  intro i hm h
  rw [dropD ns ([], []) i (by omega)] at h
  simp only [findN] at h
  refine v86_2 _ _ _ _ _ (condD (fun _ => needJ ⟨by omega, by omega⟩ ?_) fun h => by omega)
  rw [Int.toNat_natCast, succ64 (by omega)]
  generalize ns.getD i ([], []) = y at h ⊢
  refine condS (fun e => needJ ⟨by omega, by omega⟩ ?_) fun e => ih (i + 1) (by omega) ?_
  ·rw [if_pos e] at h; subst h
   exact pa (Le.tup ⟨leNone renS, Le.refl _, trivial⟩)
  ·rw [if_neg e] at h; exact h
theorem rfind_spec (ns : List Need) (s : Nm) (hl : ns.length ≤ 1000000) (H : List AObj) : ASpec Tryz.prog 86 [slN ns, .str (B s)] H (fun r H' => r = .tup [slS (findN s ns).1, .bool (findN s ns).2] ∧ H' = H) := by
 have k : ASpec Tryz.prog 86 [slN ns, .str (B s)] [] (fun r H' => r = .tup [slS (findN s ns).1, .bool (findN s ns).2] ∧ H' = []) :=
  ASpec.sel (s86 ns s _ (rfd2 hl ns.length 0 (by omega) rfl))
 exact ASpec.pureH H k _ _ rfl rfl
abbrev allS : List Span := [(0, 1000000000)]
theorem all_ok : ok allS := by unfold ok; decide
theorem all_spec (H : List AObj) : ASpec Tryz.prog 82 [] H (fun r H' => r = slS allS ∧ H' = H) :=
 ASpec.pureH (r0 := slS allS) H (ASpec.sel (s82 _ (pa (Le.sl (s' := .map encS (0, 0) allS) rfl (.inl rfl) (.inr rfl))))) _ _ rfl rfl
theorem rall_spec (H : List AObj) : ASpec Tryz.prog 85 [] H (fun r H' => r = slS allS ∧ H' = H) :=
 ASpec.pureH (r0 := slS allS) H (ASpec.sel (s85 _ (pa (Le.sl (s' := .map encS (0, 0) allS) rfl (.inl rfl) (.inr rfl))))) _ _ rfl rfl
def askN (s : Nm) (ns : List Need) (u : List Span) : List Span := if (findN s ns).2 = true then meetS u (findN s ns).1 else u
def askF (s : Nm) : List (List Need) → List Span → List Span
 | [], u => u
 | ns :: r, u => askF s r (askN s ns u)
def needsK (es : Kn) (l : List Pk) : List (List Need) := l.map fun p => (relOf es p).1.2
def askedM (es : Kn) (root : List Need) (l : List Pk) (s : Nm) : List Span := askF s (root :: needsK es l) allS
theorem find_ok {ns : List Need} (h : NsOk ns) (s : Nm) : ok (findN s ns).1 := by
 induction ns with
 | nil => exact rfl
 | cons n r ih =>
  simp only [findN]
  split
  ·exact (h n (by simp)).2
  ·exact ih fun x hx => h x (by simp [hx])
theorem askN_ok {ns : List Need} (h : NsOk ns) {s : Nm} {u : List Span} (hu : ok u) : ok (askN s ns u) := by
 unfold askN
 split
 ·exact meet_ok hu (find_ok h s)
 ·exact hu
theorem askF_ok {s : Nm} : ∀ {L : List (List Need)} {u : List Span}, (∀ ns ∈ L, NsOk ns) → ok u → ok (askF s L u)
 | [], _, _, hu => hu
 | ns :: r, u, h, hu => askF_ok (L := r) (fun x hx => h x (by simp [hx])) (askN_ok (h ns (by simp)) hu)
theorem needsK_ok {es : Kn} (hg : OkG es) (l : List Pk) : ∀ ns ∈ needsK es l, NsOk ns := by
 intro ns h
 obtain ⟨p, _, rfl⟩ := List.mem_map.1 h
 exact (rel_needs hg p).1
theorem asked_ok {es : Kn} (hg : OkG es) {root : List Need} (hr : NsOk root) (l : List Pk) (s : Nm) : ok (askedM es root l s) :=
 askF_ok (fun ns h => by
  rcases List.mem_cons.1 h with rfl | h
  ·exact hr
  ·exact needsK_ok hg l ns h) all_ok
abbrev HA (es : Kn) (s : Nm) (u : List Span) : List AObj := HX es ++ [.cells [.str (B s)], .cells [slS u]]
theorem selA (es : Kn) (s : Nm) (u : List Span) (q : List AObj) : Sel 4 [0, 1, 2, 3] (HA es s u ++ q) (HA es s u) :=
 selN (by decide) (by decide) (fun i h => by match i, h with | 0, _ | 1, _ | 2, _ | 3, _ => rfl) ⟨by rw [mp_ren]; rfl, rfl, rfl, rfl, trivial⟩
end Pn
end

noncomputable section
open Go Go.Ab Go.Proofs V S T C
namespace Pn
open W (sl1 slS slN slR leNone renN renS)
open X (hasI getM OkX mp_ren)
open Xd (getKd agK ofI ofKd RelX rel_get)
open Pc (slK slKLe UpK)
open Dk (chkF getP chk_up)
open E (PA pa)
open Rc (Nm slL slLle slotsR selN)
open Rr (add_spec addM_len nilL addAll_cons)
open Pl (Up addM addAll addAll_len addAll_up addAll_mem addM_up)
open Sp (hasS)
open Sg (ok meetS meet_ok)
open Ft (Rise relM relOf lowR lowR_le metB NsOk OkG get_rise get_okN rel_needs sameSet)
theorem rel_okN {es : Kn} (hx : OkX es) (p : Pk) : okN (relOf es p).1.2 := by
 have h := (get_okN hx p.1).2
 unfold relOf
 rcases Ft.relM_mem (m := (getM es p.1).1) (v := p.2) with h1 | h1
 ·exact h _ h1
 ·rw [h1]; exact ⟨Nat.zero_le _, fun n hn => by cases hn⟩
abbrev PQ (es : Kn) (s : Nm) (u : List Span) : AV → List AObj → Prop := fun r H' => ∃ l H2 r2, Sel 4 l H' H2 ∧ Le r (AV.ren (selR l H'.length) r2) ∧ (r2 = .tup [] ∧ H2 = (HA es s []).set 3 (.cells [slS u]))
theorem pq {es : Kn} {s : Nm} {u : List Span} (q : List AObj) : PQ es s u (.tup []) (HA es s u ++ q) := ⟨_, _, _, selA es s u q, Le.refl _, rfl, rfl⟩
theorem ask0 (es : Kn) (ns : List Need) (hns : okN ns) (hnk : NsOk ns) (s : Nm) (u : List Span) (hu : ok u) : ASpec Tryz.prog 83 [slN ns, .ptr 2 0, .ptr 3 0] (HA es s u) (fun r H' => r = .tup [] ∧ H' = (HA es s u).set 3 (.cells [slS (askN s ns u)])) := by
 have e : (HA es s u).set 3 (.cells [slS (askN s ns u)]) = (HA es s []).set 3 (.cells [slS (askN s ns u)]) := rfl
 rw [e]
 have hl : ns.length ≤ 1000000 := hns.1
 refine ASpec.sel (s83 es ns s u (PQ es s (askN s ns u)) (ASpec.call (find_spec ns s hl hns _) (Les.refl _) ⟨findN s ns, rfl, rfl, condB (fun h => ?_) fun h => ?_⟩))
 ·refine ASpec.call (Sg.meet_spec hu (find_ok hnk s) _) (Les.refl _) ⟨_, rfl, rfl, ?_⟩
  have e2 : askN s ns u = meetS u (findN s ns).1 := if_pos h
  rw [e2]
  exact pq []
 ·have e2 : askN s ns u = u := if_neg (by rw [h]; simp)
  rw [e2]
  exact pq []
theorem ask_at (es : Kn) (ns : List Need) (hns : okN ns) (hnk : NsOk ns) (s : Nm) (u : List Span) (hu : ok u) (q : List AObj) : ASpec Tryz.prog 83 [slN ns, .ptr 2 0, .ptr 3 0] (HA es s u ++ q) (fun r H' => r = .tup [] ∧ H' = HA es s (askN s ns u) ++ q) :=
 sameSet [0, 1, 2, 3] (HA es s u ++ q) 3 _ (ask0 es ns hns hnk s u hu) (by decide) rfl (by decide) rfl rfl (fun i hi => by
  match i, hi with
  | 0, _ => show some _ = some (AObj.ren _ (.mp (.typed EK es))); rw [mp_ren]
  | 1, _ => rfl
  | 2, _ => rfl
  | 3, _ => rfl)
section
variable {es : Kn} (hx : OkX es) (hg : OkG es) {root : List Need} {l : List Pk} (hl : l.length ≤ 100000) (hr : okN root) (hns : NsOk root)
include hx hg hl
theorem as5 {s : Nm} {R : List Span} : ∀ (m i : Nat) (u : List Span), m + i = l.length → ok u → askF s (needsK es (l.drop i)) u = R →
  AWP Tryz.prog 31 2 c35_5 [(0, .ptr 1 0), (9, .ptr 3 0), (10, .fn 83 [.ptr 2 0, .ptr 3 0]), (18, slK l), (19, .int .i64 l.length), (20, .int .i64 i)] (HA es s u) (q35_2 2 (X.PX es (slS R))) := by
 intro m
 induction m with
 | zero =>
  intro i u hm hu h
  rw [List.drop_eq_nil_of_le (by omega)] at h
  have h : u = R := h
  subst h
  exact v35_5 _ _ _ _ _ _ _ _ (condD (fun hc => by omega) fun _ => X.px (es := es) [_, _] (leNone renS))
 | succ m ih =>
  intro i u hm hu h
  rw [dropD l noPk i (by omega)] at h
  simp only [needsK, List.map_cons, askF] at h
  refine v35_5 _ _ _ _ _ _ _ _ (condD (fun hc => needJ ⟨by omega, by omega⟩ ?_) fun hc => by omega)
  rw [Int.toNat_natCast, succ64 (by omega)]
  generalize l.getD i noPk = y at h ⊢
  refine ASpec.call (needs_at hx hg y _ 0 1 (by omega) rfl rfl) (Les.refl _) ⟨_, rfl, rfl, ?_⟩
  refine ASpec.call (ask_at es _ (rel_okN hx y) (rel_needs hg y).1 s u hu [_]) (Les.refl _) ⟨askN s (relOf es y).1.2 u, rfl, rfl, ?_⟩
  exact AWP.shape [0, 1, 2, 3] _ (HA es s (askN s (relOf es y).1.2 u)) (selN (by decide) (by decide) (fun i h => by match i, h with | 0, _ | 1, _ => rfl) ⟨by rw [mp_ren]; rfl, rfl, rfl, rfl, trivial⟩) (by exact slotsR rfl)
   (ih (i + 1) _ (by omega) (askN_ok (rel_needs hg y).1 hu) h)
include hr hns
theorem asked0 (s : Nm) : ASpec Tryz.prog 35 [.ptr 1 0, slN root, slK l, .str (B s)] (HX es) (fun r H' => r = slS (askedM es root l s) ∧ H' = HX es) := by
 refine ASpec.sel (s35 es root l s (X.PX es (slS (askedM es root l s))) (ASpec.call (all_spec _) (Les.refl _) ⟨allS, rfl, rfl, ?_⟩))
 refine ASpec.call (ask_at es root hr hns s allS all_ok []) (Les.refl _) ⟨askN s root allS, rfl, rfl, ?_⟩
 exact as5 hx hg hl l.length 0 _ (by omega) (askN_ok hns all_ok) rfl
theorem asked_at (s : Nm) (H : List AObj) (q k : Nat) (hqk : q ≠ k) (hq : H[q]? = some (.mp (.typed EK es))) (hk : H[k]? = some (.cells [.map q])) :
  ASpec Tryz.prog 35 [.ptr k 0, slN root, slK l, .str (B s)] H (fun r H' => r = slS (askedM es root l s) ∧ H' = H) := by
 have := X.liftX H q k hqk hq hk (asked0 hx hg hl hr hns s) (args' := [.ptr k 0, slN root, slK l, .str (B s)]) (r' := slS (askedM es root l s)) rfl rfl
 rwa [set_same hq] at this
omit hr hns
variable {d : List Kd} (hd : RelX es d) (hdl : d.length ≤ 1000)
include hd hdl
theorem ras6 {s : Nm} {R : List Span} : ∀ (m i : Nat) (u : List Span), m + i = l.length → ok u → askF s (needsK es (l.drop i)) u = R →
  AWP Tryz.prog 48 0 c36_6 [(2, slK l), (3, .str (B s)), (4, .ptr 0 0), (9, slS u), (12, .int .i64 i)] [.cells (encXd d)] (q36_2 0 (PA (slS R))) := by
 intro m
 induction m with
 | zero =>
  intro i u hm hu h
  rw [List.drop_eq_nil_of_le (by omega)] at h
  have h : u = R := h
  subst h
  exact v36_6 _ _ _ _ _ _ _ (condD (fun hc => by omega) fun _ => pa (leNone renS))
 | succ m ih =>
  intro i u hm hu h
  rw [dropD l noPk i (by omega)] at h
  simp only [needsK, List.map_cons, askF] at h
  refine v36_6 _ _ _ _ _ _ _ (condD (fun hc => needJ ⟨by omega, by omega⟩ ?_) fun hc => by omega)
  rw [Int.toNat_natCast, succ64 (by omega)]
  generalize l.getD i noPk = y at h ⊢
  have hyl := (rel_okN hx y).1
  unfold lim at hyl
  refine ASpec.call (rneeds_spec hx hg hd hdl y _) (Les.refl _) ⟨_, rfl, rfl, ?_⟩
  refine ASpec.call (rfind_spec _ s hyl _) (Les.refl _) ⟨findN s (relOf es y).1.2, rfl, rfl, condB (fun hf => ?_) fun hf => ?_⟩
  ·have e2 : askN s (relOf es y).1.2 u = meetS u (findN s (relOf es y).1.2).1 := if_pos hf
   refine ASpec.call (Sg.rmeet_spec u _ hu (find_ok (rel_needs hg y).1 s) _) (Les.refl _) ⟨_, rfl, rfl, ?_⟩
   rw [← e2]
   exact ih (i + 1) _ (by omega) (askN_ok (rel_needs hg y).1 hu) h
  ·have e2 : askN s (relOf es y).1.2 u = u := if_neg (by rw [hf]; simp)
   rw [e2] at h
   exact ih (i + 1) _ (by omega) hu h
include hr hns
theorem rasked_spec (s : Nm) (H : List AObj) : ASpec Tryz.prog 36 [agK d, slN root, slK l, .str (B s)] H (fun r H' => r = slS (askedM es root l s) ∧ H' = H) := by
 have hrl := hr.1
 unfold lim at hrl
 have k : ASpec Tryz.prog 36 [agK d, slN root, slK l, .str (B s)] [] (fun r H' => r = slS (askedM es root l s) ∧ H' = []) := by
  refine ASpec.sel (s36 d root l s _ (ASpec.call (rall_spec _) (Les.refl _) ⟨allS, rfl, rfl, ?_⟩))
  refine ASpec.call (rfind_spec root s hrl _) (Les.refl _) ⟨findN s root, rfl, rfl, condB (fun hf => ?_) fun hf => ?_⟩
  ·have e2 : askN s root allS = meetS allS (findN s root).1 := if_pos hf
   refine ASpec.call (Sg.rmeet_spec allS _ all_ok (find_ok hns s) _) (Les.refl _) ⟨_, rfl, rfl, ?_⟩
   rw [← e2]
   exact ras6 hx hg hl hd hdl l.length 0 _ (by omega) (askN_ok hns all_ok) rfl
  ·have e2 : askN s root allS = allS := if_neg (by rw [hf]; simp)
   refine ras6 hx hg hl hd hdl l.length 0 _ (by omega) all_ok ?_
   show _ = askF s (needsK es l) (askN s root allS)
   rw [e2]; rfl
 exact ASpec.pureH H k _ _ rfl rfl
end
end Pn
end

noncomputable section
open Go Go.Ab Go.Proofs V S T C
namespace Pn
open W (sl1 slS slN slR leNone renN renS)
open X (hasI getM OkX mp_ren)
open Xd (getKd agK ofI ofKd RelX rel_get)
open Pc (slK slKLe UpK)
open Dk (chkF getP chk_up)
open E (PA pa)
open Rc (Nm slL slLle slotsR selN)
open Rr (add_spec addM_len nilL addAll_cons)
open Pl (Up addM addAll addAll_len addAll_up addAll_mem addM_up)
open Ft (Rise relM relOf NsOk OkG rel_needs sameSet)
def minF (s : Nm) : List Nm → Nm
 | [] => s
 | x :: r => minF (if s < x ∨ s = x then s else x) r
theorem min_mem : ∀ (r : List Nm) (s : Nm), minF s r ∈ s :: r
 | [], s => by simp [minF]
 | x :: r, s => by
  have h := min_mem r (if s < x ∨ s = x then s else x)
  simp only [minF]
  rcases List.mem_cons.1 h with h | h
  ·rw [h]; split <;> simp
  ·simp [h]
theorem min_le : ∀ (r : List Nm) (s : Nm), ∀ y ∈ s :: r, ¬ y < minF s r
 | [], s, y, hy => by
  simp at hy; subst hy
  exact fun h => Pl.ltI h
 | x :: r, s, y, hy => by
  simp only [minF]
  have h := min_le r (if s < x ∨ s = x then s else x)
  have h0 := h (if s < x ∨ s = x then s else x) (List.mem_cons_self ..)
  rcases List.mem_cons.1 hy with rfl | hy
  ·by_cases hc : y < x ∨ y = x
   ·rw [if_pos hc] at h0 ⊢; exact h0
   ·rw [if_neg hc] at h0 ⊢
    rcases Pl.tri y x with ht | ht | ht
    ·exact (hc (.inl ht)).elim
    ·exact (hc (.inr ht)).elim
    ·exact fun hl => h0 (Pl.ltT ht hl)
  ·rcases List.mem_cons.1 hy with rfl | hy
   ·by_cases hc : s < y ∨ s = y
    ·rw [if_pos hc] at h0 ⊢
     rcases hc with hc | rfl
     ·exact fun hl => h0 (Pl.ltT hc hl)
     ·exact h0
    ·rw [if_neg hc] at h0 ⊢; exact h0
   ·exact h y (List.mem_cons_of_mem _ hy)
theorem next_none {A : List Nm} {np : Nm → Bool} (h : ∀ x, ¬ (x ∈ A ∧ np x = true)) : A.find? np = none := by
 rw [List.find?_eq_none]
 intro x hx hn
 exact h x ⟨hx, hn⟩
theorem next_min {A : List Nm} {np : Nm → Bool} (hu : Up A) {s : Nm} {r : List Nm} (h : ∀ x, x ∈ s :: r ↔ x ∈ A ∧ np x = true) : A.find? np = some (minF s r) := by
 have hm := (h _).1 (min_mem r s)
 have hl := min_le r s
 generalize minF s r = z at hm hl
 induction A with
 | nil => cases hm.1
 | cons a A ih =>
  have hu := List.pairwise_cons.1 hu
  rw [List.find?_cons]
  cases hn : np a with
  | true =>
   have ha := (h a).2 ⟨by simp, hn⟩
   rcases List.mem_cons.1 hm.1 with e | hz
   ·rw [e]
   ·exact (hl a ha (hu.1 z hz)).elim
  | false =>
   simp only
   refine ih hu.2 (fun x => ?_) ⟨?_, hm.2⟩
   ·rw [h x]
    constructor
    ·rintro ⟨hx, hnx⟩
     rcases List.mem_cons.1 hx with rfl | hx
     ·rw [hn] at hnx; cases hnx
     ·exact ⟨hx, hnx⟩
    ·rintro ⟨hx, hnx⟩
     exact ⟨List.mem_cons_of_mem _ hx, hnx⟩
   ·rcases List.mem_cons.1 hm.1 with e | hz
    ·rw [e, hn] at hm; cases hm.2
    ·exact hz
theorem min5 {o : List Nm} (hl : o.length ≤ 1000000000000) {R : Nm} : ∀ (m i : Nat) (s : Nm), m + i = o.length → minF s (o.drop i) = R →
  AWP Tryz.prog 25 0 c78_5 [(0, slL o), (3, .str (B s)), (4, .int .i64 i)] [] (q78_2 0 (PA (.str (B R))) (fun _ _ => False)) := by
 intro m
 induction m with
 | zero =>
  intro i s hm h
  rw [List.drop_eq_nil_of_le (by omega)] at h
  have h : s = R := h
  subst h
  exact v78_5 _ _ _ _ _ _ (condD (fun hc => by omega) fun _ => pa (Le.refl _))
 | succ m ih =>
  intro i s hm h
  rw [dropD o [] i (by omega)] at h
  simp only [minF] at h
  refine v78_5 _ _ _ _ _ _ (condD (fun hc => needJ ⟨by omega, by omega⟩ ?_) fun hc => by omega)
  rw [Int.toNat_natCast, wrap64 (by omega) (by omega)]
  generalize o.getD i [] = y at h ⊢
  have e : (Op.bytesLess (ByteArray.toList ⟨s.toArray⟩) (ByteArray.toList ⟨y.toArray⟩) || ByteArray.toList ⟨s.toArray⟩ == ByteArray.toList ⟨y.toArray⟩) = decide (s < y ∨ s = y) := by
   rw [show (ByteArray.toList ⟨s.toArray⟩ == ByteArray.toList ⟨y.toArray⟩) = decide (s = y) from Dk.nameEq s y]
   have h1 : Op.bytesLess (ByteArray.toList ⟨s.toArray⟩) (ByteArray.toList ⟨y.toArray⟩) = decide (s < y) := by
    rw [show ByteArray.toList ⟨s.toArray⟩ = s from B_toList s, show ByteArray.toList ⟨y.toArray⟩ = y from B_toList y]
    by_cases hlt : s < y
    ·rw [decide_eq_true hlt]; exact Dp.less_iff.2 hlt
    ·rw [decide_eq_false hlt]
     cases hb : Op.bytesLess s y with
     | false => rfl
     | true => exact (hlt (Dp.less_iff.1 hb)).elim
   rw [h1]
   by_cases h2 : s < y <;> by_cases h3 : s = y <;> simp [h2, h3]
  rw [e]
  refine condD (fun hc => ?_) fun hc => ?_
  ·rw [if_pos hc] at h
   exact ih (i + 1) s (by omega) h
  ·rw [if_neg hc] at h
   exact ih (i + 1) y (by omega) h
theorem min_spec (x : Nm) (r : List Nm) (tip : Tip) (hl : (x :: r).length ≤ 1000000000000) (H : List AObj) : ASpec Tryz.prog 78 [.sl 1 (.map encL [] (x :: r)) tip] H (fun r' H' => r' = .str (B (minF x r)) ∧ H' = H) := by
 have k : ASpecX Tryz.prog 78 [slL (x :: r)] [] (PA (.str (B (minF x r)))) (fun _ _ => False) := by
  refine s78 _ _ _ (condD (fun h => by simp at h; omega) fun _ => needJ ⟨by omega, by simp⟩ ?_)
  exact min5 hl r.length 1 x (by simp) rfl
 have k2 : ASpec Tryz.prog 78 [slL (x :: r)] [] (fun r' H' => r' = .str (B (minF x r)) ∧ H' = []) := ASpec.sel (k.e.r)
 exact (ASpec.pureH H k2 _ _ rfl rfl).le ⟨Le.sl rfl (.inl rfl) (.inr rfl), trivial⟩
def opN (l : List Pk) (ns : List Need) : List Nm := (ns.filter fun n => !(getP l n.1).2).map (·.1)
theorem opN_len (l : List Pk) (ns : List Need) : (opN l ns).length ≤ ns.length := by
 unfold opN; rw [List.length_map]; exact List.length_filter_le _ _
theorem opN_cons (l : List Pk) (n : Need) (r : List Need) : opN l (n :: r) = (if (getP l n.1).2 = true then opN l r else n.1 :: opN l r) := by
 unfold opN
 rw [List.filter_cons]
 by_cases h : (getP l n.1).2 = true
 ·rw [if_pos h, if_neg (by rw [h]; simp)]
 ·rw [if_neg h, if_pos (by simpa using h)]; rfl
abbrev tokN (o : List Nm) (k : Nat) : AV := .sl 1 (.map encL [] o) (.tok k)
abbrev HNx (es : Kn) (l : List Pk) (o : List Nm) : List AObj := HX es ++ [.cells [slK l], .cells [tokN o 4], .tok]
abbrev HOx (es : Kn) (l : List Pk) (o : List Nm) : List AObj := HX es ++ [.cells [slK l], .cells [tokN o 5], .gone, .tok]
theorem op1 {es : Kn} {ns : List Need} {l : List Pk} (hl : l.length ≤ 100000) (hnl : ns.length ≤ 1000000) {R : List Nm} : ∀ (m i : Nat) (o : List Nm), m + i = ns.length → o.length + m ≤ 1000000000000 → o ++ opN l (ns.drop i) = R →
  AWP Tryz.prog 29 5 c75_1 [(1, .ptr 2 0), (2, .ptr 3 0), (8, slN ns), (9, .int .i64 ns.length), (10, .int .i64 i)] (HOx es l o) (q75_1 5 (fun r H' => r = .tup [] ∧ H' = HOx es l R)) := by
 intro m
 induction m with
 | zero =>
  intro i o hm ho h
  rw [List.drop_eq_nil_of_le (by omega)] at h
  have h : o ++ [] = R := h
  rw [List.append_nil] at h
  subst h
  exact v75_1 _ _ _ _ _ _ _ _ (condD (fun hc => by omega) fun _ => ⟨rfl, rfl⟩)
 | succ m ih =>
  intro i o hm ho h
  rw [dropD ns ([], []) i (by omega), opN_cons] at h
  refine v75_1 _ _ _ _ _ _ _ _ (condD (fun hc => needJ ⟨by omega, by omega⟩ ?_) fun hc => by omega)
  rw [Int.toNat_natCast, succ64 (by omega)]
  generalize ns.getD i ([], []) = y at h ⊢
  refine ASpec.call (Dk.get_spec l y.1 hl _) (Les.refl _) ⟨getP l y.1, rfl, rfl, condBn (fun hn => needJ (by omega) ?_) fun hn => ?_⟩
  ·rw [if_neg (by rw [hn]; simp)] at h
   have h2 : (o ++ [y.1]) ++ opN l (ns.drop (i + 1)) = R := by rw [← h]; simp
   refine AWP.re (ReSt.leCell (id := 3) (cs' := [tokN (o ++ [y.1]) 7]) rfl ⟨leAppE (Les.refl _), trivial⟩) ?_
   exact AWP.shape [0, 1, 2, 3, 4, 7] _ (HOx es l (o ++ [y.1])) (selN (by decide) (by decide) (fun i h => by match i, h with | 0, _ | 1, _ | 2, _ | 3, _ | 4, _ => rfl) ⟨by rw [mp_ren]; rfl, rfl, rfl, rfl, rfl, rfl, trivial⟩) (by exact slotsR rfl)
    (ih (i + 1) _ (by omega) (by simp; omega) h2)
  ·rw [if_pos hn] at h
   exact AWP.shape [0, 1, 2, 3, 4, 5] _ (HOx es l o) (selN (by decide) (by decide) (fun i h => by match i, h with | 0, _ | 1, _ | 2, _ | 3, _ | 4, _ => rfl) ⟨by rw [mp_ren]; rfl, rfl, rfl, rfl, rfl, rfl, trivial⟩) (by exact slotsR rfl)
    (ih (i + 1) o (by omega) (by omega) h)
theorem look0 (es : Kn) (ns : List Need) (l : List Pk) (o : List Nm) (hl : l.length ≤ 100000) (hnl : ns.length ≤ 1000000) (ho : o.length ≤ 100000000) :
  ASpec Tryz.prog 75 [slN ns, .ptr 2 0, .ptr 3 0] (HNx es l o) (fun r H' => r = .tup [] ∧ H' = HOx es l (o ++ opN l ns)) := by
 refine s75 es ns l o _ ?_
 refine AWP.shapeM [0, 1, 2, 3, 4, 4] [false, false, false, false, true, false] _ (HOx es l o) ⟨by decide, rfl, rfl, by decide, fun i h => by match i, h with | 0, _ | 1, _ | 2, _ | 3, _ | 4, _ => rfl, fun i hi => ?_⟩ (by exact slotsR rfl)
  (op1 hl hnl ns.length 0 o (by omega) (by omega) rfl)
 match i, hi with
 | 0, _ => left; show some _ = some (AObj.ren _ (.mp (.typed EK es))); rw [mp_ren]
 | 1, _ => exact .inl rfl
 | 2, _ => exact .inl rfl
 | 3, _ => exact .inl rfl
 | 4, _ => exact .inr rfl
 | 5, _ => exact .inl rfl
theorem look_at (es : Kn) (ns : List Need) (l : List Pk) (o : List Nm) (hl : l.length ≤ 100000) (hnl : ns.length ≤ 1000000) (ho : o.length ≤ 100000000) (c : List AV) :
  ASpec Tryz.prog 75 [slN ns, .ptr 2 0, .ptr 3 0] (HNx es l o ++ [.cells c]) (fun r H' => r = .tup [] ∧ H' = HX es ++ [.cells [slK l], .cells [tokN (o ++ opN l ns) 6], .gone, .cells c, .tok]) := by
 refine ASpec.subH [0, 1, 2, 3, 4] (HNx es l o ++ [.cells c]) _ (look0 es ns l o hl hnl ho) _ _ (by decide) rfl rfl rfl (fun i hi => ?_) ?_
 ·match i, hi with
  | 0, _ => show some _ = some (AObj.ren _ (.mp (.typed EK es))); rw [mp_ren]
  | 1, _ | 2, _ | 3, _ | 4, _ => rfl
 ·have e : ∀ ρ, AObj.ren ρ (.mp (.typed EK es)) = .mp (.typed EK es) := fun ρ => mp_ren ρ es
  show (([AObj.ren _ (.mp (.typed EK es)), _, _, _, _, _] : List AObj) ++ _) = _
  rw [e]; rfl
end Pn
end

noncomputable section
open Go Go.Ab Go.Proofs V S T C
namespace Pn
open W (sl1 slS slN slR leNone renN renS)
open X (hasI getM OkX mp_ren)
open Xd (getKd agK ofI ofKd RelX rel_get)
open Pc (slK slKLe UpK)
open Dk (chkF getP chk_up)
open E (PA pa)
open Rc (Nm slL slLle slotsR selN)
open Rr (add_spec addM_len nilL addAll_cons addAll_app)
open Pl (Up addM addAll addAll_len addAll_up addAll_mem addM_up)
open Ft (Rise relM relOf NsOk OkG rel_needs sameSet)
def opF (es : Kn) : List Pk → List Pk → List Nm → List Nm
 | _, [], o => o
 | l, p :: r, o => opF es l r (o ++ opN l (relOf es p).1.2)
def openM (es : Kn) (root : List Need) (l : List Pk) : List Nm := opF es l l (opN l root)
def nextA (es : Kn) (root : List Need) (l : List Pk) : List Nm := addAll ((root :: needsK es l).flatMap fun ns => ns.map (·.1)) []
def nextM (es : Kn) (root : List Need) (l : List Pk) : Nm × Bool := match (nextA es root l).find? (fun x => !(getP l x).2) with
 | some x => (x, true)
 | none => ([], false)
theorem opN_mem {l : List Pk} {ns : List Need} {x : Nm} : x ∈ opN l ns ↔ x ∈ ns.map (·.1) ∧ (!(getP l x).2) = true := by
 unfold opN
 simp only [List.mem_map, List.mem_filter]
 constructor
 ·rintro ⟨n, ⟨h1, h2⟩, rfl⟩; exact ⟨⟨n, h1, rfl⟩, h2⟩
 ·rintro ⟨⟨n, h1, rfl⟩, h2⟩; exact ⟨n, ⟨h1, h2⟩, rfl⟩
theorem opF_mem {es : Kn} {l : List Pk} {x : Nm} : ∀ {r : List Pk} {o : List Nm}, x ∈ opF es l r o ↔ x ∈ o ∨ (x ∈ (needsK es r).flatMap (fun ns => ns.map (·.1)) ∧ (!(getP l x).2) = true)
 | [], o => by simp [opF, needsK]
 | p :: r, o => by
  simp only [opF]
  rw [opF_mem (r := r), List.mem_append, opN_mem]
  simp only [needsK, List.map_cons, List.flatMap_cons, List.mem_append]
  constructor
  ·rintro ((h | ⟨h1, h2⟩) | ⟨h1, h2⟩)
   ·exact .inl h
   ·exact .inr ⟨.inl h1, h2⟩
   ·exact .inr ⟨.inr h1, h2⟩
  ·rintro (h | ⟨h1 | h1, h2⟩)
   ·exact .inl (.inl h)
   ·exact .inl (.inr ⟨h1, h2⟩)
   ·exact .inr ⟨h1, h2⟩
theorem open_mem {es : Kn} {root : List Need} {l : List Pk} (x : Nm) : x ∈ openM es root l ↔ x ∈ nextA es root l ∧ (!(getP l x).2) = true := by
 unfold openM nextA
 rw [opF_mem, opN_mem, addAll_mem]
 simp only [List.flatMap_cons, List.mem_append, List.not_mem_nil, or_false]
 constructor
 ·rintro (⟨h1, h2⟩ | ⟨h1, h2⟩)
  ·exact ⟨.inl h1, h2⟩
  ·exact ⟨.inr h1, h2⟩
 ·rintro ⟨h1 | h1, h2⟩
  ·exact .inl ⟨h1, h2⟩
  ·exact .inr ⟨h1, h2⟩
theorem next_eq (es : Kn) (root : List Need) (l : List Pk) : nextM es root l = match openM es root l with
  | [] => ([], false)
  | x :: r => (minF x r, true) := by
 have hm := open_mem (es := es) (root := root) (l := l)
 have hu : Up (nextA es root l) := addAll_up _ List.Pairwise.nil
 unfold nextM
 generalize openM es root l = o at hm
 cases o with
 | nil => rw [next_none (fun x hx => by have := (hm x).2 hx; cases this)]
 | cons x r => rw [next_min hu hm]
section
variable {es : Kn} (hx : OkX es) (hg : OkG es) {root : List Need} {l : List Pk} (hl : l.length ≤ 100000) (hr : root.length ≤ 1000000)
include hx hg hl
theorem nx9 {o : List Nm} (ho : o.length ≤ 10000000) (he : openM es root l = o) : AWP Tryz.prog 33 2 c32_9 [(8, .ptr 3 0)] (HNx es l o) (q32_0 2 (X.PX es (.tup [.str (B (nextM es root l).1), .bool (nextM es root l).2]))) := by
 have hn := next_eq es root l
 rw [he] at hn
 refine v32_9 es l o 2 _ (condE (fun h => ?_) fun h => ?_)
 ·cases o with
  | nil => rw [hn]; exact X.px (es := es) [_, _, _] (Le.refl _)
  | cons x r => simp at h; omega
 ·cases o with
  | nil => exact (h rfl).elim
  | cons x r =>
   rw [hn]
   exact ASpec.call (min_spec x r _ (by omega) _) (Les.refl _) ⟨_, rfl, rfl, X.px (es := es) [_, _, _] (Le.refl _)⟩
theorem nx5 : ∀ (m i : Nat) (o : List Nm), m + i = l.length → o.length ≤ 1000000 + 6 * i → opF es l (l.drop i) o = openM es root l →
  AWP Tryz.prog 33 2 c32_5 [(0, .ptr 1 0), (8, .ptr 3 0), (9, .fn 75 [.ptr 2 0, .ptr 3 0]), (16, slK l), (17, .int .i64 l.length), (18, .int .i64 i)] (HNx es l o) (q32_2 2 (X.PX es (.tup [.str (B (nextM es root l).1), .bool (nextM es root l).2]))) := by
 intro m
 induction m with
 | zero =>
  intro i o hm ho h
  rw [List.drop_eq_nil_of_le (by omega)] at h
  exact v32_5 _ _ _ _ _ _ _ (condD (fun hc => by omega) fun _ => nx9 hx hg hl (by omega) h.symm)
 | succ m ih =>
  intro i o hm ho h
  rw [dropD l noPk i (by omega)] at h
  simp only [opF] at h
  refine v32_5 _ _ _ _ _ _ _ (condD (fun hc => needJ ⟨by omega, by omega⟩ ?_) fun hc => by omega)
  rw [Int.toNat_natCast, succ64 (by omega)]
  generalize l.getD i noPk = y at h ⊢
  have h6 := (rel_needs hg y).2
  have ho6 := opN_len l (relOf es y).1.2
  refine ASpec.call (needs_at hx hg y _ 0 1 (by omega) rfl rfl) (Les.refl _) ⟨_, rfl, rfl, ?_⟩
  refine ASpec.call (look_at es _ l o hl (by omega) (by omega) _) (Les.refl _) ⟨o ++ opN l (relOf es y).1.2, rfl, rfl, ?_⟩
  exact AWP.shape [0, 1, 2, 3, 6] _ (HNx es l (o ++ opN l (relOf es y).1.2)) (selN (by decide) (by decide) (fun i h => by match i, h with | 0, _ | 1, _ => rfl) ⟨by rw [mp_ren]; rfl, rfl, rfl, rfl, rfl, trivial⟩) (by exact slotsR rfl)
   (ih (i + 1) _ (by omega) (by rw [List.length_append]; omega) h)
include hr
theorem next0 : ASpec Tryz.prog 32 [.ptr 1 0, slN root, slK l] (HX es) (fun r H' => r = .tup [.str (B (nextM es root l).1), .bool (nextM es root l).2] ∧ H' = HX es) := by
 refine ASpec.sel (s32 es root l (X.PX es (.tup [.str (B (nextM es root l).1), .bool (nextM es root l).2])) ?_)
 refine AWP.re (ReSt.tokCell (id := 3) (j := 0) (q' := .map encL [] []) (sz' := 1) rfl rfl (.inl rfl) rfl (.inr rfl)) ?_
 have ho := opN_len l root
 refine v32_3 es root l [] 2 _ (ASpec.call (look0 es root l [] hl hr (by simp)) (Les.refl _) ⟨opN l root, rfl, rfl, ?_⟩)
 exact AWP.shape [0, 1, 2, 3, 5] _ (HNx es l (opN l root)) (selN (by decide) (by decide) (fun i h => by match i, h with | 0, _ | 1, _ => rfl) ⟨by rw [mp_ren]; rfl, rfl, rfl, rfl, rfl, trivial⟩) (by exact slotsR rfl)
  (nx5 hx hg hl l.length 0 _ (by omega) (by omega) rfl)
theorem next_at (H : List AObj) (q k : Nat) (hqk : q ≠ k) (hq : H[q]? = some (.mp (.typed EK es))) (hk : H[k]? = some (.cells [.map q])) :
  ASpec Tryz.prog 32 [.ptr k 0, slN root, slK l] H (fun r H' => r = .tup [.str (B (nextM es root l).1), .bool (nextM es root l).2] ∧ H' = H) := by
 have := X.liftX H q k hqk hq hk (next0 hx hg hl hr) (args' := [.ptr k 0, slN root, slK l]) (r' := .tup [.str (B (nextM es root l).1), .bool (nextM es root l).2]) rfl rfl
 rwa [set_same hq] at this
omit hr
variable {d : List Kd} (hd : RelX es d) (hdl : d.length ≤ 1000) (hu : UpK l)
include hu in
omit hx hg in
theorem rn15 {A : List Nm} (hA : A.length ≤ 1000000) {R : Nm × Bool} (hR : R = match A.find? (fun x => !(getP l x).2) with | some x => (x, true) | none => ([], false)) : ∀ (m i : Nat), m + i = A.length → (A.drop i).find? (fun x => !(getP l x).2) = A.find? (fun x => !(getP l x).2) →
  AWP Tryz.prog 75 0 c33_15 [(2, slK l), (8, slL A), (13, .int .i64 i)] [] (q33_10 0 (PA (.tup [.str (B R.1), .bool R.2]))) := by
 intro m
 induction m with
 | zero =>
  intro i hm h
  rw [List.drop_eq_nil_of_le (by omega)] at h
  rw [← h] at hR
  subst hR
  exact v33_15 _ _ _ _ _ (condD (fun hc => by omega) fun _ => pa (Le.refl _))
 | succ m ih =>
  intro i hm h
  rw [dropD A [] i (by omega)] at h
  refine v33_15 _ _ _ _ _ (condD (fun hc => needJ ⟨by omega, by omega⟩ ?_) fun hc => by omega)
  rw [Int.toNat_natCast, succ64 (by omega)]
  generalize A.getD i [] = y at h ⊢
  refine ASpec.call (Dk.rget_spec l y (by omega) _) (Les.refl _) ⟨Pc.getM l y, rfl, rfl, ?_⟩
  rw [← Dk.get_one hu y]
  refine condBn (fun hn => needJ ⟨by omega, by omega⟩ ?_) fun hn => ih (i + 1) (by omega) ?_
  ·rw [List.find?_cons, hn] at h
   have h : some y = A.find? (fun x => !(getP l x).2) := h
   rw [← h] at hR
   subst hR
   exact pa (Le.refl _)
  ·rw [List.find?_cons, hn] at h
   exact h
include hd hdl
theorem rn11 {ns : List Need} {o' : List Nm} {i0 : Nat} {Post : AV → List AObj → Prop} (ht : ns.length ≤ 6) (hi0 : i0 ≤ 1000000)
  (key : AWP Tryz.prog 75 0 c33_7 [(2, slK l), (3, .ptr 0 0), (8, slL o'), (10, .int .i64 (i0 + 1 : Nat))] [.cells (encXd d)] (q33_4 0 Post)) : ∀ (m j : Nat) (o : List Nm), m + j = ns.length → o.length + m ≤ 1000000 → addAll ((ns.drop j).map (·.1)) o = o' →
  AWP Tryz.prog 75 0 c33_11 [(2, slK l), (3, .ptr 0 0), (8, slL o), (10, .int .i64 i0), (11, slN ns), (12, .int .i64 j)] [.cells (encXd d)] (q33_8 0 Post) := by
 intro m
 induction m with
 | zero =>
  intro j o hm ho h
  rw [List.drop_eq_nil_of_le (by omega)] at h
  have h : o = o' := h
  subst h
  refine v33_11 _ _ _ _ _ _ _ _ (condD (fun hc => by omega) fun _ => ?_)
  rw [succ64 (by omega)]
  exact key
 | succ m ih =>
  intro j o hm ho h
  rw [dropD ns ([], []) j (by omega), List.map_cons, addAll_cons] at h
  refine v33_11 _ _ _ _ _ _ _ _ (condD (fun hc => needJ ⟨by omega, by omega⟩ ?_) fun hc => by omega)
  rw [Int.toNat_natCast, succ64 (by omega)]
  generalize ns.getD j ([], []) = y at h ⊢
  have hl := addM_len y.1 o
  exact ASpec.call (add_spec o y.1 (by omega) _) (Les.refl _) ⟨_, rfl, rfl, ih (j + 1) _ (by omega) (by omega) h⟩
include hu
theorem rn7 {A : List Nm} {R : Nm × Bool} (hR : R = match A.find? (fun x => !(getP l x).2) with | some x => (x, true) | none => ([], false)) : ∀ (m i : Nat) (o : List Nm), m + i = l.length → o.length + 6 * m ≤ 1000000 → addAll ((needsK es (l.drop i)).flatMap fun ns => ns.map (·.1)) o = A →
  AWP Tryz.prog 75 0 c33_7 [(2, slK l), (3, .ptr 0 0), (8, slL o), (10, .int .i64 i)] [.cells (encXd d)] (q33_4 0 (PA (.tup [.str (B R.1), .bool R.2]))) := by
 intro m
 induction m with
 | zero =>
  intro i o hm ho h
  rw [List.drop_eq_nil_of_le (by omega)] at h
  have h : o = A := h
  subst h
  refine v33_7 _ _ _ _ _ _ (condD (fun hc => by omega) fun _ => ?_)
  exact AWP.shape [] [(2, slK l), (8, slL o), (13, .int .i64 (0 : Nat))] [] Sel.none (by exact slotsR rfl) (rn15 hl hu (by omega) hR o.length 0 (by omega) rfl)
 | succ m ih =>
  intro i o hm ho h
  rw [dropD l noPk i (by omega)] at h
  simp only [needsK, List.map_cons, List.flatMap_cons] at h
  rw [addAll_app] at h
  refine v33_7 _ _ _ _ _ _ (condD (fun hc => needJ ⟨by omega, by omega⟩ ?_) fun hc => by omega)
  rw [Int.toNat_natCast]
  generalize l.getD i noPk = y at h ⊢
  have h6 := (rel_needs hg y).2
  refine ASpec.call (rneeds_spec hx hg hd hdl y _) (Les.refl _) ⟨_, rfl, rfl, ?_⟩
  have hll := addAll_len ((relOf es y).1.2.map (·.1)) (o := o)
  rw [List.length_map] at hll
  exact rn11 hx hg hl hd hdl h6 (by omega) (ih (i + 1) _ (by omega) (by omega) h) (relOf es y).1.2.length 0 o (by omega) (by omega) rfl
theorem rn3 (hr : root.length + 6 * l.length ≤ 1000000) : ∀ (m i : Nat) (o : List Nm), m + i = root.length → o.length ≤ i → addAll ((root.drop i).map (·.1)) o = addAll (root.map (·.1)) [] →
  AWP Tryz.prog 75 0 c33_3 [(1, slN root), (2, slK l), (3, .ptr 0 0), (8, slL o), (9, .int .i64 i)] [.cells (encXd d)] (q33_2 0 (PA (.tup [.str (B (nextM es root l).1), .bool (nextM es root l).2]))) := by
 intro m
 induction m with
 | zero =>
  intro i o hm ho h
  rw [List.drop_eq_nil_of_le (by omega)] at h
  have h : o = _ := h
  refine v33_3 _ _ _ _ _ _ _ (condD (fun hc => by omega) fun _ => ?_)
  refine rn7 hx hg hl hd hdl hu (A := nextA es root l) rfl l.length 0 o (by omega) (by omega) ?_
  unfold nextA
  rw [List.flatMap_cons, addAll_app, h]; rfl
 | succ m ih =>
  intro i o hm ho h
  rw [dropD root ([], []) i (by omega), List.map_cons, addAll_cons] at h
  refine v33_3 _ _ _ _ _ _ _ (condD (fun hc => needJ ⟨by omega, by omega⟩ ?_) fun hc => by omega)
  rw [Int.toNat_natCast, succ64 (by omega)]
  generalize root.getD i ([], []) = y at h ⊢
  have hl := addM_len y.1 o
  exact ASpec.call (add_spec o y.1 (by omega) _) (Les.refl _) ⟨_, rfl, rfl, ih (i + 1) _ (by omega) (by omega) h⟩
theorem rnext_spec (hr : root.length + 6 * l.length ≤ 1000000) (H : List AObj) : ASpec Tryz.prog 33 [agK d, slN root, slK l] H (fun r H' => r = .tup [.str (B (nextM es root l).1), .bool (nextM es root l).2] ∧ H' = H) := by
 have k : ASpec Tryz.prog 33 [agK d, slN root, slK l] [] (fun r H' => r = .tup [.str (B (nextM es root l).1), .bool (nextM es root l).2] ∧ H' = []) := by
  refine ASpec.sel (s33 d root l _ ?_)
  exact AWP.spell [(1, slN root), (2, slK l), (3, .ptr 0 0), (8, slL []), (9, .int .i64 (0 : Nat))] ⟨rfl, Le.refl _, rfl, Le.refl _, rfl, Le.refl _, rfl, nilL, rfl, Le.refl _, trivial⟩
   (rn3 hx hg hl hd hdl hu hr root.length 0 [] (by omega) (by simp) rfl)
 exact ASpec.pureH H k _ _ rfl rfl
end
end Pn
end

noncomputable section
open Go Go.Ab Go.Proofs V S T C
namespace Pn
open W (sl1 slS slN slR leNone renN renS)
open E (PA pa)
open Rc (Nm slL slLle slotsR selN)
open Sp (hasS)
open Sg (ok)
def downF (q : List Span) : List Rel → List Int → List Int
 | [], w => w
 | x :: r, w => downF q r (if hasS q x.1 = true then w ++ [x.1] else w)
def downM (m : Mani) (q : List Span) : List Int := downF q m.2.reverse []
theorem downF_len {q : List Span} : ∀ (rs : List Rel) (w : List Int), (downF q rs w).length ≤ rs.length + w.length
 | [], w => by simp [downF]
 | x :: r, w => by
  simp only [downF]
  have := downF_len (q := q) r (if hasS q x.1 = true then w ++ [x.1] else w)
  have h2 : (if hasS q x.1 = true then w ++ [x.1] else w).length ≤ w.length + 1 := by split <;> simp
  simp only [List.length_cons]; omega
abbrev tokI (w : List Int) (k : Nat) : AV := .sl 1 (.map Ab.encI 0 w) (.tok k)
abbrev slJ (w : List Int) : AV := .sl 1 (.map Ab.encI 0 w) .none
theorem renJ (ρ : Nat → Nat) (x : Int) : renL ρ (Ab.encI x) = Ab.encI x := rfl
abbrev LPd (st : LpSt) : AObj := .lp 23 [(3, .ptr 1 0), (5, .ptr 2 0), (12, .bad)] [11, 12] c64_4a c64_4 st
abbrev HBd (m : Mani) (q : List Span) (rs : List Rel) (w : List Int) : List AObj := [.cells (encM m), .cells [slS q], .cells [tokI w 6], .gone, .cells [slR rs], LPd .ready, .tok]
theorem dround {m : Mani} {q : List Span} {rs : List Rel} {w : List Int} {x : Rel} {i : Int} (hq : ok q) (hw : w.length ≤ 1000000) {Post : AV → List AObj → Prop}
  (h1 : hasS q x.1 = true → Post (.bool true) [.cells (encM m), .cells [slS q], .cells [tokI (w ++ [x.1]) 7], .gone, .cells [slR rs], LPd .ready, .gone, .tok])
  (h2 : hasS q x.1 = false → Post (.bool true) (HBd m q rs w)) : AYield Tryz.prog 5 [.int .i64 i, .agg (T.encR x)] (HBd m q rs w) Post := by
 refine AYield.sel (AYield.reEnd (AYield.of (N := 23) [3, 5, 12] rfl rfl rfl ?_))
 refine v64_4 m q rs w x (LPd .ready) (LPd .busy) 7 (fun _ _ => True) _ (needJ rfl (ASpec.call (Sg.has_spec q x.1 hq _) (Les.refl _) ⟨hasS q x.1, rfl, rfl, condB (fun h => needJ (by omega) ⟨rfl, ?_⟩) fun h => ⟨rfl, ?_⟩⟩))
 ·refine ⟨.bool true, _, ReSt.leCell (id := 2) (cs' := [tokI (w ++ [x.1]) 8]) rfl ⟨leAppE (Les.refl _), trivial⟩, [0, 1, 2, 3, 4, 5, 6, 8], _, .bool true, ?_, Le.refl _, h1 h⟩
  exact selN (by decide) (by show 7 ≤ 8; omega) (fun i h => by match i, h with | 0, _ | 1, _ | 2, _ | 3, _ | 4, _ | 5, _ | 6, _ => rfl) ⟨rfl, rfl, rfl, rfl, rfl, rfl, rfl, rfl, trivial⟩
 ·refine ⟨.bool true, _, ReSt.refl _ _, [0, 1, 2, 3, 4, 5, 6], _, .bool true, ?_, Le.refl _, h2 h⟩
  exact selN (by decide) (by show 7 ≤ 7; omega) (fun i h => by match i, h with | 0, _ | 1, _ | 2, _ | 3, _ | 4, _ | 5, _ | 6, _ => rfl) ⟨rfl, rfl, rfl, rfl, rfl, rfl, rfl, trivial⟩
theorem loop149 {m : Mani} {q : List Span} (hq : ok q) {rs : List Rel} (hl : rs.length ≤ 1000000) {R : List Int} {Post : AV → List AObj → Prop} (hp : Post (.tup []) (HBd m q rs R)) :
  ∀ (i : Nat) (w : List Int), i ≤ rs.length → w.length + i ≤ 1000000 → downF q (rs.take i).reverse w = R →
  AWP Tryz.prog 19 6 c149_1 [(0, .yld 5), (1, .ptr 4 0), (3, .int .i64 ((i : Int) - 1))] (HBd m q rs w) (q149_1 6 Post) := by
 intro i
 induction i with
 | zero =>
  intro w hi hw hR
  have hR : w = R := hR
  subst hR
  exact v149_1 _ _ _ _ _ _ _ _ (condD (fun h => by omega) fun _ => hp)
 | succ i ih =>
  intro w hi hw hR
  rw [show (((i + 1 : Nat) : Int) - 1) = (i : Int) by omega]
  refine v149_1 _ _ _ _ _ _ _ _ (condD (fun _ => needJ ⟨by omega, by omega⟩ ?_) fun h => by omega)
  rw [Int.toNat_natCast, wrap64 (by omega) (by omega)]
  have ht : rs.take (i + 1) = rs.take i ++ [rs.getD i (0, [])] := by
   rw [List.take_add_one, List.getD_eq_getElem?_getD, List.getElem?_eq_getElem (by omega)]; rfl
  rw [ht, List.reverse_append] at hR
  simp only [List.reverse_cons, List.reverse_nil, List.nil_append, List.cons_append, downF] at hR
  generalize rs.getD i (0, []) = x at hR ⊢
  refine dround hq (by omega) (fun h => .inr ⟨w ++ [x.1], rfl, rfl, ?_⟩) fun h => .inl ⟨(), rfl, rfl, ?_⟩
  ·rw [if_pos h] at hR
   exact AWP.shape [0, 1, 2, 3, 4, 5, 7] _ (HBd m q rs (w ++ [x.1])) (selN (by decide) (by decide) (fun i h => by match i, h with | 0, _ | 1, _ | 2, _ | 3, _ | 4, _ | 5, _ => rfl) ⟨rfl, rfl, rfl, rfl, rfl, rfl, rfl, trivial⟩) (by exact slotsR rfl)
    (ih _ (by omega) (by simp; omega) hR)
  ·rw [if_neg (by rw [h]; simp)] at hR
   exact ih w (by omega) (by omega) hR
theorem down_spec (m : Mani) (q : List Span) (hq : ok q) (hl : m.2.length ≤ 1000000) (H : List AObj) : ASpec Tryz.prog 64 [.agg (encM m), slS q] H (fun r H' => r = slJ (downM m q) ∧ H' = H) := by
 have k : ASpec Tryz.prog 64 [.agg (encM m), slS q] [] (fun r H' => r = slJ (downM m q) ∧ H' = []) := by
  refine ASpec.sel (s64 m q (PA (slJ (downM m q))) ?_)
  refine AWP.re (ReSt.tokCell (id := 2) (j := 0) (q' := .map Ab.encI 0 []) (sz' := 1) rfl rfl (.inl rfl) rfl (.inr rfl)) ?_
  have s2 : ∀ H, ASpec Tryz.prog 116 [slR m.2] H (fun r H' => r = .fn 149 [.ptr H.length 0] ∧ H' = H ++ [.cells [slR m.2]]) := fun H => by
   have k0 : ASpec Tryz.prog 116 [slR m.2] [] (fun r H' => r = .fn 149 [.ptr 0 0] ∧ H' = [.cells [slR m.2]]) := s116 _ _ ⟨rfl, rfl⟩
   exact ASpec.subH [] H _ k0 _ _ (by simp) rfl rfl rfl (fun i h => by simp at h) rfl
  refine v64_2 m q [] 0 _ (ASpec.call (s2 _) (Les.refl _) ⟨(), rfl, rfl, ?_⟩)
  refine s149 m q m.2 [] (LPd .ready) _ ?_
  rw [wrap64 (by omega) (by omega)]
  refine AWP.shapeM [0, 1, 2, 3, 4, 5, 3] [false, false, false, true, false, false, false] _ (HBd m q m.2 []) ⟨by decide, rfl, rfl, by decide, fun i h => by match i, h with | 0, _ | 1, _ | 2, _ | 3, _ | 4, _ | 5, _ => rfl, fun i hi => ?_⟩ (by exact slotsR rfl)
   (loop149 hq (by omega) (R := downM m q) ?_ m.2.length [] (Nat.le_refl _) (by simp; omega) (by rw [List.take_length]; rfl))
  ·match i, hi with
   | 0, _ => exact .inl rfl
   | 1, _ => exact .inl rfl
   | 2, _ => exact .inl rfl
   | 3, _ => exact .inr rfl
   | 4, _ => exact .inl rfl
   | 5, _ => exact .inl rfl
   | 6, _ => exact .inl rfl
  ·refine ⟨_, _, _, _, _, .ready, rfl, ?_⟩
   exact pa (leNone renJ)
 exact ASpec.pureH H k _ _ rfl rfl
end Pn
end

noncomputable section
open Go Go.Ab Go.Proofs V S T C
namespace Pn
open W (sl1 slS slN slR leNone renN renS)
open X (hasI getM OkX mp_ren)
open Xd (getKd agK ofI ofKd RelX rel_get hasD rel_has)
open Pc (slK slKLe UpK putM put_len)
open Dk (chkF getP chk_up)
open E (PA pa)
open Rc (Nm slL slLle slotsR selN)
open Sp (hasS)
open Sg (ok)
open Ft (Rise relM relOf NsOk OkG rel_needs sameSet ixK ixK_first get_okN)
def badP (es : Kn) (root : List Need) (l : List Pk) (p : Pk) : Bool := !hasS (askedM es root l p.1) p.2
def deadM (es : Kn) (root : List Need) (l : List Pk) : Bool := l.any (badP es root l)
abbrev HS (es : Kn) (root : List Need) (f : Int) : List AObj := HX es ++ [.cells [.ptr 1 0, slN root, .int .i64 f]]
abbrev HB (es : Kn) (root : List Need) (l : List Pk) (f : Int) : List AObj := HS es root f ++ [.cells [.ptr 2 0], .cells [slK l]]
theorem selS (es : Kn) (root : List Need) (f : Int) (q : List AObj) : Sel 3 [0, 1, 2] (HS es root f ++ q) (HS es root f) :=
 selN (by decide) (by decide) (fun i h => by match i, h with | 0, _ | 1, _ | 2, _ => rfl) ⟨by rw [mp_ren]; rfl, rfl, rfl, trivial⟩
theorem selB (es : Kn) (root : List Need) (l : List Pk) (f : Int) (q : List AObj) : Sel 5 [0, 1, 2, 3, 4] (HB es root l f ++ q) (HB es root l f) :=
 selN (by decide) (by decide) (fun i h => by match i, h with | 0, _ | 1, _ | 2, _ | 3, _ | 4, _ => rfl) ⟨by rw [mp_ren]; rfl, rfl, rfl, rfl, rfl, trivial⟩
section
variable {es : Kn} (hx : OkX es) (hg : OkG es) {root : List Need} {l : List Pk} (hl : l.length ≤ 100000) (hr : okN root) (hns : NsOk root)
include hx hg hl hr hns
theorem bad0 (p : Pk) (f : Int) : ASpec Tryz.prog 155 [.agg (encPk p), .ptr 3 0, .ptr 4 0] (HB es root l f) (fun r H' => r = .bool (badP es root l p) ∧ H' = HB es root l f) := by
 refine ASpec.sel (s155 es root l p f _ (ASpec.call (asked_at hx hg hl hr hns p.1 _ 0 1 (by omega) rfl rfl) (Les.refl _) ⟨askedM es root l p.1, rfl, rfl, ?_⟩))
 repeat refine ⟨⟨rfl, rfl⟩, ?_⟩
 refine ASpec.call (Sg.has_spec _ p.2 (asked_ok hg hns l p.1) _) (Les.refl _) ⟨_, rfl, rfl, ?_⟩
 exact ⟨[0, 1, 2, 3, 4], HB es root l f, .bool (badP es root l p), selB es root l f [_], Le.refl _, rfl, rfl⟩
theorem ixb {f : Int} {R : Int} : ∀ (m i : Nat), m + i = l.length → ixK (badP es root l) (l.drop i) i = R →
  AWP Tryz.prog 19 5 c193_2 [(0, slK l), (1, .fn 155 [.ptr 3 0, .ptr 4 0]), (7, .int .i64 l.length), (8, .int .i64 i)] (HB es root l f) (q193_2 5 (fun r H' => r = .int .i64 R ∧ H' = HB es root l f)) := by
 intro m
 induction m with
 | zero =>
  intro i hm h
  rw [List.drop_eq_nil_of_le (by omega)] at h
  have h : -1 = R := h
  subst h
  exact v193_2 _ _ _ _ _ _ _ _ (condD (fun h => by omega) fun _ => ⟨rfl, rfl⟩)
 | succ m ih =>
  intro i hm h
  rw [dropD l noPk i (by omega)] at h
  simp only [ixK] at h
  refine v193_2 _ _ _ _ _ _ _ _ (condD (fun _ => needJ ⟨by omega, by omega⟩ ?_) fun h => by omega)
  rw [Int.toNat_natCast, succ64 (by omega)]
  generalize l.getD i noPk = y at h ⊢
  refine ASpec.call (bad0 hx hg hl hr hns y f) (Les.refl _) ⟨_, rfl, rfl, condB (fun e => ⟨?_, rfl⟩) fun e => ih (i + 1) (by omega) ?_⟩
  ·rw [if_pos e] at h; rw [h]
  ·rw [if_neg (by rw [e]; simp)] at h; exact h
theorem dead0 (f : Int) : ASpec Tryz.prog 122 [.ptr 2 0, slK l] (HS es root f) (fun r H' => r = .bool (deadM es root l) ∧ H' = HS es root f) := by
 have h1 : ASpec Tryz.prog 193 [slK l, .fn 155 [.ptr 3 0, .ptr 4 0]] (HB es root l f) (fun r H' => r = .int .i64 (ixK (badP es root l) l 0) ∧ H' = HB es root l f) :=
  s193 es root l f _ (ixb hx hg hl hr hns l.length 0 (by omega) rfl)
 have h2 : ASpec Tryz.prog 154 [slK l, .fn 155 [.ptr 3 0, .ptr 4 0]] (HB es root l f) (fun r H' => r = .bool (deadM es root l) ∧ H' = HB es root l f) := by
  refine s154 es root l f _ (ASpec.call h1 (Les.refl _) ⟨_, rfl, rfl, ?_, rfl⟩)
  congr 1
  unfold deadM
  rcases ixK_first (badP es root l) l 0 with ⟨h1, h2⟩ | ⟨j, h1, h2, h3⟩
  ·rw [decide_eq_false (by omega), eq_comm, List.any_eq_false]
   intro x hx; exact List.find?_eq_none.1 h2 x hx
  ·rw [decide_eq_true (by omega), eq_comm, List.any_eq_true]
   exact ⟨_, List.mem_of_find?_eq_some h3, List.find?_some h3⟩
 refine ASpec.sel (s122 es root l f _ (ASpec.call h2 (Les.refl _) ⟨_, rfl, rfl, ?_⟩))
 exact ⟨[0, 1, 2], HS es root f, .bool (deadM es root l), selS es root f [_, _], Le.refl _, rfl, rfl⟩
variable {d : List Kd} (hd : RelX es d) (hdl : d.length ≤ 1000)
include hd hdl
end
abbrev Out := (List Pk × Int × Nm) × Int
def tryF (rec : List Pk → Int → Out) (name : Nm) (l : List Pk) : List Int → Int → Out
 | [], f => (([], 2, []), f)
 | v :: r, f => if f ≤ 0 then (([], 5, []), f) else if (rec (putM l (name, v)) (f - 1)).1.2.1 = 2 then tryF rec name l r (rec (putM l (name, v)) (f - 1)).2 else rec (putM l (name, v)) (f - 1)
def stepF (es : Kn) (root : List Need) (rec : List Pk → Int → Out) (l : List Pk) (f : Int) : Out :=
 if deadM es root l = true then (([], 2, []), f) else if (nextM es root l).2 = false then ((l, 1, []), f) else if hasI es (nextM es root l).1 = false then (([], 3, (nextM es root l).1), f) else
  tryF rec (nextM es root l).1 l (downM (getM es (nextM es root l).1).1 (askedM es root l (nextM es root l).1)) f
def onF (es : Kn) (root : List Need) : Nat → List Pk → Int → Out
 | 0 => stepF es root fun _ f => (([], 2, []), f)
 | d + 1 => stepF es root (onF es root d)
theorem tryF_le {rec : List Pk → Int → Out} {name : Nm} {l : List Pk} (h : ∀ l f, (rec l f).2 ≤ f) : ∀ (w : List Int) (f : Int), (tryF rec name l w f).2 ≤ f
 | [], f => by simp [tryF]
 | v :: r, f => by
  simp only [tryF]
  split
  ·exact Int.le_refl _
  ·have h1 := h (putM l (name, v)) (f - 1)
   split
   ·have h2 := tryF_le h (name := name) (l := l) r (rec (putM l (name, v)) (f - 1)).2
    omega
   ·omega
theorem stepF_le {es : Kn} {root : List Need} {rec : List Pk → Int → Out} (h : ∀ l f, (rec l f).2 ≤ f) (l : List Pk) (f : Int) : (stepF es root rec l f).2 ≤ f := by
 unfold stepF
 split
 ·exact Int.le_refl _
 ·split
  ·exact Int.le_refl _
  ·split
   ·exact Int.le_refl _
   ·exact tryF_le h _ _
theorem onF_le (es : Kn) (root : List Need) : ∀ (d : Nat) (l : List Pk) (f : Int), (onF es root d l f).2 ≤ f
 | 0, l, f => stepF_le (fun _ _ => Int.le_refl _) l f
 | d + 1, l, f => stepF_le (onF_le es root d) l f
theorem down_len {m : Mani} {q : List Span} : (downM m q).length ≤ m.2.length := by
 unfold downM
 have := downF_len (q := q) m.2.reverse []
 simpa using this
abbrev endV (x : List Pk × Int × Nm) : AV := .iface 140 (.agg [slK x.1, .int .i64 x.2.1, .str (B x.2.2)])
abbrev PR (es : Kn) (root : List Need) (x : Out) : AV → List AObj → Prop := fun r H' => ∃ l H2 r2, Sel 3 l H' H2 ∧ Le r (AV.ren (selR l H'.length) r2) ∧ (r2 = .tup [] ∧ x.1.2.1 = 2 ∧ H2 = HS es root x.2)
abbrev PE (es : Kn) (root : List Need) (x : Out) : AV → List AObj → Prop := fun r H' => ∃ l H2 r2, Sel 3 l H' H2 ∧ Le r (AV.ren (selR l H'.length) r2) ∧ (r2 = endV x.1 ∧ x.1.2.1 ≠ 2 ∧ H2 = HS es root x.2)
end Pn
end

noncomputable section
open Go Go.Ab Go.Proofs V S T C
namespace Pn
open W (sl1 slS slN slR leNone renN renS)
open X (hasI getM OkX mp_ren)
open Xd (getKd agK ofI ofKd RelX rel_get hasD rel_has)
open Pc (slK slKLe UpK putM put_len)
open Dk (chkF getP chk_up)
open E (PA pa)
open Rc (Nm slL slLle slotsR selN)
open Sp (hasS)
open Sg (ok)
open Ft (Rise relM relOf NsOk OkG rel_needs sameSet get_okN)
theorem leIf {t : TypeId} {a b : AV} (h : Le a b) : Le (.iface t a) (.iface t b) := fun M w loc v hv => by
 cases hv with
 | iface _ _ u hu => exact .iface t b u (h M w loc u hu)
theorem pr {es : Kn} {root : List Need} {x : Out} (h : x.1.2.1 = 2) (q : List AObj) : PR es root x (.tup []) (HS es root x.2 ++ q) := ⟨_, _, _, selS es root x.2 q, Le.refl _, rfl, h, rfl⟩
theorem pe {es : Kn} {root : List Need} {x : Out} {r : AV} (h : x.1.2.1 ≠ 2) (hr : ∀ ρ, Le r (AV.ren ρ (endV x.1))) (q : List AObj) : PE es root x r (HS es root x.2 ++ q) := ⟨_, _, _, selS es root x.2 q, hr _, rfl, h, rfl⟩
theorem nilE {k : Int} {n : Nm} (ρ : Nat → Nat) : Le (.iface 140 (.agg [.sl 0 (.raw []) .nil, .int .i64 k, .str (B n)])) (AV.ren ρ (endV ([], k, n))) :=
 leIf (Le.agg ⟨Le.sl (s' := Seq.ren ρ (.map encPk noPk [])) rfl (.inr ⟨rfl, fun _ h => by cases h⟩) (.inr rfl), Le.refl _, Le.refl _, trivial⟩)
abbrev OnS (es : Kn) (root : List Need) (l : List Pk) (f : Int) (x : Out) : Prop := ASpecX Tryz.prog 72 [.ptr 2 0, slK l] (HS es root f) (fun r H' => r = .tup [] ∧ x.1.2.1 = 2 ∧ H' = HS es root x.2) (fun r H' => r = endV x.1 ∧ x.1.2.1 ≠ 2 ∧ H' = HS es root x.2)
section
variable {es : Kn} (hx : OkX es) (hg : OkG es) {root : List Need} (hr : okN root) (hns : NsOk root)
theorem on8 {rec : List Pk → Int → Out} {name : Nm} {l : List Pk} (hl : l.length ≤ 100000) (hle : ∀ l f, (rec l f).2 ≤ f) {D : Nat} (hD : D ≤ 1000000) {w : List Int} (hw : w.length ≤ 1000000)
  (hrec : ∀ v f, 0 < f → f.toNat ≤ D → OnS es root (putM l (name, v)) (f - 1) (rec (putM l (name, v)) (f - 1))) {x : Out} : ∀ (m i : Nat) (f : Int), m + i = w.length → f.toNat ≤ D → tryF rec name l (w.drop i) f = x →
  AWP Tryz.prog 92 3 c72_8 [(0, .ptr 2 0), (1, slK l), (4, .str (B name)), (64, slJ w), (65, .int .i64 w.length), (66, .int .i64 i)] (HS es root f) (q72_1 3 (PR es root x) (PE es root x)) := by
 intro m
 induction m with
 | zero =>
  intro i f hm hf h
  rw [List.drop_eq_nil_of_le (by omega)] at h
  have h : (([], 2, []), f) = x := h
  subst h
  exact v72_8 _ _ _ _ _ _ _ _ _ _ _ (condD (fun hc => by omega) fun _ => pr rfl [])
 | succ m ih =>
  intro i f hm hf h
  rw [dropD w 0 i (by omega)] at h
  simp only [tryF] at h
  refine v72_8 _ _ _ _ _ _ _ _ _ _ _ (condD (fun hc => needJ ⟨by omega, by omega⟩ (condD (fun h0 => ?_) fun h0 => ?_)) fun hc => by omega)
  ·rw [if_pos h0] at h
   subst h
   exact pe (x := (([], 5, []), f)) (by show (5 : Int) ≠ 2; decide) nilE []
  rw [if_neg h0] at h
  rw [Int.toNat_natCast, succ64 (by omega), wrap64 (by omega) (by omega)]
  generalize w.getD i 0 = v at h ⊢
  refine ASpec.call (Pc.put_spec l (name, v) (by omega) _) (Les.refl _) ⟨putM l (name, v), rfl, rfl, ?_⟩
  have h1 := hle (putM l (name, v)) (f - 1)
  refine (hrec v f (by omega) hf).mono (fun r H' ⟨e1, e2, e3⟩ => ?_) fun r H' ⟨e1, e2, e3⟩ => ?_
  ·subst e1 e3
   rw [if_pos e2] at h
   exact ⟨_, rfl, rfl, ih (i + 1) _ (by omega) (by omega) h⟩
  ·subst e1 e3
   rw [if_neg e2] at h
   subst h
   exact pe e2 (fun ρ => Le.refl _) []
include hx hg hr hns
theorem onS {rec : List Pk → Int → Out} {l : List Pk} (hl : l.length ≤ 100000) (hle : ∀ l f, (rec l f).2 ≤ f) {f : Int} (hf : f.toNat ≤ 1000000)
  (hrec : ∀ name v f', 0 < f' → f' ≤ f → OnS es root (putM l (name, v)) (f' - 1) (rec (putM l (name, v)) (f' - 1))) : OnS es root l f (stepF es root rec l f) := by
 refine ASpecX.sel (s72 es root l f (PR es root (stepF es root rec l f)) (PE es root (stepF es root rec l f)) (ASpec.call (dead0 hx hg hl hr hns f) (Les.refl _) ⟨deadM es root l, rfl, rfl, condB (fun h1 => ?_) fun h1 => ?_⟩))
 ·rw [show stepF es root rec l f = (([], 2, []), f) from if_pos h1]
  exact pr rfl []
 have h1' : ¬ deadM es root l = true := by rw [h1]; simp
 have hrl := hr.1
 unfold lim at hrl
 refine ASpec.call (next_at hx hg hl hrl _ 0 1 (by omega) rfl rfl) (Les.refl _) ⟨(B (nextM es root l).1, (nextM es root l).2), rfl, rfl, condBn (fun h2 => ?_) fun h2 => ?_⟩
 ·rw [show stepF es root rec l f = ((l, 1, []), f) from by unfold stepF; rw [if_neg h1', if_pos h2]]
  exact pe (x := ((l, 1, []), f)) (by show (1 : Int) ≠ 2; decide) (fun ρ => Le.refl _) []
 have h2' : ¬ (nextM es root l).2 = false := by rw [show (nextM es root l).2 = true from h2]; simp
 refine ASpec.call (X.has_spec es (nextM es root l).1 _ 0 1 (by omega) rfl rfl) (Les.refl _) ⟨_, rfl, rfl, condBn (fun h3 => ?_) fun h3 => ?_⟩
 ·rw [show stepF es root rec l f = (([], 3, (nextM es root l).1), f) from by unfold stepF; rw [if_neg h1', if_neg h2', if_pos h3]]
  exact pe (x := (([], 3, (nextM es root l).1), f)) (by show (3 : Int) ≠ 2; decide) nilE []
 have h3' : ¬ hasI es (nextM es root l).1 = false := by rw [h3]; simp
 refine ASpec.call (X.get_spec es (nextM es root l).1 hx _ 0 1 (by omega) rfl rfl) (Les.refl _) ⟨getM es (nextM es root l).1, rfl, rfl, ?_⟩
 refine ASpec.call (asked_at hx hg hl hr hns (nextM es root l).1 _ 0 1 (by omega) rfl rfl) (Les.refl _) ⟨askedM es root l (nextM es root l).1, rfl, rfl, ?_⟩
 repeat refine ⟨⟨rfl, rfl⟩, ?_⟩
 have hm := (get_okN hx (nextM es root l).1).1
 unfold lim at hm
 have hdl := down_len (m := (getM es (nextM es root l).1).1) (q := askedM es root l (nextM es root l).1)
 refine ASpec.call (down_spec (getM es (nextM es root l).1).1 (askedM es root l (nextM es root l).1) (asked_ok hg hns l _) hm _) (Les.refl _) ⟨_, rfl, rfl, ?_⟩
 refine AWP.shape [0, 1, 2] _ (HS es root f) (selN (by decide) (by decide) (fun i h => by match i, h with | 0, _ | 1, _ | 2, _ => rfl) ⟨by rw [mp_ren]; rfl, rfl, rfl, trivial⟩) (by exact slotsR rfl)
  (on8 (rec := rec) hl hle (D := f.toNat) hf (by omega) (fun v f' h0 hf' => hrec _ v f' h0 (by omega)) (downM (getM es (nextM es root l).1).1 (askedM es root l (nextM es root l).1)).length 0 f (by omega) (Nat.le_refl _) ?_)
 unfold stepF
 rw [if_neg h1', if_neg h2', if_neg h3']; rfl
theorem on_spec : ∀ (d : Nat) (l : List Pk) (f : Int), l.length + d ≤ 90000 → f.toNat ≤ d → OnS es root l f (onF es root d l f)
  | 0, l, f, hl, hf => onS hx hg hr hns (by omega) (fun _ _ => Int.le_refl _) (by omega) (fun name v f' h0 hf' => by omega)
  | d + 1, l, f, hl, hf => onS hx hg hr hns (by omega) (onF_le es root d) (by omega) (fun name v f' h0 hf' => by
    have h1 := put_len l (name, v)
    exact on_spec d (putM l (name, v)) (f' - 1) (by omega) (by omega))
end
abbrev outV (x : List Pk × Int × Nm) : AV := .tup [slK x.1, .int .i64 x.2.1, .str (B x.2.2)]
theorem nilO {k : Int} {n : Nm} (ρ : Nat → Nat) : Le (.tup [.sl 0 (.raw []) .nil, .int .i64 k, .str (B n)]) (AV.ren ρ (outV ([], k, n))) :=
 Le.tup ⟨Le.sl (s' := Seq.ren ρ (.map encPk noPk [])) rfl (.inr ⟨rfl, fun _ h => by cases h⟩) (.inr rfl), Le.refl _, Le.refl _, trivial⟩
section
variable {es : Kn} (hx : OkX es) (hg : OkG es) {root : List Need} (hr : okN root) (hns : NsOk root) {d : List Kd} (hd : RelX es d) (hdl : d.length ≤ 1000)
include hx hg hr hns hd hdl
end
end Pn
end

noncomputable section
open Go Go.Ab Go.Proofs V S T C
namespace Pn
open W (sl1 slS slN slR leNone renN renS)
open X (hasI getM OkX mp_ren)
open Pc (slK slKLe UpK)
open E (PA pa)
open Rc (Nm slL slLle slotsR selN)
def c71 : Code := bodyOf Tryz.f71
def g71 : Cfg := { N := 16, live := fun _ => [], cut := fun _ => false, mu := fun _ => false, ret := rets }
theorem b71 : Tryz.f71.body = some c71 := by kernel_rfl
theorem e71 : c71 = .seq (.region 0 (opsOf (codeFst c71)) false) (.seq (.seq (.region 1 (opsOf (codeFst (codeFst (codeSnd c71)))) false) (.cond (.tmp 7) .ret .skip)) (.seq (codeFst (codeSnd (codeSnd c71))) (codeSnd (codeSnd (codeSnd c71))))) := by kernel_rfl
theorem op71_0 : (opsOf (codeFst c71))[0]? = some ⟨some 5, .call { callee := .builtin .recover, args := #[], argTypes := #[] }, 20, "plain.go:120", #[], none⟩ := by kernel_rfl
theorem op71_1 : (opsOf (codeFst c71))[1]? = some ⟨some 3, .assign (.tmp 5), 20, "plain.go:120", #[{ on := 0, ground := .data }, { on := 0, ground := .chain }, { on := 0, ground := .phase }], none⟩ := by kernel_rfl
theorem op71_2 : (opsOf (codeFst (codeFst (codeSnd c71))))[0]? = some ⟨some 6, .move (.tmp 3), 20, "plain.go:121", #[], none⟩ := by kernel_rfl
theorem op71_3 : (opsOf (codeFst (codeFst (codeSnd c71))))[1]? = some ⟨some 7, .binOp .eql 20 (.tmp 6) (.const .nilIface) 20, 4, "plain.go:121", #[{ on := 0, ground := .data }], none⟩ := by kernel_rfl
theorem u20 : Tryz.prog.underlying 20 = some (.interface #[]) := by kernel_rfl
theorem r71_0 : List.range (opsOf (codeFst c71)).size = [0, 1] := by kernel_rfl
theorem r71_1 : List.range (opsOf (codeFst (codeFst (codeSnd c71)))).size = [0, 1] := by kernel_rfl
theorem eqIn_inn (d : Nat) {w : World} : (Op.equalIn (d + 1) 20 .nilIface .nilIface).run Tryz.prog w = .ok true w := by
 simp only [Op.equalIn, Sem.run_bind, run_underlying' u20, Result.andThen_ok, Sem.run_pure]
theorem eqIn_ivn (d : Nat) {w : World} {t : TypeId} {u : Value} : (Op.equalIn (d + 1) 20 (.iface t u) .nilIface).run Tryz.prog w = .ok false w := by
 simp only [Op.equalIn, Sem.run_bind, run_underlying' u20, Result.andThen_ok, Sem.run_pure]
theorem eq_nn {w : World} : (Op.equal 20 .nilIface .nilIface).run Tryz.prog w = .ok true w := eqIn_inn 9999
theorem eq_vn {w : World} {t : TypeId} {u : Value} : (Op.equal 20 (.iface t u) .nilIface).run Tryz.prog w = .ok false w := eqIn_ivn 9999
theorem test_nil {a : Act} {w : World} {b : Bool} {v : Value} (hv : a.eval (.tmp 6) = v) (hb : (v = .nilIface ∧ b = true) ∨ (∃ t u, v = .iface t u ∧ b = false)) :
  (execOp a.eval ⟨some 7, .binOp .eql 20 (.tmp 6) (.const .nilIface) 20, 4, "plain.go:121", #[{ on := 0, ground := .data }], none⟩).run Tryz.prog w = .ok (.value (.bool b)) w := by
 have hc : a.eval (.const .nilIface) = .nilIface := rfl
 rcases hb with ⟨rfl, rfl⟩ | ⟨t, u, rfl, rfl⟩
 ·simp only [execOp, hv, hc, eqGuard, binOp, Sem.run_bind, Sem.run_pure, Result.andThen_ok, Sem.run_map, eq_nn]
  simp [eq_nn]
 ·simp only [execOp, hv, hc, eqGuard, binOp, Sem.run_bind, Sem.run_pure, Result.andThen_ok, Sem.run_map, eq_vn]
  simp [eq_vn]
theorem srel_args {M : Mem} {w : World} {loc : Locs} {args : List AV} {vs : Array Value} (k : Nat) (h : VRels M w loc args vs) : SRel M w loc (slotsOf 0 args) (vs ++ Array.replicate k undef) := by
 obtain ⟨hvs, hv⟩ := h
 intro d
 rw [get_slotsOf]
 simp only [Nat.zero_le, if_true, Nat.sub_zero]
 by_cases hd : d < args.length
 ·rw [getD_lt _ _ _ hd]
  have := hv d hd
  have e : (vs ++ Array.replicate k undef).getD d undef = vs[d]'(by omega) := by
   simp only [Array.getD_eq_getD_getElem?]
   rw [Array.getElem?_append_left (by omega), Array.getElem?_eq_getElem (by omega)]; rfl
  simp only [e]; exact this
 ·have : args.getD d .bad = .bad := by simp [List.getD, List.getElem?_eq_none (Nat.le_of_not_lt hd)]
  rw [this]; exact .bad _
theorem put_size (a : Act) (d : Option Tmp) (v : Value) : (a.put d v).tmps.size = a.tmps.size := by
 cases d <;> simp [Act.put]
theorem put_defers (a : Act) (d : Option Tmp) (v : Value) : (a.put d v).defers = a.defers := by
 cases d <;> rfl
theorem put_eval (a : Act) (d : Nat) (v : Value) (h : d < a.tmps.size) : (a.put (some d) v).eval (.tmp d) = v := by
 simp [Act.put, Act.eval, Array.getD, h]
theorem SRel.act {M : Mem} {w : World} {loc : Locs} {s : Slots} {a : Act} (h : SRel M w loc s a.tmps) {d : Nat} {av : AV} {v : Value} (hd : d < a.tmps.size) (hv : VRel M w loc av v) : SRel M w loc ((d, av) :: s) (a.put (some d) v).tmps := SRel.put h hd hv
theorem f71_has : Tryz.prog.funcs[71]? = some Tryz.f71 := by kernel_rfl
abbrev H1 (es : Kn) (root : List Need) (f : Int) (x : List Pk × Int × Nm) : List AObj := HX es ++ [.cells [slK x.1], .cells [.int .i64 x.2.1], .cells [.str (B x.2.2)], .cells [.ptr 1 0, slN root, .int .i64 f]]
abbrev H1z (es : Kn) (root : List Need) (f : Int) : List AObj := HX es ++ [.cells [.sl 0 (.raw []) .nil], .cells [.int .i64 0], .cells [.str ⟨#[]⟩], .cells [.ptr 1 0, slN root, .int .i64 f]]
theorem reg2 (es : Kn) (root : List Need) (f : Int) (x : List Pk × Int × Nm) (s : Slots) (K : Slots → List AObj → Prop) : K ([(4, .ptr 6 0), (9, .agg [slK x.1, .int .i64 x.2.1, .str (B x.2.2)]), (8, endV x), (7, .bool false), (6, endV x), (3, endV x), (5, endV x), (0, .ptr 2 0), (1, .ptr 3 0), (2, .ptr 4 0)]) (H1z es root f ++ [.cells [slK x.1, .int .i64 x.2.1, .str (B x.2.2)]]) =
  areg Tryz.prog g71 (codeFst (codeSnd (codeSnd c71))) [(7, .bool false), (6, endV x), (3, endV x), (5, endV x), (0, .ptr 2 0), (1, .ptr 3 0), (2, .ptr 4 0)] (H1z es root f) K := by kernel_rfl
abbrev tE (x : List Pk × Int × Nm) : List AObj := [.cells [slK x.1, .int .i64 x.2.1, .str (B x.2.2)]]
abbrev Ha (es : Kn) (root : List Need) (f : Int) (x : List Pk × Int × Nm) : List AObj := HX es ++ [.cells [slK x.1], .cells [.int .i64 0], .cells [.str ⟨#[]⟩], .cells [.ptr 1 0, slN root, .int .i64 f]] ++ tE x
abbrev Hb (es : Kn) (root : List Need) (f : Int) (x : List Pk × Int × Nm) : List AObj := HX es ++ [.cells [slK x.1], .cells [.int .i64 x.2.1], .cells [.str ⟨#[]⟩], .cells [.ptr 1 0, slN root, .int .i64 f]] ++ tE x
theorem reg3 (es : Kn) (root : List Need) (f : Int) (x : List Pk × Int × Nm) (s : Slots) (K : Slots → List AObj → Prop) (h : ∀ s, K s (H1 es root f x ++ tE x)) :
  areg Tryz.prog g71 (codeSnd (codeSnd (codeSnd c71))) [(4, .ptr 6 0), (9, .agg [slK x.1, .int .i64 x.2.1, .str (B x.2.2)]), (8, endV x), (7, .bool false), (6, endV x), (3, endV x), (5, endV x), (0, .ptr 2 0), (1, .ptr 3 0), (2, .ptr 4 0)] (H1z es root f ++ tE x) K :=
 kc (A := ((AV.str (B x.2.2) = AV.str (B x.2.2) ∧ Ha es root f x = Ha es root f x) ∧ (AV.int .i64 x.2.1 = AV.int .i64 x.2.1 ∧ Ha es root f x = Ha es root f x) ∧ (AV.str (B x.2.2) = AV.str (B x.2.2) ∧ Hb es root f x = Hb es root f x) ∧
  K ([(15, .str (B x.2.2)), (14, .ptr 6 2), (13, .int .i64 x.2.1), (12, .ptr 6 1), (11, slK x.1), (10, .ptr 6 0), (4, .ptr 6 0), (9, .agg [slK x.1, .int .i64 x.2.1, .str (B x.2.2)]), (8, endV x), (7, .bool false), (6, endV x), (3, endV x), (5, endV x), (0, .ptr 2 0), (1, .ptr 3 0), (2, .ptr 4 0)]) (H1 es root f x ++ tE x))) (by kernel_rfl) ⟨⟨rfl, rfl⟩, ⟨rfl, rfl⟩, ⟨rfl, rfl⟩, h _⟩
theorem res71 (tmps : Array Value) (w : World) : ∃ v, (results Tryz.f71 tmps).run Tryz.prog w = .ok v w := ⟨.tuple #[], by
 have h : Tryz.f71.results = #[] := by kernel_rfl
 simp only [results, h]
 simp⟩
variable {M : Mem} {loc : Locs} {w : World}
theorem d71n (vs : Array Value) (hv : vs.size = 3) : CallsDIn (FW none) 0 Tryz.prog 71 vs .returning w (fun e u' w' => (∃ v, e = .returned v) ∧ u' = .returning ∧ w' = w) := by
 refine callsDIn_of_wpSIn f71_has b71 trivial fun c₀ cs hu => ?_
 have hN : Tryz.f71.ntmps = 16 := by kernel_rfl
 generalize hT : vs ++ Array.replicate (Tryz.f71.ntmps - vs.size) undef = T
 have hTs : T.size = 16 := by rw [← hT]; simp [hN, hv]
 rw [e71]
 refine wpSIn_seq (wpSIn_region ?_)
 rw [r71_0]
 refine wpOpsSIn_recover op71_0 rfl rfl ?_
 rw [show recV c₀.mode = .nilIface from by rw [hu]; rfl, show recU c₀.mode = .returning from by rw [hu]; rfl]
 refine wpOpsSIn_value op71_1 rfl (v := .nilIface) ?_ ?_
 ·simp only [execOp, Sem.run_pure]
  rw [put_eval _ _ _ (by show 5 < T.size; omega)]
 show Exit.thenS _ _ .normal _ _ _
 refine wpSIn_of_wpIn rfl ?_
 refine wpIn_seq (wpIn_seq (wpIn_region ?_))
 rw [r71_1]
 refine wpOpsIn_value op71_2 rfl (v := .nilIface) ?_ (wpOpsIn_value op71_3 rfl (v := .bool true) (test_nil (v := .nilIface) ?_ (.inl ⟨rfl, rfl⟩)) ?_)
 ·simp only [execOp, Sem.run_pure]
  rw [put_eval _ _ _ (by rw [put_size]; show 3 < T.size; omega)]
 ·exact put_eval _ _ _ (by rw [put_size, put_size]; show 6 < T.size; omega)
 show Exit.then _ _ .normal _ _
 refine wpIn_cond_true (put_eval _ _ _ (by rw [put_size, put_size, put_size]; show 7 < T.size; omega)) (wpIn_ret ?_)
 obtain ⟨v, hr⟩ := res71 (((((({ tmps := T, defers := [] } : Act).put (some 5) .nilIface).put (some 3) .nilIface).put (some 6) .nilIface).put (some 7) (.bool true)).tmps) w
 exact ⟨rfl, _, rfl, v, hr, ⟨v, rfl⟩, rfl, rfl⟩
theorem d71p {es : Kn} {root : List Need} {f : Int} {x : List Pk × Int × Nm} {vs : Array Value} {v : Value} (ht : Tabs Tryz.prog M w) (hr : Ab.Rel M loc (H1z es root f) w) (hvs : VRels M w loc [.ptr 2 0, .ptr 3 0, .ptr 4 0] vs) (hv : VRel M w loc (endV x) v) :
  CallsDIn (FW none) 0 Tryz.prog 71 vs (.panicking [{ v, recovered := false }]) w (fun e u' w' => (∃ r, e = .returned r) ∧ settle u' = .returning ∧ ∃ M' loc', Ab.Rel M' loc' (H1 es root f x ++ tE x) w' ∧ Step M loc (H1z es root f) w M' loc' (H1 es root f x ++ tE x) w') := by
 refine callsDIn_of_wpSIn f71_has b71 trivial fun c₀ cs hu => ?_
 have hN : Tryz.f71.ntmps = 16 := by kernel_rfl
 have hs0 : SRel M w loc [(0, .ptr 2 0), (1, .ptr 3 0), (2, .ptr 4 0)] (vs ++ Array.replicate (Tryz.f71.ntmps - vs.size) undef) := srel_args _ hvs
 have hv3 : vs.size = 3 := hvs.1
 generalize hT : vs ++ Array.replicate (Tryz.f71.ntmps - vs.size) undef = T at hs0
 have hTs : T.size = 16 := by rw [← hT]; simp [hN, hv3]
 rw [e71]
 refine wpSIn_seq (wpSIn_region ?_)
 rw [r71_0]
 refine wpOpsSIn_recover op71_0 rfl rfl ?_
 rw [show recV c₀.mode = v from by rw [hu]; rfl, show recU c₀.mode = .panicking [{ v, recovered := true }] from by rw [hu]; rfl]
 refine wpOpsSIn_value op71_1 rfl (v := v) ?_ ?_
 ·simp only [execOp, Sem.run_pure]
  rw [put_eval _ _ _ (by show 5 < T.size; omega)]
 show Exit.thenS _ _ .normal _ _ _
 refine wpSIn_of_wpIn rfl ?_
 refine wpIn_seq (wpIn_seq (wpIn_region ?_))
 rw [r71_1]
 have hif : ∃ t u, v = .iface t u := by cases hv with | iface _ _ u hu => exact ⟨_, _, rfl⟩
 refine wpOpsIn_value op71_2 rfl (v := v) ?_ (wpOpsIn_value op71_3 rfl (v := .bool false) (test_nil (v := v) ?_ (.inr (by obtain ⟨t, u, e⟩ := hif; exact ⟨t, u, e, rfl⟩))) ?_)
 ·simp only [execOp, Sem.run_pure]
  rw [put_eval _ _ _ (by rw [put_size]; show 3 < T.size; omega)]
 ·exact put_eval _ _ _ (by rw [put_size, put_size]; show 6 < T.size; omega)
 show Exit.then _ _ .normal _ _
 refine wpIn_cond_false (put_eval _ _ _ (by rw [put_size, put_size, put_size]; show 7 < T.size; omega)) (wpIn_skip ?_)
 show Code.wpIn _ _ _ _ _ _ _
 refine wpIn_seq ?_
 have hs : SRel M w loc [(7, .bool false), (6, endV x), (3, endV x), (5, endV x), (0, .ptr 2 0), (1, .ptr 3 0), (2, .ptr 4 0)] (((((({ tmps := T, defers := [] } : Act).put (some 5) v).put (some 3) v).put (some 6) v).put (some 7) (.bool false)).tmps) := by
  refine SRel.act (SRel.act (SRel.act (SRel.act hs0 ?_ hv) ?_ hv) ?_ hv) ?_ (.bool _)
  ·show 5 < T.size; omega
  ·rw [put_size]; show 3 < T.size; omega
  ·rw [put_size, put_size]; show 6 < T.size; omega
  ·rw [put_size, put_size, put_size]; show 7 < T.size; omega
 refine areg_sound (cfg := g71) (kc (reg2 es root f x [] fun s H => s = [(4, .ptr 6 0), (9, .agg [slK x.1, .int .i64 x.2.1, .str (B x.2.2)]), (8, endV x), (7, .bool false), (6, endV x), (3, endV x), (5, endV x), (0, .ptr 2 0), (1, .ptr 3 0), (2, .ptr 4 0)] ∧ H = H1z es root f ++ tE x) ⟨rfl, rfl⟩) ht hr hs (by rw [put_size, put_size, put_size, put_size]; exact hTs) fun a1 w1 s1 K1 M1 loc1 ⟨e1, e2⟩ k1 => ?_
 subst e1 e2
 show Code.wpIn _ _ _ _ _ _ _
 refine areg_sound (cfg := g71) (reg3 es root f x [] (fun s H => H = H1 es root f x ++ tE x) fun s => rfl) (ht.step hr k1.step) k1.rel k1.srel k1.size fun a2 w2 s2 K2 M2 loc2 e2 k2 => ?_
 subst e2
 obtain ⟨r, hr2⟩ := res71 a2.tmps w2
 exact ⟨by rw [k2.defers, k1.defers]; rfl, _, rfl, r, hr2, ⟨r, rfl⟩, rfl, M2, loc2, k2.rel, k1.step.trans k2.step⟩
end Pn
end

noncomputable section
open Go Go.Ab Go.Proofs V S T C
namespace Pn
open W (sl1 slS slN slR leNone renN renS)
open X (hasI getM OkX mp_ren)
open Xd (getKd agK ofI ofKd RelX rel_get hasD rel_has)
open Pc (slK slKLe UpK putM)
open E (PA pa)
open Rc (Nm slL slLle slotsR selN)
open Ft (Rise relM relOf NsOk OkG rel_needs sameSet get_okN)
def brkF (es : Kn) (l : List Need) : Int × Nm := match l.find? fun n => !(getM es n.1).2 with
 | some n => (4, n.1)
 | none => (0, [])
def lckF (es : Kn) (root l : List Need) : Int × Nm := match l.find? fun n => !hasI es n.1 with
 | some n => (3, n.1)
 | none => brkF es root
def firstM (es : Kn) (root : List Need) : Int × Nm := lckF es root root
def solveM (es : Kn) (root : List Need) (f : Int) : List Pk × Int × Nm :=
 if (firstM es root).1 ≠ 0 then ([], (firstM es root).1, (firstM es root).2) else (onF es root f.toNat [] f).1
abbrev PF (es : Kn) (root : List Need) (f : Int) (x : Int × Nm) : AV → List AObj → Prop := fun r H' => ∃ l H2 r2, Sel 3 l H' H2 ∧ Le r (AV.ren (selR l H'.length) r2) ∧ (r2 = .tup [.int .i64 x.1, .str (B x.2)] ∧ H2 = HS es root f)
theorem pf (es : Kn) (root : List Need) (f : Int) (x : Int × Nm) (q : List AObj) : PF es root f x (.tup [.int .i64 x.1, .str (B x.2)]) (HS es root f ++ q) := ⟨_, _, _, selS es root f q, Le.refl _, rfl, rfl⟩
theorem brk_cons (es : Kn) (n : Need) (l : List Need) : brkF es (n :: l) = if (getM es n.1).2 = true then brkF es l else (4, n.1) := by
 unfold brkF
 rw [List.find?_cons]
 cases h : (getM es n.1).2 <;> simp
theorem lck_cons (es : Kn) (root : List Need) (n : Need) (l : List Need) : lckF es root (n :: l) = if hasI es n.1 = true then lckF es root l else (3, n.1) := by
 unfold lckF
 rw [List.find?_cons]
 cases h : hasI es n.1 <;> simp
section
variable {es : Kn} (hx : OkX es) {root : List Need} (hrl : root.length ≤ 400000)
include hx hrl
theorem first8 {f : Int} {x : Int × Nm} : ∀ (m i : Nat), m + i = root.length → brkF es (root.drop i) = x →
  AWP Tryz.prog 54 3 c70_8 [(0, .ptr 2 0), (33, slN root), (34, .int .i64 root.length), (35, .int .i64 i)] (HS es root f) (q70_4 3 (PF es root f x)) := by
 intro m
 induction m with
 | zero =>
  intro i hm h
  rw [List.drop_eq_nil_of_le (by omega)] at h
  have h : ((0, []) : Int × Nm) = x := h
  subst h
  exact v70_8 _ _ _ _ _ _ _ (condD (fun hc => by omega) fun _ => pf es root f (0, []) [])
 | succ m ih =>
  intro i hm h
  rw [dropD root ([], []) i (by omega), brk_cons] at h
  refine v70_8 _ _ _ _ _ _ _ (condD (fun hc => needJ ⟨by omega, by omega⟩ ?_) fun hc => by omega)
  rw [Int.toNat_natCast, succ64 (by omega)]
  generalize root.getD i ([], []) = y at h ⊢
  refine ASpec.call (X.get_spec es y.1 hx _ 0 1 (by omega) rfl rfl) (Les.refl _) ⟨getM es y.1, rfl, rfl, ?_⟩
  repeat refine ⟨⟨rfl, rfl⟩, ?_⟩
  refine condBn (fun e => ?_) fun e => ?_
  ·rw [if_neg (by rw [e]; simp)] at h
   subst h
   repeat refine ⟨⟨rfl, rfl⟩, ?_⟩
   exact pf es root f (4, y.1) [_, _]
  ·rw [if_pos e] at h
   exact AWP.shape [0, 1, 2] _ (HS es root f) (selN (by decide) (by decide) (fun i h => by match i, h with | 0, _ | 1, _ | 2, _ => rfl) ⟨by rw [mp_ren]; rfl, rfl, rfl, trivial⟩) (by exact slotsR rfl) (ih (i + 1) (by omega) h)
theorem first2 {f : Int} {x : Int × Nm} : ∀ (m i : Nat), m + i = root.length → lckF es root (root.drop i) = x →
  AWP Tryz.prog 54 3 c70_2 [(0, .ptr 2 0), (13, slN root), (14, .int .i64 root.length), (15, .int .i64 i)] (HS es root f) (q70_2 3 (PF es root f x)) := by
 intro m
 induction m with
 | zero =>
  intro i hm h
  rw [List.drop_eq_nil_of_le (by omega)] at h
  have h : brkF es root = x := h
  exact v70_2 _ _ _ _ _ _ _ (condD (fun hc => by omega) fun _ => first8 hx hrl root.length 0 (by omega) h)
 | succ m ih =>
  intro i hm h
  rw [dropD root ([], []) i (by omega), lck_cons] at h
  refine v70_2 _ _ _ _ _ _ _ (condD (fun hc => needJ ⟨by omega, by omega⟩ ?_) fun hc => by omega)
  rw [Int.toNat_natCast, succ64 (by omega)]
  generalize root.getD i ([], []) = y at h ⊢
  refine ASpec.call (X.has_spec es y.1 _ 0 1 (by omega) rfl rfl) (Les.refl _) ⟨_, rfl, rfl, condBn (fun e => ?_) fun e => ?_⟩
  ·rw [if_neg (by rw [e]; simp)] at h
   subst h
   repeat refine ⟨⟨rfl, rfl⟩, ?_⟩
   exact pf es root f (3, y.1) [_]
  ·rw [if_pos e] at h
   exact AWP.shape [0, 1, 2] _ (HS es root f) (selN (by decide) (by decide) (fun i h => by match i, h with | 0, _ | 1, _ | 2, _ => rfl) ⟨by rw [mp_ren]; rfl, rfl, rfl, trivial⟩) (by exact slotsR rfl) (ih (i + 1) (by omega) h)
theorem first0 (f : Int) : ASpec Tryz.prog 70 [.ptr 2 0] (HS es root f) (fun r H' => r = .tup [.int .i64 (firstM es root).1, .str (B (firstM es root).2)] ∧ H' = HS es root f) :=
 ASpec.sel (s70 es root f _ (first2 hx hrl root.length 0 (by omega) rfl))
end
theorem slK_nil : Les [.ptr 0 0, .sl 0 (.raw []) .nil] [.ptr 0 0, slK []] := ⟨Le.refl _, Le.sl (s' := .map encPk noPk []) rfl (.inr ⟨rfl, fun _ h => by cases h⟩) (.inr rfl), trivial⟩
section
variable {es : Kn} (hx : OkX es) (hg : OkG es) {root : List Need} (hr : okN root) (hns : NsOk root) {d : List Kd} (hd : RelX es d) (hdl : d.length ≤ 1000) (hrl : root.length ≤ 400000)
include hx hg hr hns hd hdl hrl
end
end Pn
end

noncomputable section
open Go Go.Ab Go.Proofs V S T C
namespace Pn
open W (sl1 slS slN slR leNone renN renS)
open X (hasI getM OkX mp_ren)
open Pc (slK slKLe UpK)
open E (PA pa)
open Rc (Nm slL slLle slotsR selN)
open Ft (Rise relM relOf NsOk OkG rel_needs sameSet get_okN)
def c27 : Code := bodyOf Tryz.f27
def g27 : Cfg := { N := 29, live := fun _ => [], cut := fun _ => false, mu := fun _ => false, ret := rets }
theorem b27 : Tryz.f27.body = some c27 := by kernel_rfl
theorem f27_has : Tryz.prog.funcs[27]? = some Tryz.f27 := by kernel_rfl
abbrev cA : Code := codeFst (codeSnd (codeSnd c27))
abbrev cB : Code := codeSnd (codeSnd (codeSnd c27))
theorem e27 : c27 = .seq (codeFst c27) (.seq (codeFst (codeSnd c27)) (.seq (.seq (codeFst cA) (.seq (codeFst (codeSnd cA)) (.cond (.tmp 23) (.seq (codeFst (codeFst (codeSnd (codeSnd cA)))) .ret) .skip)))
  (.seq (.region 5 (opsOf (codeFst cB)) false) (.seq (.region 6 (opsOf (codeFst (codeSnd cB))) false) (.seq (codeFst (codeSnd (codeSnd cB))) .ret))))) := by kernel_rfl
theorem op27_0 : (opsOf (codeFst cB))[1]? = some ⟨none, .defer { callee := .value (.tmp 26), args := #[], argTypes := #[] }, 0, "plain.go:119", (((opsOf (codeFst cB))[1]?).map (·.after)).getD #[], none⟩ := by kernel_rfl
theorem op27_1 : (opsOf (codeFst (codeSnd cB)))[1]? = some ⟨some 28, .call ⟨.value (.func 72), #[.tmp 27, .const (.slice none 0 0)], #[134, 70]⟩, 0, "plain.go:128", (((opsOf (codeFst (codeSnd cB)))[1]?).map (·.after)).getD #[], none⟩ := by kernel_rfl
theorem r27_0 : List.range (opsOf (codeFst cB)).size = [0] ++ [1] := by kernel_rfl
theorem r27_1 : List.range (opsOf (codeFst (codeSnd cB))).size = [0] ++ [1] := by kernel_rfl
abbrev H0z (es : Kn) : List AObj := HX es ++ [.cells [.sl 0 (.raw []) .nil], .cells [.int .i64 0], .cells [.str ⟨#[]⟩]]
abbrev H2z (es : Kn) (root : List Need) (f : Int) (k : Int) (s : ByteArray) : List AObj := HX es ++ [.cells [.sl 0 (.raw []) .nil], .cells [.int .i64 k], .cells [.str s], .cells [.ptr 1 0, slN root, .int .i64 f]]
abbrev s0 (root : List Need) (f : Int) : Slots := [(8, .ptr 4 0), (7, .ptr 3 0), (6, .ptr 2 0), (0, .ptr 1 0), (1, slN root), (2, .int .i64 f)]
abbrev s1 (root : List Need) (f : Int) : Slots := (9, .ptr 5 0) :: (16, .ptr 5 0) :: (15, .agg [.ptr 1 0, slN root, .int .i64 f]) :: (14, .int .i64 f) :: (13, slN root) :: (12, .ptr 1 0) :: s0 root f
abbrev s2 (root : List Need) (f : Int) (k : Int) (s : ByteArray) : Slots := (11, .str s) :: (10, .int .i64 k) :: (21, .str s) :: (20, .int .i64 k) :: (17, .tup [.int .i64 k, .str s]) :: (19, .tup [.int .i64 k, .str s]) :: (18, .ptr 5 0) :: s1 root f
abbrev s3 (root : List Need) (f : Int) (k : Int) (s : ByteArray) : Slots := (23, .bool (k != 0)) :: (22, .int .i64 k) :: s2 root f k s
abbrev s4 (root : List Need) (f : Int) (k : Int) (s : ByteArray) : Slots := (25, .str s) :: (24, .int .i64 k) :: s3 root f k s
abbrev s5 (root : List Need) (f : Int) (k : Int) (s : ByteArray) : Slots := (26, .fn 71 [.ptr 2 0, .ptr 3 0, .ptr 4 0]) :: s3 root f k s
abbrev s6 (root : List Need) (f : Int) (k : Int) (s : ByteArray) : Slots := (27, .ptr 5 0) :: s5 root f k s
section
variable (es : Kn) (root : List Need) (f : Int) (k : Int) (s : ByteArray) (K : Slots → List AObj → Prop)
theorem g0 : K (s0 root f) (H0z es) = areg Tryz.prog g27 (codeFst c27) (slotsOf 0 [.ptr 1 0, slN root, .int .i64 f]) (HX es) K := by kernel_rfl
theorem g1 : K (s1 root f) (H1z es root f) = areg Tryz.prog g27 (codeFst (codeSnd c27)) (s0 root f) (H0z es) K := by kernel_rfl
theorem g2 : ASpec Tryz.prog 70 [.ptr 5 0] (H1z es root f) (fun r H' => ∃ x : Int × ByteArray, r = .tup [.int .i64 x.1, .str x.2] ∧ H' = H1z es root f ∧ K (s2 root f x.1 x.2) (H1z es root f)) = areg Tryz.prog g27 (codeFst cA) (s1 root f) (H1z es root f) K := by kernel_rfl
theorem g3 : K (s3 root f k s) (H1z es root f) = areg Tryz.prog g27 (codeFst (codeSnd cA)) (s2 root f k s) (H1z es root f) K := by kernel_rfl
theorem g4 : K (s4 root f k s) (H2z es root f k s) = areg Tryz.prog g27 (codeFst (codeFst (codeSnd (codeSnd cA)))) (s3 root f k s) (H1z es root f) K := by kernel_rfl
theorem g5 : K (s5 root f k s) (H1z es root f) = aops Tryz.prog g27 (opsOf (codeFst cB)) [0] (s3 root f k s) (H1z es root f) K := by kernel_rfl
theorem g6 : K (s6 root f k s) (H1z es root f) = aops Tryz.prog g27 (opsOf (codeFst (codeSnd cB))) [0] (s5 root f k s) (H1z es root f) K := by kernel_rfl
theorem g7 (f' : Int) : K ((28, .tup []) :: s6 root f k s) (H2z es root f' 2 ⟨#[]⟩) = areg Tryz.prog g27 (codeFst (codeSnd (codeSnd cB))) ((28, .tup []) :: s6 root f k s) (H1z es root f') K := by kernel_rfl
theorem z4 (Post : AV → Prop) : Post (.tup [.sl 0 (.raw []) .nil, .int .i64 k, .str s]) = aresults Tryz.prog (s4 root f k s) (H2z es root f k s) Tryz.f27.results.toList (fun vs => Post (tupled vs)) := by kernel_rfl
theorem z7 (f' : Int) (Post : AV → Prop) : Post (.tup [.sl 0 (.raw []) .nil, .int .i64 2, .str ⟨#[]⟩]) = aresults Tryz.prog ((28, .tup []) :: s6 root f k s) (H2z es root f' 2 ⟨#[]⟩) Tryz.f27.results.toList (fun vs => Post (tupled vs)) := by kernel_rfl
theorem zp (f' : Int) (x : List Pk × Int × Nm) (Post : AV → Prop) : Post (outV x) = aresults Tryz.prog (s6 root f k s) (H1 es root f' x ++ tE x) Tryz.f27.results.toList (fun vs => Post (tupled vs)) := by kernel_rfl
end
theorem tryF_two {rec : List Pk → Int → Out} {name : Nm} {l : List Pk} : ∀ (w : List Int) (f : Int), (∀ l f, (rec l f).1.2.1 = 2 → (rec l f).1 = ([], 2, [])) → (tryF rec name l w f).1.2.1 = 2 → (tryF rec name l w f).1 = ([], 2, [])
 | [], f, _, _ => rfl
 | v :: r, f, h, hk => by
  simp only [tryF] at hk ⊢
  split at hk
  ·rename_i h1; rw [if_pos h1]; cases hk
  ·rename_i h1
   rw [if_neg h1]
   split at hk
   ·rename_i h2; rw [if_pos h2]; exact tryF_two r _ h hk
   ·rename_i h2; exact (h2 hk).elim
theorem stepF_two {es : Kn} {root : List Need} {rec : List Pk → Int → Out} (h : ∀ l f, (rec l f).1.2.1 = 2 → (rec l f).1 = ([], 2, [])) (l : List Pk) (f : Int) (hk : (stepF es root rec l f).1.2.1 = 2) : (stepF es root rec l f).1 = ([], 2, []) := by
 unfold stepF at hk ⊢
 split at hk
 ·rename_i h1; rw [if_pos h1]
 ·rename_i h1
  rw [if_neg h1]
  split at hk
  ·rename_i h2; rw [if_pos h2]; cases hk
  ·rename_i h2
   rw [if_neg h2]
   split at hk
   ·rename_i h3; rw [if_pos h3]; cases hk
   ·rename_i h3; rw [if_neg h3]; exact tryF_two _ _ h hk
theorem onF_two (es : Kn) (root : List Need) : ∀ (d : Nat) (l : List Pk) (f : Int), (onF es root d l f).1.2.1 = 2 → (onF es root d l f).1 = ([], 2, [])
 | 0, l, f, hk => stepF_two (fun _ _ _ => rfl) l f hk
 | d + 1, l, f, hk => stepF_two (onF_two es root d) l f hk
theorem gr (es : Kn) (root : List Need) (f f' : Int) : graftH (callR [0, 1, 5] (H1z es root f).length) [0, 1, 5] (H1z es root f) (HS es root f') = H1z es root f' := by
 have h : graftH (callR [0, 1, 5] (H1z es root f).length) [0, 1, 5] (H1z es root f) (HS es root f') = (((H1z es root f).set 0 (AObj.ren (callR [0, 1, 5] (H1z es root f).length) (.mp (.typed EK es)))).set 1 (AObj.ren (callR [0, 1, 5] (H1z es root f).length) (.cells [.map 0]))).set 5 (AObj.ren (callR [0, 1, 5] (H1z es root f).length) (.cells [.ptr 1 0, slN root, .int .i64 f'])) := by
  simp [graftH, grafted, HX, HS, H1z]
 rw [h, mp_ren]; rfl
theorem objs5 (es : Kn) (root : List Need) (f : Int) : ∀ i (h : i < (HS es root f).length), (H1z es root f)[[0, 1, 5].getD i 0]? = some (AObj.ren (callR [0, 1, 5] (H1z es root f).length) (HS es root f)[i]) := fun i hi => by
 match i, hi with
 | 0, _ => show _ = some (AObj.ren _ (.mp (.typed EK es))); rw [mp_ren]; rfl
 | 1, _ => rfl
 | 2, _ => rfl
section
variable {es : Kn} (hx : OkX es) (hg : OkG es) {root : List Need} (hr : okN root) (hns : NsOk root) (hrl : root.length ≤ 400000)
include hx hrl in
theorem first5 (f : Int) : ASpec Tryz.prog 70 [.ptr 5 0] (H1z es root f) (fun r H' => r = .tup [.int .i64 (firstM es root).1, .str (B (firstM es root).2)] ∧ H' = H1z es root f) :=
 ASpec.subH [0, 1, 5] _ _ (first0 hx hrl f) [.ptr 5 0] (.tup [.int .i64 (firstM es root).1, .str (B (firstM es root).2)]) (by decide) rfl rfl rfl (objs5 es root f) (gr es root f f)
include hx hg hr hns in
theorem on5 (f : Int) (hf : f.toNat ≤ 80000) : ASpecX Tryz.prog 72 [.ptr 5 0, .sl 0 (.raw []) .nil] (H1z es root f) (fun r H' => r = .tup [] ∧ (onF es root f.toNat [] f).1.2.1 = 2 ∧ H' = H1z es root (onF es root f.toNat [] f).2)
  (fun r H' => r = endV (onF es root f.toNat [] f).1 ∧ (onF es root f.toNat [] f).1.2.1 ≠ 2 ∧ H' = H1z es root (onF es root f.toNat [] f).2) := by
 have k := on_spec hx hg hr hns f.toNat [] f (by simp; omega) (Nat.le_refl _)
 unfold OnS at k
 generalize onF es root f.toNat [] f = y at k ⊢
 have k1 := (ASpecX.graft (H := H1z es root f) (args := [.ptr 5 0, slK []]) [0, 1, 5] k (by decide) rfl rfl (objs5 es root f)).mono (Post' := fun r H' => r = .tup [] ∧ y.1.2.1 = 2 ∧ H' = H1z es root y.2)
  (PX' := fun r H' => r = endV y.1 ∧ y.1.2.1 ≠ 2 ∧ H' = H1z es root y.2) (fun r H' ⟨rl, Hl', ⟨e1, e2, e3⟩, _, e4, e5⟩ => by subst e1 e3 e4 e5; exact ⟨rfl, e2, gr es root f y.2⟩) (fun r H' ⟨rl, Hl', ⟨e1, e2, e3⟩, _, e4, e5⟩ => by subst e1 e3 e4 e5; exact ⟨rfl, e2, gr es root f y.2⟩)
 intro M loc w vs ht hr hv
 obtain ⟨h1, h2⟩ := hv
 have hle : Les [.ptr 5 0, .sl 0 (.raw []) .nil] [.ptr 5 0, slK []] := ⟨Le.refl _, slK_nil.2.1, trivial⟩
 have hl := hle.len
 exact k1 M loc w vs ht hr ⟨by omega, fun i hi => hle.get i (by omega) hi M w loc _ (h2 i (by omega))⟩
end
theorem callsDIn_mono {f : FuncId} {args : Array Value} {u : FrameMode} {w : World} {R R2 : Ending → FrameMode → World → Prop} (h : CallsDIn (FW none) 0 Tryz.prog f args u w R) (hi : ∀ e u w, R e u w → R2 e u w) : CallsDIn (FW none) 0 Tryz.prog f args u w R2 :=
 ⟨h.1, fun c cs hu hroom => let ⟨e, u2, w2, fr, hR, rest⟩ := h.2 c cs hu hroom; ⟨e, u2, w2, fr, hi _ _ _ hR, rest⟩⟩
theorem inv71 (vs : Array Value) (w : World) : (invoke (.fn (.func 71) vs) (#[] ++ #[])).run Tryz.prog w = .ok (.enter 71 vs) w := by
 have hname : (Tryz.f71.name == "runtime.NumGoroutine") = false := by kernel_rfl
 have hbody : Tryz.f71.body.isNone = false := by kernel_rfl
 simp only [invoke, callFunc, Sem.run_bind, run_program, Result.andThen_ok, f71_has, hname, hbody, Bool.false_eq_true, if_false, Sem.run_pure, Array.empty_append, Array.append_empty]
section
variable {es : Kn} (hx : OkX es) (hg : OkG es) {root : List Need} (hrt : okN root) (hns : NsOk root) (hrl : root.length ≤ 400000)
include hx hg hrt hns hrl
theorem solve0 (f : Int) (hf : f.toNat ≤ 80000) : ASpec Tryz.prog 27 [.ptr 1 0, slN root, .int .i64 f] (HX es) (fun r H' => r = outV (solveM es root f) ∧ H' = HX es) := by
 refine ASpec.sel ?_
 show ASpec _ _ _ _ (X.PX es (outV (solveM es root f)))
 intro M loc w vs ht hr hv
 have hN : Tryz.f27.ntmps = 29 := by kernel_rfl
 have hs0 := srel_args (Tryz.f27.ntmps - vs.size) hv
 have hv3 : vs.size = 3 := hv.1
 refine callsOfW (ro := none) (k := 0) (callsIn_of_wp_marks (F := FW none) (n := 0) f27_has b27 trivial ?_)
 generalize hT : vs ++ Array.replicate (Tryz.f27.ntmps - vs.size) undef = T at hs0 ⊢
 have hTs : T.size = 29 := by rw [← hT]; simp [hN, hv3]
 rw [e27]
 refine wpIn_seq (areg_sound (cfg := g27) (kc (g0 es root f fun s H => s = s0 root f ∧ H = H0z es) ⟨rfl, rfl⟩) ht hr hs0 hTs fun a1 w1 t1 K1 M1 loc1 ⟨e1, e2⟩ k1 => ?_)
 subst e1 e2
 show Code.wpIn _ _ _ _ _ _ _
 refine wpIn_seq (areg_sound (cfg := g27) (kc (g1 es root f fun s H => s = s1 root f ∧ H = H1z es root f) ⟨rfl, rfl⟩) (ht.step hr k1.step) k1.rel k1.srel k1.size fun a2 w2 t2 K2 M2 loc2 ⟨e1, e2⟩ k2 => ?_)
 subst e1 e2
 have st2 := k1.step.trans k2.step
 have ht2 := ht.step hr st2
 show Code.wpIn _ _ _ _ _ _ _
 refine wpIn_seq (wpIn_seq (areg_sound (cfg := g27) (kc (g2 es root f fun s H => s = s2 root f (firstM es root).1 (B (firstM es root).2) ∧ H = H1z es root f) (ASpec.call (first5 hx hrl f) (Les.refl _) ⟨((firstM es root).1, B (firstM es root).2), rfl, rfl, rfl, rfl⟩)) ht2 k2.rel k2.srel k2.size fun a3 w3 t3 K3 M3 loc3 ⟨e1, e2⟩ k3 => ?_))
 subst e1 e2
 show Code.wpIn _ _ _ _ _ _ _
 have st3 := st2.trans k3.step
 have ht3 := ht.step hr st3
 generalize hk : (firstM es root).1 = k at k3
 generalize hs : B (firstM es root).2 = s at k3
 refine wpIn_seq (areg_sound (cfg := g27) (kc (g3 es root f k s fun s' H => s' = s3 root f k s ∧ H = H1z es root f) ⟨rfl, rfl⟩) ht3 k3.rel k3.srel k3.size fun a4 w4 t4 K4 M4 loc4 ⟨e1, e2⟩ k4 => ?_)
 subst e1 e2
 show Code.wpIn _ _ _ _ _ _ _
 have st4 := st3.trans k4.step
 have ht4 := ht.step hr st4
 have d4 : a4.defers = [] := by rw [k4.defers, k3.defers, k2.defers, k1.defers]
 have h23 : a4.eval (.tmp 23) = .bool (k != 0) := by
  have := vrel_ev k4.srel (.tmp 23)
  generalize a4.eval (.tmp 23) = q at this
  cases this; rfl
 refine wpIn_cond_split h23 (fun hk0 => ?_) fun hk0 => ?_
 ·-- a name is lacked, or broken
  refine wpIn_seq (areg_sound (cfg := g27) (kc (g4 es root f k s fun s' H => s' = s4 root f k s ∧ H = H2z es root f k s) ⟨rfl, rfl⟩) ht4 k4.rel k4.srel k4.size fun a5 w5 t5 K5 M5 loc5 ⟨e1, e2⟩ k5 => ?_)
  subst e1 e2
  show Code.wpIn _ _ _ _ _ _ _
  refine wpIn_ret ?_
  show LeavesInM _ _ _ _ _ _ a5.defers .returning w5
  rw [k5.defers, d4]
  have hP : X.PX es (outV (solveM es root f)) (.tup [.sl 0 (.raw []) .nil, .int .i64 k, .str s]) (H2z es root f k s) := by
   have e : solveM es root f = ([], k, (firstM es root).2) := by
    unfold solveM
    rw [if_pos (by rw [hk]; simpa using hk0), hk]
   rw [e, ← hs]
   exact X.px (es := es) [_, _, _, _] (nilO _)
  obtain ⟨v, av, h1, h2, h3⟩ := results_run (P := Tryz.prog) (fn := Tryz.f27) (Post := fun r => X.PX es (outV (solveM es root f)) r (H2z es root f k s)) k5.srel k5.rel (kc (z4 es root f k s fun r => X.PX es (outV (solveM es root f)) r (H2z es root f k s)) hP)
  exact ⟨v, h1, v, av, _, M5, loc5, rfl, h3, k5.rel, h2, st4.trans k5.step⟩
 ·have hk0 : k = 0 := by simpa using hk0
  refine wpIn_skip ?_
  show Code.wpIn _ _ _ _ _ _ _
  have e : solveM es root f = (onF es root f.toNat [] f).1 := by
   unfold solveM
   rw [if_neg (by rw [hk, hk0]; simp)]
  rw [e]
  refine wpIn_seq (wpIn_region ?_)
  rw [r27_0]
  refine aops_app (cfg := g27) [0] _ _ (fun s' H => s' = s5 root f k s ∧ H = H1z es root f) (kc (g5 es root f k s _) ⟨rfl, rfl⟩) ht4 k4.rel k4.srel k4.size fun a5 t5 K5 M5 loc5 w5 ⟨e1, e2⟩ r5 sr5 n5 d5 p5 => ?_
  subst e1 e2
  have st5 := st4.trans p5
  have ht5 := ht.step hr st5
  rw [d4] at d5
  have hf26 := vrel_ev sr5 (.tmp 26)
  generalize hq : a5.eval (.tmp 26) = q at hf26
  have hf26 : VRel M5 w5 loc5 (.fn 71 [.ptr 2 0, .ptr 3 0, .ptr 4 0]) q := hf26
  cases hf26 with
  | fn _ _ cvs hcs hcr =>
  refine wpOpsIn_defer (d := { target := .fn (.func 71) cvs, args := #[] ++ #[] }) op27_0 rfl ?_ ?_
  ·simp only [execOp, resolve, hq, Deferred.ofValue, Sem.run_bind, Sem.run_pure, Result.andThen_ok]
   first | rfl | simp
  show Code.wpIn _ _ _ _ _ _ _
  refine wpIn_seq (wpIn_region ?_)
  rw [r27_1]
  refine aops_app (cfg := g27) [0] _ _ (fun s' H => s' = s6 root f k s ∧ H = H1z es root f) (kc (g6 es root f k s _) ⟨rfl, rfl⟩) ht5 r5 sr5 n5 fun a6 t6 K6 M6 loc6 w6 ⟨e1, e2⟩ r6 sr6 n6 d6 p6 => ?_
  subst e1 e2
  have st6 := st5.trans p6
  have ht6 := ht.step hr st6
  have d6 : a6.defers = [{ target := .fn (.func 71) cvs, args := #[] ++ #[] }] := by rw [d6]; show _ :: a5.defers = _; rw [d5]
  have hcr6 : VRels M6 w6 loc6 [.ptr 2 0, .ptr 3 0, .ptr 4 0] cvs := ⟨hcs, fun i hi => (hcr i hi).keeps (p6.keeps r5)⟩
  refine wpOpsIn_callX (s := s6 root f k s) (cap := []) (H := H1z es root f) op27_1 rfl (by kernel_rfl) (on5 hx hg hrt hns f hf) ht6 r6 sr6 (fun v r H' M7 loc7 w7 hP r7 v7 p7 => ?_) fun v r H' M7 loc7 w7 hP r7 v7 p7 => ?_
  ·obtain ⟨e1, e2, e3⟩ := hP
   subst e1 e3
   have e := onF_two es root _ _ _ e2
   rw [e]
   generalize (onF es root f.toNat [] f).2 = f' at r7 v7 p7
   have st7 := st6.trans p7
   have ht7 := ht.step hr st7
   have sr7 : SRel M7 w7 loc7 ((28, .tup []) :: s6 root f k s) (a6.put (some 28) v).tmps := SRel.act (sr6.keeps (p7.keeps r6)) (by rw [n6]; decide) v7
   show Code.wpIn _ _ _ _ _ _ _
   refine wpIn_seq (areg_sound (cfg := g27) (kc (g7 es root f k s (fun s' H => s' = (28, .tup []) :: s6 root f k s ∧ H = H2z es root f' 2 ⟨#[]⟩) f') ⟨rfl, rfl⟩) ht7 r7 sr7 (by rw [put_size]; exact n6) fun a8 w8 t8 K8 M8 loc8 ⟨e1, e2⟩ k8 => ?_)
   subst e1 e2
   show Code.wpIn _ _ _ _ _ _ _
   refine wpIn_ret ?_
   show LeavesInM _ _ _ _ _ _ a8.defers .returning w8
   rw [k8.defers, put_defers, d6]
   refine ⟨by simp, .inr ⟨fun h => by simp [FW] at h, _, cvs, 71, cvs, rfl, inv71 cvs w8, fun _ _ => trivial, ?_⟩⟩
   refine callsDIn_mono (d71n cvs hcs) fun e u' w' hh => ?_
   obtain ⟨⟨v, rfl⟩, rfl, rfl⟩ := hh
   show LeavesInM _ _ _ _ _ _ [] .returning _
   have hP : X.PX es (outV ([], 2, [])) (.tup [.sl 0 (.raw []) .nil, .int .i64 2, .str ⟨#[]⟩]) (H2z es root f' 2 ⟨#[]⟩) := X.px (es := es) [_, _, _, _] (nilO _)
   obtain ⟨v, av, h1, h2, h3⟩ := results_run (P := Tryz.prog) (fn := Tryz.f27) (Post := fun r => X.PX es (outV ([], 2, [])) r (H2z es root f' 2 ⟨#[]⟩)) k8.srel k8.rel (kc (z7 es root f k s f' fun r => X.PX es (outV ([], 2, [])) r (H2z es root f' 2 ⟨#[]⟩)) hP)
   exact ⟨v, h1, v, av, _, M8, loc8, rfl, h3, k8.rel, h2, st7.trans k8.step⟩
  ·obtain ⟨e1, e2, e3⟩ := hP
   subst e1 e3
   generalize onF es root f.toNat [] f = y at r7 v7 p7 e2
   have st7 := st6.trans p7
   have ht7 := ht.step hr st7
   show LeavesInM _ _ _ _ _ _ a6.defers (.panicking _) w7
   rw [d6]
   refine ⟨by simp, .inr ⟨fun h => by simp [FW] at h, _, cvs, 71, cvs, rfl, inv71 cvs w7, fun _ _ => trivial, ?_⟩⟩
   have hcr7 : VRels M7 w7 loc7 [.ptr 2 0, .ptr 3 0, .ptr 4 0] cvs := ⟨hcs, fun i hi => (hcr6.2 i hi).keeps (p7.keeps r6)⟩
   refine callsDIn_mono (d71p (x := y.1) ht7 r7 hcr7 v7) fun e u' w' hh => ?_
   obtain ⟨⟨v, rfl⟩, hset, M8, loc8, r8, p8⟩ := hh
   show LeavesInM _ _ _ _ _ _ [] (settle u') w'
   rw [hset]
   have hP : X.PX es (outV y.1) (outV y.1) (H1 es root y.2 y.1 ++ tE y.1) := X.px (es := es) [_, _, _, _, _] (Le.refl _)
   obtain ⟨v, av, h1, h2, h3⟩ := results_run (P := Tryz.prog) (fn := Tryz.f27) (Post := fun r => X.PX es (outV y.1) r (H1 es root y.2 y.1 ++ tE y.1)) ((sr6.keeps (p7.keeps r6)).keeps (p8.keeps r7)) r8 (kc (zp es root f k s y.2 y.1 fun r => X.PX es (outV y.1) r (H1 es root y.2 y.1 ++ tE y.1)) hP)
   exact ⟨v, h1, v, av, _, M8, loc8, rfl, h3, r8, h2, st7.trans p8⟩
theorem solve_at (f : Int) (hf : f.toNat ≤ 80000) (H : List AObj) (q p : Nat) (hqp : q ≠ p) (hq : H[q]? = some (.mp (.typed EK es))) (hp2 : H[p]? = some (.cells [.map q])) :
  ASpec Tryz.prog 27 [.ptr p 0, slN root, .int .i64 f] H (fun r H' => r = outV (solveM es root f) ∧ H' = H) := by
 have := X.liftX H q p hqp hq hp2 (solve0 hx hg hrt hns hrl f hf) (args' := [.ptr p 0, slN root, .int .i64 f]) (r' := outV (solveM es root f)) rfl rfl
 rwa [set_same hq] at this
end
end Pn
end

noncomputable section
open Go Go.Ab Go.Proofs V S T C
namespace Ps
open W (sl1 slS slN slR leNone renN renS)
open X (hasI getM putI OkX okX_nil okX_put mp_ren)
open Xd (ofI slE smE)
open Pc (slK slKLe UpK putM)
open E (PA pa)
open Sp (hasS Kept)
open Sg (ok meetS meet_eq andF lastS_top)
open Ft (NsOk OkG okG_nil okG_put relOf)
open Rc (Nm)
open Pn (allS askedM askF askN needsK nextM deadM badP downM onF stepF tryF solveM firstM outV all_ok)
theorem okG_of : ∀ (e : List Ent) (es : Kn), OkG es → OkG (ofI e es)
 | [], _, h => h
 | x :: e, es, h => okG_of e _ (okG_put h)
theorem hasS_in {l : List Span} {e : Int} (h : chkS e l = true) {p : Int} (hp : hasS l p = true) : e < p ∧ p < 1000000000 := by
 induction l generalizing e with
 | nil => cases hp
 | cons x r ih =>
  obtain ⟨a1, a2, a3, a4⟩ := Sp.chkS_cons h
  rw [Sp.hasS_cons, Bool.or_eq_true] at hp
  rcases hp with hp | hp
  ·rw [Sp.inS_iff] at hp; omega
  ·have := ih a4 hp; omega
theorem meet_all {b : List Span} (hb : ok b) : meetS allS b = b := by
 refine meet_eq ⟨hb, lastS_top hb (by omega), fun p => ?_⟩
 by_cases hp : hasS b p = true
 ·have := hasS_in hb hp
  have h1 : hasS allS p = true := by simp [hasS, Sp.inS_iff]; omega
  rw [hp, decide_eq_true (by omega)]
  simp [andF, h1, hp]
 ·have hp : hasS b p = false := by simpa using hp
  rw [hp]
  simp [andF, hp]
abbrev rootA : List Need := [([97], allS), ([98], allS)]
abbrev bodyA : List UInt8 := [1, 97, 2, 4, 0, 8, 1, 1, 98, 1, 0, 8]
abbrev bodyB : List UInt8 := [1, 98, 1, 8, 0]
abbrev esA1 : Kn := [(B [97], some ([97], [(4, []), (8, [([98], [(0, 8)])])]))]
abbrev esA : Kn := [(B [97], some ([97], [(4, []), (8, [([98], [(0, 8)])])])), (B [98], some ([98], [(8, [])]))]
theorem readA : X.readK [97] bodyA = some ([97], [(4, []), (8, [([98], [(0, 8)])])]) := by
 have e : W.readM bodyA = (([97], [(4, []), (8, [([98], [(0, 8)])])]), 0) := by kernel_rfl
 unfold X.readK
 rw [e]; simp
theorem readB : X.readK [98] bodyB = some ([98], [(8, [])]) := by
 have e : W.readM bodyB = (([98], [(8, [])]), 0) := by kernel_rfl
 unfold X.readK
 rw [e]; simp
theorem put1 : putI [] [97] bodyA = (0, esA1) := by
 have h1 : fitM [97] = true := by decide +kernel
 rw [putI, if_neg (by rw [h1]; simp), if_neg (by simp [hasI, findM]), readA]; rfl
theorem put2 : putI esA1 [98] bodyB = (0, esA) := by
 have h1 : fitM [98] = true := by decide +kernel
 have h2 : hasI esA1 [98] = false := by decide +kernel
 rw [putI, if_neg (by rw [h1]; simp), if_neg (by rw [h2]; simp), readB]
 rfl
theorem okA1 : OkX esA1 := by rw [show esA1 = (putI [] [97] bodyA).2 from by rw [put1]]; exact okX_put okX_nil
theorem okGA1 : OkG esA1 := by rw [show esA1 = (putI [] [97] bodyA).2 from by rw [put1]]; exact okG_put okG_nil
theorem okA : OkX esA := by rw [show esA = (putI esA1 [98] bodyB).2 from by rw [put2]]; exact okX_put okA1
theorem okGA : OkG esA := by rw [show esA = (putI esA1 [98] bodyB).2 from by rw [put2]]; exact okG_put okGA1
theorem nsA : NsOk rootA := fun n hn => by
 simp at hn
 rcases hn with rfl | rfl
 ·exact ⟨by decide +kernel, by show chkS (-1) [(0, 1000000000)] = true; decide⟩
 ·exact ⟨by decide +kernel, by show chkS (-1) [(0, 1000000000)] = true; decide⟩
theorem okNA : okN rootA := ⟨by unfold lim; simp, fun n hn => by
  simp at hn
  rcases hn with rfl | rfl <;> exact ⟨by unfold lim; simp, by unfold lim; simp⟩⟩
theorem okS8 : ok [(0, 8)] := by show chkS (-1) [(0, 8)] = true; decide
theorem needA4 : relOf esA ([97], 4) = ((4, []), true) := by kernel_rfl
theorem needA8 : relOf esA ([97], 8) = ((8, [([98], [(0, 8)])]), true) := by kernel_rfl
theorem needB8 : relOf esA ([98], 8) = ((8, []), true) := by kernel_rfl
theorem root_a (f : List (List Need)) : askF [97] (rootA :: f) allS = askF [97] f allS := by
 have h : Pn.findN [97] rootA = (allS, true) := by decide +kernel
 rw [askF, askN, h, if_pos rfl, meet_all all_ok]
theorem root_b (f : List (List Need)) : askF [98] (rootA :: f) allS = askF [98] f allS := by
 have h : Pn.findN [98] rootA = (allS, true) := by decide +kernel
 rw [askF, askN, h, if_pos rfl, meet_all all_ok]
theorem skip_n (s : Nm) (f : List (List Need)) (u : List Span) : askF s ([] :: f) u = askF s f u := by
 have h : (Pn.findN s []).2 = false := rfl
 rw [askF, askN, h, if_neg (by simp)]
theorem ask0 : askedM esA rootA [] [97] = allS := by rw [askedM, root_a]; rfl
theorem ask8a : askedM esA rootA [([97], 8)] [97] = allS := by
 rw [askedM, root_a]
 show askF [97] [(relOf esA ([97], 8)).1.2] allS = _
 have h : (Pn.findN [97] [([98], [(0, 8)])]).2 = false := by decide +kernel
 rw [needA8, askF, askN, h, if_neg (by simp)]; rfl
theorem ask8b : askedM esA rootA [([97], 8)] [98] = [(0, 8)] := by
 rw [askedM, root_b]
 show askF [98] [(relOf esA ([97], 8)).1.2] allS = _
 have h : Pn.findN [98] [([98], [(0, 8)])] = ([(0, 8)], true) := by decide +kernel
 rw [needA8, askF, askN, h, if_pos rfl, meet_all okS8]; rfl
theorem ask4a : askedM esA rootA [([97], 4)] [97] = allS := by
 rw [askedM, root_a]
 show askF [97] [(relOf esA ([97], 4)).1.2] allS = _
 rw [needA4, skip_n]; rfl
theorem ask4b : askedM esA rootA [([97], 4)] [98] = allS := by
 rw [askedM, root_b]
 show askF [98] [(relOf esA ([97], 4)).1.2] allS = _
 rw [needA4, skip_n]; rfl
theorem askFa : askedM esA rootA [([97], 4), ([98], 8)] [97] = allS := by
 rw [askedM, root_a]
 show askF [97] [(relOf esA ([97], 4)).1.2, (relOf esA ([98], 8)).1.2] allS = _
 rw [needA4, needB8, skip_n, skip_n]; rfl
theorem askFb : askedM esA rootA [([97], 4), ([98], 8)] [98] = allS := by
 rw [askedM, root_b]
 show askF [98] [(relOf esA ([97], 4)).1.2, (relOf esA ([98], 8)).1.2] allS = _
 rw [needA4, needB8, skip_n, skip_n]; rfl
theorem dead8 : deadM esA rootA [([97], 8)] = false := by
 show (badP esA rootA [([97], 8)] ([97], 8) || false) = false
 rw [badP, ask8a]; decide
theorem dead4 : deadM esA rootA [([97], 4)] = false := by
 show (badP esA rootA [([97], 4)] ([97], 4) || false) = false
 rw [badP, ask4a]; decide
theorem deadF : deadM esA rootA [([97], 4), ([98], 8)] = false := by
 show (badP esA rootA [([97], 4), ([98], 8)] ([97], 4) || (badP esA rootA [([97], 4), ([98], 8)] ([98], 8) || false)) = false
 rw [badP, badP, askFa, askFb]; decide
theorem dead0 : deadM esA rootA [] = false := rfl
theorem next0 : nextM esA rootA [] = ([97], true) := by decide +kernel
theorem next8 : nextM esA rootA [([97], 8)] = ([98], true) := by decide +kernel
theorem next4 : nextM esA rootA [([97], 4)] = ([98], true) := by decide +kernel
theorem nextF : (nextM esA rootA [([97], 4), ([98], 8)]).2 = false := by decide +kernel
theorem hasA : hasI esA [97] = true := by decide +kernel
theorem hasB : hasI esA [98] = true := by decide +kernel
theorem downA : downM (getM esA [97]).1 allS = [8, 4] := by decide +kernel
theorem downB : downM (getM esA [98]).1 allS = [8] := by decide +kernel
theorem downB8 : downM (getM esA [98]).1 [(0, 8)] = [] := by decide +kernel
theorem step8 (rec : List Pk → Int → Pn.Out) (f : Int) : stepF esA rootA rec [([97], 8)] f = (([], 2, []), f) := by
 unfold stepF
 rw [dead8, next8, ask8b, hasB, downB8]; rfl
theorem stepE (rec : List Pk → Int → Pn.Out) (f : Int) : stepF esA rootA rec [([97], 4), ([98], 8)] f = (([([97], 4), ([98], 8)], 1, []), f) := by
 unfold stepF
 rw [deadF, nextF]; rfl
theorem solveA : solveM esA rootA 9 = ([([97], 4), ([98], 8)], 1, []) := by
 have hf : firstM esA rootA = (0, []) := by decide +kernel
 have p1 : putM [] ([97], 8) = [([97], 8)] := by decide +kernel
 have p2 : putM [] ([97], 4) = [([97], 4)] := by decide +kernel
 have p3 : putM [([97], 4)] ([98], 8) = [([97], 4), ([98], 8)] := by decide +kernel
 have h4 : ∀ d, onF esA rootA (d + 2) [([97], 4)] 7 = (([([97], 4), ([98], 8)], 1, []), 6) := fun d => by
  rw [onF, stepF, dead4, next4, ask4b, hasB, downB]
  simp only [tryF, p3]
  rw [onF, stepE]
  simp
 rw [solveM, hf, if_neg (by simp)]
 show (onF esA rootA (8 + 1) [] 9).1 = _
 rw [onF, stepF, dead0, next0, ask0, hasA, downA]
 simp only [tryF, p1, p2]
 rw [show onF esA rootA 8 = stepF esA rootA (onF esA rootA 7) from rfl, step8]
 rw [← show onF esA rootA 8 = stepF esA rootA (onF esA rootA 7) from rfl]
 simp only []
 rw [show (9 : Int) - 1 = 8 from rfl, show (8 : Int) - 1 = 7 from rfl, h4 6]
 simp
end Ps
end

noncomputable section
open Go Go.Ab Go.Proofs V S T C
namespace Ps
open W (sl1 slS slN slR leNone renN renS)
open X (hasI getM putI OkX okX_nil okX_put mp_ren largeD_spec largeD_ok)
open Xd (getKd agK ofI ofKd RelX rel0 slE smE)
open Pc (slK slKLe UpK putM)
open Dk (chkF getP chk_up largeK_ok)
open E (PA pa)
open Sg (ok)
open Rr (okX_of rel_of ofKd_len)
open Ft (NsOk OkG okG_nil okG_put relOf ns_of)
open Rc (Nm)
open Pn (allS askedM nextM solveM outV solve_at next_at rnext_spec asked_at rasked_spec asked_ok)
theorem awake_spec (H : List AObj) : ASpec Tryz.prog 26 [] H (fun r H' => r = .bool true ∧ H' = H) := by
 have k : ASpec Tryz.prog 26 [] [] (fun r H' => r = .bool true ∧ H' = []) := by
  refine ASpec.sel (s26 _ (ASpec.call (X.new_spec []) (Les.refl _) ⟨(), rfl, rfl, ?_⟩))
  refine ASpec.call (X.put_spec [] [97] bodyA (by unfold lim; simp) _ 0 1 (by omega) rfl rfl) ⟨Le.refl _, Le.refl _, Le.sl rfl (.inl rfl) (.inl rfl), trivial⟩ ⟨putI [] [97] bodyA, rfl, rfl, ?_⟩
  rw [put1]
  refine ASpec.call (X.put_spec esA1 [98] bodyB (by unfold lim; simp) _ 0 1 (by omega) rfl rfl) ⟨Le.refl _, Le.refl _, Le.sl rfl (.inl rfl) (.inl rfl), trivial⟩ ⟨putI esA1 [98] bodyB, rfl, rfl, ?_⟩
  rw [put2]
  have hroot : Le (.sl 2 (.raw [[.str (B [97]), .sl 2 (.raw [[.int .i64 0, .int .i64 1000000000]]) .full], [.str (B [98]), .sl 2 (.raw [[.int .i64 0, .int .i64 1000000000]]) .full]]) .full) (slN rootA) :=
   Le.slE rfl (fun i h h' => by
    match i, h with
    | 0, _ => exact ⟨Le.refl _, Le.sl rfl (.inl rfl) (.inr rfl), trivial⟩
    | 1, _ => exact ⟨Le.refl _, Le.sl rfl (.inl rfl) (.inr rfl), trivial⟩) (.inr rfl)
  refine ASpec.call (solve_at okA okGA okNA nsA (by simp) 9 (by decide) _ 0 1 (by omega) rfl rfl) ⟨Le.refl _, hroot, Le.refl _, trivial⟩ ⟨((solveM esA rootA 9).1, (solveM esA rootA 9).2.1, B (solveM esA rootA 9).2.2), rfl, rfl, ?_⟩
  rw [solveA]
  refine condE (fun _ => ?_) fun h => (h rfl).elim
  refine condS (a := []) (b := []) (fun _ => ?_) fun h => (h rfl).elim
  refine condE (fun _ => ?_) fun h => (h rfl).elim
  refine needJ ⟨by decide, by decide⟩ (condB (fun _ => needJ ⟨by decide, by decide⟩ (pa ?_)) fun h => ?_)
  ·show Le (AV.bool ((B [98]).toList == (B [98]).toList && ((8 : Int) == 8 && true))) _
   rw [B_toList]; exact Le.refl _
  ·have h : ((B [97]).toList == (B [97]).toList && ((4 : Int) == 4 && true)) = false := h
   rw [B_toList] at h
   cases h
 exact ASpec.pureH H k _ _ rfl rfl
theorem wake (H : List AObj) : ASpec Tryz.prog 26 [] H (fun r H' => ∃ x : Unit, r = .bool true ∧ H' = H ∧ PB true (.bool true) H) := ASpec.call (awake_spec _) (Les.refl _) ⟨(), rfl, rfl, pb rfl⟩
theorem plainAsks_spec (e : List Ent) (c : Ch) (s : List UInt8) : ASpec Tryz.prog 6 [slE e, .agg (encCh c), .str (B s)] [] (fun r H' => r = .bool true ∧ H' = []) := by
 refine ASpec.sel (s6 e c s (PB true) (ASpec.call (largeD_spec e _) (Les.refl _) ⟨_, rfl, rfl, condB (fun _ => wake _) fun h1 => ?_⟩))
 refine ASpec.call (largeN_spec c.1 _) (Les.refl _) ⟨_, rfl, rfl, condB (fun _ => wake _) fun h3 => ?_⟩
 have he := largeD_ok h1
 have h30 := he.1
 have hr : c.1.length ≤ 40 := by
  unfold largeN at h3
  split at h3
  ·cases h3
  ·omega
 have hN := largeN_ok h3
 refine ASpec.call (rneedCheck_spec c.1 hN _) (Les.refl _) ⟨_, rfl, rfl, condBn (fun _ => wake _) fun hc => ?_⟩
 have hns := (ns_of hc).1
 refine ASpec.call (Dk.large_spec c.2 _) (Les.refl _) ⟨_, rfl, rfl, condB (fun _ => wake _) fun h4 => ?_⟩
 obtain ⟨hl, hp⟩ := largeK_ok h4
 refine ASpec.call (Dk.rchk_spec (s := c.2) (by omega) (fun p h => by have := hp p h; omega) _) (Les.refl _) ⟨_, rfl, rfl, condBn (fun _ => wake _) fun hck => ?_⟩
 have hu : UpK c.2 := chk_up hck
 refine condD (fun _ => wake _) fun hs => ?_
 have hsm : smE e := ⟨by omega, he.2⟩
 have hX := okX_of e [] okX_nil
 have hG := okG_of e [] okG_nil
 have hR := rel_of e [] [] rel0
 have hkl := ofKd_len e []
 simp only [List.length_nil] at hkl
 refine ASpec.call (Xd.xof_spec e hsm _) (Les.refl _) ⟨ofI e [], rfl, rfl, ?_⟩
 refine ASpec.call (Xd.of_spec e hsm _) (Les.refl _) ⟨ofKd e [], rfl, rfl, ?_⟩
 refine ASpec.call (next_at hX hG (l := c.2) (by omega) (by omega) _ 1 2 (by omega) rfl rfl) (Les.refl _) ⟨(B (nextM (ofI e []) c.1 c.2).1, (nextM (ofI e []) c.1 c.2).2), rfl, rfl, ?_⟩
 refine ASpec.call (rnext_spec hX hG (l := c.2) (by omega) hR (by omega) hu (by omega) _) (Les.refl _) ⟨(B (nextM (ofI e []) c.1 c.2).1, (nextM (ofI e []) c.1 c.2).2), rfl, rfl, ?_⟩
 refine condS (fun _ => ?_) fun h => (h rfl).elim
 refine condB (fun _ => ?_) fun h => by simp at h
 refine ASpec.call (asked_at hX hG (l := c.2) (by omega) hN hns s _ 1 2 (by omega) rfl rfl) (Les.refl _) ⟨askedM (ofI e []) c.1 c.2 s, rfl, rfl, ?_⟩
 repeat refine ⟨⟨rfl, rfl⟩, ?_⟩
 refine ASpec.call (rasked_spec hX hG (l := c.2) (by omega) hN hns hR (by omega) s _) (Les.refl _) ⟨askedM (ofI e []) c.1 c.2 s, rfl, rfl, ?_⟩
 refine ASpec.call (Sg.same_spec _ _ ?_ _) (Les.refl _) ⟨_, rfl, rfl, condB (fun _ => wake _) fun h => by simp at h⟩
 have := Sg.ok_len (asked_ok hG hns c.2 s)
 omega
end Ps
end
