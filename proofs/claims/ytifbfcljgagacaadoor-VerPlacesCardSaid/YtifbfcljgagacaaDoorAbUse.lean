/- Lemmas by which the printed conditions are met. -/
import Derived.Test.YtifbfcljgagacaaDoorAbGraft
import Derived.Laws.Strings
set_option linter.unusedVariables false
set_option linter.unusedSimpArgs false
namespace Go.Ab

def Les : List AV → List AV → Prop
  | [], [] => True
  | a :: l, b :: r => Le a b ∧ Les l r
  | _, _ => False

theorem Les.refl : ∀ l, Les l l
  | [] => trivial
  | a :: l => ⟨Le.refl a, Les.refl l⟩

theorem Les.len : ∀ {l r : List AV}, Les l r → l.length = r.length
  | [], [], _ => rfl
  | a :: l, b :: r, h => by simp [Les.len h.2]
  | [], _ :: _, h => h.elim
  | _ :: _, [], h => h.elim

theorem Les.get : ∀ {l r : List AV}, Les l r → ∀ i (h : i < l.length) (h' : i < r.length), Le l[i] r[i]
  | a :: l, b :: r, h, 0, _, _ => h.1
  | a :: l, b :: r, h, i + 1, h1, h2 => Les.get h.2 i (by simpa using h1) (by simpa using h2)
  | [], _, _, i, h, _ => by simp at h
  | _ :: _, [], h, _, _, _ => h.elim

section
variable {P : Program} {n : Nat}

theorem ASpec.le {f : FuncId} {args args' : List AV} {H : List AObj} {Post : AV → List AObj → Prop} (k : ASpec P f args' H Post) (hle : Les args args') : ASpec P f args H Post := by
  intro M loc w vs ht hr hv
  obtain ⟨h1, h2⟩ := hv
  have hl := hle.len
  exact k M loc w vs ht hr ⟨by omega, fun i hi => hle.get i (by omega) hi M w loc _ (h2 i (by omega))⟩

/-- a call of what is known -/
theorem ASpec.call {f : FuncId} {args args' : List AV} {H H0 : List AObj} {r0 : AV} {Post : AV → List AObj → Prop} (k : ASpec P f args' H (fun r H' => r = r0 ∧ H' = H0)) (hle : Les args args') (h : Post r0 H0) : ASpec P f args H Post :=
  (k.le hle).mono fun r H' ⟨e1, e2⟩ => by subst e1 e2; exact h

/-- what sees nothing of the heap holds in any -/
theorem ASpec.anyH {f : FuncId} {args : List AV} {r0 : AV} {Hl : List AObj} (H : List AObj) (k : ASpec P f args [] (fun r H' => r = r0 ∧ H' = Hl)) (args' : List AV) (r' : AV) (Hl' : List AObj)
    (ha : args.map (AV.ren (callR [] H.length)) = args') (hr : AV.ren (callR [] H.length) r0 = r') (hh : Hl.map (AObj.ren (callR [] H.length)) = Hl') :
    ASpec P f args' H (fun r H' => r = r' ∧ H' = H ++ Hl') := by
  subst ha hr hh
  refine (ASpec.graft [] k (by simp) rfl rfl (fun i h => by simp at h)).mono fun r H' hx => ?_
  obtain ⟨rl, Hl2, ⟨e1, e2⟩, _, e3, e4⟩ := hx
  subst e1 e2 e3 e4
  exact ⟨rfl, by simp [graftH, grafted]⟩

/-- what sees nothing of the heap and leaves nothing there -/
theorem ASpec.pureH {f : FuncId} {args : List AV} {r0 : AV} (H : List AObj) (k : ASpec P f args [] (fun r H' => r = r0 ∧ H' = [])) (args' : List AV) (r' : AV)
    (ha : args.map (AV.ren (callR [] H.length)) = args') (hr : AV.ren (callR [] H.length) r0 = r') :
    ASpec P f args' H (fun r H' => r = r' ∧ H' = H) := by
  have := ASpec.anyH H k args' r' [] ha hr rfl
  simpa using this

/-- what sees one object of the heap, and gives no other back -/
theorem ASpec.oneH {f : FuncId} {args : List AV} {r0 : AV} {o o' : AObj} (H : List AObj) (id : Nat) (k : ASpec P f args [o] (fun r H' => r = r0 ∧ H' = [o'])) (args' : List AV) (r' : AV) (q' : AObj)
    (ha : args.map (AV.ren (callR [id] H.length)) = args') (hr : AV.ren (callR [id] H.length) r0 = r') (hH : H[id]? = some (AObj.ren (callR [id] H.length) o)) (hq : AObj.ren (callR [id] H.length) o' = q') :
    ASpec P f args' H (fun r H' => r = r' ∧ H' = H.set id q') := by
  subst ha hr hq
  refine (ASpec.graft [id] k (by simp) rfl rfl (fun i h => ?_)).mono fun r H' hx => ?_
  · have : i = 0 := by simpa using h
    subst this
    simpa using hH
  · obtain ⟨rl, Hl2, ⟨e1, e2⟩, _, e3, e4⟩ := hx
    subst e1 e2 e3 e4
    exact ⟨rfl, by simp [graftH, grafted]⟩

def Slots2 (R : AV → AV → Prop) : Slots → Slots → Prop
  | [], [] => True
  | (i, a) :: s, (j, b) :: t => i = j ∧ R a b ∧ Slots2 R s t
  | _, _ => False

theorem Slots2.get {R : AV → AV → Prop} (h0 : R .bad .bad) : ∀ {s t : Slots}, Slots2 R s t → ∀ d, R (get s d) (get t d)
  | [], [], _, d => h0
  | (i, a) :: s, (j, b) :: t, h, d => by
    obtain ⟨rfl, h1, h2⟩ := h
    simp only [Ab.get]
    cases Nat.beq i d with
    | true => exact h1
    | false => exact Slots2.get h0 h2 d
  | [], _ :: _, h, _ => h.elim
  | _ :: _, [], h, _ => h.elim

def renS (ρ : Nat → Nat) (s : Slots) : Slots := s.map fun p => (p.1, AV.ren ρ p.2)

theorem get_renS (ρ : Nat → Nat) : ∀ (s : Slots) d, get (renS ρ s) d = AV.ren ρ (get s d)
  | [], d => rfl
  | (i, a) :: s, d => by
    simp only [renS, List.map_cons, get]
    cases Nat.beq i d with
    | true => rfl
    | false => exact get_renS ρ s d

/-- another spelling of a state, and a choice among its objects -/
theorem AWP.shape {N : Nat} {c : Code} {s : Slots} {H : List AObj} {Q : AQ} (l : List Nat) (s2 : Slots) (H2 : List AObj) (hsel : Sel n l H H2)
    (hs : Slots2 (fun a b => Le a (AV.ren (selR l H.length) b)) s s2) (k : AWP P N n c s2 H2 Q) : AWP P N n c s H Q := by
  intro M loc w a h0
  refine AWP.re (ReSt.trans (ReSt.le (s2 := renS (selR l H.length) s2) (fun d => ?_) h0) (ReSt.sel hsel fun d => .inl (get_renS _ _ _))) k M loc w a h0
  rw [get_renS]
  exact Slots2.get (R := fun a b => Le a (AV.ren (selR l H.length) b)) (Le.refl _) hs d

/-- another spelling of a state -/
theorem AWP.spell {N : Nat} {c : Code} {s : Slots} {H : List AObj} {Q : AQ} (s2 : Slots) (hs : Slots2 Le s s2) (k : AWP P N n c s2 H Q) : AWP P N n c s H Q := by
  intro M loc w a h0
  exact AWP.re (ReSt.le (fun d => Slots2.get (Le.refl _) hs d) h0) k M loc w a h0

theorem Sel.one {o o' : AObj} {H : List AObj} (i : Nat) (h : H[i]? = some o) (e : AObj.ren (selR [i] H.length) o' = o) : Sel 0 [i] H [o'] := by
  refine ⟨by simp, rfl, by omega, by simp, fun j hj => ?_⟩
  have : j = 0 := by simpa using hj
  subst this
  left; simpa [e] using h

theorem Sel.none {H : List AObj} : Sel 0 [] H [] := ⟨by simp, rfl, by omega, by simp, fun j hj => by simp at hj⟩

end

theorem wrap64 {x : Int} (h1 : -9223372036854775808 ≤ x) (h2 : x ≤ 9223372036854775807) : IntKind.wrap .i64 x = x := by
  simp only [IntKind.wrap, IntKind.bits, IntKind.signed]
  have e : (2 : Int) ^ 64 = 18446744073709551616 := by decide
  have e2 : (2 : Int) ^ (64 - 1) = 9223372036854775808 := by decide
  simp only [e, e2, Bool.true_and, decide_eq_true_eq]
  split <;> omega

theorem wrapN {n : Nat} (h : n ≤ 9223372036854775807) : IntKind.wrap .i64 (n : Int) = n := wrap64 (by omega) (by omega)

theorem wrapU8 {x : Int} : IntKind.wrap .u8 x = x % 256 := by
  simp only [IntKind.wrap, IntKind.bits, IntKind.signed]
  have e : (2 : Int) ^ 8 = 256 := by decide
  simp only [e, Bool.false_and]
  simp

theorem condP_iff {b : Bool} {A B : Prop} : condP b A B ↔ (b = true → A) ∧ (b = false → B) := by cases b <;> simp [condP]

theorem condD {p : Prop} [Decidable p] {A B : Prop} (h1 : p → A) (h2 : ¬ p → B) : condP (decide p) A B := by
  by_cases h : p
  · rw [decide_eq_true h]; exact h1 h
  · rw [decide_eq_false h]; exact h2 h

theorem condB {b : Bool} {A B : Prop} (h1 : b = true → A) (h2 : b = false → B) : condP b A B := by cases b <;> simp_all [condP]

theorem condE {a b : Int} {A B : Prop} (h1 : a = b → A) (h2 : a ≠ b → B) : condP (a == b) A B := by
  by_cases h : a = b
  · rw [beq_iff_eq.2 h]; exact h1 h
  · rw [beq_eq_false_iff_ne.2 h]; exact h2 h

theorem condNe {a b : Int} {A B : Prop} (h1 : a ≠ b → A) (h2 : a = b → B) : condP (a != b) A B := by
  by_cases h : a = b
  · rw [bne, beq_iff_eq.2 h]; exact h2 h
  · rw [bne, beq_eq_false_iff_ne.2 h]; exact h1 h

theorem needI {p A : Prop} (h : p) (k : p → A) : needP p A := ⟨h, k⟩
theorem needJ {p A : Prop} (h : p) (k : A) : needP p A := ⟨h, fun _ => k⟩

theorem oneB : ∀ x : UInt8, List.all (encB x) oneAV = true := fun _ => rfl
theorem oneI : ∀ x : Int, List.all (encI x) oneAV = true := fun _ => rfl

theorem bytesOf_map (l : List UInt8) : bytesOf (.map encB 0 l) = ⟨l.toArray⟩ := by
  simp only [bytesOf, Seq.toList, List.map_map]
  congr 2
  have : cellByte ∘ encB = id := by
    funext b
    show UInt8.ofNat (Int.toNat (b.toNat : Int)) = b
    rw [Int.toNat_natCast]
    exact UInt8.ofNat_toNat
  rw [this, List.map_id]

theorem allBytes_map (l : List UInt8) : allBytes (.map encB 0 l) := by
  intro x hx
  simp only [Seq.toList, List.mem_map] at hx
  obtain ⟨b, _, rfl⟩ := hx
  exact ⟨_, rfl⟩

/-- a byte's cell out of a number -/
theorem encB_ofNat {x : Int} (h0 : 0 ≤ x) (h1 : x < 256) : [AV.int .u8 x] = encB (UInt8.ofNat x.toNat) := by
  simp only [encB]
  rw [UInt8.toNat_ofNat']
  congr 2
  have : x.toNat % 2 ^ 8 = x.toNat := Nat.mod_eq_of_lt (by omega)
  omega

end Go.Ab
