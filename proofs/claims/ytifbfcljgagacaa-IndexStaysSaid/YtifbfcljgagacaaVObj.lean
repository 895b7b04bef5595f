/- Readers as objects, in any heap; the chapter's examples. -/
import Derived.Test.YtifbfcljgagacaaVRef
set_option linter.unusedVariables false
set_option linter.unusedSimpArgs false
open Go Go.Ab Go.Proofs
namespace V

/-- a reader stands at id -/
abbrev At (H : List AObj) (id : Nat) (bs : List UInt8) (p : Nat) (e : Int) : Prop := H[id]? = some (rd bs p e)

theorem rd_ren (ρ : Nat → Nat) (bs : List UInt8) (p e : Int) : AObj.ren ρ (rd bs p e) = rd bs p e := rfl

theorem num_spec {H : List AObj} {id : Nat} {bs : List UInt8} {p : Nat} {e : Int} (most : Int) (hb : bs.length ≤ big) (hp : p ≤ bs.length) (h : At H id bs p e) :
    ASpec Try.prog 22 [.ptr id 0, .int .i64 most] H (fun r H' => r = .int .i64 (numM bs p e most).1 ∧ H' = H.set id (rd bs (numM bs p e most).2.1 (numM bs p e most).2.2)) :=
  ASpec.oneH H id (num_spec0 e most hb hp) _ _ _ rfl rfl h rfl

theorem str_spec {H : List AObj} {id : Nat} {bs : List UInt8} {p : Nat} {e : Int} (most : Int) (hb : bs.length ≤ big) (hp : p ≤ bs.length) (h : At H id bs p e) :
    ASpec Try.prog 23 [.ptr id 0, .int .i64 most] H (fun r H' => r = .str (B (strM bs p e most).1) ∧ H' = H.set id (rd bs (strM bs p e most).2.1 (strM bs p e most).2.2)) :=
  ASpec.oneH H id (str_spec0 e most hb hp) _ _ _ rfl rfl h rfl

theorem set_same {α : Type _} {l : List α} {i : Nat} {a : α} (h : l[i]? = some a) : l.set i a = l := by
  apply List.ext_getElem?
  intro j
  rw [List.getElem?_set]
  split
  · rename_i e; subst e
    have := (List.getElem?_eq_some_iff.1 h).1
    simp only [this, if_true]
    exact h.symm
  · rfl

theorem err_spec {H : List AObj} {id : Nat} {bs : List UInt8} {p : Nat} {e : Int} (h : At H id bs p e) : ASpec Try.prog 24 [.ptr id 0] H (fun r H' => r = .int .i64 e ∧ H' = H) := by
  have k : ASpec Try.prog 24 [.ptr 0 0] [rd bs p e] (fun r H' => r = .int .i64 e ∧ H' = [rd bs p e]) := s24 _ _ _ _ ⟨rfl, rfl⟩
  have := ASpec.oneH H id k [.ptr id 0] (.int .i64 e) (rd bs p e) rfl rfl h rfl
  rw [set_same h] at this
  exact this

theorem left_spec {H : List AObj} {id : Nat} {bs : List UInt8} {p : Nat} {e : Int} (hb : bs.length ≤ big) (hp : p ≤ bs.length) (h : At H id bs p e) : ASpec Try.prog 25 [.ptr id 0] H (fun r H' => r = .int .i64 (bs.length - p : Nat) ∧ H' = H) := by
  have k : ASpec Try.prog 25 [.ptr 0 0] [rd bs p e] (fun r H' => r = .int .i64 (bs.length - p : Nat) ∧ H' = [rd bs p e]) := by
    refine s25 _ _ _ _ ⟨?_, rfl⟩
    unfold big at hb
    rw [wrap64 (by omega) (by omega)]
    congr 1
    omega
  have := ASpec.oneH H id k [.ptr id 0] (.int .i64 (bs.length - p : Nat)) (rd bs p e) rfl rfl h rfl
  rw [set_same h] at this
  exact this

theorem copied_all (bs : List UInt8) (l : List (List AV)) (hl : l.length = bs.length) : (copied (.raw l) 0 (.map encB 0 bs)).toList = bs.map encB := by
  simp [copied, Seq.toList, hl]

theorem open_spec (bs : List UInt8) (hb : bs.length ≤ big) (H : List AObj) : ASpec Try.prog 21 [.sl 1 (.map encB 0 bs) .none] H (fun r H' => r = .ptr H.length 0 ∧ H' = H ++ [rd bs 0 0]) := by
  have k : ASpec Try.prog 21 [.sl 1 (.map encB 0 bs) .none] [] (fun r H' => r = .ptr 0 0 ∧ H' = [rd bs 0 0]) := by
    unfold big at hb
    refine s21 _ _ _ (needJ ⟨by omega, by omega, by omega, by omega⟩ (needJ oneB (needJ (by simp) ?_)))
    generalize hq : copied _ _ _ = q
    have hq2 : q.toList = bs.map encB := by rw [← hq]; exact copied_all _ _ (by simp)
    refine AWP.re (ReSt.freeze (id := 0) (sz := 1) (q := q) (s2 := [(3, .sl 1 (.map encB 0 bs) .none)]) rfl (by simp) (fun d => ?_)) ?_
    · by_cases e : d = 3
      · subst e
        right; right
        exact ⟨0, bs.length, .map encB 0 bs, rfl, by rw [hq2]; simp, rfl, by rw [hq2]; simp [Seq.toList, List.take_of_length_le]⟩
      · left
        have : Nat.beq 3 d = false := by
          cases hx : Nat.beq 3 d with
          | false => rfl
          | true => exact absurd (Nat.eq_of_beq_eq_true hx).symm e
        simp only [Ab.get, this]; rfl
    · exact AWP.shape [] [(3, .sl 1 (.map encB 0 bs) .none)] [] Sel.none ⟨rfl, Le.refl _, trivial⟩ (v21_3 _ _ _ ⟨rfl, rfl⟩)
  exact ASpec.anyH H k _ _ _ rfl rfl rfl

theorem put_spec' {args : List AV} {bs : List UInt8} {ns : List Int} {H : List AObj} {Post : AV → List AObj → Prop} (hle : Les args [.sl 1 (.map encB 0 bs) .none, .sl 1 (.map encI 0 ns) .none]) (hb : bs.length + 7 * ns.length ≤ big)
    (h : Post (.sl 1 (.map encB 0 (putM bs ns)) (.tok H.length)) (H ++ [.tok])) : ASpec Try.prog 17 args H Post := ASpec.call (put_spec bs ns hb H) hle h

theorem leNil : Le (.sl 0 (.raw []) .nil) (.sl 1 (.map encB 0 []) .none) := Le.sl rfl (.inr ⟨rfl, fun _ h => by cases h⟩) (.inr rfl)
theorem leOne (x : Int) : Le (.sl 1 (.raw [[.int .i64 x]]) .full) (.sl 1 (.map encI 0 [x]) .none) := Le.sl rfl (.inl rfl) (.inr rfl)

theorem put1 (x : Int) (H : List AObj) {Post : AV → List AObj → Prop} (h : Post (.sl 1 (.map encB 0 (enc (held x))) (.tok H.length)) (H ++ [.tok])) : ASpec Try.prog 17 [.sl 0 (.raw []) .nil, .sl 1 (.raw [[.int .i64 x]]) .full] H Post :=
  put_spec' (bs := []) (ns := [x]) ⟨leNil, leOne x, trivial⟩ (by unfold big; simp) (by simpa [putM] using h)

theorem awake_spec (H : List AObj) : ASpec Try.prog 16 [] H (fun r H' => r = .bool true ∧ H' = H) := by
  refine ASpec.pureH H (args := []) (r0 := .bool true) ?_ _ _ rfl rfl
  refine ASpec.sel (s16 _ ?_)
  refine ASpec.call (open_spec [128, 5] (by decide) _) ⟨Le.sl rfl (.inl rfl) (.inr rfl), trivial⟩ ⟨_, rfl, rfl, ?_⟩
  refine ASpec.call (num_spec (id := 0) (bs := [128, 5]) (p := 0) (e := 0) 9 (by decide) (by decide) rfl) (Les.refl _) ⟨(0, 0, 3), rfl, rfl, ?_⟩
  refine put1 300 _ ⟨enc (held 300), rfl, rfl, needJ (allBytes_map _) ?_⟩
  rw [bytesOf_map]
  have e : enc (held 300) = [130, 44] := by decide +kernel
  rw [e]
  refine condB (fun _ => condB (fun _ => ?_) fun h => by simp at h) fun h => ?_
  · refine ASpec.call (err_spec (id := 0) (bs := [128, 5]) (p := 0) (e := 3) rfl) (Les.refl _) ⟨3, rfl, rfl, ?_⟩
    exact ⟨[], [], .bool true, Sel.none, Le.refl _, rfl, rfl⟩
  · simp at h

end V
