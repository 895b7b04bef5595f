/- VlqReads: whatever is read of any bytes is the document's: the law's function returns true. -/
import Derived.Test.YtifbfcljgagacaaVDoc
set_option linter.unusedVariables false
set_option linter.unusedSimpArgs false
open Go Go.Ab Go.Proofs
namespace V

section
variable {bs : List UInt8} {l : List (Int × Int)} {Post : AV → List AObj → Prop}

noncomputable abbrev st6 (l : List (Int × Int)) (i : Nat) : Slots := [(1, .sl 2 (.map encR (0, 0) l) .none), (5, .ptr 0 0), (6, .ptr 1 0), (7, .int .i64 i)]
noncomputable abbrev hp6 (bs : List UInt8) (p : Nat) (e : Int) : List AObj := [rd bs p e, dr (bs.drop p) e]

theorem r19 (hb : bs.length ≤ big) (p : Nat) (e : Int) (hp : p ≤ bs.length) (h : Post (.bool true) (hp6 bs p e)) :
    AWP Try.prog 155 0 c6_19 [(5, .ptr 0 0), (6, .ptr 1 0), (8, .nilp)] (hp6 bs p e) (q6_0 0 Post) := by
  refine v6_19 _ _ _ _ _ _ _ (ASpec.call (numn_spec 9 _) (Les.refl _) ⟨(0, 0, 0), rfl, rfl, condE (fun _ => ?_) fun h => (h rfl).elim⟩)
  refine ASpec.call (strn_spec 9 _) (Les.refl _) ⟨(B [], 0, 0), rfl, rfl, condS (b := []) (fun _ => ?_) fun h => (h rfl).elim⟩
  refine ASpec.call (leftn_spec _) (Les.refl _) ⟨0, rfl, rfl, condE (fun _ => ?_) fun h => (h rfl).elim⟩
  refine ASpec.call (errn_spec _) (Les.refl _) ⟨1, rfl, rfl, condE (fun _ => ?_) fun h => (h rfl).elim⟩
  refine ASpec.call (closen_spec _) (Les.refl _) ⟨1, rfl, rfl, condE (fun _ => ?_) fun h => (h rfl).elim⟩
  refine ASpec.call (left_spec (id := 0) (bs := bs) (p := p) (e := e) hb hp rfl) (Les.refl _) ⟨_, rfl, rfl, ⟨rfl, rfl⟩, ⟨rfl, rfl⟩, condE (fun _ => ?_) fun h => ?_⟩
  · exact ASpec.call (awake_spec _) (Les.refl _) ⟨(), rfl, rfl, h⟩
  · exact (h (by rw [B_size, List.length_drop])).elim

theorem r17 (hb : bs.length ≤ big) (p : Nat) (e : Int) (hp : p ≤ bs.length) (h : Post (.bool true) (hp6 bs p e)) :
    AWP Try.prog 155 0 c6_17 [(5, .ptr 0 0), (6, .ptr 1 0)] (hp6 bs p e) (q6_0 0 Post) :=
  v6_17 _ _ _ _ _ _ _ (ASpec.call (badn_spec 8 _) (Les.refl _) ⟨(0, 0), rfl, rfl, r19 hb p e hp h⟩)

theorem r15 (hb : bs.length ≤ big) (i p : Nat) (e : Int) (hp : p ≤ bs.length) (k : AWP Try.prog 155 0 c6_7 (st6 l i) (hp6 bs p e) (q6_3 0 Post)) :
    AWP Try.prog 155 0 c6_15 (st6 l i) (hp6 bs p e) (q6_5 0 Post) := by
  refine v6_15 _ _ _ _ _ _ _ _ _ _ (ASpec.call (left_spec (id := 0) (bs := bs) (p := p) (e := e) hb hp rfl) (Les.refl _) ⟨_, rfl, rfl, ⟨rfl, rfl⟩, ⟨rfl, rfl⟩, condNe (fun h => ?_) fun _ => ?_⟩)
  · exact (h (by rw [B_size, List.length_drop])).elim
  refine ASpec.call (err_spec (id := 0) (bs := bs) (p := p) (e := e) rfl) (Les.refl _) ⟨e, rfl, rfl, ⟨rfl, rfl⟩, condNe (fun h => (h rfl).elim) fun _ => ?_⟩
  refine ASpec.call (close_spec (id := 0) (bs := bs) (p := p) (e := e) hb hp rfl) (Les.refl _) ⟨_, rfl, rfl, ?_⟩
  refine ASpec.call (dclose_spec (id := 1) (l := bs.drop p) (e := e) rfl) (Les.refl _) ⟨_, rfl, rfl, condNe (fun h => ?_) fun _ => k⟩
  exact (h (by rw [List.length_drop])).elim

theorem r12 (hb : bs.length ≤ big) (i p : Nat) (e : Int) (hp : p ≤ bs.length) (hi : i < l.length) (k : ∀ e, AWP Try.prog 155 0 c6_15 (st6 l i) (hp6 bs p e) (q6_5 0 Post)) :
    AWP Try.prog 155 0 c6_12 (st6 l i) (hp6 bs p e) (q6_5 0 Post) := by
  have hbad : ASpec Try.prog 28 [.ptr 0 0, .int .i64 8] (hp6 bs p e) (fun r H' => ∃ x : Int × Int, r = .tup [] ∧ H' = [.cells [.sl 1 (.map encB 0 bs) .none, .int .i64 x.1, .int .i64 x.2], dr (bs.drop p) e] ∧
      ASpec Try.prog 29 [.ptr 1 0, .int .i64 8] [.cells [.sl 1 (.map encB 0 bs) .none, .int .i64 x.1, .int .i64 x.2], dr (bs.drop p) e] (fun r H' => ∃ y : ByteArray × Int, r = .tup [] ∧
        H' = [.cells [.sl 1 (.map encB 0 bs) .none, .int .i64 x.1, .int .i64 x.2], .cells [.str y.1, .int .i64 y.2]] ∧
        AWP Try.prog 155 0 c6_15 (st6 l i) [.cells [.sl 1 (.map encB 0 bs) .none, .int .i64 x.1, .int .i64 x.2], .cells [.str y.1, .int .i64 y.2]] (q6_5 0 Post))) := by
    refine ASpec.call (bad_spec (id := 0) (bs := bs) (p := p) (e := e) 8 rfl) (Les.refl _) ⟨((p : Int), badM e 8), rfl, rfl, ?_⟩
    exact ASpec.call (dbad_spec (id := 1) (l := bs.drop p) (e := e) 8 rfl) (Les.refl _) ⟨(B (bs.drop p), badM e 8), rfl, rfl, k _⟩
  refine v6_12 _ _ _ _ _ _ _ _ _ _ (needJ (by omega) (condD (fun _ => hbad) fun _ => needJ (by omega) (condD (fun _ => hbad) fun _ => k e)))

theorem r10 (hb : bs.length ≤ big) (i p : Nat) (e : Int) (hp : p ≤ bs.length) (hi : i < l.length) (k : ∀ p e, p ≤ bs.length → AWP Try.prog 155 0 c6_12 (st6 l i) (hp6 bs p e) (q6_5 0 Post)) :
    AWP Try.prog 155 0 c6_10 (st6 l i) (hp6 bs p e) (q6_5 0 Post) := by
  refine v6_10 _ _ _ _ _ _ _ _ _ _ (needJ (by omega) (condE (fun _ => needJ (by omega) (needJ (by omega) ?_)) fun _ => ⟨rfl, k p e hp⟩))
  rw [Int.toNat_natCast]
  generalize (List.getD l i (0, 0)).2 = most
  obtain ⟨hd, hq⟩ := str_doc bs p e most hp
  refine ASpec.call (str_spec (id := 0) (bs := bs) (p := p) (e := e) most hb hp rfl) (Les.refl _) ⟨(B (strM bs p e most).1, (((strM bs p e most).2.1 : Nat) : Int), (strM bs p e most).2.2), rfl, rfl, ⟨rfl, rfl⟩, ?_⟩
  have hs := dstr_spec (H := [rd bs (strM bs p e most).2.1 (strM bs p e most).2.2, dr (bs.drop p) e]) (id := 1) (l := bs.drop p) (e := e) most (by rw [List.length_drop]; unfold big at *; omega) rfl
  rw [hd] at hs
  refine ASpec.call hs (Les.refl _) ⟨(B (strM bs p e most).1, B (bs.drop (strM bs p e most).2.1), (strM bs p e most).2.2), rfl, rfl, condSn (fun h => (h rfl).elim) fun _ => ?_⟩
  exact k _ _ hq

theorem r6 (hb : bs.length ≤ big) (hP : ∀ p e, Post (.bool true) (hp6 bs p e)) : ∀ (m i p : Nat) (e : Int), m + i = 100 → p ≤ bs.length → AWP Try.prog 155 0 c6_6 (st6 l i) (hp6 bs p e) (q6_2 0 Post) := by
  intro m
  induction m with
  | zero =>
    intro i p e hm hp
    refine v6_6 _ _ _ _ _ _ _ _ _ _ (condD (fun _ => condD (fun h => by omega) fun _ => ?_) fun _ => ?_)
    · exact r17 hb p e hp (hP p e)
    · exact r17 hb p e hp (hP p e)
  | succ m ih =>
    intro i p e hm hp
    have kk : ∀ p e, p ≤ bs.length → i < l.length → AWP Try.prog 155 0 c6_10 (st6 l i) (hp6 bs p e) (q6_5 0 Post) := by
      intro p e hp hi
      refine r10 hb i p e hp hi fun p e hp => r12 hb i p e hp hi fun e => r15 hb i p e hp ?_
      refine v6_7 _ _ _ _ _ _ _ _ _ _ ?_
      rw [show IntKind.wrap .i64 ((i : Int) + 1) = ((i + 1 : Nat) : Int) by rw [wrap64 (by omega) (by omega)]; simp]
      exact ih (i + 1) p e (by omega) hp
    refine v6_6 _ _ _ _ _ _ _ _ _ _ (condD (fun hi => condD (fun _ => needJ (by omega) (condE (fun _ => needJ (by omega) (needJ (by omega) ?_)) fun _ => ⟨rfl, kk p e hp (by omega)⟩)) fun h => by omega) fun _ => r17 hb p e hp (hP p e))
    rw [Int.toNat_natCast]
    generalize (List.getD l i (0, 0)).2 = most
    obtain ⟨hd, hq⟩ := num_doc bs p e most hp
    refine ASpec.call (num_spec (id := 0) (bs := bs) (p := p) (e := e) most hb hp rfl) (Les.refl _) ⟨((numM bs p e most).1, (((numM bs p e most).2.1 : Nat) : Int), (numM bs p e most).2.2), rfl, rfl, ⟨rfl, rfl⟩, ?_⟩
    have hs := dnum_spec (H := [rd bs (numM bs p e most).2.1 (numM bs p e most).2.2, dr (bs.drop p) e]) (id := 1) (l := bs.drop p) (e := e) most (by rw [List.length_drop]; unfold big at *; omega) rfl
    rw [hd] at hs
    refine ASpec.call hs (Les.refl _) ⟨((numM bs p e most).1, B (bs.drop (numM bs p e most).2.1), (numM bs p e most).2.2), rfl, rfl, condNe (fun h => (h rfl).elim) fun _ => ?_⟩
    exact kk _ _ hq (by omega)

theorem vlqReads_spec (bs : List UInt8) (l : List (Int × Int)) :
    ASpec Try.prog 6 [.sl 1 (.map encB 0 bs) .none, .sl 2 (.map encR (0, 0) l) .none] [] (fun r H' => r = .bool true ∧ H' = []) := by
  refine ASpec.sel (s6 _ _ _ _ _ (condD (fun _ => ?_) fun hl => ?_))
  · exact ASpec.call (awake_spec []) (Les.refl _) ⟨(), rfl, rfl, [], [], .bool true, Sel.none, Le.refl _, rfl, rfl⟩
  · have hb : bs.length ≤ big := by unfold big; omega
    refine ASpec.call (open_spec bs hb []) (Les.refl _) ⟨bs, rfl, rfl, needJ (allBytes_map _) ?_⟩
    rw [bytesOf_map]
    exact r6 hb (fun p e => ⟨[], [], .bool true, Sel.none, Le.refl _, rfl, rfl⟩) 100 0 0 0 rfl (Nat.zero_le _)

end
end V
