/- SealPacks: the bytes of any reply, and the reply of any bytes, are the document's: the law's function returns true. -/
import Derived.Test.YtifbfcljgagacaaVFit
set_option linter.unusedVariables false
set_option linter.unusedSimpArgs false
set_option maxRecDepth 100000
open Go Go.Ab Go.Proofs V
namespace S

def txt (s : List UInt8) : List UInt8 := enc (held s.length) ++ s
def packM (s body : List UInt8) : List UInt8 := if fitM s = true ∧ body.length ≤ 8192 then sealM (txt s ++ txt body) else []

theorem txt_len (s : List UInt8) : (txt s).length ≤ s.length + 6 := by
  have := enc_length (held s.length) (held_le _)
  simp [txt]; omega

def takeM (x : List UInt8) : List UInt8 × List UInt8 × Int :=
  if closeM (strM x (strM x 0 0 24).2.1 (strM x 0 0 24).2.2 8192).2.2 (x.length - (strM x (strM x 0 0 24).2.1 (strM x 0 0 24).2.2 8192).2.1) ≠ 0 then
    ([], [], closeM (strM x (strM x 0 0 24).2.1 (strM x 0 0 24).2.2 8192).2.2 (x.length - (strM x (strM x 0 0 24).2.1 (strM x 0 0 24).2.2 8192).2.1))
  else if fitM (strM x 0 0 24).1 = true then ((strM x 0 0 24).1, (strM x (strM x 0 0 24).2.1 (strM x 0 0 24).2.2 8192).1, 0) else ([], [], 3)

def sOpenM (b : List UInt8) : List UInt8 × List UInt8 × Int := if (openM b).2 = true then takeM (openM b).1 else ([], [], 8)


theorem pack_spec (s body : List UInt8) (hs : s.length ≤ 10000) (hb : body.length ≤ 1000000) (H : List AObj) :
    ASpec Try.prog 35 [.str (B s), .sl 1 (.map encB 0 body) .none] H (fun r H' => r = .sl 1 (.map encB 0 (packM s body)) .none ∧ H' = H) := by
  have k : ASpec Try.prog 35 [.str (B s), .sl 1 (.map encB 0 body) .none] [] (fun r H' => r = .sl 1 (.map encB 0 (packM s body)) .none ∧ H' = []) := by
    have hno : ∀ (h : ¬ (fitM s = true ∧ body.length ≤ 8192)), ∃ l H2 r2, Sel 0 l [] H2 ∧ Le (.sl 0 (.raw []) .nil) (AV.ren (selR l 0) r2) ∧ r2 = .sl 1 (.map encB 0 (packM s body)) .none ∧ H2 = [] := by
      intro h
      refine ⟨[], [], .sl 1 (.map encB 0 (packM s body)) .none, Sel.none, ?_, rfl, rfl⟩
      rw [packM, if_neg h]
      exact Le.sl (s' := Seq.ren _ (.map encB 0 [])) rfl (.inr ⟨rfl, fun _ h => by cases h⟩) (.inr rfl)
    have ht := txt_len s
    refine ASpec.sel (s35 _ _ _ (ASpec.call (fit_spec (by unfold big; omega) []) (Les.refl _) ⟨_, rfl, rfl, condBn (fun hf => hno (by rw [hf]; simp)) fun hf => condD (fun hg => hno (by omega)) fun hg => needJ (allBytes_map _) ?_⟩))
    rw [bytesOf_map]
    refine ASpec.call (text_spec [] s (by unfold big; simp; omega) []) ⟨leNil, Le.refl _, trivial⟩ ⟨_, rfl, rfl, ?_⟩
    have e : ([] : List UInt8) ++ enc (held s.length) ++ s = txt s := by simp [txt]
    rw [e]
    refine ASpec.call (text_spec (txt s) body (by unfold big; omega) [.tok]) ⟨Le.sl rfl (.inl rfl) (.inr rfl), Le.refl _, trivial⟩ ⟨_, rfl, rfl, ?_⟩
    have e2 : txt s ++ enc (held body.length) ++ body = txt s ++ txt body := by simp [txt]
    rw [e2]
    have ht2 := txt_len body
    refine ASpec.call (seal_spec (txt s ++ txt body) (by unfold big; simp; omega) [.tok, .tok]) ⟨Le.sl rfl (.inl rfl) (.inr rfl), trivial⟩ ⟨_, rfl, rfl, [], [], .sl 1 (.map encB 0 (packM s body)) .none, Sel.none, ?_, rfl, rfl⟩
    rw [packM, if_pos ⟨hf, by omega⟩]
    exact sealLe _ rfl
  exact ASpec.pureH H k _ _ rfl rfl

theorem rpack_spec (s body : List UInt8) (hs : s.length ≤ 10000) (hb : body.length ≤ 1000000) (H : List AObj) :
    ASpec Try.prog 36 [.str (B s), .str (B body)] H (fun r H' => r = .str (B (packM s body)) ∧ H' = H) := by
  have k : ASpec Try.prog 36 [.str (B s), .str (B body)] [] (fun r H' => r = .str (B (packM s body)) ∧ H' = []) := by
    have ht := txt_len s
    have ht2 := txt_len body
    have hno : ∀ (h : ¬ (fitM s = true ∧ body.length ≤ 8192)), B [] = B (packM s body) := by
      intro h; rw [packM, if_neg h]
    refine s36 _ _ _ (ASpec.call (rfit_spec (by unfold big; omega) []) (Les.refl _) ⟨_, rfl, rfl, condBn (fun hf => ⟨by rw [← hno (by rw [hf]; simp)], rfl⟩) fun hf => condD (fun hg => ⟨by rw [← hno (by rw [B_size] at hg; omega)], rfl⟩) fun hg => ?_⟩)
    rw [B_size] at hg
    refine ASpec.call (rtext_spec s (by unfold big; omega) []) (Les.refl _) ⟨_, rfl, rfl, ?_⟩
    refine ASpec.call (rtext_spec body (by unfold big; omega) []) (Les.refl _) ⟨_, rfl, rfl, needJ ?_ ?_⟩
    · have e1 : (enc (held s.length) ++ s).length = (txt s).length := rfl
      have e2 : (enc (held body.length) ++ body).length = (txt body).length := rfl
      simp only [B_size, e1, e2]; omega
    · simp only [B_append]
      refine ASpec.call (rseal_spec (txt s ++ txt body) (by unfold big; simp; omega) []) (Les.refl _) ⟨_, rfl, rfl, ?_⟩
      rw [packM, if_pos ⟨hf, by omega⟩]
      exact ⟨rfl, trivial⟩
  exact ASpec.pureH H k _ _ rfl rfl

theorem openM_len (b : List UInt8) : (openM b).1.length ≤ b.length := by
  unfold openM
  repeat' split
  all_goals simp

theorem open_spec (b : List UInt8) (hb : b.length ≤ 1000000) (H : List AObj) :
    ASpec Try.prog 33 [.sl 1 (.map encB 0 b) .none] H (fun r H' => r = .tup [.str (B (sOpenM b).1), .sl 1 (.map encB 0 (sOpenM b).2.1) .none, .int .i64 (sOpenM b).2.2] ∧ H' = H) := by
  have k : ASpec Try.prog 33 [.sl 1 (.map encB 0 b) .none] [] (fun r H' => r = .tup [.str (B (sOpenM b).1), .sl 1 (.map encB 0 (sOpenM b).2.1) .none, .int .i64 (sOpenM b).2.2] ∧ H' = []) := by
    have fin : ∀ (Hx : List AObj) (e : Int), sOpenM b = ([], [], e) → ∃ l H2 r2, Sel 0 l Hx H2 ∧ Le (.tup [.str (B []), .sl 0 (.raw []) .nil, .int .i64 e]) (AV.ren (selR l Hx.length) r2) ∧
        r2 = .tup [.str (B (sOpenM b).1), .sl 1 (.map encB 0 (sOpenM b).2.1) .none, .int .i64 (sOpenM b).2.2] ∧ H2 = [] := by
      intro Hx e he
      rw [he]
      exact ⟨[], [], .tup [.str (B []), .sl 1 (.map encB 0 []) .none, .int .i64 e], Sel.none,
        Le.tup ⟨Le.refl _, Le.sl (s' := Seq.ren _ (.map encB 0 [])) rfl (.inr ⟨rfl, fun _ h => by cases h⟩) (.inr rfl), Le.refl _, trivial⟩, rfl, rfl⟩
    have hlen := openM_len b
    refine ASpec.sel (s33 _ _ (ASpec.call (sopen_spec b (by unfold big; omega) []) (Les.refl _) ⟨openM b, rfl, rfl, condBn (fun h => ?_) fun h => ?_⟩))
    · exact fin [] 8 (by rw [sOpenM, if_neg (by rw [h]; simp)])
    have hS : sOpenM b = takeM (openM b).1 := by rw [sOpenM, if_pos h]
    generalize (openM b).1 = x at hlen hS ⊢
    have hx : x.length ≤ big := by unfold big; omega
    have hd := str_doc x 0 0 24 (by omega)
    have hd2 := str_doc x (strM x 0 0 24).2.1 (strM x 0 0 24).2.2 8192 hd.2
    rw [takeM] at hS
    refine ASpec.call (V.open_spec x hx []) (Les.refl _) ⟨x, rfl, rfl, ?_⟩
    refine ASpec.call (str_spec (id := 0) (bs := x) (p := 0) (e := 0) 24 hx (by omega) rfl) (Les.refl _) ⟨(B (strM x 0 0 24).1, ((strM x 0 0 24).2.1 : Nat), (strM x 0 0 24).2.2), rfl, rfl, ?_⟩
    refine ASpec.call (str_spec (id := 0) (bs := x) (p := (strM x 0 0 24).2.1) (e := (strM x 0 0 24).2.2) 8192 hx hd.2 rfl) (Les.refl _)
      ⟨(B (strM x (strM x 0 0 24).2.1 (strM x 0 0 24).2.2 8192).1, ((strM x (strM x 0 0 24).2.1 (strM x 0 0 24).2.2 8192).2.1 : Nat), (strM x (strM x 0 0 24).2.1 (strM x 0 0 24).2.2 8192).2.2), rfl, rfl, ?_⟩
    generalize strM x 0 0 24 = a at hS hd hd2 ⊢
    generalize strM x a.2.1 a.2.2 8192 = c at hS hd2 ⊢
    refine ASpec.call (close_spec (id := 0) (bs := x) (p := c.2.1) (e := c.2.2) hx hd2.2 rfl) (Les.refl _) ⟨_, rfl, rfl, condNe (fun hne => ?_) fun heq => ?_⟩
    · refine fin _ _ ?_
      rw [hS, if_pos hne]
    have ha : a.1.length ≤ x.length := by
      have h1 := congrArg (fun q : List UInt8 × List UInt8 × Int => q.1.length) hd.1
      simp only at h1
      rw [← h1]
      unfold dstrM
      repeat' split
      all_goals (simp; try omega)
    refine ASpec.call (fit_spec (l := a.1) (by unfold big; omega) _) (Les.refl _) ⟨_, rfl, rfl, condBn (fun hf => ?_) fun hf => ?_⟩
    · refine fin _ _ ?_
      rw [hS, if_neg (by rw [heq]; simp), if_neg (by rw [hf]; simp)]
    · rw [hS, if_neg (by rw [heq]; simp), if_pos hf]
      exact ⟨[], [], .tup [.str (B a.1), .sl 1 (.map encB 0 c.1) .none, .int .i64 0], Sel.none, Le.tup ⟨Le.refl _, sealLe _ rfl, Le.refl _, trivial⟩, rfl, rfl⟩
  exact ASpec.pureH H k _ _ rfl rfl

theorem ropen_spec (b : List UInt8) (hb : b.length ≤ 1000000) (H : List AObj) :
    ASpec Try.prog 34 [.str (B b)] H (fun r H' => r = .tup [.str (B (sOpenM b).1), .str (B (sOpenM b).2.1), .int .i64 (sOpenM b).2.2] ∧ H' = H) := by
  have k : ASpec Try.prog 34 [.str (B b)] [] (fun r H' => r = .tup [.str (B (sOpenM b).1), .str (B (sOpenM b).2.1), .int .i64 (sOpenM b).2.2] ∧ H' = []) := by
    have hlen := openM_len b
    refine s34 _ _ (ASpec.call (rsopen_spec b (by unfold big; omega) []) (Les.refl _) ⟨(B (openM b).1, (openM b).2), rfl, rfl, condBn (fun h => ?_) fun h => ?_⟩)
    · rw [sOpenM, if_neg (by rw [h]; simp)]
      exact ⟨rfl, rfl⟩
    have hS : sOpenM b = takeM (openM b).1 := by rw [sOpenM, if_pos h]
    generalize (openM b).1 = x at hlen hS ⊢
    have hx : x.length ≤ 10 * big := by unfold big; omega
    have hd := str_doc x 0 0 24 (by omega)
    have hd2 := str_doc x (strM x 0 0 24).2.1 (strM x 0 0 24).2.2 8192 hd.2
    rw [takeM] at hS
    rw [List.drop_zero] at hd
    have c1 := dstr_spec (H := [dr x 0]) (id := 0) (l := x) (e := 0) 24 hx rfl
    rw [hd.1] at c1
    refine ASpec.call c1 (Les.refl _) ⟨(B (strM x 0 0 24).1, B (x.drop (strM x 0 0 24).2.1), (strM x 0 0 24).2.2), rfl, rfl, ?_⟩
    have c2 := dstr_spec (H := [dr (x.drop (strM x 0 0 24).2.1) (strM x 0 0 24).2.2]) (id := 0) (l := x.drop (strM x 0 0 24).2.1) (e := (strM x 0 0 24).2.2) 8192 (by rw [List.length_drop]; omega) rfl
    rw [hd2.1] at c2
    refine ASpec.call c2 (Les.refl _) ⟨(B (strM x (strM x 0 0 24).2.1 (strM x 0 0 24).2.2 8192).1, B (x.drop (strM x (strM x 0 0 24).2.1 (strM x 0 0 24).2.2 8192).2.1), (strM x (strM x 0 0 24).2.1 (strM x 0 0 24).2.2 8192).2.2), rfl, rfl, ?_⟩
    generalize strM x 0 0 24 = a at hS hd hd2 ⊢
    generalize strM x a.2.1 a.2.2 8192 = c at hS hd2 ⊢
    have c3 := dclose_spec (H := [dr (x.drop c.2.1) c.2.2]) (id := 0) (l := x.drop c.2.1) (e := c.2.2) rfl
    rw [List.length_drop] at c3
    refine ASpec.call c3 (Les.refl _) ⟨_, rfl, rfl, ?_⟩
    have ha : a.1.length ≤ x.length := by
      have h1 := congrArg (fun q : List UInt8 × List UInt8 × Int => q.1.length) hd.1
      simp only at h1
      rw [← h1]
      unfold dstrM
      repeat' split
      all_goals (simp; try omega)
    have last : ∀ e : Int, (if e ≠ 0 then ([], [], e) else (a.1, c.1, 0)) = sOpenM b → AWP Try.prog 39 0 c34_10 [(8, .str (B a.1)), (9, .str (B c.1)), (10, .int .i64 e)] [dr (x.drop c.2.1) c.2.2] (q34_0 0 (fun r H' => r = .tup [.str (B (sOpenM b).1), .str (B (sOpenM b).2.1), .int .i64 (sOpenM b).2.2] ∧ H' = [])) := by
      intro e he
      refine AWP.shape [] [(8, .str (B a.1)), (9, .str (B c.1)), (10, .int .i64 e)] [] Sel.none ⟨rfl, Le.refl _, rfl, Le.refl _, rfl, Le.refl _, trivial⟩ (v34_10 (B a.1) (B c.1) e _ _ (condNe (fun hne => ?_) fun heq => ?_))
      · rw [if_pos hne] at he
        rw [← he]; exact ⟨rfl, rfl⟩
      · rw [if_neg (by rw [heq]; simp)] at he
        rw [← he]; exact ⟨rfl, rfl⟩
    refine condE (fun h0 => ?_) fun h0 => last _ ?_
    · rw [if_neg (by rw [h0]; simp)] at hS
      refine ASpec.call (rfit_spec (l := a.1) (by omega) _) (Les.refl _) ⟨_, rfl, rfl, condBn (fun hf => last _ ?_) fun hf => last _ ?_⟩
      · rw [if_pos (by omega), hS, if_neg (by rw [hf]; simp)]
      · rw [if_neg (by rw [h0]; simp), hS, if_pos hf]
    · rw [if_pos h0] at hS
      rw [if_pos h0, hS]
  exact ASpec.pureH H k _ _ rfl rfl

theorem awake_spec (H : List AObj) : ASpec Try.prog 32 [] H (fun r H' => r = .bool true ∧ H' = H) := by
  have k : ASpec Try.prog 32 [] [] (fun r H' => r = .bool true ∧ H' = []) := by
    refine s32 _ (ASpec.call (pack_spec [97] [] (by simp) (by simp) []) ⟨Le.refl _, leNil, trivial⟩ ⟨_, rfl, rfl, ?_⟩)
    refine ASpec.call (open_spec [] (by simp) []) ⟨leNil, trivial⟩ ⟨(B (sOpenM []).1, (sOpenM []).2.1, (sOpenM []).2.2), rfl, rfl, ?_⟩
    have e1 : (packM [97] []).length = 7 := by decide +kernel
    have e3 : (packM [97] []).take 3 = [1, 97, 0] := by decide +kernel
    have e2 : (sOpenM []).2.2 = 8 := by decide +kernel
    simp only [e1, e2, List.drop_zero]
    refine condE (fun _ => needJ (by decide) (needJ (allBytes_map _) ?_)) fun h => (h rfl).elim
    rw [bytesOf_map, e3]
    exact condS (b := [1, 97, 0]) (fun _ => ⟨rfl, trivial⟩) fun h => (h rfl).elim
  exact ASpec.pureH H k _ _ rfl rfl

/-- THE LAW. -/
theorem sealPacks_spec (s body b : List UInt8) : ASpec Try.prog 7 [.str (B s), .sl 1 (.map encB 0 body) .none, .sl 1 (.map encB 0 b) .none] [] (fun r H' => r = .bool true ∧ H' = []) := by
  have haw : ASpec Try.prog 32 [] [] (fun r H' => ∃ x : Unit, r = .bool true ∧ H' = [] ∧ (AV.bool true = .bool true ∧ ([] : List AObj) = [])) := ASpec.call (awake_spec []) (Les.refl _) ⟨(), rfl, rfl, rfl, rfl⟩
  refine s7 _ _ _ _ ?_
  rw [B_size]
  refine condD (fun _ => haw) fun h1 => condD (fun _ => haw) fun h2 => condD (fun _ => haw) fun h3 => ?_
  refine v7_3 _ _ _ _ _ (ASpec.call (open_spec b (by omega) []) (Les.refl _) ⟨(B (sOpenM b).1, (sOpenM b).2.1, (sOpenM b).2.2), rfl, rfl, ?_⟩)
  refine v7_4 _ _ _ _ _ _ _ _ (needJ (allBytes_map _) ?_)
  rw [bytesOf_map]
  refine ASpec.call (ropen_spec b (by omega) []) (Les.refl _) ⟨(B (sOpenM b).1, B (sOpenM b).2.1, (sOpenM b).2.2), rfl, rfl, ?_⟩
  refine v7_5 _ _ _ _ _ _ _ _ _ _ (needJ (allBytes_map _) ?_)
  refine ASpec.call (pack_spec s body (by omega) (by omega) []) (Les.refl _) ⟨_, rfl, rfl, needJ (allBytes_map _) ?_⟩
  rw [bytesOf_map, bytesOf_map]
  refine ASpec.call (rpack_spec s body (by omega) (by omega) []) (Les.refl _) ⟨_, rfl, rfl, ?_⟩
  refine condS (fun _ => condS (fun _ => needJ (allBytes_map _) ?_) fun h => (h rfl).elim) fun h => (h rfl).elim
  rw [bytesOf_map]
  exact condS (fun _ => condE (fun _ => haw) fun h => (h rfl).elim) fun h => (h rfl).elim

end S
