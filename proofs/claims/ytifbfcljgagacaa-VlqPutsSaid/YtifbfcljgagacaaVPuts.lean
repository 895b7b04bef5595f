/- VlqPuts: the bytes of numbers and texts: the law's function returns true. -/
import Derived.Test.YtifbfcljgagacaaVBack
set_option linter.unusedVariables false
set_option linter.unusedSimpArgs false
open Go Go.Ab Go.Proofs
namespace V

theorem bytesOf_of {q : Ab.Seq} {l : List UInt8} (h : q.toList = l.map encB) : bytesOf q = B l := by
  have : bytesOf q = bytesOf (.map encB 0 l) := by simp only [bytesOf, h, Ab.Seq.toList]
  rw [this, bytesOf_map]
theorem allBytes_of {q : Ab.Seq} {l : List UInt8} (h : q.toList = l.map encB) : allBytes q := by
  have := allBytes_map l
  unfold allBytes at this ⊢
  rw [h]; exact this

theorem putM_length (bs : List UInt8) : ∀ ns : List Int, (putM bs ns).length ≤ bs.length + 6 * ns.length
  | [] => by simp [putM]
  | x :: ns => by
    have h1 := putM_length bs ns
    have h2 := enc_length (held x) (held_le x)
    simp only [putM, List.flatMap_cons, List.length_append, List.length_cons] at h1 ⊢
    omega

theorem putM_nil (bs : List UInt8) (ns : List Int) : putM bs ns = bs ++ putM [] ns := by simp [putM]

theorem vlqPuts_spec (bs : List UInt8) (ns : List Int) (s : List UInt8) : ASpec Try.prog 4 [.sl 1 (.map encB 0 bs) .none, .sl 1 (.map encI 0 ns) .none, .str (B s)] [] (fun r H' => r = .bool true ∧ H' = []) := by
  refine endTrue (s4 _ _ _ _ _ _ (condD (fun _ => awakeT rfl) fun h1 => condD (fun _ => awakeT rfl) fun h2 => condD (fun _ => awakeT rfl) fun h3 => ?_))
  rw [B_size] at h2
  have hs := held_of (x := (s.length : Int)) (by omega) (by omega)
  have hs : held s.length = s.length := by omega
  have e2 := enc_length s.length (by omega)
  have hcut : ∀ t : List (List AV), ((bs.map encB ++ t).take bs.length).drop 0 = bs.map encB := by intro t; simp
  have hle : Le (.sl 1 (.raw (((((Ab.Seq.raw []).app (.map encB 0 bs)).toList ++ (Ab.Seq.raw [[.int .u8 7], [.int .u8 7], [.int .u8 7], [.int .u8 7]]).toList).take bs.length).drop 0)) .none) (.sl 1 (.map encB 0 bs) .none) :=
    Le.sl (by simp [Ab.Seq.toList]) (.inl rfl) (.inl rfl)
  have hp := putM_length [] ns
  simp only [List.length_nil] at hp
  refine needJ (allBytes_map _) (needJ oneB (needJ (by omega) (needJ (by omega) (needJ ⟨by omega, by omega⟩ ?_))))
  refine put_spec' (bs := bs) (ns := ns) ⟨hle, Le.refl _, trivial⟩ (by unfold big; omega) ⟨_, rfl, rfl, needJ (allBytes_map _) ?_⟩
  refine ASpec.call (text_spec bs s (by unfold big; omega) _) ⟨hle, Le.refl _, trivial⟩ ⟨_, rfl, rfl, needJ (allBytes_map _) ?_⟩
  refine ASpec.call (rnums_spec ns (by unfold big; omega) _) (Les.refl _) ⟨_, rfl, rfl, ?_⟩
  rw [bytesOf_map, bytesOf_map, bytesOf_map, B_size, B_size, B_append]
  refine needJ (by omega) (condS (fun _ => ?_) fun h => (h (putM_nil bs ns)).elim)
  refine ASpec.call (rtext_spec s (by unfold big; omega) _) (Les.refl _) ⟨_, rfl, rfl, ?_⟩
  rw [hs, B_size, B_append]
  refine needJ (by simp only [List.length_append]; omega) (condS (fun _ => ?_) fun h => (h (by simp)).elim)
  have hq : (((Ab.Seq.raw []).app (.map encB 0 bs)).app (.raw [[.int .u8 7], [.int .u8 7], [.int .u8 7], [.int .u8 7]])).toList = (bs ++ [7, 7, 7, 7]).map encB := by
    simp [Ab.Seq.toList]
    rfl
  rw [bytesOf_of hq, show (⟨#[7, 7, 7, 7]⟩ : ByteArray) = B [7, 7, 7, 7] from rfl, B_append]
  exact needJ (allBytes_of hq) (needJ (by omega) (condS (fun _ => awakeT rfl) fun h => (h rfl).elim))

end V
