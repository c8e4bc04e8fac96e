/- For every number: as long a text as may be is sealed, and opened; one more byte is refused; so is what is too short to be sealed (CrcLong answers true); on no condition. -/
import Derived.Test.YtnbjflcfdncocaaQ5
import Derived.Test.YtnbjflcfdncocaaFacts
namespace Go.Proofs.Ytnbjflcfdncocaa.Pure
open Go.RowKit Go.Proofs.Ytnbjflcfdncocaa.Q Go.Proofs.YtnbjflcfdncocaaW.PrintWords Go.Proofs.YtnbjflcfdncocaaW.PrintLast

theorem long_over (a : Int) : wrap64 (Int.tmod (IntKind.u64.wrap a) 2) = 0 ∨ wrap64 (Int.tmod (IntKind.u64.wrap a) 2) = 1 := by
  have hu : 0 ≤ IntKind.u64.wrap a := by
    simp [IntKind.wrap, IntKind.bits, IntKind.signed]; omega
  rw [Int.tmod_eq_emod_of_nonneg hu, wrap_in _ (by omega) (by omega)]
  omega
theorem openL_big (l : List Int) (h : 65536 < l.length) : openL l = ([], 2) := by
  unfold openL; rw [if_pos (.inr h)]
theorem openL_small (l : List Int) (h : l.length < 4) : openL l = ([], 2) := by
  unfold openL; rw [if_pos (.inl h)]
theorem CrcLong : raddlelaw02_CrcLong.Pure := by
  intro a0 hw
  obtain ⟨k, hk⟩ : ∃ k : Nat, 100000 < k := ⟨_, Nat.lt_succ_self _⟩
  refine ⟨k + 1, ?_⟩
  unfold raddlelaw02_CrcLong.f
  have hs : crc_Open.f (k + 1) (List.replicate 3 0) = some ([], 2) := by
    rw [Open_eq _ (by rw [List.length_replicate]; omega) _ (by rw [List.length_replicate]; omega), openL_small _ (by rw [List.length_replicate]; omega)]
  rcases long_over a0 with h | h
  · rw [h, wrap_in (65532 + 0) (by omega) (by omega), if_pos (by omega), if_pos (by omega), show ((65532 : Int) + 0).toNat = 65532 from rfl, Option.bind_some]
    generalize hl : List.replicate 65532 (0 : Int) = l
    have hl2 : l.length = 65532 := by rw [← hl, List.length_replicate]
    have hsl := sealL_length l
    have hS := Seal_eq l (by omega)
    have hO := Open_eq (sealL l) (by omega) k (by omega)
    rw [openL_seal l (by omega)] at hO
    obtain ⟨x, hx⟩ : ∃ x, x = sealL l := ⟨_, rfl⟩
    rw [← hx] at hS hO hsl
    rw [hS, Option.bind_some, if_pos (by omega), hs, Option.bind_some, if_pos (show (([] : List Int), (2 : Int)).2 = 2 from rfl), show decide (((([] : List Int), (2 : Int)).1.length : Int) > 0) = false from rfl]
    rw [raddlelaw02_CrcLong.j0, if_neg (by decide), if_neg (by omega), hO, Option.bind_some, if_pos (show (x, (0 : Int)).2 = 0 from rfl), if_pos (show (l, (0 : Int)).2 = 0 from rfl), if_pos rfl, wakes_eq, Option.bind_some]
  · rw [h, wrap_in (65532 + 1) (by omega) (by omega), if_pos (by omega), if_pos (by omega), show ((65532 : Int) + 1).toNat = 65533 from rfl, Option.bind_some]
    generalize hl : List.replicate 65533 (0 : Int) = l
    have hl2 : l.length = 65533 := by rw [← hl, List.length_replicate]
    have hO : crc_Open.f k (List.replicate 65537 0) = some ([], 2) := by
      generalize hz : List.replicate 65537 (0 : Int) = z
      have hz2 : z.length = 65537 := by rw [← hz, List.length_replicate]
      rw [Open_eq z (by omega) k (by omega), openL_big z (by omega)]
    rw [Seal_long l (by omega), Option.bind_some, if_pos (by omega), hs, Option.bind_some, if_pos (show (([] : List Int), (2 : Int)).2 = 2 from rfl), show decide (((([] : List Int), (2 : Int)).1.length : Int) > 0) = false from rfl]
    rw [raddlelaw02_CrcLong.j0, if_neg (by decide), if_pos (by omega), if_pos (by omega), hO, Option.bind_some, if_pos (show (([] : List Int), (2 : Int)).2 = 2 from rfl), if_pos (show ((([] : List Int), (2 : Int)).1.length : Int) = 0 from rfl), if_pos (show (([] : List Int), (2 : Int)).2 = 2 from rfl), wakes_eq, Option.bind_some]
end Go.Proofs.Ytnbjflcfdncocaa.Pure
