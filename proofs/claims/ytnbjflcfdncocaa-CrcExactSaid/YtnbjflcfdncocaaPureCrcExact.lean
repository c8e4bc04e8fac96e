/- For every text: its sum is the published one; what is sealed, and opened, or why not, is the page's (CrcExact answers true); on no condition. -/
import Derived.Test.YtnbjflcfdncocaaQ4
import Derived.Test.YtnbjflcfdncocaaFacts2
namespace Go.Proofs.Ytnbjflcfdncocaa.Pure
open Go.RowKit Go.Proofs.Ytnbjflcfdncocaa.Q Go.Proofs.YtnbjflcfdncocaaW.PrintWords Go.Proofs.YtnbjflcfdncocaaW.PrintLast

theorem exact_len (l : List Int) : (openL l).1.length ≤ l.length := by
  unfold openL
  split
  · simp
  · split
    · simp
    · simp
theorem CrcExact : raddlelaw02_CrcExact.Pure := by
  intro l0 hm _ hw
  obtain ⟨k, hk⟩ : ∃ k : Nat, 10000 < k := ⟨_, Nat.lt_succ_self _⟩
  refine ⟨k + 1, ?_⟩
  unfold raddlelaw02_CrcExact.f
  by_cases hl : (l0.length : Int) > 300
  · rw [if_pos hl]
  have hb := byte_of hw
  have hs := sealL_length l0
  have he := exact_len l0
  have hS := Seal_eq l0 (by omega)
  have hR := refSeal_eq l0 (by omega) hb (k + 1) (by omega)
  have hC := refCrc_eq l0 (by omega) hb (k + 1) (by omega)
  have hO := Open_eq l0 (by omega) k (by omega)
  have hQ := refOpen_eq l0 (by omega) hb k (by omega)
  obtain ⟨r, hr, _⟩ := Spoil_ex (sealL l0) (by omega) k (by omega)
  obtain ⟨x, hx⟩ : ∃ x, x = sealL l0 := ⟨_, rfl⟩
  obtain ⟨y, hy⟩ : ∃ y, y = openL l0 := ⟨_, rfl⟩
  rw [← hx] at hS hR hr hs
  rw [← hy] at hO hQ he
  rw [if_neg hl, Twin_eq l0 (by omega), Option.bind_some, hS, Option.bind_some, hR, Option.bind_some, Sum_eq, Option.bind_some, hC, Option.bind_some, if_pos rfl, if_pos (show (x, (0 : Int)).2 = (x, (0 : Int)).2 from rfl), Bytes_eq x x (by omega) _ (by omega), Option.bind_some, show decide (x = x) = true from decide_eq_true rfl]
  show raddlelaw02_CrcExact.j0 (k + 1) l0 l0 x false = _
  rw [raddlelaw02_CrcExact.j0, if_neg (by decide), hr, Option.bind_some, hO, Option.bind_some, hQ, Option.bind_some, if_pos rfl, Bytes_eq y.1 y.1 (by omega) _ (by omega), Option.bind_some, if_pos (decide_eq_true rfl), Bytes_eq l0 l0 (by omega) _ (by omega), Option.bind_some, if_pos (decide_eq_true rfl), wakes_eq, Option.bind_some]
end Go.Proofs.Ytnbjflcfdncocaa.Pure
