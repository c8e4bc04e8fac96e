/- For every two texts: what is summed, sealed, opened in between changes nothing; what is told is the caller's own (CrcAlone answers true); on no condition. -/
import Derived.Test.YtnbjflcfdncocaaQ6
import Derived.Test.YtnbjflcfdncocaaFacts2
namespace Go.Proofs.Ytnbjflcfdncocaa.Pure
open Go.RowKit Go.Proofs.Ytnbjflcfdncocaa.Q Go.Proofs.YtnbjflcfdncocaaW.PrintWords Go.Proofs.YtnbjflcfdncocaaW.PrintLast

theorem CrcAlone : raddlelaw02_CrcAlone.Pure := by
  intro l0 l1 hm0 _ hw0 hm1 _ hw1
  obtain ⟨k, hk⟩ : ∃ k : Nat, 10000 < k := ⟨_, Nat.lt_succ_self _⟩
  refine ⟨k + 1, ?_⟩
  unfold raddlelaw02_CrcAlone.f
  have e : ∀ b, b = true → raddlelaw02_CrcAlone.j0 (k + 1) l0 l1 b = some true := by
    rintro b rfl
    rw [raddlelaw02_CrcAlone.j0, if_pos rfl]
  by_cases h0 : (l0.length : Int) > 300
  · rw [if_pos h0]; exact e _ rfl
  rw [if_neg h0]
  by_cases h1 : (l1.length : Int) > 300
  · exact e _ (decide_eq_true h1)
  rw [decide_eq_false h1]
  have hs0 := sealL_length l0
  have hs1 := sealL_length l1
  have hS0 := Seal_eq l0 (by omega)
  have hS1 := Seal_eq l1 (by omega)
  have hO := Open_eq (sealL l0) (by omega) k (by omega)
  rw [openL_seal l0 (by omega)] at hO
  obtain ⟨r, hr, _⟩ := Spoil_ex (sealL l1) (by omega) k (by omega)
  obtain ⟨r2, hr2, _⟩ := Spoil_ex l0 (by omega) k (by omega)
  obtain ⟨x, hx⟩ : ∃ x, x = sealL l0 := ⟨_, rfl⟩
  obtain ⟨y, hy⟩ : ∃ y, y = sealL l1 := ⟨_, rfl⟩
  rw [← hx] at hS0 hO hs0
  rw [← hy] at hS1 hr hs1
  rw [raddlelaw02_CrcAlone.j0, if_neg (by decide), Sum_eq, Option.bind_some, hS0, Option.bind_some, hS1, Option.bind_some, Twin_eq x (by omega), Option.bind_some, hr, Option.bind_some, hO, Option.bind_some, hr2, Option.bind_some, Option.bind_some,
    if_pos (show (x, (0 : Int)).2 = 0 from rfl), if_pos (show (y, (0 : Int)).2 = 0 from rfl), if_pos (show (l0, (0 : Int)).2 = 0 from rfl), if_pos (show (l0, (0 : Int)).2 = 0 from rfl), Option.bind_some, if_pos rfl,
    Bytes_eq x x (by omega) _ (by omega), Option.bind_some, if_pos (decide_eq_true rfl), Bytes_eq l0 l0 (by omega) _ (by omega), Option.bind_some, if_pos (decide_eq_true rfl), wakes_eq, Option.bind_some]
end Go.Proofs.Ytnbjflcfdncocaa.Pure
