/- For every text b, every place and every word: texts of one length that differ in up to 32 bits side by side alone have unlike sums (CrcUnlike answers true); on no condition. -/
import Derived.Test.YtnbjflcfdncocaaQ2
import Derived.Test.YtnbjflcfdncocaaFacts
namespace Go.Proofs.Ytnbjflcfdncocaa.Pure
open Go.RowKit Go.Proofs.Ytnbjflcfdncocaa.Q Go.Proofs.YtnbjflcfdncocaaW.PrintWords Go.Proofs.YtnbjflcfdncocaaW.PrintLast

theorem unlike_end (x0 x7 : List Int) (hm : x0.length ≤ 300) (k : Nat) (hk : x0.length + 1 < k) (a1 a2 x8 : Int) :
    raddlelaw02_CrcUnlike.j2 k x0 a1 a2 x7 x8 false = some ((crcI x0 == crcI x7) == decide (x0 = x7)) := by
  obtain ⟨k, rfl⟩ : ∃ m, k = m + 1 := ⟨k - 1, by omega⟩
  simp only [raddlelaw02_CrcUnlike.j2]
  rw [if_neg (by decide), Sum_eq, Sum_eq, Bytes_eq _ _ (by omega) k (by omega)]
  simp only [Option.bind_some, wakes_eq]
  split
  · rename_i h; rw [h]
  · rename_i h; rw [Bool.not_eq_true] at h; rw [h]
theorem unlike_loop (x0 : List Int) (p : Nat) (a2 : Int) (hm : x0.length ≤ 300) (hp : p < 8 * x0.length) : ∀ (d i k : Nat) (x7 : List Int), i + d = 32 → x7.length = x0.length → 2 * d + x0.length + 4 < k →
    raddlelaw02_CrcUnlike.l0 k x0 (p : Int) a2 x7 (i : Int) = some ((crcI x0 == crcI (flips p (8 * x0.length) (has a2) d i x7)) == decide (x0 = flips p (8 * x0.length) (has a2) d i x7)) := by
  intro d
  induction d with
  | zero =>
    intro i k x7 hi hl hk
    obtain ⟨k, rfl⟩ : ∃ m, k = m + 1 := ⟨k - 1, by omega⟩
    simp only [raddlelaw02_CrcUnlike.l0]
    rw [if_neg (by omega), unlike_end _ _ hm _ (by omega)]
    rfl
  | succ d ih =>
    intro i k x7 hi hl hk
    obtain ⟨k, rfl⟩ : ∃ m, k = m + 2 := ⟨k - 2, by omega⟩
    simp only [raddlelaw02_CrcUnlike.l0]
    rw [if_pos (by omega), wrap_in ((p : Int) + i) (by omega) (by omega), wrap_in (8 * (x0.length : Int)) (by omega) (by omega)]
    by_cases hlt : p + i < 8 * x0.length
    · rw [show decide ((p : Int) + i < 8 * (x0.length : Int)) = true from decide_eq_true (by omega)]
      simp only [raddlelaw02_CrcUnlike.j2]
      rw [if_pos trivial, wrap_u64 (i : Int) (by omega) (by omega), if_pos (by omega), wrap_in ((p : Int) + i) (by omega) (by omega), wrap_in ((i : Int) + 1) (by omega) (by omega)]
      rw [show (p : Int) + i = ((p + i : Nat) : Int) from by omega, tdiv8, tmod8, wrap_in (((p + i) / 8 : Nat) : Int) (by omega) (by omega), wrap_u64 (((p + i) % 8 : Nat) : Int) (by omega) (by omega), show (i : Int) + 1 = ((i + 1 : Nat) : Int) from by omega]
      rw [if_pos (show (0 : Int) ≤ (((p + i) / 8 : Nat) : Int) by omega), if_pos (show (((p + i) / 8 : Nat) : Int) < (x7.length : Int) by omega), if_pos (show (0 : Int) ≤ (((p + i) % 8 : Nat) : Int) by omega)]
      have e : flips p (8 * x0.length) (has a2) (d + 1) i x7 = flips p (8 * x0.length) (has a2) d (i + 1) (if has a2 i then flipAt x7 (p + i) else x7) := by
        simp only [flips]; rw [if_pos hlt]
      rw [e]
      by_cases hb : bits .and .u32 (shr .u32 a2 (i : Int)) 1 = 1
      · rw [if_pos hb, show has a2 i = true from decide_eq_true hb, if_pos rfl]
        exact ih (i + 1) k _ (by omega) (by rw [List.length_set]; exact hl) (by omega)
      · rw [if_neg hb, show has a2 i = false from decide_eq_false hb, if_neg (by decide)]
        exact ih (i + 1) k _ (by omega) hl (by omega)
    · rw [show decide ((p : Int) + i < 8 * (x0.length : Int)) = false from decide_eq_false (by omega), unlike_end _ _ hm _ (by omega)]
      have e : flips p (8 * x0.length) (has a2) (d + 1) i x7 = x7 := by
        simp only [flips]; rw [if_neg hlt]
      rw [e]
theorem I_xor_inj {a b c : BitVec 32} : (I (a ^^^ c) = I (b ^^^ c)) ↔ a = b := by
  constructor
  · intro h
    have := congrArg (· ^^^ c) (I_inj h)
    simpa [BitVec.xor_assoc] using this
  · rintro rfl; rfl
theorem CrcUnlike : raddlelaw02_CrcUnlike.Pure := by
  intro l0 a1 a2 hm hs hw h1 h2
  refine ⟨l0.length + 1000, ?_⟩
  unfold raddlelaw02_CrcUnlike.f
  by_cases hl : l0.length < 1 ∨ 300 < l0.length
  · have e : ∀ b, b = true → raddlelaw02_CrcUnlike.j0 (l0.length + 1000) l0 a1 a2 b = some true := by
      rintro b rfl
      simp only [raddlelaw02_CrcUnlike.j0]
      rfl
    split
    · exact e _ rfl
    · exact e _ (decide_eq_true (by omega))
  · rw [if_neg (by omega), show decide ((l0.length : Int) > 300) = false from decide_eq_false (by omega), show l0.length + 1000 = (l0.length + 999) + 1 from rfl]
    simp only [raddlelaw02_CrcUnlike.j0]
    obtain ⟨p, hp, e⟩ := place a1 l0.length (by omega) (by omega)
    rw [if_neg (by decide), Twin_eq _ (by omega), e, wrap_in (8 * (l0.length : Int)) (by omega) (by omega), wrap_u64 (8 * (l0.length : Int)) (by omega) (by omega)]
    simp only [Option.bind_some]
    rw [if_neg (by omega)]
    have hb := byte_of hw
    have hf := flips_facts p (8 * l0.length) (has a2) 32 0 l0 hb rfl
    have hr := flips_reg hb p (has a2)
    have hl := unlike_loop l0 p a2 (by omega) hp 32 0 (l0.length + 999) l0 (by omega) rfl (by omega)
    rw [show ((0 : Nat) : Int) = 0 from rfl] at hl
    rw [hl]
    congr 1
    obtain ⟨_, b, _, d, g⟩ := hf
    rw [crcI_reg _ hb, crcI_reg _ b]
    rw [beq_iff_eq, Bool.eq_iff_iff, beq_iff_eq, decide_eq_true_eq, I_xor_inj, hr]
    constructor
    · intro h; exact (d h).symm
    · intro h
      cases ht : turned p (8 * l0.length) (has a2) 32 0
      · rfl
      · obtain ⟨q, hq⟩ := g ht
        rw [← h] at hq
        exact absurd rfl hq
end Go.Proofs.Ytnbjflcfdncocaa.Pure
