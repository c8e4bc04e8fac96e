/- What the printed functions on bytes tell, with enough rounds: equality of texts, Twin, Seal, Open. -/
import Derived.Test.YtnbjflcfdncocaaMath2
import Derived.Test.YtnbjflcfdncocaaQ3
namespace Go.Proofs.Ytnbjflcfdncocaa.Q
open Go.RowKit Go.Proofs.YtnbjflcfdncocaaW.PrintWords Go.Proofs.YtnbjflcfdncocaaW.PrintLast Go.Proofs.YtnbjflcfdncocaaW.PrintMore

theorem wrap_in (x : Int) (h0 : -9223372036854775808 ≤ x) (h1 : x ≤ 9223372036854775807) : wrap64 x = x := by
  unfold wrap64; omega
theorem drop_cons (l : List Int) (i : Nat) (h : i < l.length) : l.drop i = l.getD i 0 :: l.drop (i + 1) := by
  rw [List.drop_eq_getElem_cons h, List.getD_eq_getElem?_getD, List.getElem?_eq_getElem h]; rfl
theorem Bytes_l0 (a b : List Int) (hl : a.length = b.length) (hm : a.length ≤ 140737488355328) : ∀ (d k i : Nat), i ≤ a.length → a.length - i = d → d < k →
    raddlekeep_Bytes.l0 k a b (i : Int) = some (decide (a.drop i = b.drop i)) := by
  intro d
  induction d with
  | zero =>
    intro k i h1 hd hk
    obtain ⟨k, rfl⟩ : ∃ m, k = m + 1 := ⟨k - 1, by omega⟩
    simp only [raddlekeep_Bytes.l0]
    rw [if_neg (by omega), List.drop_of_length_le (by omega), List.drop_of_length_le (by omega)]; rfl
  | succ d ih =>
    intro k i h1 hd hk
    obtain ⟨k, rfl⟩ : ∃ m, k = m + 1 := ⟨k - 1, by omega⟩
    simp only [raddlekeep_Bytes.l0]
    rw [if_pos (by omega), if_pos (by omega), if_pos (by omega), rd_nat, rd_nat, wrap_in _ (by omega) (by omega), drop_cons a i (by omega), drop_cons b i (by omega)]
    by_cases e : a.getD i 0 = b.getD i 0
    · rw [if_pos e, show ((i : Int) + 1) = ((i + 1 : Nat) : Int) from by omega, ih k (i + 1) (by omega) (by omega) (by omega)]
      congr 1
      rw [e]; simp
    · rw [if_neg e]
      congr 1
      symm; simp only [decide_eq_false_iff_not, List.cons.injEq, not_and]
      intro h; exact absurd h e
theorem Bytes_eq (a b : List Int) (hm : a.length ≤ 140737488355328) (k : Nat) (hk : a.length < k) : raddlekeep_Bytes.f k a b = some (decide (a = b)) := by
  unfold raddlekeep_Bytes.f
  by_cases hl : (a.length : Int) = (b.length : Int)
  · rw [if_pos hl]
    have := Bytes_l0 a b (by omega) hm a.length k 0 (by omega) (by omega) (by omega)
    simpa using this
  · rw [if_neg hl]
    congr 1
    symm; simp only [decide_eq_false_iff_not]
    intro h; rw [h] at hl; exact hl rfl
theorem Equal_l0 (a b : List Int) (hl : a.length = b.length) (hm : a.length ≤ 140737488355328) : ∀ (d k i : Nat), i ≤ a.length → a.length - i = d → d < k →
    slices_Equal_byte_byte.l0 k a b (a.length : Int) (i : Int) = some (decide (a.drop i = b.drop i)) := by
  intro d
  induction d with
  | zero =>
    intro k i h1 hd hk
    obtain ⟨k, rfl⟩ : ∃ m, k = m + 1 := ⟨k - 1, by omega⟩
    simp only [slices_Equal_byte_byte.l0]
    rw [if_neg (by omega), List.drop_of_length_le (by omega), List.drop_of_length_le (by omega)]; rfl
  | succ d ih =>
    intro k i h1 hd hk
    obtain ⟨k, rfl⟩ : ∃ m, k = m + 1 := ⟨k - 1, by omega⟩
    simp only [slices_Equal_byte_byte.l0]
    rw [if_pos (by omega), if_pos (by omega), if_pos (by omega), if_pos (by omega), rd_nat, rd_nat, wrap_in _ (by omega) (by omega), drop_cons a i (by omega), drop_cons b i (by omega)]
    by_cases e : a.getD i 0 = b.getD i 0
    · rw [if_pos e, show ((i : Int) + 1) = ((i + 1 : Nat) : Int) from by omega, ih k (i + 1) (by omega) (by omega) (by omega)]
      congr 1
      rw [e]; simp
    · rw [if_neg e]
      congr 1
      symm; simp only [decide_eq_false_iff_not, List.cons.injEq, not_and]
      intro h; exact absurd h e
theorem Equal_eq (a b : List Int) (hm : a.length ≤ 140737488355328) (k : Nat) (hk : a.length < k) : slices_Equal_byte_byte.f k a b = some (decide (a = b)) := by
  unfold slices_Equal_byte_byte.f
  by_cases hl : (a.length : Int) = (b.length : Int)
  · rw [if_pos hl]
    have := Equal_l0 a b (by omega) hm a.length k 0 (by omega) (by omega) (by omega)
    simpa using this
  · rw [if_neg hl]
    congr 1
    symm; simp only [decide_eq_false_iff_not]
    intro h; rw [h] at hl; exact hl rfl
theorem Twin_eq (l : List Int) (hm : l.length < 140737488355328) : raddlekeep_Twin.f l = some l := by
  unfold raddlekeep_Twin.f
  rw [if_pos (by simpa using hm)]; rfl
theorem Sum_eq (l : List Int) : crc_Sum.f l = some (crcI l) := rfl
theorem wakes_eq : raddlelaw02_wakes.f = some true := rfl
theorem Seal_eq (l : List Int) (hm : l.length ≤ 65532) : crc_Seal.f l = some (sealL l, 0) := by
  unfold crc_Seal.f slices_Clone_byte_byte.f
  rw [if_neg (by omega), Sum_eq, if_pos (by omega)]
  simp only [Option.bind_some]
  rw [if_pos (by simp; omega)]
  rfl
theorem Seal_long (l : List Int) (hm : 65532 < l.length) : crc_Seal.f l = some ([], 2) := by
  unfold crc_Seal.f
  rw [if_pos (by omega)]
/-- What Open tells. -/
def openL (l : List Int) : List Int × Int :=
  if l.length < 4 ∨ 65536 < l.length then ([], 2) else if sealL (l.take (l.length - 4)) = l then (l.take (l.length - 4), 0) else ([], 4)
theorem Open_eq (l : List Int) (hm : l.length < 140737488355328) (k : Nat) (hk : l.length + 1 < k) : crc_Open.f k l = some (openL l) := by
  obtain ⟨k, rfl⟩ : ∃ m, k = m + 1 := ⟨k - 1, by omega⟩
  unfold crc_Open.f openL
  by_cases h1 : l.length < 4
  · rw [if_pos (by omega), if_pos (.inl h1)]
    simp only [crc_Open.j0]
    rfl
  · rw [if_neg (by omega)]
    by_cases h2 : 65536 < l.length
    · rw [if_pos (.inr h2), show decide ((l.length : Int) > 65536) = true from decide_eq_true (by omega)]
      simp only [crc_Open.j0]
      rfl
    · rw [if_neg (by omega), show decide ((l.length : Int) > 65536) = false from decide_eq_false (by omega)]
      simp only [crc_Open.j0]
      rw [if_neg (by decide), wrap_in _ (by omega) (by omega), if_pos (by omega), if_pos (by omega), show ((l.length : Int) - 4).toNat = l.length - 4 from by omega]
      have hl : (l.take (l.length - 4)).length = l.length - 4 := by rw [List.length_take]; omega
      unfold slices_Clone_byte_byte.f
      rw [if_pos (by omega)]
      simp only [Option.bind_some]
      rw [Seal_eq _ (by omega)]
      simp only [Option.bind_some, if_true]
      rw [Equal_eq _ _ (by rw [sealL_length]; omega) k (by rw [sealL_length]; omega)]
      simp only [Option.bind_some, decide_eq_true_eq]
      split <;> rfl
theorem openL_seal (l : List Int) (hm : l.length ≤ 65532) : openL (sealL l) = (l, 0) := by
  unfold openL
  have e : (sealL l).take ((sealL l).length - 4) = l := by rw [sealL_length]; simp [sealL]
  rw [if_neg (by rw [sealL_length]; omega), e, if_pos rfl]
theorem byte_of {l : List Int} (h : ∀ x ∈ l, (Lit.int .u8 x).wf = true) : Bytes_ l := fun c hc => by
  have := h c hc
  simp [Lit.wf, IntKind.min, IntKind.max, IntKind.signed, IntKind.bits] at this
  exact ⟨by omega, by omega⟩
theorem wrap_u64 (n : Int) (h0 : 0 ≤ n) (h1 : n < 18446744073709551616) : IntKind.u64.wrap n = n := by
  simp [IntKind.wrap, IntKind.bits, IntKind.signed]; omega
theorem tdiv8 (p : Nat) : Int.tdiv (p : Int) 8 = ((p / 8 : Nat) : Int) := by
  rw [Int.tdiv_eq_ediv_of_nonneg (by omega)]; omega
theorem tmod8 (p : Nat) : Int.tmod (p : Int) 8 = ((p % 8 : Nat) : Int) := by
  rw [Int.tmod_eq_emod_of_nonneg (by omega)]; omega
/-- The place that a law takes. -/
theorem place (a : Int) (n : Nat) (hn : 0 < n) (h : n ≤ 1000000) : ∃ p : Nat, p < 8 * n ∧ wrap64 (Int.tmod (IntKind.u64.wrap a) (IntKind.u64.wrap (wrap64 (8 * (n : Int))))) = (p : Int) := by
  have hu : 0 ≤ IntKind.u64.wrap a := by
    simp [IntKind.wrap, IntKind.bits, IntKind.signed]; omega
  rw [wrap_in (8 * (n : Int)) (by omega) (by omega), wrap_u64 (8 * (n : Int)) (by omega) (by omega), Int.tmod_eq_emod_of_nonneg hu]
  have h1 := Int.emod_nonneg (IntKind.u64.wrap a) (b := 8 * (n : Int)) (by omega)
  have h2 := Int.emod_lt_of_pos (IntKind.u64.wrap a) (b := 8 * (n : Int)) (by omega)
  rw [wrap_in _ (by omega) (by omega)]
  exact ⟨(IntKind.u64.wrap a % (8 * (n : Int))).toNat, by omega, by omega⟩
/-- Does a word have a bit? -/
def has (a : Int) (i : Nat) : Bool := decide (bits .and .u32 (shr .u32 a (i : Int)) 1 = 1)
end Go.Proofs.Ytnbjflcfdncocaa.Q
