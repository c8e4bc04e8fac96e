/- What the reference's Crc, Seal and Open, and SpoilBytes, tell, with enough rounds. -/
import Derived.Test.YtnbjflcfdncocaaFacts
import Derived.Test.YtnbjflcfdncocaaQ4
namespace Go.Proofs.Ytnbjflcfdncocaa.Q
open Go.RowKit Go.Proofs.YtnbjflcfdncocaaW.PrintWords Go.Proofs.YtnbjflcfdncocaaW.PrintLast Go.Proofs.YtnbjflcfdncocaaW.PrintMore

theorem and1_mod (x : Int) (h0 : 0 ≤ x) (h1 : x < 4294967296) : bits .and .u32 x 1 = x % 2 :=
  bits_mask .u32 32 (by decide) (fun n h0 h1 => by rw [IntKind.wrap_u32]; omega) 1 (by decide) x h0 h1
theorem shr_u8 (c : Int) (i : Nat) (hc : Byte c) (hi : i < 8) : shr .u8 c (i : Int) = ((c.toNat / 2 ^ i : Nat) : Int) := by
  obtain ⟨c0, c1⟩ := hc
  unfold shr
  have : min ((i : Int)).toNat IntKind.u8.bits = i := by
    have : IntKind.u8.bits = 8 := rfl
    omega
  rw [this]
  obtain ⟨m, rfl⟩ := Int.eq_ofNat_of_zero_le c0
  rw [Int.toNat_natCast]
  simp
theorem ref_bit (r : BitVec 32) (c : Int) (i : Nat) (hc : Byte c) (hi : i < 8) :
    (if bits .and .u32 (I r) 1 = bits .and .u32 (shr .u8 c (i : Int) % 4294967296) 1 then I r / 2 else bits .xor .u32 (I r / 2) 2197175160) = I (stp r (c.toNat.testBit i)) := by
  have hs : (c.toNat / 2 ^ i : Nat) < 4294967296 := Nat.lt_of_le_of_lt (Nat.div_le_self _ _) (by have := hc.2; omega)
  have hn := Int.natCast_nonneg (c.toNat / 2 ^ i)
  have hs' : ((c.toNat / 2 ^ i : Nat) : Int) < (4294967296 : Int) := Int.lt_of_lt_of_le (Int.ofNat_lt.2 hs) (Int.le_of_eq rfl)
  rw [shr_u8 c i hc hi, Int.emod_eq_of_lt hn hs', and1_mod _ (I_nonneg r) (I_lt r), and1_mod _ hn hs']
  clear hn hs hs'
  have hr : (I r % 2 = 1) ↔ r.getLsbD 0 = true := by rw [← and1_I, and1_mod _ (I_nonneg r) (I_lt r)]
  have hr2 : I r % 2 = 0 ∨ I r % 2 = 1 := by omega
  have hb : (((c.toNat / 2 ^ i : Nat) : Int) % 2 = 1) ↔ c.toNat.testBit i = true := by
    rw [Nat.testBit_eq_decide_div_mod_eq, decide_eq_true_eq]; omega
  have hb2 : ((c.toNat / 2 ^ i : Nat) : Int) % 2 = 0 ∨ ((c.toNat / 2 ^ i : Nat) : Int) % 2 = 1 := by omega
  generalize ((c.toNat / 2 ^ i : Nat) : Int) = v at *
  generalize c.toNat.testBit i = b at *
  unfold stp T
  rw [half_I, show (2197175160 : Int) = I P32 from by decide, xor_I]
  have sh : ∀ b : Bool, (r ^^^ (BitVec.ofBool b).setWidth 32) >>> 1 = r >>> 1 := fun b => by
    rw [BitVec.ushiftRight_xor_distrib]
    cases b <;> simp
  rw [sh]
  have lb : (r ^^^ (BitVec.ofBool b).setWidth 32).getLsbD 0 = (r.getLsbD 0 ^^ b) := by
    rw [BitVec.getLsbD_xor]; cases b <;> simp
  rw [lb]
  by_cases h : I r % 2 = v % 2
  · rw [if_pos h]
    have : (r.getLsbD 0 ^^ b) = false := by
      cases hx : r.getLsbD 0 <;> cases b <;> simp_all
    rw [this, if_neg (by decide)]
  · rw [if_neg h]
    have : (r.getLsbD 0 ^^ b) = true := by
      cases hx : r.getLsbD 0 <;> cases b <;> simp_all
    rw [this, if_pos rfl]
theorem bits8_drop (c : Int) (i : Nat) (hi : i < 8) : (bits8 c).drop i = c.toNat.testBit i :: (bits8 c).drop (i + 1) := by
  rw [List.drop_eq_getElem_cons (by rw [bits8_length]; exact hi)]
  simp [bits8]
theorem refCrc_l1 (l : List Int) (j : Nat) (hj : j < l.length) (hm : l.length ≤ 140737488355328) (hb : Bytes_ l) : ∀ (d i k : Nat) (r : BitVec 32), i + d = 8 → d < k →
    raddleref01_Crc.l1 k l (I r) (j : Int) (i : Int) = raddleref01_Crc.l0 (k - 1 - d) l (I (((bits8 (l.getD j 0)).drop i).foldl stp r)) ((j + 1 : Nat) : Int) := by
  intro d
  induction d with
  | zero =>
    intro i k r hi hk
    obtain ⟨k, rfl⟩ : ∃ m, k = m + 1 := ⟨k - 1, by omega⟩
    simp only [raddleref01_Crc.l1]
    rw [if_neg (by omega), wrap_in _ (by omega) (by omega), List.drop_of_length_le (by rw [bits8_length]; omega)]
    rfl
  | succ d ih =>
    intro i k r hi hk
    obtain ⟨k, rfl⟩ : ∃ m, k = m + 1 := ⟨k - 1, by omega⟩
    have hc : Byte (l.getD j 0) := byte_getD hb j
    simp only [raddleref01_Crc.l1]
    rw [if_pos (by omega), if_pos (by omega), if_pos (by omega), wrap_u64 _ (by omega) (by omega), if_pos (by omega), rd_nat, wrap_in ((i : Int) + 1) (by omega) (by omega), show (i : Int) + 1 = ((i + 1 : Nat) : Int) from by omega]
    have hr := ref_bit r (l.getD j 0) i hc (by omega)
    have e : k + 1 - 1 - (d + 1) = k - 1 - d := by omega
    rw [e, bits8_drop _ i (by omega), List.foldl_cons, ← ih (i + 1) k (stp r ((l.getD j 0).toNat.testBit i)) (by omega) (by omega)]
    by_cases h : bits .and .u32 (I r) 1 = bits .and .u32 (shr .u8 (l.getD j 0) (i : Int) % 4294967296) 1
    · rw [if_pos h] at hr ⊢
      rw [hr]
    · rw [if_neg h] at hr ⊢
      rw [hr]
theorem refCrc_l0 (l : List Int) (hm : l.length ≤ 140737488355328) (hb : Bytes_ l) : ∀ (d j k : Nat) (r : BitVec 32), j + d = l.length → 10 * d < k →
    raddleref01_Crc.l0 k l (I r) (j : Int) = some (I ((bitsOf (l.drop j)).foldl stp r ^^^ ones)) := by
  intro d
  induction d with
  | zero =>
    intro j k r hj hk
    obtain ⟨k, rfl⟩ : ∃ m, k = m + 1 := ⟨k - 1, by omega⟩
    simp only [raddleref01_Crc.l0]
    rw [if_neg (by omega), List.drop_of_length_le (by omega), show (4294967295 : Int) = I ones from by decide, xor_I]
    rfl
  | succ d ih =>
    intro j k r hj hk
    obtain ⟨k, rfl⟩ : ∃ m, k = m + 1 := ⟨k - 1, by omega⟩
    simp only [raddleref01_Crc.l0]
    rw [if_pos (by omega)]
    have h1 := refCrc_l1 l j (by omega) hm hb 8 0 k r (by omega) (by omega)
    rw [show ((0 : Nat) : Int) = 0 from rfl] at h1
    rw [h1, List.drop_zero, ih (j + 1) _ _ (by omega) (by omega), drop_cons l j (by omega)]
    simp [bitsOf]
theorem refCrc_eq (l : List Int) (hm : l.length ≤ 140737488355328) (hb : Bytes_ l) (k : Nat) (hk : 10 * l.length < k) : raddleref01_Crc.f k l = some (crcI l) := by
  unfold raddleref01_Crc.f
  have := refCrc_l0 l hm hb l.length 0 k ones (by omega) hk
  rw [show I ones = (4294967295 : Int) from by decide, show ((0 : Nat) : Int) = 0 from rfl, List.drop_zero] at this
  rw [this, crcI_reg l hb]
  rfl
theorem refSeal_eq (l : List Int) (hm : l.length ≤ 65532) (hb : Bytes_ l) (k : Nat) (hk : 10 * l.length < k) : raddleref01_Seal.f k l = some (sealL l, 0) := by
  unfold raddleref01_Seal.f
  rw [if_neg (by omega), refCrc_eq l (by omega) hb k hk, Option.bind_some, Twin_eq l (by omega), Option.bind_some, Option.bind_some, if_pos (by simp; omega)]
  rfl
theorem refSeal_long (l : List Int) (hm : 65532 < l.length) (k : Nat) : raddleref01_Seal.f k l = some ([], 2) := by
  unfold raddleref01_Seal.f
  rw [if_pos (by omega)]
theorem in_eq (a b c : Int) : raddleref01_in.f a b c = some (decide (b ≤ a ∧ a ≤ c)) := by
  unfold raddleref01_in.f
  by_cases h : a ≥ b
  · rw [if_pos h]; congr 1
    rw [Bool.eq_iff_iff, decide_eq_true_eq, decide_eq_true_eq]; omega
  · rw [if_neg h, decide_eq_false (by omega)]
theorem refOpen_eq (l : List Int) (hm : l.length < 140737488355328) (hb : Bytes_ l) (k : Nat) (hk : 10 * l.length + 10 < k) : raddleref01_Open.f k l = some (openL l) := by
  unfold raddleref01_Open.f openL
  rw [in_eq, Option.bind_some]
  by_cases h : l.length < 4 ∨ 65536 < l.length
  · rw [if_neg (by rw [decide_eq_true_eq]; omega), if_pos h]
  · rw [if_pos (by rw [decide_eq_true_eq]; omega), if_neg h, wrap_in _ (by omega) (by omega), if_pos (by omega), if_pos (by omega), show ((l.length : Int) - 4).toNat = l.length - 4 from by omega]
    have hl : (l.take (l.length - 4)).length = l.length - 4 := by rw [List.length_take]; omega
    rw [refSeal_eq _ (by omega) (fun c hc => hb c (List.mem_of_mem_take hc)) k (by omega), Option.bind_some, Bytes_eq (sealL (l.take (l.length - 4))) l (by rw [sealL_length]; omega) k (by rw [sealL_length]; omega), Option.bind_some, Twin_eq _ (by omega)]
    by_cases e : sealL (l.take (l.length - 4)) = l
    · rw [if_pos e, if_pos (decide_eq_true e)]; rfl
    · rw [if_neg e, if_neg (by simpa using e)]
theorem Spoil_l0 : ∀ (d i k : Nat) (x : List Int), x.length ≤ 140737488355328 → i + d = x.length → d < k → ∃ r, raddlekeep_SpoilBytes.l0 k x (i : Int) = some r ∧ r.length = x.length := by
  intro d
  induction d with
  | zero =>
    intro i k x hm hi hk
    obtain ⟨k, rfl⟩ : ∃ m, k = m + 1 := ⟨k - 1, by omega⟩
    exact ⟨x, by simp only [raddlekeep_SpoilBytes.l0]; rw [if_neg (by omega)], rfl⟩
  | succ d ih =>
    intro i k x hm hi hk
    obtain ⟨k, rfl⟩ : ∃ m, k = m + 1 := ⟨k - 1, by omega⟩
    obtain ⟨r, h, hl⟩ := ih (i + 1) k (x.set ((i : Int)).toNat (((rd x (i : Int)) + 101) % 256)) (by simpa using hm) (by simp; omega) (by omega)
    refine ⟨r, ?_, by simpa using hl⟩
    simp only [raddlekeep_SpoilBytes.l0]
    rw [if_pos (by omega), if_pos (by omega), wrap_in _ (by omega) (by omega), show (i : Int) + 1 = ((i + 1 : Nat) : Int) from by omega]
    exact h
theorem Spoil_ex (x : List Int) (hm : x.length ≤ 140737488355328) (k : Nat) (hk : x.length < k) : ∃ r, raddlekeep_SpoilBytes.f k x = some r ∧ r.length = x.length :=
  Spoil_l0 x.length 0 k x hm (by omega) hk
end Go.Proofs.Ytnbjflcfdncocaa.Q
