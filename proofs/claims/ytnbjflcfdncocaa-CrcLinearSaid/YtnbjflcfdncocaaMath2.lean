/- Plain facts: bits that are turned about one by one; what is sealed; a sealed text with up to 32 bits side by side turned about is none. -/
import Derived.Test.YtnbjflcfdncocaaMath
namespace Go.Proofs.Ytnbjflcfdncocaa.Q
open Go.RowKit Go.Proofs.YtnbjflcfdncocaaW.PrintWords

/-! ### Bits by their places -/
def Bytes_ (l : List Int) : Prop := ∀ c ∈ l, Byte c
def bt_ (x : List Int) (p : Nat) : Bool := (x.getD (p / 8) 0).toNat.testBit (p % 8)
theorem bits_at (x : List Int) : ∀ p, (bitsOf x).getD p false = bt_ x p := by
  induction x with
  | nil => intro p; simp [bitsOf, bt_]
  | cons c l ih =>
    intro p
    have e : bitsOf (c :: l) = bits8 c ++ bitsOf l := by simp [bitsOf]
    rw [e]
    by_cases h : p < 8
    · have h1 : p / 8 = 0 := by omega
      have h2 : p % 8 = p := by omega
      unfold bt_
      rw [h1, h2, List.getD_eq_getElem?_getD, List.getElem?_append_left (by rw [bits8_length]; exact h)]
      simp [bits8, h]
    · rw [List.getD_eq_getElem?_getD, List.getElem?_append_right (by rw [bits8_length]; omega), bits8_length, ← List.getD_eq_getElem?_getD, ih]
      have h1 : p / 8 = (p - 8) / 8 + 1 := by omega
      have h2 : p % 8 = (p - 8) % 8 := by omega
      unfold bt_
      rw [h1, h2]
      simp
theorem bits_ext {x y : List Int} (hl : x.length = y.length) (h : ∀ p, bt_ x p = bt_ y p) : bitsOf x = bitsOf y := by
  apply List.ext_getElem (by rw [bitsOf_length, bitsOf_length, hl])
  intro i h1 h2
  have e := h i
  rw [← bits_at, ← bits_at] at e
  simpa [List.getD_eq_getElem?_getD, h1, h2] using e
theorem eq_of_bits {x y : List Int} (hx : Bytes_ x) (hy : Bytes_ y) (hl : x.length = y.length) (h : ∀ p, bt_ x p = bt_ y p) : x = y :=
  bitsOf_inj hx hy hl (bits_ext hl h)

theorem xor_u8 (a b : Int) (ha : Byte a) (hb : Byte b) : bits .xor .u8 a b = ((a.toNat ^^^ b.toNat : Nat) : Int) ∧ Byte (bits .xor .u8 a b) := by
  obtain ⟨a0, a1⟩ := ha
  obtain ⟨b0, b1⟩ := hb
  have h := Nat.xor_lt_two_pow (n := 8) (x := a.toNat) (y := b.toNat) (by omega) (by omega)
  have e : bits .xor .u8 a b = ((a.toNat ^^^ b.toNat : Nat) : Int) := by
    unfold bits
    rw [IntKind.wrap_u8]
    show ((BitVec.ofInt 8 a ^^^ BitVec.ofInt 8 b).toNat : Int) % 256 = _
    rw [BitVec.toNat_xor, BitVec.toNat_ofInt, BitVec.toNat_ofInt]
    have h1 : (a % (2 ^ 8 : Nat)).toNat = a.toNat := by omega
    have h2 : (b % (2 ^ 8 : Nat)).toNat = b.toNat := by omega
    rw [h1, h2]
    omega
  refine ⟨e, ?_⟩
  rw [e]
  unfold Byte
  omega
theorem shl_u8 (m : Nat) (h : m < 8) : shl .u8 1 (m : Int) = ((2 ^ m : Nat) : Int) ∧ Byte (shl .u8 1 (m : Int)) := by
  rcases m with _ | _ | _ | _ | _ | _ | _ | _ | m <;> first | exact ⟨by decide, by unfold Byte; decide⟩ | omega

theorem rd_nat (x : List Int) (n : Nat) : rd x (n : Int) = x.getD n 0 := by simp [rd]
/-- Bit number p turned about. -/
def flipAt (x : List Int) (p : Nat) : List Int := x.set (p / 8) (bits .xor .u8 (rd x ((p / 8 : Nat) : Int)) (shl .u8 1 ((p % 8 : Nat) : Int)))
theorem flipAt_length (x : List Int) (p : Nat) : (flipAt x p).length = x.length := by simp [flipAt]
theorem byte_getD {x : List Int} (h : Bytes_ x) (i : Nat) : Byte (x.getD i 0) := by
  rw [List.getD_eq_getElem?_getD]
  by_cases hi : i < x.length
  · rw [List.getElem?_eq_getElem hi]; exact h _ (List.getElem_mem hi)
  · rw [List.getElem?_eq_none (by omega)]; exact ⟨by decide, by decide⟩
theorem flipAt_bytes {x : List Int} (h : Bytes_ x) (p : Nat) : Bytes_ (flipAt x p) := by
  intro c hc
  rcases List.mem_or_eq_of_mem_set hc with hc | rfl
  · exact h c hc
  · exact (xor_u8 _ _ (by unfold rd; exact byte_getD h _) (shl_u8 _ (by omega)).2).2
theorem flipAt_bit {x : List Int} (h : Bytes_ x) (p : Nat) (hp : p < 8 * x.length) (q : Nat) : bt_ (flipAt x p) q = (bt_ x q ^^ decide (p = q)) := by
  have hl : p / 8 < x.length := by omega
  unfold bt_ flipAt
  by_cases hq : q / 8 = p / 8
  · rw [hq, List.getD_eq_getElem?_getD, List.getElem?_set_self hl, Option.getD_some, (xor_u8 _ _ (by unfold rd; exact byte_getD h _) (shl_u8 _ (by omega)).2).1, (shl_u8 (p % 8) (by omega)).1]
    rw [Int.toNat_natCast, Int.toNat_natCast, Nat.testBit_xor, Nat.testBit_two_pow]
    have e : decide (p = q) = decide (p % 8 = q % 8) := by
      by_cases hpq : p = q
      · simp [hpq]
      · have : ¬ p % 8 = q % 8 := by omega
        simp [hpq, this]
    rw [e, rd_nat]
  · have : decide (p = q) = false := by simp; intro e; subst e; exact hq rfl
    rw [this, Bool.xor_false, List.getD_eq_getElem?_getD, List.getElem?_set_ne (by omega), ← List.getD_eq_getElem?_getD]

/-- Bits from 'i' on, as long as there are some ('d' at most), each where 'f' says so. -/
def flips (at_ n : Nat) (f : Nat → Bool) : Nat → Nat → List Int → List Int
  | 0, _, x => x
  | d + 1, i, x => if at_ + i < n then flips at_ n f d (i + 1) (if f i then flipAt x (at_ + i) else x) else x
def turned (at_ n : Nat) (f : Nat → Bool) : Nat → Nat → Bool
  | 0, _ => false
  | d + 1, i => if at_ + i < n then f i || turned at_ n f d (i + 1) else false
theorem flips_facts (at_ n : Nat) (f : Nat → Bool) : ∀ d i (x : List Int), Bytes_ x → n = 8 * x.length →
    (flips at_ n f d i x).length = x.length ∧ Bytes_ (flips at_ n f d i x) ∧
    (∀ q, (q < at_ + i ∨ at_ + i + d ≤ q) → bt_ (flips at_ n f d i x) q = bt_ x q) ∧
    (turned at_ n f d i = false → flips at_ n f d i x = x) ∧
    (turned at_ n f d i = true → ∃ q, bt_ (flips at_ n f d i x) q ≠ bt_ x q) := by
  intro d
  induction d with
  | zero => intro i x hb hn; exact ⟨rfl, hb, fun _ _ => rfl, fun _ => rfl, fun h => by simp [turned] at h⟩
  | succ d ih =>
    intro i x hb hn
    simp only [flips, turned]
    by_cases hlt : at_ + i < n
    · simp only [hlt, if_true]
      cases hf : f i
      · have := ih (i + 1) x hb hn
        obtain ⟨a, b, c, e, g⟩ := this
        simp only [Bool.false_eq_true, if_false, Bool.false_or]
        exact ⟨a, b, fun q hq => c q (by omega), e, g⟩
      · have hb' := flipAt_bytes hb (at_ + i)
        have := ih (i + 1) (flipAt x (at_ + i)) hb' (by rw [flipAt_length]; exact hn)
        obtain ⟨a, b, c, e, g⟩ := this
        simp only [if_true, Bool.true_or]
        refine ⟨by rw [a, flipAt_length], b, fun q hq => ?_, fun h => by simp at h, fun _ => ⟨at_ + i, ?_⟩⟩
        · rw [c q (by omega), flipAt_bit hb _ (by omega)]
          have : decide (at_ + i = q) = false := by simp; omega
          rw [this, Bool.xor_false]
        · rw [c (at_ + i) (by omega), flipAt_bit hb _ (by omega)]
          simp
    · rw [if_neg hlt, if_neg hlt]
      exact ⟨rfl, hb, fun _ _ => rfl, fun _ => rfl, fun h => by simp at h⟩
/-- Texts that differ in a window of 32 bits alone: their registers are unlike, or they are one. -/
theorem burst_bytes {x y : List Int} (hx : Bytes_ x) (hy : Bytes_ y) (hl : x.length = y.length) (at_ : Nat) (h : ∀ q, (q < at_ ∨ at_ + 32 ≤ q) → bt_ x q = bt_ y q) (he : reg x = reg y) : x = y := by
  apply bitsOf_inj hx hy hl
  have hb : (bitsOf x).length = (bitsOf y).length := by rw [bitsOf_length, bitsOf_length, hl]
  have hq : ∀ q, (h1 : q < (bitsOf x).length) → (h2 : q < (bitsOf y).length) → (q < at_ ∨ at_ + 32 ≤ q) → (bitsOf x)[q] = (bitsOf y)[q] := fun q h1 h2 hq => by
    have e := h q hq
    rw [← bits_at, ← bits_at] at e
    simpa [List.getD_eq_getElem?_getD, h1, h2] using e
  refine burst _ _ ones at_ hb ?_ ?_ he
  · apply List.ext_getElem (by simp [hb])
    intro i h1 h2
    simp only [List.length_take] at h1 h2
    simp only [List.getElem_take]
    exact hq i (by omega) (by omega) (.inl (by omega))
  · apply List.ext_getElem (by simp [hb])
    intro i h1 h2
    simp only [List.length_drop] at h1 h2
    simp only [List.getElem_drop]
    exact hq _ (by omega) (by omega) (.inr (by omega))
theorem flips_reg {x : List Int} (hx : Bytes_ x) (at_ : Nat) (f : Nat → Bool) : (reg x = reg (flips at_ (8 * x.length) f 32 0 x)) ↔ turned at_ (8 * x.length) f 32 0 = false := by
  obtain ⟨a, b, c, e, g⟩ := flips_facts at_ (8 * x.length) f 32 0 x hx rfl
  constructor
  · intro h
    have := burst_bytes hx b a.symm at_ (fun q hq => (c q (by omega)).symm) h
    cases ht : turned at_ (8 * x.length) f 32 0
    · rfl
    · obtain ⟨q, hq⟩ := g ht
      rw [← this] at hq
      exact absurd rfl hq
  · intro h; rw [e h]

/-! ### What is sealed -/
def le4 (s : Int) : List Int := [s % 256, s / 256 % 256, s / 65536 % 256, s / 16777216 % 256]
theorem le4_bytes (s : Int) : Bytes_ (le4 s) := by
  intro c hc
  simp only [le4, List.mem_cons, List.not_mem_nil, or_false] at hc
  unfold Byte
  rcases hc with rfl | rfl | rfl | rfl <;> omega
def sealL (l : List Int) : List Int := l ++ le4 (crcI l)
theorem sealL_length (l : List Int) : (sealL l).length = l.length + 4 := by simp [sealL, le4]
theorem sealL_bytes {l : List Int} (h : Bytes_ l) : Bytes_ (sealL l) := by
  intro c hc
  rcases List.mem_append.1 hc with hc | hc
  · exact h c hc
  · exact le4_bytes _ c hc
theorem word_append (a b : List Bool) : word (a ++ b) = word a ^^^ (word b <<< a.length) := by
  induction a with
  | nil => simp [word]
  | cons x a ih =>
    simp only [List.cons_append, word, ih, List.length_cons]
    rw [BitVec.shiftLeft_xor_distrib, ← BitVec.shiftLeft_add, BitVec.xor_assoc]
theorem word_le4 (b : BitVec 32) : word (bitsOf (le4 (I b))) = b := by
  have hb := le4_bytes (I b)
  apply BitVec.eq_of_getLsbD_eq
  intro i hi
  rw [word_bit _ i (by rw [bitsOf_length]; simp [le4]; omega) hi, bits_at]
  have hd : ∀ j, j < 4 → (le4 (I b)).getD j 0 = ((b.toNat / 2 ^ (8 * j) % 256 : Nat) : Int) := by
    intro j hj
    rcases j with _ | _ | _ | _ | j
    · simp [le4, I]
    · simp [le4, I]
    · simp [le4, I]
    · simp [le4, I]
    · omega
  unfold bt_
  rw [hd _ (by omega), Int.toNat_natCast, show (256 : Nat) = 2 ^ 8 from rfl, Nat.testBit_mod_two_pow, Nat.testBit_div_two_pow]
  simp only [show i % 8 < 8 from by omega, decide_true, Bool.true_and, BitVec.getLsbD]
  congr 1
  omega
/-- Whatever is sealed leaves one and the same register. -/
theorem reg_seal {l : List Int} (h : Bytes_ l) : reg (sealL l) = Tn 32 ones := by
  unfold sealL
  rw [crcI_reg l h]
  unfold reg
  have e : bitsOf (l ++ le4 (I ((bitsOf l).foldl stp ones ^^^ ones))) = bitsOf l ++ bitsOf (le4 (I ((bitsOf l).foldl stp ones ^^^ ones))) := by simp [bitsOf]
  rw [e, List.foldl_append, feed_word _ _ (by rw [bitsOf_length]; simp [le4]), bitsOf_length]
  rw [word_le4, ← BitVec.xor_assoc, BitVec.xor_self, BitVec.zero_xor]
  rfl
/-- A sealed text, some of up to 32 bits side by side turned about, is sealed by nothing. -/
theorem seal_flips {l : List Int} (h : Bytes_ l) (at_ : Nat) (f : Nat → Bool) (ht : turned at_ (8 * (sealL l).length) f 32 0 = true) {m : List Int} (hm : Bytes_ m) :
    sealL m ≠ flips at_ (8 * (sealL l).length) f 32 0 (sealL l) := by
  intro e
  have := (flips_reg (sealL_bytes h) at_ f).1 (by rw [← e, reg_seal h, reg_seal hm])
  rw [ht] at this
  cases this
end Go.Proofs.Ytnbjflcfdncocaa.Q
