/- Plain facts on the sum of bytes: the register as 32 bits, one bit at a time; texts that differ in up to 32 bits side by side have unlike sums. -/
import Derived.Test.YtnbjflcfdncocaaHand
namespace Go.Proofs.Ytnbjflcfdncocaa.Q
open Go.RowKit

/-! ### The register as 32 bits -/
def P32 : BitVec 32 := 2197175160#32
def T (r : BitVec 32) : BitVec 32 := if r.getLsbD 0 then (r >>> 1) ^^^ P32 else r >>> 1
def Tn : Nat → BitVec 32 → BitVec 32
  | 0, r => r
  | n + 1, r => T (Tn n r)
theorem Tn_add (m n : Nat) (r : BitVec 32) : Tn (m + n) r = Tn m (Tn n r) := by
  induction m with
  | zero => simp [Tn]
  | succ m ih => rw [show m + 1 + n = (m + n) + 1 from by omega]; simp only [Tn, ih]
theorem Tn_succ' (n : Nat) (r : BitVec 32) : Tn (n + 1) r = Tn n (T r) := Tn_add n 1 r
theorem T_xor (a b : BitVec 32) : T (a ^^^ b) = T a ^^^ T b := by
  unfold T
  rw [BitVec.getLsbD_xor, BitVec.ushiftRight_xor_distrib]
  cases a.getLsbD 0 <;> cases b.getLsbD 0 <;> simp
  · exact BitVec.xor_assoc _ _ _
  · rw [BitVec.xor_assoc, BitVec.xor_assoc, BitVec.xor_comm P32]
  · rw [BitVec.xor_assoc, BitVec.xor_comm P32, BitVec.xor_assoc, BitVec.xor_self, BitVec.xor_zero]
theorem Tn_xor (n : Nat) (a b : BitVec 32) : Tn n (a ^^^ b) = Tn n a ^^^ Tn n b := by
  induction n with
  | zero => rfl
  | succ n ih => simp only [Tn, ih, T_xor]
theorem T_zero : T 0#32 = 0#32 := by decide
theorem T_top (r : BitVec 32) : (T r).getLsbD 31 = r.getLsbD 0 := by
  unfold T
  cases h : r.getLsbD 0
  · simp
  · simp only [if_true, BitVec.getLsbD_xor, BitVec.getLsbD_ushiftRight]
    rw [BitVec.getLsbD_of_ge r (1 + 31) (by omega), show P32.getLsbD 31 = true from by decide]; rfl
theorem xor_eq_zero {a b : BitVec 32} (h : a ^^^ b = 0#32) : a = b := by
  have := congrArg (· ^^^ b) h
  simpa [BitVec.xor_assoc] using this
theorem T_ker {r : BitVec 32} (h : T r = 0#32) : r = 0#32 := by
  have h0 : r.getLsbD 0 = false := by rw [← T_top, h]; rfl
  unfold T at h
  rw [h0, if_neg (by decide)] at h
  apply BitVec.eq_of_getLsbD_eq
  intro i hi
  rcases i with _ | i
  · simpa using h0
  · have := congrArg (fun x => BitVec.getLsbD x i) h
    simpa [Nat.add_comm] using this
theorem T_inj {a b : BitVec 32} (h : T a = T b) : a = b := by
  apply xor_eq_zero
  apply T_ker
  rw [T_xor, h, BitVec.xor_self]
theorem Tn_inj : ∀ (n : Nat) {a b : BitVec 32}, Tn n a = Tn n b → a = b
  | 0, _, _, h => h
  | n + 1, _, _, h => Tn_inj n (T_inj h)

/-! ### One bit at a time -/
def stp (r : BitVec 32) (b : Bool) : BitVec 32 := T (r ^^^ (BitVec.ofBool b).setWidth 32)
def word : List Bool → BitVec 32
  | [] => 0#32
  | b :: bs => (BitVec.ofBool b).setWidth 32 ^^^ (word bs <<< 1)
theorem word_high (bs : List Bool) : ∀ i, bs.length ≤ i → (word bs).getLsbD i = false := by
  induction bs with
  | nil => intro i _; simp [word]
  | cons b bs ih =>
    intro i hi
    simp only [List.length_cons] at hi
    rcases i with _ | i
    · omega
    · simp only [word, BitVec.getLsbD_xor, BitVec.getLsbD_shiftLeft]
      by_cases hlt : i + 1 < 32
      · simp [hlt, ih i (by omega)]
      · simp [hlt]
theorem word_bit (bs : List Bool) : ∀ i, i < bs.length → i < 32 → (word bs).getLsbD i = bs.getD i false := by
  induction bs with
  | nil => intro i h; simp at h
  | cons b bs ih =>
    intro i hi h32
    rcases i with _ | i
    · simp [word]
    · simp only [List.length_cons] at hi
      simp only [word, BitVec.getLsbD_xor, BitVec.getLsbD_shiftLeft]
      simp [h32, ih i (by omega) (by omega)]
theorem word_inj {a b : List Bool} (hl : a.length = b.length) (h32 : a.length ≤ 32) (h : word a = word b) : a = b := by
  apply List.ext_getElem hl
  intro i h1 h2
  have e := congrArg (fun x => BitVec.getLsbD x i) h
  simp only [word_bit a i h1 (by omega), word_bit b i h2 (by omega)] at e
  simpa [List.getD_eq_getElem?_getD, h1, h2] using e
theorem T_shl (w : BitVec 32) (h : w.getLsbD 31 = false) : T (w <<< 1) = w := by
  unfold T
  have h0 : (w <<< 1).getLsbD 0 = false := by simp
  rw [h0, if_neg (by simp)]
  apply BitVec.eq_of_getLsbD_eq
  intro i hi
  simp only [BitVec.getLsbD_ushiftRight, BitVec.getLsbD_shiftLeft]
  by_cases h1 : 1 + i < 32
  · simp [h1]
  · have : i = 31 := by omega
    subst this
    rw [h]
    simp
theorem feed_word (bs : List Bool) : ∀ (r : BitVec 32), bs.length ≤ 32 → bs.foldl stp r = Tn bs.length (r ^^^ word bs) := by
  induction bs with
  | nil => intro r _; simp [word, Tn]
  | cons b bs ih =>
    intro r h
    simp only [List.length_cons] at h
    rw [List.foldl_cons, ih _ (by omega), List.length_cons, Tn_succ']
    congr 1
    simp only [stp, word]
    rw [← BitVec.xor_assoc, T_xor (r ^^^ _), T_shl (word bs) (word_high bs 31 (by omega))]
theorem feed_inj (q : List Bool) : ∀ {a b : BitVec 32}, q.foldl stp a = q.foldl stp b → a = b := by
  induction q with
  | nil => intro a b h; exact h
  | cons x q ih =>
    intro a b h
    have h1 := T_inj (ih h)
    have := congrArg (· ^^^ (BitVec.ofBool x).setWidth 32) h1
    simpa [BitVec.xor_assoc] using this
/-- Two rows of bits that differ in a window of 32 alone have unlike sums, or are one. -/
theorem burst (A B : List Bool) (r : BitVec 32) (at_ : Nat) (hl : A.length = B.length) (h1 : A.take at_ = B.take at_) (h2 : A.drop (at_ + 32) = B.drop (at_ + 32)) (h : A.foldl stp r = B.foldl stp r) : A = B := by
  have sp : ∀ L : List Bool, L = L.take at_ ++ ((L.drop at_).take 32 ++ L.drop (at_ + 32)) := fun L => by
    rw [← List.drop_drop, List.take_append_drop, List.take_append_drop]
  rw [sp A, sp B] at h ⊢
  rw [← h1, ← h2] at h ⊢
  simp only [List.foldl_append] at h
  have e := feed_inj _ h
  rw [feed_word _ _ (List.length_take_le _ _), feed_word _ _ (List.length_take_le _ _)] at e
  have hll : ((A.drop at_).take 32).length = ((B.drop at_).take 32).length := by simp [hl]
  rw [hll] at e
  have e2 := Tn_inj _ e
  have e3 : word ((A.drop at_).take 32) = word ((B.drop at_).take 32) := by
    have := congrArg ((A.take at_).foldl stp r ^^^ ·) e2
    simpa [← BitVec.xor_assoc] using this
  rw [word_inj hll (List.length_take_le _ _) e3]

/-! ### From whole numbers to bits -/
def I (b : BitVec 32) : Int := (b.toNat : Int)
theorem I_lt (b : BitVec 32) : I b < 4294967296 := by unfold I; have := b.isLt; omega
theorem I_nonneg (b : BitVec 32) : 0 ≤ I b := by unfold I; omega
theorem I_inj {a b : BitVec 32} (h : I a = I b) : a = b := by unfold I at h; exact BitVec.eq_of_toNat_eq (by omega)
theorem I_of (x : Int) (h0 : 0 ≤ x) (h1 : x < 4294967296) : x = I (BitVec.ofInt 32 x) := by
  unfold I; rw [BitVec.toNat_ofInt]; omega
theorem ofInt_I (a : BitVec 32) : BitVec.ofInt 32 (I a) = a := by unfold I; simp
theorem xor_I (a b : BitVec 32) : bits .xor .u32 (I a) (I b) = I (a ^^^ b) := by
  unfold bits
  rw [IntKind.wrap_u32]
  show ((BitVec.ofInt 32 (I a) ^^^ BitVec.ofInt 32 (I b)).toNat : Int) % 4294967296 = _
  rw [ofInt_I, ofInt_I]
  have := (a ^^^ b).isLt
  unfold I
  omega
theorem and1_I (a : BitVec 32) : bits .and .u32 (I a) 1 = 1 ↔ a.getLsbD 0 = true := by
  unfold bits
  rw [IntKind.wrap_u32]
  show ((BitVec.ofInt 32 (I a) &&& 1#32).toNat : Int) % 4294967296 = 1 ↔ _
  rw [ofInt_I]
  have e : (a &&& 1#32).toNat = a.toNat % 2 := by
    rw [BitVec.toNat_and]; exact Nat.and_one_is_mod _
  rw [e]
  have e2 : a.getLsbD 0 = decide (a.toNat % 2 = 1) := by
    simp [BitVec.getLsbD, Nat.testBit_zero]
  rw [e2]
  simp
  omega
theorem half_I (a : BitVec 32) : I a / (2 : Int) = I (a >>> 1) := by
  unfold I; rw [BitVec.toNat_ushiftRight, Nat.shiftRight_eq_div_pow]; omega
theorem div16_I (a : BitVec 32) : I a / (16 : Int) = I (a >>> 4) := by
  unfold I; rw [BitVec.toNat_ushiftRight, Nat.shiftRight_eq_div_pow]; omega
theorem mod16_I (a : BitVec 32) : I a % (16 : Int) = I (a &&& 15#32) := by
  unfold I
  rw [BitVec.toNat_and]
  have : a.toNat &&& (15#32).toNat = a.toNat % 2 ^ 4 := Nat.and_two_pow_sub_one_eq_mod _ 4
  rw [this]; omega
theorem bst_I (a : BitVec 32) : bst (I a) = I (T a) := by
  unfold bst T
  by_cases h : a.getLsbD 0 = true
  · rw [if_pos ((and1_I a).2 h), if_pos h, half_I, show (2197175160 : Int) = I P32 from by decide, xor_I]
  · rw [if_neg (fun e => h ((and1_I a).1 e)), if_neg h, half_I]
theorem it_I (m : Nat) (a : BitVec 32) : it m (I a) = I (Tn m a) := by
  induction m with
  | zero => rfl
  | succ m ih => simp only [it, Tn, ih, bst_I]
/-- Four steps at once: where the four lowest bits are noughts they shift alone. -/
theorem Tn_shift (m : Nat) : ∀ (a : BitVec 32), (∀ i, i < m → a.getLsbD i = false) → Tn m a = a >>> m := by
  induction m with
  | zero => intro a _; simp [Tn]
  | succ m ih =>
    intro a h
    have h0 : T a = a >>> 1 := by
      unfold T; rw [h 0 (by omega), if_neg (by decide)]
    rw [Tn_succ', h0, ih _ (fun i hi => by
      rw [BitVec.getLsbD_ushiftRight]; exact h _ (by omega)), ← BitVec.shiftRight_add, Nat.add_comm]
theorem Tn4 (a : BitVec 32) : Tn 4 a = (a >>> 4) ^^^ Tn 4 (a &&& 15#32) := by
  have e : a = (a &&& ~~~15#32) ^^^ (a &&& 15#32) := by
    apply BitVec.eq_of_getLsbD_eq
    intro i hi
    simp only [BitVec.getLsbD_xor, BitVec.getLsbD_and, BitVec.getLsbD_not]
    cases a.getLsbD i <;> cases (15#32).getLsbD i <;> simp [hi]
  have s : Tn 4 (a &&& ~~~15#32) = a >>> 4 := by
    rw [Tn_shift 4 _ (fun i hi => by
      rw [BitVec.getLsbD_and, BitVec.getLsbD_not]
      rcases i with _ | _ | _ | _ | i <;> first | (simp; done) | omega)]
    apply BitVec.eq_of_getLsbD_eq
    intro i hi
    simp only [BitVec.getLsbD_ushiftRight, BitVec.getLsbD_and, BitVec.getLsbD_not]
    by_cases h : 4 + i < 32
    · have : (15#32).getLsbD (4 + i) = false := by
        rw [BitVec.getLsbD_ofNat]
        have : Nat.testBit 15 (4 + i) = false := Nat.testBit_lt_two_pow (Nat.lt_of_lt_of_le (by decide : 15 < 2 ^ 4) (Nat.pow_le_pow_right (by decide) (by omega)))
        simp [this]
      rw [this]; simp only [decide_eq_true h, Bool.not_false, Bool.and_true]
    · simp [BitVec.getLsbD_of_ge a (4 + i) (by omega)]
  rw [← s, ← Tn_xor, ← e]
theorem nib_I (a : BitVec 32) : nib (I a) = I (Tn 4 a) := by
  unfold nib
  rw [div16_I, mod16_I, it_I, xor_I, ← Tn4]
theorem byt_I (a c : BitVec 32) : byt (I a) (I c) = I (Tn 8 (a ^^^ c)) := by
  unfold byt
  rw [Int.emod_eq_of_lt (I_nonneg c) (I_lt c), xor_I, nib_I, nib_I, ← Tn_add]

/-! ### A byte's bits -/
def bits8 (c : Int) : List Bool := (List.range 8).map fun i => c.toNat.testBit i
def bitsOf (l : List Int) : List Bool := l.flatMap bits8
def Byte (c : Int) : Prop := 0 ≤ c ∧ c ≤ 255
theorem bits8_length (c : Int) : (bits8 c).length = 8 := by simp [bits8]
theorem bitsOf_length (l : List Int) : (bitsOf l).length = 8 * l.length := by
  induction l with
  | nil => rfl
  | cons c l ih => simp only [bitsOf, List.flatMap_cons, List.length_append, bits8_length, List.length_cons] at ih ⊢; omega
theorem word_bits8 (c : Int) (h : Byte c) : word (bits8 c) = BitVec.ofInt 32 c := by
  obtain ⟨h0, h1⟩ := h
  apply BitVec.eq_of_getLsbD_eq
  intro i hi
  by_cases h8 : i < 8
  · rw [word_bit _ i (by rw [bits8_length]; exact h8) hi]
    have : (BitVec.ofInt 32 c).toNat = c.toNat := by rw [BitVec.toNat_ofInt]; omega
    simp only [BitVec.getLsbD, this]
    simp [bits8, h8]
  · rw [word_high _ i (by rw [bits8_length]; omega)]
    have : (BitVec.ofInt 32 c).toNat = c.toNat := by rw [BitVec.toNat_ofInt]; omega
    simp only [BitVec.getLsbD, this]
    exact (Nat.testBit_lt_two_pow (Nat.lt_of_lt_of_le (by omega : c.toNat < 2 ^ 8) (Nat.pow_le_pow_right (by decide) (by omega)))).symm
theorem byt_bits (a : BitVec 32) (c : Int) (h : Byte c) : byt (I a) c = I ((bits8 c).foldl stp a) := by
  rw [feed_word _ _ (by rw [bits8_length]; omega), bits8_length, word_bits8 c h]
  conv => lhs; rw [I_of c h.1 (by have := h.2; omega)]
  rw [byt_I]
theorem fold_bits (l : List Int) : ∀ (a : BitVec 32), (∀ c ∈ l, Byte c) → l.foldl byt (I a) = I ((bitsOf l).foldl stp a) := by
  induction l with
  | nil => intro a _; rfl
  | cons c l ih =>
    intro a h
    rw [List.foldl_cons, byt_bits a c (h c (by simp)), ih _ (fun x hx => h x (by simp [hx]))]
    simp [bitsOf]
def ones : BitVec 32 := 4294967295#32
def reg (l : List Int) : BitVec 32 := (bitsOf l).foldl stp ones
theorem crcI_reg (l : List Int) (h : ∀ c ∈ l, Byte c) : crcI l = I (reg l ^^^ ones) := by
  unfold crcI
  rw [show (4294967295 : Int) = I ones from by decide, fold_bits l ones h, xor_I]
  rfl
theorem bits8_inj {a b : Int} (ha : Byte a) (hb : Byte b) (h : bits8 a = bits8 b) : a = b := by
  have e := congrArg word h
  rw [word_bits8 a ha, word_bits8 b hb] at e
  rw [I_of a ha.1 (by have := ha.2; omega), I_of b hb.1 (by have := hb.2; omega), e]
theorem bitsOf_inj : ∀ {a b : List Int}, (∀ c ∈ a, Byte c) → (∀ c ∈ b, Byte c) → a.length = b.length → bitsOf a = bitsOf b → a = b
  | [], [], _, _, _, _ => rfl
  | [], _ :: _, _, _, h, _ => by simp at h
  | _ :: _, [], _, _, h, _ => by simp at h
  | x :: a, y :: b, ha, hb, hl, h => by
    simp only [bitsOf, List.flatMap_cons] at h
    have h1 := List.append_inj h (by rw [bits8_length, bits8_length])
    have e1 := bits8_inj (ha x (by simp)) (hb y (by simp)) h1.1
    have e2 := bitsOf_inj (fun c hc => ha c (by simp [hc])) (fun c hc => hb c (by simp [hc])) (by simpa using hl) h1.2
    rw [e1, e2]
end Go.Proofs.Ytnbjflcfdncocaa.Q
