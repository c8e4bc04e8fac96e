/- For every three texts: of three texts of one length, held against one another bit by bit, the sum is the three sums held so (CrcLinear answers true); on no condition. -/
import Derived.Test.YtnbjflcfdncocaaQ1
import Derived.Test.YtnbjflcfdncocaaFacts
namespace Go.Proofs.Ytnbjflcfdncocaa.Pure
open Go.RowKit Go.Proofs.Ytnbjflcfdncocaa.Q Go.Proofs.YtnbjflcfdncocaaW.PrintWords Go.Proofs.YtnbjflcfdncocaaW.PrintLast

def x3 (a b c : Int) : Int := Go.bits .xor .u8 (Go.bits .xor .u8 a b) c
/-- What the loop has made of the first i places. -/
def fill (a b c : List Int) (n i : Nat) : List Int := (List.range n).map fun j => if j < i then x3 (a.getD j 0) (b.getD j 0) (c.getD j 0) else 0
theorem fill_length (a b c : List Int) (n i : Nat) : (fill a b c n i).length = n := by simp [fill]
theorem fill_set (a b c : List Int) (n i : Nat) (_h : i < n) : (fill a b c n i).set i (x3 (a.getD i 0) (b.getD i 0) (c.getD i 0)) = fill a b c n (i + 1) := by
  apply List.ext_getElem (by simp [fill])
  intro j h1 h2
  rw [List.getElem_set]
  by_cases e : i = j
  · subst e; simp [fill]
  · rw [if_neg e]
    by_cases hj : j < i
    · simp [fill, hj, show j < i + 1 by omega]
    · simp [fill, hj, show ¬ j < i + 1 by omega]
theorem x3_byte {a b c : Int} (ha : Byte a) (hb : Byte b) (hc : Byte c) : Byte (x3 a b c) ∧ BitVec.ofInt 32 (x3 a b c) = BitVec.ofInt 32 a ^^^ BitVec.ofInt 32 b ^^^ BitVec.ofInt 32 c := by
  have h1 := xor_u8 a b ha hb
  have h2 := xor_u8 _ c h1.2 hc
  refine ⟨h2.2, ?_⟩
  unfold x3
  rw [h2.1, h1.1, Int.toNat_natCast]
  apply BitVec.eq_of_toNat_eq
  have t : ∀ x : Int, Byte x → (BitVec.ofInt 32 x).toNat = x.toNat := fun x hx => by
    obtain ⟨x0, x1⟩ := hx
    rw [BitVec.toNat_ofInt]; omega
  rw [BitVec.toNat_xor, BitVec.toNat_xor, t a ha, t b hb, t c hc, BitVec.toNat_ofInt]
  have h3 := h2.2
  unfold Byte at h3
  rw [h2.1, h1.1, Int.toNat_natCast] at h3
  omega
theorem byt3 {a b c : Int} (ha : Byte a) (hb : Byte b) (hc : Byte c) (p q r : BitVec 32) : byt (I (p ^^^ q ^^^ r)) (x3 a b c) = I (Tn 8 (p ^^^ BitVec.ofInt 32 a) ^^^ Tn 8 (q ^^^ BitVec.ofInt 32 b) ^^^ Tn 8 (r ^^^ BitVec.ofInt 32 c)) := by
  have h := x3_byte ha hb hc
  conv => lhs; rw [I_of (x3 a b c) h.1.1 (by have := h.1.2; omega), h.2]
  rw [byt_I, ← Tn_xor, ← Tn_xor]
  congr 2
  ac_rfl
def stepB (r : BitVec 32) (c : Int) : BitVec 32 := Tn 8 (r ^^^ BitVec.ofInt 32 c)
theorem fold_stepB (l : List Int) : ∀ r : BitVec 32, Bytes_ l → l.foldl byt (I r) = I (l.foldl stepB r) := by
  induction l with
  | nil => intro r _; rfl
  | cons c l ih =>
    intro r h
    have hc := h c (by simp)
    rw [List.foldl_cons, List.foldl_cons]
    conv => lhs; rw [I_of c hc.1 (by have := hc.2; omega)]
    rw [byt_I, ih _ (fun x hx => h x (by simp [hx]))]
    rfl
theorem fold3 : ∀ (a b c : List Int) (p q r : BitVec 32), Bytes_ a → Bytes_ b → Bytes_ c → a.length = b.length → a.length = c.length →
    (List.zipWith (fun u v => x3 u v.1 v.2) a (b.zip c)).foldl byt (I (p ^^^ q ^^^ r)) = I (a.foldl stepB p ^^^ b.foldl stepB q ^^^ c.foldl stepB r)
  | [], [], [], p, q, r, _, _, _, _, _ => rfl
  | [], _ :: _, _, _, _, _, _, _, _, h, _ => by simp at h
  | [], _, _ :: _, _, _, _, _, _, _, _, h => by simp at h
  | _ :: _, [], _, _, _, _, _, _, _, h, _ => by simp at h
  | _ :: _, _, [], _, _, _, _, _, _, _, h => by simp at h
  | x :: a, y :: b, z :: c, p, q, r, ha, hb, hc, h1, h2 => by
    simp only [List.zip_cons_cons, List.zipWith_cons_cons, List.foldl_cons]
    rw [byt3 (ha x (by simp)) (hb y (by simp)) (hc z (by simp)), fold3 a b c _ _ _ (fun u hu => ha u (by simp [hu])) (fun u hu => hb u (by simp [hu])) (fun u hu => hc u (by simp [hu])) (by simpa using h1) (by simpa using h2)]
    rfl
theorem fill_zip (a b c : List Int) (n : Nat) (ha : n ≤ a.length) (hb : n ≤ b.length) (hc : n ≤ c.length) : fill a b c n n = List.zipWith (fun u v => x3 u v.1 v.2) (a.take n) ((b.take n).zip (c.take n)) := by
  apply List.ext_getElem
  · simp [fill]; omega
  · intro i h1 h2
    have hi : i < n := by simpa [fill] using h1
    simp [fill, hi, List.getElem_zipWith, List.getElem_zip, List.getElem?_eq_getElem (show i < a.length by omega), List.getElem?_eq_getElem (show i < b.length by omega), List.getElem?_eq_getElem (show i < c.length by omega)]
theorem crc3 (a b c : List Int) (n : Nat) (ha : Bytes_ a) (hb : Bytes_ b) (hc : Bytes_ c) (h1 : n ≤ a.length) (h2 : n ≤ b.length) (h3 : n ≤ c.length) :
    crcI (fill a b c n n) = Go.bits .xor .u32 (Go.bits .xor .u32 (crcI (a.take n)) (crcI (b.take n))) (crcI (c.take n)) := by
  have tk : ∀ l : List Int, Bytes_ l → Bytes_ (l.take n) := fun l hl x hx => hl x (List.mem_of_mem_take hx)
  rw [fill_zip a b c n h1 h2 h3]
  unfold crcI
  rw [show (4294967295 : Int) = I ones from by decide]
  rw [fold_stepB _ _ (tk a ha), fold_stepB _ _ (tk b hb), fold_stepB _ _ (tk c hc), xor_I, xor_I, xor_I, xor_I, xor_I]
  have e : I ones = I (ones ^^^ ones ^^^ ones) := by decide
  conv => lhs; rw [show (List.foldl byt (I ones) (List.zipWith (fun u v => x3 u v.1 v.2) (a.take n) ((b.take n).zip (c.take n)))) = I (List.foldl stepB ones (a.take n) ^^^ List.foldl stepB ones (b.take n) ^^^ List.foldl stepB ones (c.take n)) from by
    rw [e, fold3 _ _ _ _ _ _ (tk a ha) (tk b hb) (tk c hc) (by simp; omega) (by simp; omega)]]
  rw [xor_I]
  congr 1
  generalize List.foldl stepB ones (a.take n) = A
  generalize List.foldl stepB ones (b.take n) = B
  generalize List.foldl stepB ones (c.take n) = C
  have hh : ones ^^^ ones = 0#32 := by decide
  have : A ^^^ ones ^^^ (B ^^^ ones) ^^^ (C ^^^ ones) = A ^^^ B ^^^ C ^^^ ones ^^^ (ones ^^^ ones) := by ac_rfl
  rw [this, hh, BitVec.xor_zero]
theorem linear_loop (a b c : List Int) (n : Nat) (hA : Bytes_ a) (hB : Bytes_ b) (hC : Bytes_ c) (ha : n ≤ a.length) (hb : n ≤ b.length) (hc : n ≤ c.length) (hn : n ≤ 1000) : ∀ (d i k : Nat), i + d = n → d < k →
    raddlelaw02_CrcLinear.l0 k a b c (n : Int) (fill a b c n i) (i : Int) = some true := by
  intro d
  induction d with
  | zero =>
    intro i k hi hk
    obtain ⟨k, rfl⟩ : ∃ m, k = m + 1 := ⟨k - 1, by omega⟩
    obtain rfl : i = n := by omega
    simp only [raddlelaw02_CrcLinear.l0]
    rw [if_neg (by omega)]
    simp only [Sum_eq, Option.bind_some, Int.toNat_natCast]
    rw [if_pos (by omega), if_pos (by omega), if_pos (by omega), if_pos (by omega), if_pos (crc3 a b c i hA hB hC ha hb hc), if_pos (by decide)]
    rfl
  | succ d ih =>
    intro i k hi hk
    obtain ⟨k, rfl⟩ : ∃ m, k = m + 1 := ⟨k - 1, by omega⟩
    simp only [raddlelaw02_CrcLinear.l0]
    rw [if_pos (by omega), if_pos (by omega), if_pos (by omega), if_pos (by omega), if_pos (by omega), if_pos (by rw [fill_length]; omega), wrap_in _ (by omega) (by omega), Int.toNat_natCast, rd_nat, rd_nat, rd_nat]
    rw [show (fill a b c n i).set i (Go.bits .xor .u8 (Go.bits .xor .u8 (a.getD i 0) (b.getD i 0)) (c.getD i 0)) = fill a b c n (i + 1) from fill_set a b c n i (by omega), show (i : Int) + 1 = ((i + 1 : Nat) : Int) from by omega]
    exact ih (i + 1) k (by omega) (by omega)
theorem CrcLinear : raddlelaw02_CrcLinear.Pure := by
  intro l0 l1 l2 hm0 _ hw0 hm1 _ hw1 hm2 _ hw2
  refine ⟨2000, ?_⟩
  unfold raddlelaw02_CrcLinear.f
  have e : ∀ b, b = true → raddlelaw02_CrcLinear.j0 2000 l0 l1 l2 b = some true := by
    rintro b rfl
    simp only [raddlelaw02_CrcLinear.j0]
    rfl
  by_cases h0 : (l0.length : Int) > 300
  · rw [if_pos h0]; exact e _ rfl
  rw [if_neg h0]
  by_cases h1 : (l1.length : Int) > 300
  · rw [if_pos h1]; exact e _ rfl
  rw [if_neg h1]
  by_cases h2 : (l2.length : Int) > 300
  · exact e _ (decide_eq_true h2)
  rw [decide_eq_false h2, show (2000 : Nat) = 1999 + 1 from rfl]
  simp only [raddlelaw02_CrcLinear.j0]
  obtain ⟨n, hn⟩ : ∃ n : Nat, n = min l0.length (min l1.length l2.length) := ⟨_, rfl⟩
  have hmn : mn (l0.length : Int) (mn (l1.length : Int) (l2.length : Int)) = (n : Int) := by
    unfold mn
    subst hn
    split <;> split <;> omega
  rw [if_neg (by decide), hmn, if_pos (by omega), Int.toNat_natCast, if_pos (by omega)]
  have hz : List.replicate n (0 : Int) = fill l0 l1 l2 n 0 := by
    apply List.ext_getElem (by simp [fill])
    intro i h1 h2
    simp [fill]
  rw [hz]
  exact linear_loop l0 l1 l2 n (byte_of hw0) (byte_of hw1) (byte_of hw2) (by omega) (by omega) (by omega) (by omega) n 0 1999 (by omega) (by omega)
end Go.Proofs.Ytnbjflcfdncocaa.Pure
