/- For every text, every place and every word: what is sealed is opened; with up to 32 bits side by side turned about, one at least, it is not (CrcSeals answers true); on no condition. -/
import Derived.Test.YtnbjflcfdncocaaQ5
import Derived.Test.YtnbjflcfdncocaaFacts
namespace Go.Proofs.Ytnbjflcfdncocaa.Pure
open Go.RowKit Go.Proofs.Ytnbjflcfdncocaa.Q Go.Proofs.YtnbjflcfdncocaaW.PrintWords Go.Proofs.YtnbjflcfdncocaaW.PrintLast

/-- What the law tells behind its loop. -/
def sealsEnd (x0 x7 : List Int) (t : Bool) : Bool :=
  if t then decide ((openL x7).2 = 4 ∧ (openL x7).1.length = 0) else decide ((openL x7).2 = 0 ∧ (openL x7).1 = x0)
theorem openL_length (l : List Int) : (openL l).1.length ≤ l.length := by
  unfold openL
  split
  · simp
  · split
    · simp
    · simp
theorem seals_end (x0 x7 : List Int) (hm : x7.length ≤ 1000) (k : Nat) (hk : x7.length + 3 < k) (a1 a2 n x13 : Int) (t : Bool) :
    raddlelaw02_CrcSeals.j2 k x0 a1 a2 x7 n t x13 false = some (sealsEnd x0 x7 t) := by
  obtain ⟨k, rfl⟩ : ∃ m, k = m + 1 := ⟨k - 1, by omega⟩
  simp only [raddlelaw02_CrcSeals.j2]
  rw [if_neg (by decide), Open_eq _ (by omega) _ (by omega)]
  simp only [Option.bind_some, wakes_eq]
  unfold sealsEnd
  have hl := openL_length x7
  cases t
  · simp only [Bool.false_eq_true, if_false]
    by_cases h1 : (openL x7).2 = 0
    · rw [if_pos h1, Bytes_eq _ _ (by omega) _ (by omega)]
      simp only [Option.bind_some, decide_eq_true_eq, h1, true_and]
      split
      · rename_i h2; rw [decide_eq_true h2]
      · rename_i h2; rw [decide_eq_false h2]
    · rw [if_neg h1, decide_eq_false (fun h => h1 h.1)]
  · rw [if_pos rfl, if_pos rfl]
    by_cases h1 : (openL x7).2 = 4
    · rw [if_pos h1]
      by_cases h2 : (openL x7).1.length = 0
      · rw [if_pos (by omega), decide_eq_true ⟨h1, h2⟩]
      · rw [if_neg (by omega), decide_eq_false (fun h => h2 h.2)]
    · rw [if_neg h1, decide_eq_false (fun h => h1 h.1)]
theorem seals_loop (x0 : List Int) (p n : Nat) (a2 : Int) (_hn : n ≤ 100000) (hp : p < n) : ∀ (d i k : Nat) (x7 : List Int) (t : Bool), i + d = 32 → x7.length ≤ 1000 → 8 * x7.length = n → 2 * d + x7.length + 5 < k →
    raddlelaw02_CrcSeals.l0 k x0 (p : Int) a2 x7 (n : Int) t (i : Int) = some (sealsEnd x0 (flips p n (has a2) d i x7) (t || turned p n (has a2) d i)) := by
  intro d
  induction d with
  | zero =>
    intro i k x7 t hi hm hl hk
    obtain ⟨k, rfl⟩ : ∃ m, k = m + 1 := ⟨k - 1, by omega⟩
    simp only [raddlelaw02_CrcSeals.l0]
    rw [if_neg (by omega), seals_end _ _ hm _ (by omega)]
    simp only [flips, turned, Bool.or_false]
  | succ d ih =>
    intro i k x7 t hi hm hl hk
    obtain ⟨k, rfl⟩ : ∃ m, k = m + 2 := ⟨k - 2, by omega⟩
    simp only [raddlelaw02_CrcSeals.l0]
    rw [if_pos (by omega), wrap_in ((p : Int) + i) (by omega) (by omega)]
    by_cases hlt : p + i < n
    · rw [show decide ((p : Int) + i < (n : Int)) = true from decide_eq_true (by omega)]
      simp only [raddlelaw02_CrcSeals.j2]
      rw [if_pos trivial, wrap_u64 (i : Int) (by omega) (by omega), if_pos (by omega), wrap_in ((p : Int) + i) (by omega) (by omega), wrap_in ((i : Int) + 1) (by omega) (by omega)]
      rw [show (p : Int) + i = ((p + i : Nat) : Int) from by omega, tdiv8, tmod8, wrap_in (((p + i) / 8 : Nat) : Int) (by omega) (by omega), wrap_u64 (((p + i) % 8 : Nat) : Int) (by omega) (by omega), show (i : Int) + 1 = ((i + 1 : Nat) : Int) from by omega]
      rw [if_pos (show (0 : Int) ≤ (((p + i) / 8 : Nat) : Int) by omega), if_pos (show (((p + i) / 8 : Nat) : Int) < (x7.length : Int) by omega), if_pos (show (0 : Int) ≤ (((p + i) % 8 : Nat) : Int) by omega)]
      have e : flips p n (has a2) (d + 1) i x7 = flips p n (has a2) d (i + 1) (if has a2 i then flipAt x7 (p + i) else x7) := by
        simp only [flips]; rw [if_pos hlt]
      have e2 : turned p n (has a2) (d + 1) i = (has a2 i || turned p n (has a2) d (i + 1)) := by
        simp only [turned]; rw [if_pos hlt]
      rw [e, e2]
      by_cases hb : bits .and .u32 (shr .u32 a2 (i : Int)) 1 = 1
      · rw [if_pos hb, show has a2 i = true from decide_eq_true hb, if_pos rfl]
        have := ih (i + 1) k (flipAt x7 (p + i)) true (by omega) (by rw [flipAt_length]; exact hm) (by rw [flipAt_length]; exact hl) (by rw [flipAt_length]; omega)
        simp only [Bool.true_or, Bool.or_true] at this ⊢
        exact this
      · rw [if_neg hb, show has a2 i = false from decide_eq_false hb, if_neg (by decide), Bool.false_or]
        exact ih (i + 1) k _ t (by omega) hm hl (by omega)
    · rw [show decide ((p : Int) + i < (n : Int)) = false from decide_eq_false (by omega), seals_end _ _ hm _ (by omega)]
      have e : flips p n (has a2) (d + 1) i x7 = x7 := by
        simp only [flips]; rw [if_neg hlt]
      have e2 : turned p n (has a2) (d + 1) i = false := by
        simp only [turned]; rw [if_neg hlt]
      rw [e, e2, Bool.or_false]
theorem take_bytes {l : List Int} (h : Bytes_ l) (n : Nat) : Bytes_ (l.take n) := fun c hc => h c (List.mem_of_mem_take hc)
/-- The law's course, of what Seal and Open tell. -/
theorem seals_course (l0 x : List Int) (a1 a2 : Int) (p k : Nat) (hk : 10000 < k) (hl : l0.length ≤ 300) (hx : x.length = l0.length + 4) (hS : crc_Seal.f l0 = some (x, 0)) (hO : crc_Open.f (k + 1) x = some (l0, 0)) (hp : p < 8 * x.length)
    (e : wrap64 (Int.tmod (IntKind.u64.wrap a1) (IntKind.u64.wrap (wrap64 (8 * (x.length : Int))))) = (p : Int)) :
    raddlelaw02_CrcSeals.f (k + 1) l0 a1 a2 = some (sealsEnd l0 (flips p (8 * x.length) (has a2) 32 0 x) (false || turned p (8 * x.length) (has a2) 32 0)) := by
  unfold raddlelaw02_CrcSeals.f
  rw [if_neg (by omega), hS, Option.bind_some, hO, Option.bind_some, if_pos (show (x, (0 : Int)).2 = 0 from rfl), if_pos (show (l0, (0 : Int)).2 = 0 from rfl)]
  rw [if_pos (show ((x, (0 : Int)).1.length : Int) = wrap64 ((l0.length : Int) + 4) by rw [wrap_in _ (by omega) (by omega)]; show (x.length : Int) = _; omega)]
  rw [Bytes_eq l0 l0 (by omega) _ (by omega), Option.bind_some, show decide (l0 = l0) = true from decide_eq_true rfl]
  show raddlelaw02_CrcSeals.j0 (k + 1) l0 a1 a2 x false = _
  rw [raddlelaw02_CrcSeals.j0]
  rw [if_neg (by decide), e, wrap_in (8 * (x.length : Int)) (by omega) (by omega), wrap_u64 (8 * (x.length : Int)) (by omega) (by omega), if_neg (by omega)]
  have hloop := seals_loop l0 p (8 * x.length) a2 (by omega) hp 32 0 k x false (by omega) (by omega) rfl (by omega)
  rw [show ((0 : Nat) : Int) = 0 from rfl, show ((8 * x.length : Nat) : Int) = 8 * (x.length : Int) from by omega] at hloop
  exact hloop
theorem CrcSeals : raddlelaw02_CrcSeals.Pure := by
  intro l0 a1 a2 hm _ hw _ _
  obtain ⟨k, hk⟩ : ∃ k : Nat, 10000 < k := ⟨_, Nat.lt_succ_self _⟩
  refine ⟨k + 1, ?_⟩
  by_cases hl : (l0.length : Int) > 300
  · unfold raddlelaw02_CrcSeals.f
    rw [if_pos hl]
  have hb := byte_of hw
  have hsl := sealL_length l0
  obtain ⟨p, hp, e⟩ := place a1 (sealL l0).length (by omega) (by omega)
  rw [seals_course l0 (sealL l0) a1 a2 p k hk (by omega) hsl (Seal_eq _ (by omega)) (by rw [Open_eq _ (by rw [hsl]; omega) _ (by rw [hsl]; omega), openL_seal _ (by omega)]) hp e]
  congr 1
  obtain ⟨fl, fb, _, fd, _⟩ := flips_facts p (8 * (sealL l0).length) (has a2) 32 0 (sealL l0) (sealL_bytes hb) rfl
  rw [Bool.false_or]
  unfold sealsEnd
  cases ht : turned p (8 * (sealL l0).length) (has a2) 32 0
  · rw [if_neg (by decide), fd ht, openL_seal _ (by omega)]
    exact decide_eq_true ⟨rfl, rfl⟩
  · rw [if_pos rfl]
    have hne := seal_flips hb p (has a2) ht (m := (flips p (8 * (sealL l0).length) (has a2) 32 0 (sealL l0)).take ((flips p (8 * (sealL l0).length) (has a2) 32 0 (sealL l0)).length - 4)) (take_bytes fb _)
    unfold openL
    rw [if_neg (by omega), if_neg hne]
    exact decide_eq_true ⟨rfl, rfl⟩
end Go.Proofs.Ytnbjflcfdncocaa.Pure
