/- The law MsgSizes of the program's messages holds for every input (its row stands in the last of these texts): part 5 of 6. -/
import Derived.Test.YtnbjflcfdncocaaMsgSizes2
import Derived.Test.YtnbjflcfdncocaaMsgSizes4
import Derived.Deep.QuietTactic
import Derived.BigQuiet
import Derived.Deep.RegionHeld3
import Derived.Deep.RegionLaw
/- Plain facts: what value.Check, value.Bytes and row.Bytes tell. -/
namespace Go.Proofs.Ytnbjflcfdncocaa.M
open Go.RowKit Go.Proofs.YtnbjflcfdncocaaW.PrintWords Go.Proofs.YtnbjflcfdncocaaW.PrintLast Go.Proofs.YtnbjflcfdncocaaW.PrintMore

abbrev Val := S101
/-- A right value. -/
def goodV (v : Val) : Prop := (v.f0 = 1 ∧ v.f1 = 0 ∧ v.f2.toList = []) ∨ (v.f0 = 2 ∧ (v.f1 = 0 ∨ v.f1 = 1) ∧ v.f2.toList = []) ∨ (v.f0 = 3 ∧ -1152921504606846976 ≤ v.f1 ∧ v.f1 ≤ 1152921504606846976 ∧ v.f2.toList = []) ∨ (v.f0 = 4 ∧ v.f1 = 0 ∧ (v.f2.size : Int) ≤ 24)
instance (v : Val) : Decidable (goodV v) := by unfold goodV; infer_instance
theorem Check_eq (v : Val) : value_Check.f v.f0 v.f1 v.f2 = some (if goodV v then 0 else 1) := by
  obtain ⟨a, b, s⟩ := v
  unfold value_Check.f value_within.f goodV
  have hw : wrap64 (-1152921504606846976) = -1152921504606846976 := wrap_in _ (by omega) (by omega)
  simp only [hw]
  by_cases h1 : a = 1
  · subst h1
    by_cases h2 : b = 0 <;> by_cases h3 : s.toList = [] <;> simp [h2, h3]
  · by_cases h2 : a = 2
    · subst h2
      by_cases h4 : b = 0
      · subst h4
        by_cases h3 : s.toList = [] <;> simp [h3]
      · by_cases h5 : b = 1
        · subst h5
          by_cases h3 : s.toList = [] <;> simp [h3]
        · simp [h4, h5]
    · by_cases h3 : a = 3
      · subst h3
        by_cases h4 : b ≥ -1152921504606846976
        · by_cases h5 : b ≤ 1152921504606846976
          · by_cases h6 : s.toList = [] <;> simp [h4, h5, h6]
          · simp [h4, h5]
        · have : ¬ (-1152921504606846976 ≤ b) := h4
          simp [this]
      · by_cases h4 : a = 4
        · subst h4
          by_cases h5 : b = 0 <;> by_cases h6 : (s.size : Int) ≤ 24 <;> simp [h5, h6]
        · simp [h1, h2, h3, h4]
def intL (n : Int) : List Int := if n < 0 then 1 :: be 8 (-n) else 0 :: be 8 n
/-- A right value's bytes. -/
def valL (v : Val) : List Int := v.f0 % 256 :: (if v.f0 = 2 then [v.f1 % 256] else if v.f0 = 3 then intL v.f1 else if v.f0 = 4 then (v.f2.size : Int) % 256 :: bytesOf v.f2 else [])
theorem intL_length (n : Int) : (intL n).length = 9 := by
  unfold intL; split <;> simp [be_length]
theorem valL_length (v : Val) (h : goodV v) : (valL v).length ≤ 26 := by
  unfold valL
  rw [List.length_cons]
  split
  · simp
  · split
    · rw [intL_length]; omega
    · split
      · rename_i h4
        rcases h with h | h | h | h
        · omega
        · omega
        · omega
        · simp only [List.length_cons, bytesOf_length]; omega
      · simp
theorem PutInt_eq (l : List Int) (n : Int) (h0 : -1152921504606846976 ≤ n) (h1 : n ≤ 1152921504606846976) (hl : l.length < 1000000) (k : Nat) (hk : 12 < k) : wire_PutInt.f k l n = some (l ++ intL n, 0) := by
  obtain ⟨k, rfl⟩ : ∃ m, k = m + 1 := ⟨k - 1, by omega⟩
  unfold wire_PutInt.f intL
  rw [if_neg (by omega), show decide (n > 1152921504606846976) = false from decide_eq_false (by omega), wire_PutInt.j0, if_neg (by decide)]
  unfold slices_Clone_byte_byte.f
  have e8 : (8 : Int) = ((8 : Nat) : Int) := rfl
  by_cases hn : n < 0
  · rw [if_pos hn, if_pos hn, if_pos (by omega), Option.bind_some, if_pos (by omega), wrap_in _ (by omega) (by omega), e8, big_eq _ _ 8 (by omega) k (by omega) (by simp; omega), Option.bind_some, List.append_assoc]
    rfl
  · rw [if_neg hn, if_neg hn, if_pos (by omega), Option.bind_some, if_pos (by omega), e8, big_eq _ _ 8 (by omega) k (by omega) (by simp; omega), Option.bind_some, List.append_assoc]
    rfl
theorem valBytes_eq (v : Val) (h : goodV v) (k : Nat) (hk : 12 < k) : value_Bytes.f k v.f0 v.f1 v.f2 = some (valL v, 0) := by
  unfold value_Bytes.f valL
  rw [Check_eq, if_pos h, Option.bind_some, if_pos rfl, Option.bind_some]
  by_cases h2 : v.f0 = 2
  · rw [if_pos h2, if_pos h2, if_pos (by simp)]; rfl
  · rw [if_neg h2, if_neg h2]
    by_cases h3 : v.f0 = 3
    · rw [if_pos h3, if_pos h3]
      have hb : -1152921504606846976 ≤ v.f1 ∧ v.f1 ≤ 1152921504606846976 := by
        rcases h with h | h | h | h
        · omega
        · omega
        · exact ⟨h.2.1, h.2.2.1⟩
        · omega
      rw [PutInt_eq _ _ hb.1 hb.2 (by simp) k hk, Option.bind_some]; rfl
    · rw [if_neg h3, if_neg h3]
      by_cases h4 : v.f0 = 4
      · rw [if_pos h4, if_pos h4]
        have hb : (v.f2.size : Int) ≤ 24 := by
          rcases h with h | h | h | h
          · omega
          · omega
          · omega
          · exact h.2.2
        unfold wire_PutText.f slices_Clone_byte_byte.f
        rw [if_neg (by omega), if_pos (by simp), Option.bind_some, if_pos (by simp), Option.bind_some, if_pos (by simp; omega), Option.bind_some]
        simp
      · rw [if_neg h4, if_neg h4]
/-- A row's bytes. -/
def valsL (l : List Val) : List Int := l.flatMap valL
def rowL (l : List Val) : List Int := (l.length : Int) % 256 :: valsL l
theorem valsL_length : ∀ (l : List Val), (∀ v ∈ l, goodV v) → (valsL l).length ≤ 26 * l.length
  | [], _ => by simp [valsL]
  | v :: l, h => by
    have h1 := valL_length v (h v (by simp))
    have h2 := valsL_length l (fun u hu => h u (by simp [hu]))
    simp only [valsL, List.flatMap_cons, List.length_append, List.length_cons] at h2 ⊢; omega
theorem contains_wrong_p (v : Val) : contains_wrong.p v = decide (¬ goodV v) := by
  unfold contains_wrong.p row_wrong.f
  rw [Check_eq, Option.bind_some]
  by_cases h : goodV v <;> simp [h]
theorem any_wrong (l : List Val) : l.any contains_wrong.p = decide (¬ ∀ v ∈ l, goodV v) := by
  rw [Bool.eq_iff_iff, decide_eq_true_eq, List.any_eq_true]
  constructor
  · rintro ⟨v, hv, hp⟩ h
    rw [contains_wrong_p, decide_eq_true_eq] at hp
    exact hp (h v hv)
  · intro h
    apply Classical.byContradiction
    intro hne
    exact h (fun v hv => Classical.byContradiction fun hg => hne ⟨v, hv, by rw [contains_wrong_p]; exact decide_eq_true hg⟩)
/-- What row.Bytes tells. -/
def rowB (l : List Val) : List Int × Int := if l.length > 12 then ([], 2) else if ∀ v ∈ l, goodV v then (rowL l, 0) else ([], 1)
theorem rowB_length (l : List Val) : (rowB l).1.length ≤ 320 := by
  unfold rowB
  split
  · simp
  · split
    · rename_i h1 h2
      have := valsL_length l h2
      simp only [rowL, List.length_cons]; omega
    · simp
theorem rowB_l0 (l : List Val) (hg : ∀ v ∈ l, goodV v) (hl : l.length ≤ 12) : ∀ (d i k : Nat) (acc : List Int), i + d = l.length → d + 15 < k → acc.length + 26 * d < 1000000 →
    row_Bytes.l0 k acc l (l.length : Int) (i : Int) = some (acc ++ valsL (l.drop i), 0) := by
  intro d
  induction d with
  | zero =>
    intro i k acc h1 h2 h3
    obtain ⟨k, rfl⟩ : ∃ m, k = m + 1 := ⟨k - 1, by omega⟩
    simp only [row_Bytes.l0]
    rw [if_neg (by omega), List.drop_of_length_le (by omega)]
    simp [valsL]
  | succ d ih =>
    intro i k acc h1 h2 h3
    obtain ⟨k, rfl⟩ : ∃ m, k = m + 1 := ⟨k - 1, by omega⟩
    have hi : i < l.length := by omega
    have hr : rd_T101 l (i : Int) = l[i] := by simp [rd_T101, hi]
    have hgi := hg l[i] (List.getElem_mem hi)
    have hvl := valL_length _ hgi
    simp only [row_Bytes.l0]
    rw [if_pos (by omega), if_pos (by omega), if_pos (by omega), hr, valBytes_eq _ hgi k (by omega), Option.bind_some, if_pos (by simp only; omega), wrap_in _ (by omega) (by omega), show (i : Int) + 1 = ((i + 1 : Nat) : Int) from by omega, ih (i + 1) k _ (by omega) (by omega) (by simp; omega), List.drop_eq_getElem_cons hi]
    simp only [valsL, List.flatMap_cons, List.append_assoc]
theorem rowBytes_eq (l : List Val) (k : Nat) (hk : 40 < k) : row_Bytes.f k l = some (rowB l) := by
  unfold row_Bytes.f row_Check.f rowB contains_wrong.f
  by_cases h : l.length > 12
  · rw [if_pos (show (l.length : Int) > 12 by omega), if_pos h, Option.bind_some, if_neg (by decide)]
  · rw [if_neg (show ¬ (l.length : Int) > 12 by omega), if_neg h, Option.bind_some, any_wrong]
    by_cases hg : ∀ v ∈ l, goodV v
    · rw [if_pos hg, decide_eq_false (fun h => h hg), if_neg (by decide), Option.bind_some, if_pos rfl]
      have := rowB_l0 l hg (by omega) l.length 0 k [(l.length : Int) % 256] (by omega) (by omega) (by simp; omega)
      rw [show ((0 : Nat) : Int) = 0 from rfl] at this
      rw [this]
      rfl
    · rw [if_neg hg, decide_eq_true hg, if_pos rfl, Option.bind_some, if_neg (by decide)]
end Go.Proofs.Ytnbjflcfdncocaa.M

/- The writer's contract for an operation (op.Writer.Op), walked by hand. -/
namespace Go.Proofs.Ytnbjflcfdncocaa.M
open Go.RowKit Go.Proofs.YtnbjflcfdncocaaW.PrintWords Go.Proofs.YtnbjflcfdncocaaW.PrintLast Go.Proofs.YtnbjflcfdncocaaW.PrintMore

abbrev Opr := S55
abbrev Dt := S49
def wdots (l : List Dt) (st : List Int × Bool) : List Int × Bool := l.foldl (fun s d => wdot d.f0 d.f1 s) st
theorem wdots_len : ∀ (l : List Dt) (st : List Int × Bool), (wdots l st).1.length ≤ st.1.length + 5 * l.length
  | [], st => by simp [wdots]
  | d :: l, st => by
    have h1 := wdots_len l (wdot d.f0 d.f1 st)
    have h2 := wdot_len d.f0 d.f1 st
    simp only [wdots, List.foldl_cons, List.length_cons] at h1 ⊢; omega
theorem wdots_take (l : List Dt) (k : Nat) (h : k < l.length) (st : List Int × Bool) : wdots (l.take (k + 1)) st = wdot (l.getD k z49).f0 (l.getD k z49).f1 (wdots (l.take k) st) := by
  unfold wdots
  rw [List.take_succ_eq_append_getElem h, List.foldl_append]
  simp [List.getD_eq_getElem?_getD, h]
def wrow (l : List Val) (st : List Int × Bool) : List Int × Bool := wadd (rowB l) st
theorem wrow_len (l : List Val) (st : List Int × Bool) : (wrow l st).1.length ≤ st.1.length + 320 := by
  have := rowB_length l
  simp only [wrow, wadd, List.length_append]; omega
/-- The first part of an operation's bytes; the whole. -/
def wop1 (x : Opr) (st : List Int × Bool) : List Int × Bool := wrow x.f7 (wnum 1 x.f6 (wtext x.f5 (wnum 1 x.f4 (wstamp x.f2.f0 x.f2.f1 x.f2.f2 (wnums x.f1 (wdot x.f0.f0 x.f0.f1 (wnum 1 x.f3 st)))))))
def wop2 (x : Opr) (st : List Int × Bool) : List Int × Bool := wnum 1 (x.f8.length : Int) (wbad (decide ((x.f8.length : Int) > 64)) (wop1 x st))
def wop (x : Opr) (st : List Int × Bool) : List Int × Bool := wdots x.f8 (wop2 x st)
theorem wop1_len (x : Opr) (st : List Int × Bool) : (wop1 x st).1.length ≤ st.1.length + 364 + 4 * x.f1.length := by
  have h1 := wrow_len x.f7 (wnum 1 x.f6 (wtext x.f5 (wnum 1 x.f4 (wstamp x.f2.f0 x.f2.f1 x.f2.f2 (wnums x.f1 (wdot x.f0.f0 x.f0.f1 (wnum 1 x.f3 st)))))))
  have h2 := wnum_len 1 x.f6 (wtext x.f5 (wnum 1 x.f4 (wstamp x.f2.f0 x.f2.f1 x.f2.f2 (wnums x.f1 (wdot x.f0.f0 x.f0.f1 (wnum 1 x.f3 st))))))
  have h3 := wtext_len x.f5 (wnum 1 x.f4 (wstamp x.f2.f0 x.f2.f1 x.f2.f2 (wnums x.f1 (wdot x.f0.f0 x.f0.f1 (wnum 1 x.f3 st)))))
  have h4 := wnum_len 1 x.f4 (wstamp x.f2.f0 x.f2.f1 x.f2.f2 (wnums x.f1 (wdot x.f0.f0 x.f0.f1 (wnum 1 x.f3 st))))
  have h5 := wstamp_len x.f2.f0 x.f2.f1 x.f2.f2 (wnums x.f1 (wdot x.f0.f0 x.f0.f1 (wnum 1 x.f3 st)))
  have h6 := wnums_len x.f1 (wdot x.f0.f0 x.f0.f1 (wnum 1 x.f3 st))
  have h7 := wdot_len x.f0.f0 x.f0.f1 (wnum 1 x.f3 st)
  have h8 := wnum_len 1 x.f3 st
  unfold wop1; omega
theorem wop2_len (x : Opr) (st : List Int × Bool) : (wop2 x st).1.length ≤ st.1.length + 365 + 4 * x.f1.length := by
  have h1 := wnum_len 1 (x.f8.length : Int) (wbad (decide ((x.f8.length : Int) > 64)) (wop1 x st))
  have h2 := wop1_len x st
  have h3 : (wbad (decide ((x.f8.length : Int) > 64)) (wop1 x st)).1 = (wop1 x st).1 := rfl
  rw [h3] at h1
  unfold wop2; omega
theorem wop_len (x : Opr) (st : List Int × Bool) : (wop x st).1.length ≤ st.1.length + 365 + 4 * x.f1.length + 5 * x.f8.length := by
  have h1 := wdots_len x.f8 (wop2 x st)
  have h2 := wop2_len x st
  unfold wop; omega
set_option maxHeartbeats 4000000 in
set_option maxRecDepth 100000 in
theorem W_op (w0 w : World) (g : Nat) (st : List Int × Bool) (h : IsW w0 w g st.1 st.2) (x : Opr) (A2 : Option Addr) (c2 : Nat) (A10 : Option Addr) (c10 : Nat) (A11 : Option Addr) (c11 : Nat)
    (h1 : Kd.C (Kd.int .i64) w0 A2 x.f1.length x.f1) (h2 : Kd.C k101 w0 A10 x.f7.length x.f7) (hc2 : x.f7.length ≤ c10) (h3 : Kd.C k49 w0 A11 x.f8.length x.f8) (hl : st.1.length < 400000000) (hn : x.f1.length < 10000000) (hm : x.f8.length < 10000000) :
    Calls Try.prog 34 #[.pointer (some ⟨g, 0, none⟩), .agg #[.int .i64 x.f0.f0, .int .i64 x.f0.f1, .slice A2 x.f1.length c2, .int .i64 x.f2.f0, .int .i64 x.f2.f1, .int .i64 x.f2.f2, .int .i64 x.f3, .int .i64 x.f4, .string x.f5, .int .i64 x.f6, .slice A10 x.f7.length c10, .slice A11 x.f8.length c11]] w fun en w' => en = .returned (.tuple #[]) ∧ IsW w0 w' g (wop x st).1 (wop x st).2 ∧ KeepW w w' := by
  have H := Aside0.mk (h.alloc (.cells #[.int .i64 x.f0.f0, .int .i64 x.f0.f1, .slice A2 x.f1.length c2, .int .i64 x.f2.f0, .int .i64 x.f2.f1, .int .i64 x.f2.f2, .int .i64 x.f3, .int .i64 x.f4, .string x.f5, .int .i64 x.f6, .slice A10 x.f7.length c10, .slice A11 x.f8.length c11] 55))
  have HL := Aside0.mk hl
  have HN := Aside0.mk hn
  have HM := Aside0.mk hm
  have R1 := Aside0.mk h1
  have R2 := Aside0.mk h2
  have R3 := Aside0.mk h3
  have RC2 := Aside0.mk hc2
  have L1 := Aside0.mk (wnum_len 1 x.f3 st)
  have L2 := Aside0.mk (wdot_len x.f0.f0 x.f0.f1 (wnum 1 x.f3 st))
  have L3 := Aside0.mk (wnums_len x.f1 (wdot x.f0.f0 x.f0.f1 (wnum 1 x.f3 st)))
  have L4 := Aside0.mk (wstamp_len x.f2.f0 x.f2.f1 x.f2.f2 (wnums x.f1 (wdot x.f0.f0 x.f0.f1 (wnum 1 x.f3 st))))
  have L5 := Aside0.mk (wnum_len 1 x.f4 (wstamp x.f2.f0 x.f2.f1 x.f2.f2 (wnums x.f1 (wdot x.f0.f0 x.f0.f1 (wnum 1 x.f3 st)))))
  have L6 := Aside0.mk (wtext_len x.f5 (wnum 1 x.f4 (wstamp x.f2.f0 x.f2.f1 x.f2.f2 (wnums x.f1 (wdot x.f0.f0 x.f0.f1 (wnum 1 x.f3 st))))))
  have L7 := Aside0.mk (wnum_len 1 x.f6 (wtext x.f5 (wnum 1 x.f4 (wstamp x.f2.f0 x.f2.f1 x.f2.f2 (wnums x.f1 (wdot x.f0.f0 x.f0.f1 (wnum 1 x.f3 st)))))))
  have K0 := Aside0.mk (KeepW.below (below_alloc (Below.refl _ w) (.cells #[.int .i64 x.f0.f0, .int .i64 x.f0.f1, .slice A2 x.f1.length c2, .int .i64 x.f2.f0, .int .i64 x.f2.f1, .int .i64 x.f2.f2, .int .i64 x.f3, .int .i64 x.f4, .string x.f5, .int .i64 x.f6, .slice A10 x.f7.length c10, .slice A11 x.f8.length c11] 55)))
  have HD := Aside0.mk (heap_alloc_new w (.cells #[.int .i64 x.f0.f0, .int .i64 x.f0.f1, .slice A2 x.f1.length c2, .int .i64 x.f2.f0, .int .i64 x.f2.f1, .int .i64 x.f2.f2, .int .i64 x.f3, .int .i64 x.f4, .string x.f5, .int .i64 x.f6, .slice A10 x.f7.length c10, .slice A11 x.f8.length c11] 55))
  clear h hl hn hm h1 h2 h3 hc2
  go_enter Try.func34, Try.ntmps34
  go_wp2_with fail
  refine (W_num w0 _ g st H.out x.f3 1 1 rfl (by omega) (by omega) (by have := HL.out; have := HN.out; omega)).mono ?_
  rintro e w1 ⟨rfl, hi, hk⟩
  have H1 := Aside0.mk hi
  have K1 := Aside0.mk (K0.out.trans hk)
  have D1 := Aside0.mk (hk _ _ _ _ HD.out (by decide) (by decide))
  have hc1 := fun i => blk_cell D1.out i
  have hf1 := fun i => blk_frozen D1.out i
  clear hi hk
  go_wp2_with fail
  refine (W_dot w0 _ g (wnum 1 x.f3 st) H1.out x.f0.f0 x.f0.f1 (by have := HL.out; have := HN.out; have := L1.out; omega)).mono ?_
  rintro e w2 ⟨rfl, hi, hk⟩
  have H2 := Aside0.mk hi
  have K2 := Aside0.mk (K1.out.trans hk)
  have D2 := Aside0.mk (hk _ _ _ _ D1.out (by decide) (by decide))
  have hc2 := fun i => blk_cell D2.out i
  have hf2 := fun i => blk_frozen D2.out i
  clear hi hk
  go_wp2_with fail
  refine (W_nums w0 _ g (wdot x.f0.f0 x.f0.f1 (wnum 1 x.f3 st)) H2.out A2 c2 x.f1 R1.out (by have := HL.out; have := HN.out; have := L1.out; have := L2.out; omega) HN.out).mono ?_
  rintro e w3 ⟨rfl, hi, hk⟩
  have H3 := Aside0.mk hi
  have K3 := Aside0.mk (K2.out.trans hk)
  have D3 := Aside0.mk (hk _ _ _ _ D2.out (by decide) (by decide))
  have hc3 := fun i => blk_cell D3.out i
  have hf3 := fun i => blk_frozen D3.out i
  clear hi hk
  go_wp2_with fail
  refine (W_stamp w0 _ g (wnums x.f1 (wdot x.f0.f0 x.f0.f1 (wnum 1 x.f3 st))) H3.out x.f2.f0 x.f2.f1 x.f2.f2 (by have := HL.out; have := HN.out; have := L1.out; have := L2.out; have := L3.out; omega)).mono ?_
  rintro e w4 ⟨rfl, hi, hk⟩
  have H4 := Aside0.mk hi
  have K4 := Aside0.mk (K3.out.trans hk)
  have D4 := Aside0.mk (hk _ _ _ _ D3.out (by decide) (by decide))
  have hc4 := fun i => blk_cell D4.out i
  have hf4 := fun i => blk_frozen D4.out i
  clear hi hk
  go_wp2_with fail
  refine (W_num w0 _ g (wstamp x.f2.f0 x.f2.f1 x.f2.f2 (wnums x.f1 (wdot x.f0.f0 x.f0.f1 (wnum 1 x.f3 st)))) H4.out x.f4 1 1 rfl (by omega) (by omega) (by have := HL.out; have := HN.out; have := L1.out; have := L2.out; have := L3.out; have := L4.out; omega)).mono ?_
  rintro e w5 ⟨rfl, hi, hk⟩
  have H5 := Aside0.mk hi
  have K5 := Aside0.mk (K4.out.trans hk)
  have D5 := Aside0.mk (hk _ _ _ _ D4.out (by decide) (by decide))
  have hc5 := fun i => blk_cell D5.out i
  have hf5 := fun i => blk_frozen D5.out i
  clear hi hk
  go_wp2_with fail
  refine (W_text w0 _ g (wnum 1 x.f4 (wstamp x.f2.f0 x.f2.f1 x.f2.f2 (wnums x.f1 (wdot x.f0.f0 x.f0.f1 (wnum 1 x.f3 st))))) H5.out x.f5 (by have := HL.out; have := HN.out; have := L1.out; have := L2.out; have := L3.out; have := L4.out; have := L5.out; omega)).mono ?_
  rintro e w6 ⟨rfl, hi, hk⟩
  have H6 := Aside0.mk hi
  have K6 := Aside0.mk (K5.out.trans hk)
  have D6 := Aside0.mk (hk _ _ _ _ D5.out (by decide) (by decide))
  have hc6 := fun i => blk_cell D6.out i
  have hf6 := fun i => blk_frozen D6.out i
  clear hi hk
  go_wp2_with fail
  refine (W_num w0 _ g (wtext x.f5 (wnum 1 x.f4 (wstamp x.f2.f0 x.f2.f1 x.f2.f2 (wnums x.f1 (wdot x.f0.f0 x.f0.f1 (wnum 1 x.f3 st)))))) H6.out x.f6 1 1 rfl (by omega) (by omega) (by have := HL.out; have := HN.out; have := L1.out; have := L2.out; have := L3.out; have := L4.out; have := L5.out; have := L6.out; omega)).mono ?_
  rintro e w7 ⟨rfl, hi, hk⟩
  have H7 := Aside0.mk hi
  have K7 := Aside0.mk (K6.out.trans hk)
  have D7 := Aside0.mk (hk _ _ _ _ D6.out (by decide) (by decide))
  have hc7 := fun i => blk_cell D7.out i
  have hf7 := fun i => blk_frozen D7.out i
  clear hi hk
  go_wp2_with fail
  refine (row_Bytes.calls 100 A10 c10 x.f7 (rowB x.f7).1 (rowB x.f7).2 _ (Kd.C_below R2.out H7.out.1) RC2.out (rowBytes_eq x.f7 100 (by omega))).mono ?_
  rintro e w8 ⟨v8, rfl, ho, hb⟩
  obtain ⟨A8, c8, rfl⟩ := Kd.R_slice ho
  have C8 := Aside0.mk (Kd.R_reads' ho).2.2
  have H8 := Aside0.mk (H7.out.below hb)
  have K8 := Aside0.mk (K7.out.trans (KeepW.below hb))
  have D8 := Aside0.mk (KeepW.below hb _ _ _ _ D7.out (by decide) (by decide))
  clear ho hb
  go_wp2_with fail
  refine (W_add w0 _ g (wnum 1 x.f6 (wtext x.f5 (wnum 1 x.f4 (wstamp x.f2.f0 x.f2.f1 x.f2.f2 (wnums x.f1 (wdot x.f0.f0 x.f0.f1 (wnum 1 x.f3 st))))))).1 (wnum 1 x.f6 (wtext x.f5 (wnum 1 x.f4 (wstamp x.f2.f0 x.f2.f1 x.f2.f2 (wnums x.f1 (wdot x.f0.f0 x.f0.f1 (wnum 1 x.f3 st))))))).2 H8.out A8 c8 (rowB x.f7).1 C8.out (rowB x.f7).2 (by have := HL.out; have := HN.out; have := rowB_length x.f7; have := L1.out; have := L2.out; have := L3.out; have := L4.out; have := L5.out; have := L6.out; have := L7.out; omega)).mono ?_
  rintro e w9 ⟨rfl, hi, hk⟩
  have H9 := Aside0.mk (show IsW w0 w9 g (wop1 x st).1 (wop1 x st).2 from hi)
  have K9 := Aside0.mk (K8.out.trans hk)
  have D9 := Aside0.mk (hk _ _ _ _ D8.out (by decide) (by decide))
  clear hi hk
  have LW := Aside0.mk (wop1_len x st)
  have LV := Aside0.mk (wop2_len x st)
  obtain ⟨ST, hST⟩ : ∃ ST, ST = wop1 x st := ⟨_, rfl⟩
  obtain ⟨SU, hSU⟩ : ∃ SU, SU = wop2 x st := ⟨_, rfl⟩
  have E2 := Aside0.mk (show wnum 1 (x.f8.length : Int) (wbad (decide ((x.f8.length : Int) > 64)) ST) = SU from by rw [hST, hSU]; rfl)
  have E3 := Aside0.mk (show wdots x.f8 SU = wop x st from by rw [hSU]; rfl)
  rw [← hST] at H9 LW
  rw [← hSU] at LV
  clear hST hSU
  obtain ⟨B, bad⟩ := ST
  obtain ⟨h0, hg, v, hv, hR⟩ := H9.out
  have hgc : w9.cell? ⟨g, 1, none⟩ = some (.bool bad) := (blk_cell hv 1).trans rfl
  have hgf := blk_frozen hv 1
  obtain ⟨b1, hb1⟩ : ∃ b1, b1 = (bad || decide ((x.f8.length : Int) > 64)) := ⟨_, rfl⟩
  have HX := Aside0.mk (show IsW w0 (w9.setCell ⟨g, 1, none⟩ (.bool b1)) g B b1 from IsW.mk2 (v := v) (below_set h0 hg) hg (blk_set hv 1 (.bool b1)) (R_set_far hR 1 (.bool b1)))
  have KX0 := KeepW.set hv 1 (.bool b1)
  have DX := Aside0.mk (KX0 _ _ _ _ D9.out (by decide) (by decide))
  have KX := Aside0.mk (K9.out.trans KX0)
  have hc9 := fun i => blk_cell D9.out i
  have hcx := fun i => blk_cell DX.out i
  have EX := Aside0.mk (show wnum 1 (x.f8.length : Int) (B, b1) = SU from by rw [← E2.out, hb1]; rfl)
  clear h0 hg hv hR KX0
  have hb2 : bad = true ∨ (bad = false ∧ x.f8.length > 64) ∨ (bad = false ∧ ¬ x.f8.length > 64) := by cases bad <;> by_cases h : x.f8.length > 64 <;> simp_all
  rcases hb2 with rfl | ⟨rfl, h5⟩ | ⟨rfl, h5⟩
  · obtain rfl : b1 = true := by rw [hb1]; rfl
    clear hb1
    go_wp2_with fail
    refine (W_num w0 _ g (B, true) HX.out (x.f8.length : Int) 1 1 rfl (by omega) (by omega) (by have := LW.out; have := HL.out; have := HN.out; simp only at *; omega)).mono ?_
    rintro e wa ⟨rfl, hi, hk⟩
    rw [EX.out] at hi
    have H1 := Aside0.mk hi
    have K1 := Aside0.mk (KX.out.trans hk)
    have DA := Aside0.mk (hk _ _ _ _ DX.out (by decide) (by decide))
    have hca := fun i => blk_cell DA.out i
    clear hi hk
    go_wp2
    go_loopw [62] (fun v wr => ∃ k : Nat, k ≤ x.f8.length ∧ v = .int .i64 k ∧ Aside0 (IsW w0 wr g (wdots (x.f8.take k) SU).1 (wdots (x.f8.take k) SU).2) ∧ Aside0 (KeepW w wr)) (fun v _ => x.f8.length - (intOf v).toNat)
    case atStart => exact ⟨0, by omega, rfl, H1, K1⟩
    case round =>
      obtain ⟨k, hk, rfl, HI, HK⟩ := hrel
      by_cases hlt : k < x.f8.length
      · obtain ⟨ad, e, hd0, hd1⟩ := at_T49 (Kd.C_below R3.out HI.out.1) (k : Int) (by omega) (by omega)
        subst e
        have hrd : rd_T49 x.f8 (k : Int) = x.f8.getD k z49 := by simp [rd_T49]
        rw [Int.toNat_natCast, hrd] at hd0 hd1
        clear hrd
        have HT := Aside0.mk (wdots_take x.f8 k hlt SU)
        have HZ := Aside0.mk (wdots_len (x.f8.take k) SU)
        have HTk := Aside0.mk (List.length_take_le k x.f8)
        obtain ⟨y, hy⟩ : ∃ y, y = x.f8.getD k z49 := ⟨_, rfl⟩
        rw [← hy] at hd0 hd1 HT
        clear hy
        have hkb : x.f8.length < 10000000 := HM.out
        have HI2 := Aside0.mk (HI.out.alloc (.cells #[.int .i64 y.f0, .int .i64 y.f1] 49))
        have KI2 := Aside0.mk (KeepW.below (below_alloc (Below.refl _ wr) (.cells #[.int .i64 y.f0, .int .i64 y.f1] 49)))
        go_wp2_with fail
        refine (W_dot w0 _ g (wdots (x.f8.take k) SU) HI2.out y.f0 y.f1 (by have := HZ.out; have := HTk.out; have := HM.out; have := LV.out; have := HL.out; have := HN.out; omega)).mono ?_
        rintro e w2 ⟨rfl, hi, hk2⟩
        rw [← HT.out] at hi
        have H2 := Aside0.mk hi
        have K2 := Aside0.mk ((HK.out.trans KI2.out).trans hk2)
        clear hi hk2
        go_wp2
        go_roundw
        case rel => exact ⟨k + 1, by omega, by go_num, H2, K2⟩
        case measure => simp [intOf]; omega
      · obtain rfl : k = x.f8.length := by omega
        have HE := Aside0.mk (show wdots (x.f8.take x.f8.length) SU = wop x st from by rw [List.take_length]; exact E3.out)
        rw [HE.out] at HI
        go_wp2
        go_end0
        exact ⟨rfl, HI.out, HK.out⟩
  · have h6 : ((x.f8.length : Int) > 64) := by omega
    obtain rfl : b1 = true := by rw [hb1, decide_eq_true h6]; rfl
    clear hb1
    go_wp2_with fail
    refine (W_num w0 _ g (B, true) HX.out (x.f8.length : Int) 1 1 rfl (by omega) (by omega) (by have := LW.out; have := HL.out; have := HN.out; simp only at *; omega)).mono ?_
    rintro e wa ⟨rfl, hi, hk⟩
    rw [EX.out] at hi
    have H1 := Aside0.mk hi
    have K1 := Aside0.mk (KX.out.trans hk)
    have DA := Aside0.mk (hk _ _ _ _ DX.out (by decide) (by decide))
    have hca := fun i => blk_cell DA.out i
    clear hi hk
    go_wp2
    go_loopw [62] (fun v wr => ∃ k : Nat, k ≤ x.f8.length ∧ v = .int .i64 k ∧ Aside0 (IsW w0 wr g (wdots (x.f8.take k) SU).1 (wdots (x.f8.take k) SU).2) ∧ Aside0 (KeepW w wr)) (fun v _ => x.f8.length - (intOf v).toNat)
    case atStart => exact ⟨0, by omega, rfl, H1, K1⟩
    case round =>
      obtain ⟨k, hk, rfl, HI, HK⟩ := hrel
      by_cases hlt : k < x.f8.length
      · obtain ⟨ad, e, hd0, hd1⟩ := at_T49 (Kd.C_below R3.out HI.out.1) (k : Int) (by omega) (by omega)
        subst e
        have hrd : rd_T49 x.f8 (k : Int) = x.f8.getD k z49 := by simp [rd_T49]
        rw [Int.toNat_natCast, hrd] at hd0 hd1
        clear hrd
        have HT := Aside0.mk (wdots_take x.f8 k hlt SU)
        have HZ := Aside0.mk (wdots_len (x.f8.take k) SU)
        have HTk := Aside0.mk (List.length_take_le k x.f8)
        obtain ⟨y, hy⟩ : ∃ y, y = x.f8.getD k z49 := ⟨_, rfl⟩
        rw [← hy] at hd0 hd1 HT
        clear hy
        have hkb : x.f8.length < 10000000 := HM.out
        have HI2 := Aside0.mk (HI.out.alloc (.cells #[.int .i64 y.f0, .int .i64 y.f1] 49))
        have KI2 := Aside0.mk (KeepW.below (below_alloc (Below.refl _ wr) (.cells #[.int .i64 y.f0, .int .i64 y.f1] 49)))
        go_wp2_with fail
        refine (W_dot w0 _ g (wdots (x.f8.take k) SU) HI2.out y.f0 y.f1 (by have := HZ.out; have := HTk.out; have := HM.out; have := LV.out; have := HL.out; have := HN.out; omega)).mono ?_
        rintro e w2 ⟨rfl, hi, hk2⟩
        rw [← HT.out] at hi
        have H2 := Aside0.mk hi
        have K2 := Aside0.mk ((HK.out.trans KI2.out).trans hk2)
        clear hi hk2
        go_wp2
        go_roundw
        case rel => exact ⟨k + 1, by omega, by go_num, H2, K2⟩
        case measure => simp [intOf]; omega
      · obtain rfl : k = x.f8.length := by omega
        have HE := Aside0.mk (show wdots (x.f8.take x.f8.length) SU = wop x st from by rw [List.take_length]; exact E3.out)
        rw [HE.out] at HI
        go_wp2
        go_end0
        exact ⟨rfl, HI.out, HK.out⟩
  · have h6 : ¬ ((x.f8.length : Int) > 64) := by omega
    obtain rfl : b1 = false := by rw [hb1, decide_eq_false h6]; rfl
    have h7 := decide_eq_false (show ¬ (64 : Int) < (x.f8.length : Int) by omega)
    have h8 := decide_eq_false (show ¬ 64 < x.f8.length by omega)
    clear hb1
    go_wp2_with fail
    refine (W_num w0 _ g (B, false) HX.out (x.f8.length : Int) 1 1 rfl (by omega) (by omega) (by have := LW.out; have := HL.out; have := HN.out; simp only at *; omega)).mono ?_
    rintro e wa ⟨rfl, hi, hk⟩
    rw [EX.out] at hi
    have H1 := Aside0.mk hi
    have K1 := Aside0.mk (KX.out.trans hk)
    have DA := Aside0.mk (hk _ _ _ _ DX.out (by decide) (by decide))
    have hca := fun i => blk_cell DA.out i
    clear hi hk
    go_wp2
    go_loopw [62] (fun v wr => ∃ k : Nat, k ≤ x.f8.length ∧ v = .int .i64 k ∧ Aside0 (IsW w0 wr g (wdots (x.f8.take k) SU).1 (wdots (x.f8.take k) SU).2) ∧ Aside0 (KeepW w wr)) (fun v _ => x.f8.length - (intOf v).toNat)
    case atStart => exact ⟨0, by omega, rfl, H1, K1⟩
    case round =>
      obtain ⟨k, hk, rfl, HI, HK⟩ := hrel
      by_cases hlt : k < x.f8.length
      · obtain ⟨ad, e, hd0, hd1⟩ := at_T49 (Kd.C_below R3.out HI.out.1) (k : Int) (by omega) (by omega)
        subst e
        have hrd : rd_T49 x.f8 (k : Int) = x.f8.getD k z49 := by simp [rd_T49]
        rw [Int.toNat_natCast, hrd] at hd0 hd1
        clear hrd
        have HT := Aside0.mk (wdots_take x.f8 k hlt SU)
        have HZ := Aside0.mk (wdots_len (x.f8.take k) SU)
        have HTk := Aside0.mk (List.length_take_le k x.f8)
        obtain ⟨y, hy⟩ : ∃ y, y = x.f8.getD k z49 := ⟨_, rfl⟩
        rw [← hy] at hd0 hd1 HT
        clear hy
        have hkb : x.f8.length < 10000000 := HM.out
        have HI2 := Aside0.mk (HI.out.alloc (.cells #[.int .i64 y.f0, .int .i64 y.f1] 49))
        have KI2 := Aside0.mk (KeepW.below (below_alloc (Below.refl _ wr) (.cells #[.int .i64 y.f0, .int .i64 y.f1] 49)))
        go_wp2_with fail
        refine (W_dot w0 _ g (wdots (x.f8.take k) SU) HI2.out y.f0 y.f1 (by have := HZ.out; have := HTk.out; have := HM.out; have := LV.out; have := HL.out; have := HN.out; omega)).mono ?_
        rintro e w2 ⟨rfl, hi, hk2⟩
        rw [← HT.out] at hi
        have H2 := Aside0.mk hi
        have K2 := Aside0.mk ((HK.out.trans KI2.out).trans hk2)
        clear hi hk2
        go_wp2
        go_roundw
        case rel => exact ⟨k + 1, by omega, by go_num, H2, K2⟩
        case measure => simp [intOf]; omega
      · obtain rfl : k = x.f8.length := by omega
        have HE := Aside0.mk (show wdots (x.f8.take x.f8.length) SU = wop x st from by rw [List.take_length]; exact E3.out)
        rw [HE.out] at HI
        go_wp2
        go_end0
        exact ⟨rfl, HI.out, HK.out⟩
end Go.Proofs.Ytnbjflcfdncocaa.M

/- The reader's contracts: Num, Text, Many, Dot, Stamp, walked by hand. -/
namespace Go.Proofs.Ytnbjflcfdncocaa.M
open Go.RowKit Go.Proofs.YtnbjflcfdncocaaW.PrintWords Go.Proofs.YtnbjflcfdncocaaW.PrintLast Go.Proofs.YtnbjflcfdncocaaW.PrintMore

theorem bad_cases (b : Bool) : b = true ∨ b = false := by cases b <;> simp
set_option maxHeartbeats 4000000 in
set_option maxRecDepth 100000 in
theorem R_num (w0 w : World) (g : Nat) (B rest : List Int) (bad : Bool) (h : IsR w0 w g B rest bad) (z : Int) (s : Nat) (hz : z = (s : Int)) (h1 : 1 ≤ s) (h7 : s ≤ 7) :
    Calls Try.prog 38 #[.pointer (some ⟨g, 0, none⟩), .int .i64 z] w fun en w' => en = .returned (.int .i64 (rnum s (rest, bad)).1) ∧ IsR w0 w' g B (rnum s (rest, bad)).2.1 (rnum s (rest, bad)).2.2 ∧ KeepBut w w' g none := by
  subst hz
  obtain ⟨h0, hg, h2, h3, A, c, at_, hv, hC, hc, ha, hd⟩ := h
  have hc0 : w.cell? ⟨g, 0, none⟩ = some (.slice A B.length c) := (blk_cell hv 0).trans rfl
  have hc1 : w.cell? ⟨g, 1, none⟩ = some (.int .i64 (at_ : Int)) := (blk_cell hv 1).trans rfl
  have hc2 : w.cell? ⟨g, 2, none⟩ = some (.bool bad) := (blk_cell hv 2).trans rfl
  have hf1 := blk_frozen hv 1
  have hf2 := blk_frozen hv 2
  have HC := Aside0.mk (Kd.C_below hC h0)
  have HC0 := Aside0.mk hC
  have Hc := Aside0.mk hc
  have HH := Aside0.mk h0
  have Hg := Aside0.mk hg
  have Hb := Aside0.mk h2
  have Hl := Aside0.mk h3
  have Hv := Aside0.mk hv
  have Ha := Aside0.mk ha
  have Hd := Aside0.mk hd
  have H1 := Aside0.mk h1
  have H7 := Aside0.mk h7
  clear h0 hg h2 h3 hv hC hc ha hd h1 h7
  by_cases hs : rest.length < s
  · rcases bad_cases bad with rfl | rfl
    · have HS := Aside0.mk (show rnum s (rest, true) = (0, (rest, true)) from by unfold rnum; rw [if_pos (by simp)])
      go_enter Try.func38, Try.ntmps38
      go_wp2
      go_quiet ((go_at_call 51; refine Calls.quiet_of (v := .tuple #[.int .i64 0, .int .i64 0, .int .i64 3]) ((wire_Get.calls 100 A c B (at_ : Int) (s : Int) 0 0 3 _ (Kd.C_drewN HC.out _) Hc.out (by rw [Get_eq B rest at_ s Hb.out Hl.out Ha.out Hd.out H1.out H7.out 100 (by omega), if_pos hs])).mono ?_); rintro e w1 ⟨rfl, ⟨m, hm⟩⟩; exact ⟨rfl, m, hm⟩))
      have dr : Below w.heap.size w (w.drewN nq) := pw_below_drewN (Below.refl _ w) nq
      have HH1 := Aside0.mk (below_step HH.out dr)
      have Hv1 := Aside0.mk (blk_below Hv.out dr)
      have hk0 := KeepBut.of_below (row := none) dr g
      have HK1 := Aside0.mk hk0
      clear hk0 dr
      go_wp2
      go_ret
      rw [HS.out]
      exact ⟨rfl, IsR.bad (bad := true) ⟨HH1.out, Hg.out, Hb.out, Hl.out, A, c, at_, Hv1.out, HC0.out, Hc.out, Ha.out, Hd.out⟩, HK1.out.set_ 2 (.bool true)⟩
    · have HS := Aside0.mk (show rnum s (rest, false) = (0, (rest, true)) from by unfold rnum; rw [if_pos (.inr hs)])
      go_enter Try.func38, Try.ntmps38
      go_wp2
      go_quiet ((go_at_call 51; refine Calls.quiet_of (v := .tuple #[.int .i64 0, .int .i64 0, .int .i64 3]) ((wire_Get.calls 100 A c B (at_ : Int) (s : Int) 0 0 3 _ (Kd.C_drewN HC.out _) Hc.out (by rw [Get_eq B rest at_ s Hb.out Hl.out Ha.out Hd.out H1.out H7.out 100 (by omega), if_pos hs])).mono ?_); rintro e w1 ⟨rfl, ⟨m, hm⟩⟩; exact ⟨rfl, m, hm⟩))
      have dr : Below w.heap.size w (w.drewN nq) := pw_below_drewN (Below.refl _ w) nq
      have HH1 := Aside0.mk (below_step HH.out dr)
      have Hv1 := Aside0.mk (blk_below Hv.out dr)
      have hk0 := KeepBut.of_below (row := none) dr g
      have HK1 := Aside0.mk hk0
      clear hk0 dr
      go_wp2
      go_ret
      rw [HS.out]
      exact ⟨rfl, IsR.bad (bad := false) ⟨HH1.out, Hg.out, Hb.out, Hl.out, A, c, at_, Hv1.out, HC0.out, Hc.out, Ha.out, Hd.out⟩, HK1.out.set_ 2 (.bool true)⟩
  · rcases bad_cases bad with rfl | rfl
    · have HS := Aside0.mk (show rnum s (rest, true) = (0, (rest, true)) from by unfold rnum; rw [if_pos (by simp)])
      go_enter Try.func38, Try.ntmps38
      go_wp2
      go_quiet ((go_at_call 51; refine Calls.quiet_of (v := .tuple #[.int .i64 (numL (rest.take s)), .int .i64 ((at_ + s : Nat) : Int), .int .i64 0]) ((wire_Get.calls 100 A c B (at_ : Int) (s : Int) (numL (rest.take s)) ((at_ + s : Nat) : Int) 0 _ (Kd.C_drewN HC.out _) Hc.out (by rw [Get_eq B rest at_ s Hb.out Hl.out Ha.out Hd.out H1.out H7.out 100 (by omega), if_neg hs])).mono ?_); rintro e w1 ⟨rfl, ⟨m, hm⟩⟩; exact ⟨rfl, m, hm⟩))
      have dr : Below w.heap.size w (w.drewN nq) := pw_below_drewN (Below.refl _ w) nq
      have HH1 := Aside0.mk (below_step HH.out dr)
      have Hv1 := Aside0.mk (blk_below Hv.out dr)
      have hk0 := KeepBut.of_below (row := none) dr g
      have HK1 := Aside0.mk hk0
      clear hk0 dr
      go_wp2
      go_ret
      rw [HS.out]
      exact ⟨rfl, IsR.bad (bad := true) ⟨HH1.out, Hg.out, Hb.out, Hl.out, A, c, at_, Hv1.out, HC0.out, Hc.out, Ha.out, Hd.out⟩, HK1.out.set_ 2 (.bool true)⟩
    · have HS := Aside0.mk (show rnum s (rest, false) = (numL (rest.take s), (rest.drop s, false)) from by unfold rnum; rw [if_neg (by rintro (h | h); cases h; exact hs h)])
      have HE := Aside0.mk (show at_ + s ≤ B.length ∧ B.drop (at_ + s) = rest.drop s from ⟨by have h5 : rest.length = B.length - at_ := by { rw [← Hd.out]; simp }; have := Ha.out; omega, by rw [← Hd.out, List.drop_drop]⟩)
      go_enter Try.func38, Try.ntmps38
      go_wp2
      go_quiet ((go_at_call 51; refine Calls.quiet_of (v := .tuple #[.int .i64 (numL (rest.take s)), .int .i64 ((at_ + s : Nat) : Int), .int .i64 0]) ((wire_Get.calls 100 A c B (at_ : Int) (s : Int) (numL (rest.take s)) ((at_ + s : Nat) : Int) 0 _ (Kd.C_drewN HC.out _) Hc.out (by rw [Get_eq B rest at_ s Hb.out Hl.out Ha.out Hd.out H1.out H7.out 100 (by omega), if_neg hs])).mono ?_); rintro e w1 ⟨rfl, ⟨m, hm⟩⟩; exact ⟨rfl, m, hm⟩))
      have dr : Below w.heap.size w (w.drewN nq) := pw_below_drewN (Below.refl _ w) nq
      have HH1 := Aside0.mk (below_step HH.out dr)
      have Hv1 := Aside0.mk (blk_below Hv.out dr)
      have hk0 := KeepBut.of_below (row := none) dr g
      have HK1 := Aside0.mk hk0
      clear hk0 dr
      go_wp2
      go_ret
      rw [HS.out]
      exact ⟨rfl, IsR.go (bad := false) HH1.out Hg.out Hb.out Hl.out Hv1.out HC0.out Hc.out HE.out.1 HE.out.2, HK1.out.set_ 1 _⟩
set_option maxHeartbeats 4000000 in
set_option maxRecDepth 100000 in
theorem R_text (w0 w : World) (g : Nat) (B rest : List Int) (bad : Bool) (h : IsR w0 w g B rest bad) :
    Calls Try.prog 55 #[.pointer (some ⟨g, 0, none⟩)] w fun en w' => en = .returned (.string (rtext (rest, bad)).1) ∧ IsR w0 w' g B (rtext (rest, bad)).2.1 (rtext (rest, bad)).2.2 ∧ KeepBut w w' g none := by
  obtain ⟨h0, hg, h2, h3, A, c, at_, hv, hC, hc, ha, hd⟩ := h
  have hc0 : w.cell? ⟨g, 0, none⟩ = some (.slice A B.length c) := (blk_cell hv 0).trans rfl
  have hc1 : w.cell? ⟨g, 1, none⟩ = some (.int .i64 (at_ : Int)) := (blk_cell hv 1).trans rfl
  have hc2 : w.cell? ⟨g, 2, none⟩ = some (.bool bad) := (blk_cell hv 2).trans rfl
  have hf1 := blk_frozen hv 1
  have hf2 := blk_frozen hv 2
  have HC := Aside0.mk (Kd.C_below hC h0)
  have HC0 := Aside0.mk hC
  have Hc := Aside0.mk hc
  have HH := Aside0.mk h0
  have Hg := Aside0.mk hg
  have Hb := Aside0.mk h2
  have Hl := Aside0.mk h3
  have Hv := Aside0.mk hv
  have Ha := Aside0.mk ha
  have Hd := Aside0.mk hd
  clear h0 hg h2 h3 hv hC hc ha hd
  rcases rest with _ | ⟨b, tl⟩
  · rcases bad_cases bad with rfl | rfl
    · have HS := Aside0.mk (show rtext ([], true) = (⟨#[]⟩, ([], true)) from rfl)
      go_enter Try.func55, Try.ntmps55
      go_wp2
      go_quiet ((go_at_call 75; refine Calls.quiet_of (v := .tuple #[.string ⟨#[]⟩, .int .i64 0, .int .i64 3]) ((wire_GetText.calls 100 A c B (at_ : Int) ⟨#[]⟩ 0 3 _ (Kd.C_drewN HC.out _) Hc.out (GetText_eq B [] at_ Hb.out Hl.out Ha.out Hd.out 100 (by omega))).mono ?_); rintro e w1 ⟨rfl, ⟨m, hm⟩⟩; exact ⟨rfl, m, hm⟩))
      have dr : Below w.heap.size w (w.drewN nq) := pw_below_drewN (Below.refl _ w) nq
      have HH1 := Aside0.mk (below_step HH.out dr)
      have Hv1 := Aside0.mk (blk_below Hv.out dr)
      have hk0 := KeepBut.of_below (row := none) dr g
      have HK1 := Aside0.mk hk0
      clear hk0 dr
      go_wp2
      go_ret
      rw [HS.out]
      exact ⟨rfl, IsR.bad (bad := true) ⟨HH1.out, Hg.out, Hb.out, Hl.out, A, c, at_, Hv1.out, HC0.out, Hc.out, Ha.out, Hd.out⟩, HK1.out.set_ 2 (.bool true)⟩
    · have HS := Aside0.mk (show rtext ([], false) = (⟨#[]⟩, ([], true)) from rfl)
      go_enter Try.func55, Try.ntmps55
      go_wp2
      go_quiet ((go_at_call 75; refine Calls.quiet_of (v := .tuple #[.string ⟨#[]⟩, .int .i64 0, .int .i64 3]) ((wire_GetText.calls 100 A c B (at_ : Int) ⟨#[]⟩ 0 3 _ (Kd.C_drewN HC.out _) Hc.out (GetText_eq B [] at_ Hb.out Hl.out Ha.out Hd.out 100 (by omega))).mono ?_); rintro e w1 ⟨rfl, ⟨m, hm⟩⟩; exact ⟨rfl, m, hm⟩))
      have dr : Below w.heap.size w (w.drewN nq) := pw_below_drewN (Below.refl _ w) nq
      have HH1 := Aside0.mk (below_step HH.out dr)
      have Hv1 := Aside0.mk (blk_below Hv.out dr)
      have hk0 := KeepBut.of_below (row := none) dr g
      have HK1 := Aside0.mk hk0
      clear hk0 dr
      go_wp2
      go_ret
      rw [HS.out]
      exact ⟨rfl, IsR.bad (bad := false) ⟨HH1.out, Hg.out, Hb.out, Hl.out, A, c, at_, Hv1.out, HC0.out, Hc.out, Ha.out, Hd.out⟩, HK1.out.set_ 2 (.bool true)⟩
  · by_cases hs : b > 24 ∨ (tl.length : Int) < b
    · rcases bad_cases bad with rfl | rfl
      · have HS := Aside0.mk (show rtext (b :: tl, true) = (⟨#[]⟩, (b :: tl, true)) from by unfold rtext; simp only; rw [if_pos (by simp)])
        go_enter Try.func55, Try.ntmps55
        go_wp2
        go_quiet ((go_at_call 75; refine Calls.quiet_of (v := .tuple #[.string ⟨#[]⟩, .int .i64 0, .int .i64 3]) ((wire_GetText.calls 100 A c B (at_ : Int) ⟨#[]⟩ 0 3 _ (Kd.C_drewN HC.out _) Hc.out (by rw [GetText_eq B (b :: tl) at_ Hb.out Hl.out Ha.out Hd.out 100 (by omega)]; simp only; rw [if_pos hs])).mono ?_); rintro e w1 ⟨rfl, ⟨m, hm⟩⟩; exact ⟨rfl, m, hm⟩))
        have dr : Below w.heap.size w (w.drewN nq) := pw_below_drewN (Below.refl _ w) nq
        have HH1 := Aside0.mk (below_step HH.out dr)
        have Hv1 := Aside0.mk (blk_below Hv.out dr)
        have hk0 := KeepBut.of_below (row := none) dr g
        have HK1 := Aside0.mk hk0
        clear hk0 dr
        go_wp2
        go_ret
        rw [HS.out]
        exact ⟨rfl, IsR.bad (bad := true) ⟨HH1.out, Hg.out, Hb.out, Hl.out, A, c, at_, Hv1.out, HC0.out, Hc.out, Ha.out, Hd.out⟩, HK1.out.set_ 2 (.bool true)⟩
      · have HS := Aside0.mk (show rtext (b :: tl, false) = (⟨#[]⟩, (b :: tl, true)) from by unfold rtext; simp only; rw [if_pos (.inr hs)])
        go_enter Try.func55, Try.ntmps55
        go_wp2
        go_quiet ((go_at_call 75; refine Calls.quiet_of (v := .tuple #[.string ⟨#[]⟩, .int .i64 0, .int .i64 3]) ((wire_GetText.calls 100 A c B (at_ : Int) ⟨#[]⟩ 0 3 _ (Kd.C_drewN HC.out _) Hc.out (by rw [GetText_eq B (b :: tl) at_ Hb.out Hl.out Ha.out Hd.out 100 (by omega)]; simp only; rw [if_pos hs])).mono ?_); rintro e w1 ⟨rfl, ⟨m, hm⟩⟩; exact ⟨rfl, m, hm⟩))
        have dr : Below w.heap.size w (w.drewN nq) := pw_below_drewN (Below.refl _ w) nq
        have HH1 := Aside0.mk (below_step HH.out dr)
        have Hv1 := Aside0.mk (blk_below Hv.out dr)
        have hk0 := KeepBut.of_below (row := none) dr g
        have HK1 := Aside0.mk hk0
        clear hk0 dr
        go_wp2
        go_ret
        rw [HS.out]
        exact ⟨rfl, IsR.bad (bad := false) ⟨HH1.out, Hg.out, Hb.out, Hl.out, A, c, at_, Hv1.out, HC0.out, Hc.out, Ha.out, Hd.out⟩, HK1.out.set_ 2 (.bool true)⟩
    · rcases bad_cases bad with rfl | rfl
      · have HS := Aside0.mk (show rtext (b :: tl, true) = (⟨#[]⟩, (b :: tl, true)) from by unfold rtext; simp only; rw [if_pos (by simp)])
        have hbb : Byte b := Hb.out b (by have : b ∈ B.drop at_ := by { rw [Hd.out]; simp }; exact List.mem_of_mem_drop this)
        unfold Byte at hbb
        have h5 : tl.length + 1 = B.length - at_ := by have := congrArg List.length Hd.out; simp at this; omega
        have h8 : B.drop (at_ + 1) = tl := by rw [← List.drop_drop, Hd.out]; rfl
        obtain ⟨at1, hat1⟩ : ∃ at1 : Nat, (at_ : Int) + 1 + b = (at1 : Int) := ⟨at_ + 1 + b.toNat, by omega⟩
        have HE := Aside0.mk (show at1 ≤ B.length ∧ B.drop at1 = tl.drop b.toNat from ⟨by have := Ha.out; omega, by rw [show at1 = at_ + 1 + b.toNat from by omega, ← List.drop_drop, h8]⟩)
        have HG := Aside0.mk (show wire_GetText.f 100 B (at_ : Int) = some (strOfNums (tl.take b.toNat), (at1 : Int), 0) from by rw [GetText_eq B (b :: tl) at_ Hb.out Hl.out Ha.out Hd.out 100 (by omega)]; simp only; rw [if_neg hs, hat1])
        clear hbb h5 h8 hat1 hs
        go_enter Try.func55, Try.ntmps55
        go_wp2
        go_quiet ((go_at_call 75; refine Calls.quiet_of (v := .tuple #[.string (strOfNums (tl.take b.toNat)), .int .i64 (at1 : Int), .int .i64 0]) ((wire_GetText.calls 100 A c B (at_ : Int) (strOfNums (tl.take b.toNat)) (at1 : Int) 0 _ (Kd.C_drewN HC.out _) Hc.out HG.out).mono ?_); rintro e w1 ⟨rfl, ⟨m, hm⟩⟩; exact ⟨rfl, m, hm⟩))
        have dr : Below w.heap.size w (w.drewN nq) := pw_below_drewN (Below.refl _ w) nq
        have HH1 := Aside0.mk (below_step HH.out dr)
        have Hv1 := Aside0.mk (blk_below Hv.out dr)
        have hk0 := KeepBut.of_below (row := none) dr g
        have HK1 := Aside0.mk hk0
        clear hk0 dr
        go_wp2
        go_ret
        rw [HS.out]
        exact ⟨rfl, IsR.bad (bad := true) ⟨HH1.out, Hg.out, Hb.out, Hl.out, A, c, at_, Hv1.out, HC0.out, Hc.out, Ha.out, Hd.out⟩, HK1.out.set_ 2 (.bool true)⟩
      · have HS := Aside0.mk (show rtext (b :: tl, false) = (strOfNums (tl.take b.toNat), (tl.drop b.toNat, false)) from by unfold rtext; simp only; rw [if_neg (by rintro (h | h); cases h; exact hs h)])
        have hbb : Byte b := Hb.out b (by have : b ∈ B.drop at_ := by { rw [Hd.out]; simp }; exact List.mem_of_mem_drop this)
        unfold Byte at hbb
        have h5 : tl.length + 1 = B.length - at_ := by have := congrArg List.length Hd.out; simp at this; omega
        have h8 : B.drop (at_ + 1) = tl := by rw [← List.drop_drop, Hd.out]; rfl
        obtain ⟨at1, hat1⟩ : ∃ at1 : Nat, (at_ : Int) + 1 + b = (at1 : Int) := ⟨at_ + 1 + b.toNat, by omega⟩
        have HE := Aside0.mk (show at1 ≤ B.length ∧ B.drop at1 = tl.drop b.toNat from ⟨by have := Ha.out; omega, by rw [show at1 = at_ + 1 + b.toNat from by omega, ← List.drop_drop, h8]⟩)
        have HG := Aside0.mk (show wire_GetText.f 100 B (at_ : Int) = some (strOfNums (tl.take b.toNat), (at1 : Int), 0) from by rw [GetText_eq B (b :: tl) at_ Hb.out Hl.out Ha.out Hd.out 100 (by omega)]; simp only; rw [if_neg hs, hat1])
        clear hbb h5 h8 hat1 hs
        go_enter Try.func55, Try.ntmps55
        go_wp2
        go_quiet ((go_at_call 75; refine Calls.quiet_of (v := .tuple #[.string (strOfNums (tl.take b.toNat)), .int .i64 (at1 : Int), .int .i64 0]) ((wire_GetText.calls 100 A c B (at_ : Int) (strOfNums (tl.take b.toNat)) (at1 : Int) 0 _ (Kd.C_drewN HC.out _) Hc.out HG.out).mono ?_); rintro e w1 ⟨rfl, ⟨m, hm⟩⟩; exact ⟨rfl, m, hm⟩))
        have dr : Below w.heap.size w (w.drewN nq) := pw_below_drewN (Below.refl _ w) nq
        have HH1 := Aside0.mk (below_step HH.out dr)
        have Hv1 := Aside0.mk (blk_below Hv.out dr)
        have hk0 := KeepBut.of_below (row := none) dr g
        have HK1 := Aside0.mk hk0
        clear hk0 dr
        go_wp2
        go_ret
        rw [HS.out]
        exact ⟨rfl, IsR.go (bad := false) HH1.out Hg.out Hb.out Hl.out Hv1.out HC0.out Hc.out HE.out.1 HE.out.2, HK1.out.set_ 1 _⟩
def rmany (s : Nat) (m : Int) (st : List Int × Bool) : Int × (List Int × Bool) := if (rnum s st).1 > m then (0, ((rnum s st).2.1, true)) else rnum s st
def rdot (st : List Int × Bool) : Dt × (List Int × Bool) := (⟨(rnum 1 st).1, (rnum 4 (rnum 1 st).2).1⟩, (rnum 4 (rnum 1 st).2).2)
def rstamp (st : List Int × Bool) : S51 × (List Int × Bool) := (⟨(rnum 6 st).1, (rnum 3 (rnum 6 st).2).1, (rnum 1 (rnum 3 (rnum 6 st).2).2).1⟩, (rnum 1 (rnum 3 (rnum 6 st).2).2).2)
theorem keep_then {w w1 w2 : World} {g : Nat} (h : KeepBut w w1 g none) (k : KeepBut w1 w2 g none) : KeepBut w w2 g none := h.trans k (.inl rfl)
set_option maxHeartbeats 4000000 in
set_option maxRecDepth 100000 in
theorem R_many (w0 w : World) (g : Nat) (B rest : List Int) (bad : Bool) (h : IsR w0 w g B rest bad) (z m : Int) (s : Nat) (hz : z = (s : Int)) (h1 : 1 ≤ s) (h7 : s ≤ 7) :
    Calls Try.prog 52 #[.pointer (some ⟨g, 0, none⟩), .int .i64 z, .int .i64 m] w fun en w' => en = .returned (.int .i64 (rmany s m (rest, bad)).1) ∧ IsR w0 w' g B (rmany s m (rest, bad)).2.1 (rmany s m (rest, bad)).2.2 ∧ KeepBut w w' g none := by
  have H := Aside0.mk h
  have Hz := Aside0.mk hz
  have H1 := Aside0.mk h1
  have H7 := Aside0.mk h7
  clear h hz h1 h7
  obtain ⟨q, hq⟩ : ∃ q, q = rnum s (rest, bad) := ⟨_, rfl⟩
  have HQ := Aside0.mk hq
  clear hq
  by_cases hm : q.1 > m
  · have HS := Aside0.mk (show rmany s m (rest, bad) = (0, (q.2.1, true)) from by unfold rmany; rw [← HQ.out, if_pos hm])
    go_enter Try.func52, Try.ntmps52
    go_wp2_with fail
    refine (R_num w0 _ g B rest bad H.out z s Hz.out H1.out H7.out).mono ?_
    rintro e w1 ⟨rfl, hi, hk⟩
    rw [← HQ.out] at hi
    rw [← HQ.out]
    have HI := Aside0.mk hi
    have HK := Aside0.mk hk
    obtain ⟨-, -, -, -, A, c, at_, hv, -⟩ := hi
    have hc2 : w1.cell? ⟨g, 2, none⟩ = some (.bool q.2.2) := (blk_cell hv 2).trans rfl
    have hf2 := blk_frozen hv 2
    clear hk hv
    go_wp2
    go_ret
    rw [HS.out]
    exact ⟨rfl, HI.out.bad, HK.out.set_ 2 (.bool true)⟩
  · have HS := Aside0.mk (show rmany s m (rest, bad) = q from by unfold rmany; rw [← HQ.out, if_neg hm])
    have hm2 := decide_eq_false (show ¬ m < q.1 by omega)
    go_enter Try.func52, Try.ntmps52
    go_wp2_with fail
    refine (R_num w0 _ g B rest bad H.out z s Hz.out H1.out H7.out).mono ?_
    rintro e w1 ⟨rfl, hi, hk⟩
    rw [← HQ.out] at hi
    rw [← HQ.out]
    have HI := Aside0.mk hi
    have HK := Aside0.mk hk
    clear hi hk
    go_wp2
    go_ret
    rw [HS.out]
    exact ⟨rfl, HI.out, HK.out⟩
set_option maxHeartbeats 4000000 in
set_option maxRecDepth 100000 in
theorem R_dot (w0 w : World) (g : Nat) (B rest : List Int) (bad : Bool) (h : IsR w0 w g B rest bad) :
    Calls Try.prog 53 #[.pointer (some ⟨g, 0, none⟩)] w fun en w' => en = .returned (.agg #[.int .i64 (rdot (rest, bad)).1.f0, .int .i64 (rdot (rest, bad)).1.f1]) ∧ IsR w0 w' g B (rdot (rest, bad)).2.1 (rdot (rest, bad)).2.2 ∧ KeepBut w w' g none := by
  have hgl : g < w.heap.size := h.lt
  have hne : w.heap.size ≠ g := by omega
  have H0 := Aside0.mk (h.alloc (.cells #[.int .i64 0, .int .i64 0] 49))
  have K0 := Aside0.mk (keep_alloc (KeepBut.refl w g none) (.cells #[.int .i64 0, .int .i64 0] 49))
  have D0 := Aside0.mk (heap_alloc_new w (.cells #[.int .i64 0, .int .i64 0] 49))
  have HZ := Aside0.mk (below_size h.1)
  have HNE := Aside0.mk hne
  clear h hgl hne
  go_enter Try.func53, Try.ntmps53
  go_wp2_with fail
  refine (R_num w0 _ g B rest bad H0.out 1 1 rfl (by omega) (by omega)).mono ?_
  rintro e w1 ⟨rfl, hi, hk⟩
  have D1 := Aside0.mk (hk.blk D0.out HNE.out (by simp))
  have H1 := Aside0.mk hi
  have K1 := Aside0.mk (keep_then K0.out hk)
  clear hi hk
  go_wp2_with fail
  refine (R_num w0 _ g B (rnum 1 (rest, bad)).2.1 (rnum 1 (rest, bad)).2.2 H1.out 4 4 rfl (by omega) (by omega)).mono ?_
  rintro e w2 ⟨rfl, hi, hk⟩
  have D2 := Aside0.mk (hk.blk D1.out HNE.out (by simp))
  have H2 := Aside0.mk hi
  have K2 := Aside0.mk (keep_then K1.out hk)
  clear hi hk
  have hcx := fun i => blk_cell D2.out i
  have hfx := fun i => blk_frozen D2.out i
  go_wp2
  refine bodyPost_ret (v := .agg #[.int .i64 (rnum 1 (rest, bad)).1, .int .i64 (rnum 4 (rnum 1 (rest, bad)).2).1]) ?_ rfl ⟨rfl, ((((H2.out).far HNE.out HZ.out 0 (.int .i64 (rnum 1 (rest, bad)).1))).far HNE.out HZ.out 1 (.int .i64 (rnum 4 (rnum 1 (rest, bad)).2).1)), (keep_far ((keep_far (K2.out) (p := ⟨w.heap.size, 0, none⟩) (Nat.le_refl _) (.int .i64 (rnum 1 (rest, bad)).1))) (p := ⟨w.heap.size, 1, none⟩) (Nat.le_refl _) (.int .i64 (rnum 4 (rnum 1 (rest, bad)).2).1))⟩
  exact results_cell_row (p := 2) (ty := 49) rfl _ _ w.heap.size 49 #[.int .i64 (rnum 1 (rest, bad)).1, .int .i64 (rnum 4 (rnum 1 (rest, bad)).2).1] (0, 0) _ rfl (blk_set (blk_set D2.out 0 (.int .i64 (rnum 1 (rest, bad)).1)) 1 (.int .i64 (rnum 4 (rnum 1 (rest, bad)).2).1)) Try.underlying49 rfl (by kernel_rfl)
set_option maxHeartbeats 4000000 in
set_option maxRecDepth 100000 in
theorem R_stamp (w0 w : World) (g : Nat) (B rest : List Int) (bad : Bool) (h : IsR w0 w g B rest bad) :
    Calls Try.prog 54 #[.pointer (some ⟨g, 0, none⟩)] w fun en w' => en = .returned (.agg #[.int .i64 (rstamp (rest, bad)).1.f0, .int .i64 (rstamp (rest, bad)).1.f1, .int .i64 (rstamp (rest, bad)).1.f2]) ∧ IsR w0 w' g B (rstamp (rest, bad)).2.1 (rstamp (rest, bad)).2.2 ∧ KeepBut w w' g none := by
  have hgl : g < w.heap.size := h.lt
  have hne : w.heap.size ≠ g := by omega
  have H0 := Aside0.mk (h.alloc (.cells #[.int .i64 0, .int .i64 0, .int .i64 0] 51))
  have K0 := Aside0.mk (keep_alloc (KeepBut.refl w g none) (.cells #[.int .i64 0, .int .i64 0, .int .i64 0] 51))
  have D0 := Aside0.mk (heap_alloc_new w (.cells #[.int .i64 0, .int .i64 0, .int .i64 0] 51))
  have HZ := Aside0.mk (below_size h.1)
  have HNE := Aside0.mk hne
  clear h hgl hne
  go_enter Try.func54, Try.ntmps54
  go_wp2_with fail
  refine (R_num w0 _ g B rest bad H0.out 6 6 rfl (by omega) (by omega)).mono ?_
  rintro e w1 ⟨rfl, hi, hk⟩
  have D1 := Aside0.mk (hk.blk D0.out HNE.out (by simp))
  have H1 := Aside0.mk hi
  have K1 := Aside0.mk (keep_then K0.out hk)
  clear hi hk
  go_wp2_with fail
  refine (R_num w0 _ g B (rnum 6 (rest, bad)).2.1 (rnum 6 (rest, bad)).2.2 H1.out 3 3 rfl (by omega) (by omega)).mono ?_
  rintro e w2 ⟨rfl, hi, hk⟩
  have D2 := Aside0.mk (hk.blk D1.out HNE.out (by simp))
  have H2 := Aside0.mk hi
  have K2 := Aside0.mk (keep_then K1.out hk)
  clear hi hk
  go_wp2_with fail
  refine (R_num w0 _ g B (rnum 3 (rnum 6 (rest, bad)).2).2.1 (rnum 3 (rnum 6 (rest, bad)).2).2.2 H2.out 1 1 rfl (by omega) (by omega)).mono ?_
  rintro e w3 ⟨rfl, hi, hk⟩
  have D3 := Aside0.mk (hk.blk D2.out HNE.out (by simp))
  have H3 := Aside0.mk hi
  have K3 := Aside0.mk (keep_then K2.out hk)
  clear hi hk
  have hcx := fun i => blk_cell D3.out i
  have hfx := fun i => blk_frozen D3.out i
  go_wp2
  refine bodyPost_ret (v := .agg #[.int .i64 (rnum 6 (rest, bad)).1, .int .i64 (rnum 3 (rnum 6 (rest, bad)).2).1, .int .i64 (rnum 1 (rnum 3 (rnum 6 (rest, bad)).2).2).1]) ?_ rfl ⟨rfl, ((((((H3.out).far HNE.out HZ.out 0 (.int .i64 (rnum 6 (rest, bad)).1))).far HNE.out HZ.out 1 (.int .i64 (rnum 3 (rnum 6 (rest, bad)).2).1))).far HNE.out HZ.out 2 (.int .i64 (rnum 1 (rnum 3 (rnum 6 (rest, bad)).2).2).1)), (keep_far ((keep_far ((keep_far (K3.out) (p := ⟨w.heap.size, 0, none⟩) (Nat.le_refl _) (.int .i64 (rnum 6 (rest, bad)).1))) (p := ⟨w.heap.size, 1, none⟩) (Nat.le_refl _) (.int .i64 (rnum 3 (rnum 6 (rest, bad)).2).1))) (p := ⟨w.heap.size, 2, none⟩) (Nat.le_refl _) (.int .i64 (rnum 1 (rnum 3 (rnum 6 (rest, bad)).2).2).1))⟩
  exact results_cell_row (p := 2) (ty := 51) rfl _ _ w.heap.size 51 #[.int .i64 (rnum 6 (rest, bad)).1, .int .i64 (rnum 3 (rnum 6 (rest, bad)).2).1, .int .i64 (rnum 1 (rnum 3 (rnum 6 (rest, bad)).2).2).1] (0, 0) _ rfl (blk_set (blk_set (blk_set D3.out 0 (.int .i64 (rnum 6 (rest, bad)).1)) 1 (.int .i64 (rnum 3 (rnum 6 (rest, bad)).2).1)) 2 (.int .i64 (rnum 1 (rnum 3 (rnum 6 (rest, bad)).2).2).1)) Try.underlying51 rfl (by kernel_rfl)
end Go.Proofs.Ytnbjflcfdncocaa.M

/- The reader's contract for numbers (Nums), walked by hand. -/
namespace Go.Proofs.Ytnbjflcfdncocaa.M
open Go.RowKit Go.Proofs.YtnbjflcfdncocaaW.PrintWords Go.Proofs.YtnbjflcfdncocaaW.PrintLast Go.Proofs.YtnbjflcfdncocaaW.PrintMore

def rints : Nat → List Int × Bool → List Int × (List Int × Bool)
  | 0, st => ([], st)
  | k + 1, st => ((rints k st).1 ++ [(rnum 4 (rints k st).2).1], (rnum 4 (rints k st).2).2)
theorem rints_length (st : List Int × Bool) : ∀ k, (rints k st).1.length = k
  | 0 => rfl
  | k + 1 => by simp [rints, rints_length st k]
def rnums (st : List Int × Bool) : List Int × (List Int × Bool) := rints (rmany 1 5 st).1.toNat (rmany 1 5 st).2
theorem rmany_le (s : Nat) (m : Int) (h0 : 0 ≤ m) (st : List Int × Bool) : (rmany s m st).1 ≤ m := by
  unfold rmany; split
  · exact h0
  · omega
theorem IsR.grown {w0 W W1 : World} {g : Nat} {B rest : List Int} {bad : Bool} {row : Option Nat} (h : IsR w0 W g B rest bad) (hw : W.grownBy W1 row) (hr : row ≠ some g) (hb : ∀ k, row = some k → w0.heap.size ≤ k) : IsR w0 W1 g B rest bad := by
  obtain ⟨h0, hg, h2, h3, A, c, at_, hv, h4⟩ := h
  exact ⟨h0.grown hw (below_size h0) hb, hg, h2, h3, A, c, at_, blk_grown hv hw (fun e => hr e.symm), h4⟩
theorem keep_grown {w W W1 : World} {g : Nat} {row : Option Nat} (h : KeepBut w W g none) (hw : W.grownBy W1 row) (hb : ∀ k, row = some k → w.heap.size ≤ k) : KeepBut w W1 g none := by
  refine h.trans (KeepBut.of_grown hw g) ?_
  cases row with
  | none => exact .inl rfl
  | some b => exact .inr ⟨b, rfl, hb b rfl⟩
set_option maxHeartbeats 4000000 in
set_option maxRecDepth 100000 in
theorem R_nums (w0 w : World) (g : Nat) (B rest : List Int) (bad : Bool) (h : IsR w0 w g B rest bad) :
    Calls Try.prog 39 #[.pointer (some ⟨g, 0, none⟩)] w fun en w' => ∃ v, en = .returned v ∧ Kd.R (Kd.int .i64) 3 w' w.heap.size (fun k => k ≠ g) v (rnums (rest, bad)).1 ∧
      IsR w0 w' g B (rnums (rest, bad)).2.1 (rnums (rest, bad)).2.2 ∧ KeepBut w w' g none := by
  have hgl : g < w.heap.size := h.lt
  have HGL := Aside0.mk hgl
  have H0 := Aside0.mk h
  have HM := Aside0.mk (rmany_le 1 5 (by omega) (rest, bad))
  obtain ⟨q, hq⟩ : ∃ q, q = rmany 1 5 (rest, bad) := ⟨_, rfl⟩
  rw [← hq] at HM
  have HQ := Aside0.mk hq
  have HS := Aside0.mk (show rnums (rest, bad) = rints q.1.toNat q.2 from by rw [hq]; rfl)
  clear h hgl hq
  go_enter Try.func39, Try.ntmps39
  go_wp2_with fail
  refine (R_many w0 _ g B rest bad H0.out 1 5 1 rfl (by omega) (by omega)).mono ?_
  rintro e w1 ⟨rfl, hi, hk⟩
  rw [← HQ.out] at hi
  rw [← HQ.out]
  have H1 := Aside0.mk hi
  have K1 := Aside0.mk hk
  clear hi hk HQ
  go_wp2
  have HB0 := Aside0.mk (below_size H0.out.1)
  go_loopw [3, 6] (fun v3 v6 wr => ∃ k : Nat, k ≤ q.1.toNat ∧ v6 = .int .i64 k ∧ Aside0 (Kd.R (Kd.int .i64) 3 wr w.heap.size (fun k => k ≠ g) v3 (rints k q.2).1) ∧ Aside0 (IsR w0 wr g B (rints k q.2).2.1 (rints k q.2).2.2) ∧ Aside0 (KeepBut w wr g none)) (fun _ v6 _ => q.1.toNat - (intOf v6).toNat)
  case atStart => exact ⟨0, by omega, rfl, ⟨Kd.R_nil _ _ _ _ _⟩, H1, K1⟩
  case round =>
    obtain ⟨k, hk, rfl, HO, HI, HK⟩ := hrel
    have hkm : (k : Int) ≤ 5 := by have := HM.out; omega
    by_cases hlt : (k : Int) < q.1
    · go_wp2_with fail
      refine (R_num w0 _ g B _ _ HI.out 4 4 rfl (by omega) (by omega)).mono ?_
      rintro e w2 ⟨rfl, hi, hk2⟩
      have H2 := Aside0.mk hi
      have K2 := Aside0.mk (keep_then HK.out hk2)
      have O2 := Aside0.mk (Kd.R_keep HO.out hk2 (fun _ h => h))
      clear hi hk2
      obtain ⟨x, hx⟩ : ∃ x, x = (rnum 4 ((rints k q.2).2.1, (rints k q.2).2.2)).1 := ⟨_, rfl⟩
      obtain ⟨L, hL⟩ : ∃ L, L = (rints k q.2).1 := ⟨_, rfl⟩
      have HLn := Aside0.mk (show L.length = k by rw [hL, rints_length])
      have HT := Aside0.mk (show rints (k + 1) q.2 = (L ++ [x], (rnum 4 (rints k q.2).2).2) from by rw [hL, hx]; rfl)
      rw [← hL] at O2
      rw [← hx]
      clear hx hL
      go_wp2_with (first | ((with_reducible refine gate_builtin (b := .append) (xs := #[.tmp 8, .tmp 11]) rfl ?_); at_builtin; refine Kd.R_append (Kd.int .i64) (w0 := w2) w.heap.size rfl (.tmp 8) (.tmp 11) 37 3 (.int .i64 0) 8 rfl Try.underlying37 info3 rfl (by decide) (by omega) u3 L x [.int .i64 x] (fun k => k ≠ g) (fun _ => False) rfl rfl rfl (fun _ hk => hk.elim) (fun k hk e_ => by have := H2.out.lt; omega) O2.out (Below.refl _ _) K2.out.1 (by have := HLn.out; omega) ?_; intro v3 w3 ho hb hgw hat; have O3 := Aside0.mk ho; have H3 := Aside0.mk (H2.out.grown hgw (fun e_ => O2.out.1 g e_ rfl) (fun k hk => by have := Kd.R_base O2.out k hk; have := HB0.out; omega)); have K3 := Aside0.mk (keep_grown K2.out hgw (fun k hk => Kd.R_base O2.out k hk)); clear ho hb hgw hat))
      go_roundw
      case rel => exact ⟨k + 1, by omega, by go_num, by rw [HT.out]; exact O3, by rw [HT.out]; exact H3, K3⟩
      case measure => simp [intOf]; omega
    · obtain rfl : k = q.1.toNat := by omega
      have HE := Aside0.mk (show rnums (rest, bad) = rints q.1.toNat q.2 from HS.out)
      go_wp2
      go_ret
      rw [HE.out]
      exact ⟨_, rfl, HO.out, HI.out, HK.out⟩
end Go.Proofs.Ytnbjflcfdncocaa.M

namespace Go.Proofs.Ytnbjflcfdncocaa.M
open Go.RowKit Go.Proofs.YtnbjflcfdncocaaW.PrintWords Go.Proofs.YtnbjflcfdncocaaW.PrintLast Go.Proofs.YtnbjflcfdncocaaW.PrintMore
attribute [local go_sem] max2_int min2_int max_two min_two max_three min_three max_four min_four   -- for this text's walks alone
set_option linter.unusedVariables false
set_option linter.unusedSimpArgs false

/-! ### wire_GetInt: function 88 -/
mutual
def wire_GetInt.j0 : Nat → List Int → Int → Bool → Option (Int × Int × Int)
 | 0, _, _, _ => none
 | k + 1, x0, x1, x15 => if x15 = true then (some (0, 0, 1)) else (if (wrap64 ((x0.length : Int) - x1)) < 9 then (wire_GetInt.j1 k x0 x1 true) else (if 0 ≤ x1 then (if x1 < (x0.length : Int) then (wire_GetInt.j1 k x0 x1 (decide ((rd x0 x1) > 1))) else (none)) else (none)))
def wire_GetInt.j1 : Nat → List Int → Int → Bool → Option (Int × Int × Int)
 | 0, _, _, _ => none
 | k + 1, x0, x1, x27 => if x27 = true then (some (0, 0, 3)) else (if 0 ≤ (wrap64 (x1 + 1)) then (if (wrap64 (x1 + 1)) ≤ (wrap64 (x1 + 9)) then (if (wrap64 (x1 + 9)) ≤ (x0.length : Int) then ((wire_num.f k ((x0.take ((wrap64 (x1 + 9)) : Int).toNat).drop ((wrap64 (x1 + 1)) : Int).toNat)).bind fun t318 => (if t318 > 1152921504606846976 then (wire_GetInt.j2 k x0 x1 t318 true) else (if 0 ≤ x1 then (if x1 < (x0.length : Int) then (if (rd x0 x1) = 1 then (wire_GetInt.j2 k x0 x1 t318 (t318 == 0)) else (wire_GetInt.j2 k x0 x1 t318 false)) else (none)) else (none)))) else (none)) else (none)) else (none))
def wire_GetInt.j2 : Nat → List Int → Int → Int → Bool → Option (Int × Int × Int)
 | 0, _, _, _, _ => none
 | k + 1, x0, x1, x7, x35 => if x35 = true then (some (0, 0, 3)) else (if 0 ≤ x1 then (if x1 < (x0.length : Int) then (if (rd x0 x1) = 1 then (some (wrap64 (-(wrap64 (x7))), wrap64 (x1 + 9), 0)) else (some (wrap64 (x7), wrap64 (x1 + 9), 0))) else (none)) else (none))
end
def wire_GetInt.f (k : Nat) (l0 : List Int) (a1 : Int) : Option (Int × Int × Int) := if a1 < 0 then (wire_GetInt.j0 k l0 a1 true) else (wire_GetInt.j0 k l0 a1 (decide (a1 > (l0.length : Int))))
set_option maxHeartbeats 8000000 in
set_option maxRecDepth 100000 in
theorem wire_GetInt.calls (k : Nat) (A0 : Option Addr) (c0 : Nat) (l0 : List Int) (a1 : Int) (r1 : Int) (r2 : Int) (r3 : Int) (w : World) (hr0 : Kd.C (Kd.int .u8) w A0 l0.length l0) (hc0 : l0.length ≤ c0) (h : wire_GetInt.f k l0 a1 = some (r1, r2, r3)) :
  Calls Try.prog 88 #[.slice A0 l0.length c0, .int .i64 a1] w fun e w' => e = .returned (.tuple #[.int .i64 r1, .int .i64 r2, .int .i64 r3]) ∧ Drawn0 w w' := by
 have HR0 := Aside0.mk hr0
 have HC0 := Aside0.mk hc0
 clear hr0 hc0
 have H : (if a1 < 0 then (wire_GetInt.j0 k l0 a1 true) else (wire_GetInt.j0 k l0 a1 (decide (a1 > (l0.length : Int))))) = some (r1, r2, r3) := h
 clear h
 have HC3 := Aside0.mk H
 clear H
 go_enter Try.func88, Try.ntmps88
 go_upto_region 1 with (fail)
 go_cut [15] (fun v15 wc => ∃ (kq : Nat) (x15_2 : Bool), v15 = .bool x15_2 ∧ Aside0 (wire_GetInt.j0 kq l0 a1 x15_2 = some (r1, r2, r3)) ∧ Aside0 (kq ≤ k) ∧ Drawn0 w wc)
 case first =>
  have H := HC3.out
  clear HC3
  by_cases c4 : a1 < 0
  ·rw [if_pos c4] at H
   have c4b0 : decide (a1 < 0) = true := decide_eq_true c4
   clear c4
   (first | rw [c4b0] | (simp only [i64_w, i32_w]; rw [c4b0]) | skip)
   have H' := Aside0.mk H
   clear H
   go_wp2
   go_meet
   case rel => exact ⟨_, (true), (by first | rfl | (simp; done) | (simp [*]; done)), H', ⟨by first | omega | exact Nat.le_refl _⟩, by repeat (first | exact Drawn0.refl _ | apply Drawn0.step)⟩
  ·rw [if_neg c4] at H
   have c4b0 : decide (a1 < 0) = false := decide_eq_false c4
   clear c4
   (first | rw [c4b0] | (simp only [i64_w, i32_w]; rw [c4b0]) | skip)
   have H' := Aside0.mk H
   clear H
   go_wp2
   go_meet
   case rel => exact ⟨_, (decide (a1 > (l0.length : Int))), (by first | rfl | (simp; done) | (simp [*]; done)), H', ⟨by first | omega | exact Nat.le_refl _⟩, by repeat (first | exact Drawn0.refl _ | apply Drawn0.step)⟩
 case rest =>
  clear HC3
  try clear p2
  try clear c4
  try clear c4b0
  obtain ⟨kq, x15_2, rfl, HA, HJ2, ⟨mc2, rfl⟩⟩ := hcut
  cases kq with
  | zero => exact absurd HA.out (by simp [wire_GetInt.j0])
  | succ kj2 =>
   have H := HA.out
   clear HA
   simp only [wire_GetInt.j0] at H
   by_cases c5 : x15_2 = true
   ·subst c5
    have H1 : (some (0, 0, 1)) = some (r1, r2, r3) := by rw [if_pos rfl] at H; exact H
    clear H
    have H := H1
    clear H1
    simp only [Option.some.injEq, Prod.mk.injEq] at H
    obtain ⟨rfl, rfl, rfl⟩ := H
    go_wp2
    go_ret3
    exact ⟨by first | rfl | (simp; done) | (simp [*]; done), by repeat (first | exact Drawn0.refl _ | apply Drawn0.step)⟩
   ·replace c5 := Bool.eq_false_iff.mpr c5
    subst c5
    have H1 : (if (wrap64 ((l0.length : Int) - a1)) < 9 then (wire_GetInt.j1 kj2 l0 a1 true) else (if 0 ≤ a1 then (if a1 < (l0.length : Int) then (wire_GetInt.j1 kj2 l0 a1 (decide ((rd l0 a1) > 1))) else (none)) else (none))) = some (r1, r2, r3) := by rw [if_neg (show ¬ (false = true) by decide)] at H; exact H
    clear H
    have H := H1
    clear H1
    have HC6 := Aside0.mk H
    clear H
    go_upto_region 3 with (fail)
    go_cut [27] (fun v27 wc => ∃ (kq : Nat) (x27_5 : Bool), v27 = .bool x27_5 ∧ Aside0 (wire_GetInt.j1 kq l0 a1 x27_5 = some (r1, r2, r3)) ∧ Aside0 (kq ≤ kj2) ∧ Drawn0 w wc)
    case first =>
     have H := HC6.out
     clear HC6
     by_cases c7 : (wrap64 ((l0.length : Int) - a1)) < 9
     ·rw [if_pos c7] at H
      have c7b0 : decide ((wrap64 ((l0.length : Int) - a1)) < 9) = true := decide_eq_true c7
      clear c7
      (first | rw [c7b0] | (simp only [i64_w, i32_w]; rw [c7b0]) | skip)
      have H' := Aside0.mk H
      clear H
      go_wp2
      go_meet
      case rel => exact ⟨_, (true), (by first | rfl | (simp; done) | (simp [*]; done)), H', ⟨by have := HJ2.out; first | omega | exact Nat.le_refl _⟩, by repeat (first | exact Drawn0.refl _ | apply Drawn0.step)⟩
     ·rw [if_neg c7] at H
      have c7b0 : decide ((wrap64 ((l0.length : Int) - a1)) < 9) = false := decide_eq_false c7
      clear c7
      (first | rw [c7b0] | (simp only [i64_w, i32_w]; rw [c7b0]) | skip)
      by_cases c8 : 0 ≤ a1
      ·rw [if_pos c8] at H
       have c8b0 : decide (0 ≤ a1) = true := decide_eq_true c8
       clear c8
       by_cases c9 : a1 < (l0.length : Int)
       ·rw [if_pos c9] at H
        have c9b0 : decide (a1 < (l0.length : Int)) = true := decide_eq_true c9
        clear c9
        have H' := Aside0.mk H
        clear H
        have p316 : 0 ≤ (a1 : Int) := of_decide_eq_true (by first | (with_reducible assumption) | assumption)
        have q316 : a1 < (l0.length : Int) := of_decide_eq_true (by first | (with_reducible assumption) | assumption)
        obtain ⟨ad316, e316, hx316_0⟩ := Kd.at_int HR0.out a1 p316 q316
        cases e316
        replace p316 := eq_true p316
        replace q316 := eq_true q316
        go_wp2
        go_meet
        case rel => exact ⟨_, (decide ((rd l0 a1) > 1)), (by first | rfl | (simp; done) | (simp [*]; done)), H', ⟨by have := HJ2.out; first | omega | exact Nat.le_refl _⟩, by repeat (first | exact Drawn0.refl _ | apply Drawn0.step)⟩
       ·rw [if_neg c9] at H
        exact absurd H (by simp)
      ·rw [if_neg c8] at H
       exact absurd H (by simp)
    case rest =>
     clear HC6
     try clear c2
     try clear p2
     try clear p3
     try clear q3
     try clear hx3
     try clear c4
     try clear c4b0
     try clear c5
     try clear p6
     try clear c7
     try clear c7b0
     try clear c8
     try clear c8b0
     try clear c9
     try clear c9b0
     try clear hx316_0
     try clear p2
     try clear p316
     try clear q316
     obtain ⟨kq, x27_5, rfl, HA, HJ5, ⟨mc5, rfl⟩⟩ := hcut
     cases kq with
     | zero => exact absurd HA.out (by simp [wire_GetInt.j1])
     | succ kj5 =>
      have H := HA.out
      clear HA
      simp only [wire_GetInt.j1] at H
      by_cases c10 : x27_5 = true
      ·subst c10
       have H1 : (some (0, 0, 3)) = some (r1, r2, r3) := by rw [if_pos rfl] at H; exact H
       clear H
       have H := H1
       clear H1
       simp only [Option.some.injEq, Prod.mk.injEq] at H
       obtain ⟨rfl, rfl, rfl⟩ := H
       go_wp2
       go_ret3
       exact ⟨by first | rfl | (simp; done) | (simp [*]; done), by repeat (first | exact Drawn0.refl _ | apply Drawn0.step)⟩
      ·replace c10 := Bool.eq_false_iff.mpr c10
       subst c10
       have H1 : (if 0 ≤ (wrap64 (a1 + 1)) then (if (wrap64 (a1 + 1)) ≤ (wrap64 (a1 + 9)) then (if (wrap64 (a1 + 9)) ≤ (l0.length : Int) then ((wire_num.f kj5 ((l0.take ((wrap64 (a1 + 9)) : Int).toNat).drop ((wrap64 (a1 + 1)) : Int).toNat)).bind fun t318 => (if t318 > 1152921504606846976 then (wire_GetInt.j2 kj5 l0 a1 t318 true) else (if 0 ≤ a1 then (if a1 < (l0.length : Int) then (if (rd l0 a1) = 1 then (wire_GetInt.j2 kj5 l0 a1 t318 (t318 == 0)) else (wire_GetInt.j2 kj5 l0 a1 t318 false)) else (none)) else (none)))) else (none)) else (none)) else (none)) = some (r1, r2, r3) := by rw [if_neg (show ¬ (false = true) by decide)] at H; exact H
       clear H
       have H := H1
       clear H1
       obtain ⟨ji11, hji11⟩ : ∃ j_ : Int, (wrap64 (a1 + 1)) = j_ := ⟨_, rfl⟩
       replace H : (if 0 ≤ (ji11) then (if (ji11) ≤ (wrap64 (a1 + 9)) then (if (wrap64 (a1 + 9)) ≤ (l0.length : Int) then ((wire_num.f kj5 ((l0.take ((wrap64 (a1 + 9)) : Int).toNat).drop ((ji11) : Int).toNat)).bind fun t318 => (if t318 > 1152921504606846976 then (wire_GetInt.j2 kj5 l0 a1 t318 true) else (if 0 ≤ a1 then (if a1 < (l0.length : Int) then (if (rd l0 a1) = 1 then (wire_GetInt.j2 kj5 l0 a1 t318 (t318 == 0)) else (wire_GetInt.j2 kj5 l0 a1 t318 false)) else (none)) else (none)))) else (none)) else (none)) else (none)) = some (r1, r2, r3) := by first | (rw [hji11] at H; exact H) | (simp only [hji11] at H ⊢; exact H)
       have hji11w : (IntKind.i64.wrap (a1 + 1)) = ji11 := (i64_w _).trans hji11
       by_cases c12 : 0 ≤ (ji11)
       ·rw [if_pos c12] at H
        have c12b0 := eq_true c12
        have c12b1 : decide (0 ≤ (ji11)) = true := decide_eq_true c12
        clear c12
        by_cases c13 : (ji11) ≤ (wrap64 (a1 + 9))
        ·rw [if_pos c13] at H
         have c13b0 := eq_true c13
         have c13b1 : decide ((ji11) ≤ (wrap64 (a1 + 9))) = true := decide_eq_true c13
         by_cases c14 : (wrap64 (a1 + 9)) ≤ (l0.length : Int)
         ·rw [if_pos c14] at H
          have c14b0 := eq_true c14
          have c14b1 : decide ((wrap64 (a1 + 9)) ≤ (l0.length : Int)) = true := decide_eq_true c14
          replace H := Option.bind_eq_some_iff.mp H
          obtain ⟨t318, A150, H⟩ := H
          replace H : (if t318 > 1152921504606846976 then (wire_GetInt.j2 kj5 l0 a1 t318 true) else (if 0 ≤ a1 then (if a1 < (l0.length : Int) then (if (rd l0 a1) = 1 then (wire_GetInt.j2 kj5 l0 a1 t318 (t318 == 0)) else (wire_GetInt.j2 kj5 l0 a1 t318 false)) else (none)) else (none))) = some (r1, r2, r3) := H
          have A15 := Aside0.mk A150
          clear A150
          have HC16 := Aside0.mk H
          clear H
          obtain ⟨i017, hi017, _, hsz17, _⟩ := info_parts info5
          obtain ⟨A17, hcut17, hA17, hC17⟩ := print_mid_of (P := Try.prog) (Value.int .u8) 0 22 5 .i64 .i64 Try.underlying22 hi017 hsz17 A0 c0 l0 (ji11) (wrap64 (a1 + 9)) (of_decide_eq_true (by first | (with_reducible assumption) | assumption)) (by first | omega | exact of_decide_eq_true (by first | (with_reducible assumption) | assumption)) (of_decide_eq_true (by first | (with_reducible assumption) | assumption)) HC0.out
          have HR317 := Aside0.mk (Kd.C_of_reads (h1 := fun _ => rfl) (hA17 _ (Kd.reads_of_C HR0.out)))
          have HC317 := Aside0.mk hC17
          clear hA17 hC17 hi017 hsz17
          go_upto_region 6 with (first | ((with_reducible refine gate_callee (f := 74) rfl ?_); refine goesL_ (some 34) rfl rfl Try.func74 (by kernel_rfl) rfl #[.slice A17 ((l0.take ((wrap64 (a1 + 9)) : Int).toNat).drop ((ji11) : Int).toNat).length (c0 - (ji11).toNat)] rfl (by (try simp only [List.map_toArray, List.map_cons, List.map_nil]); first | done | (rw [show ((l0.take ((wrap64 (a1 + 9)) : Int).toNat).drop ((ji11) : Int).toNat).length = ((wrap64 (a1 + 9)).toNat - (ji11).toNat) from (by rw [List.length_drop, List.length_take]; have h_ : ((wrap64 (a1 + 9)) : Int) ≤ (l0.length : Int) := of_decide_eq_true (by first | (with_reducible assumption) | assumption); omega)] <;> rfl) | (simp only [hji11]; rfl) | rfl | (simp only [List.length_drop, List.length_take]; rfl)) ?_; (with_reducible refine (wire_num.calls kj5 _ _ ((l0.take ((wrap64 (a1 + 9)) : Int).toNat).drop ((ji11) : Int).toNat) t318 _ ?side1 ?side2 A15.out).mono ?_); (case side1 => repeat (first | exact HR317.out | (with_reducible refine Kd.C_alloc ?_ _) | (with_reducible refine Kd.C_drewN ?_ _) | (with_reducible refine Kd.C_drew ?_))); (case side2 => exact HC317.out); rintro e w' ⟨rfl, ⟨nd, rfl⟩⟩; refine ⟨_, rfl, ?_⟩))
          (try simp only [Act.put, List.setIfInBounds_toArray, List.set_cons_zero, List.set_cons_succ])
          go_cut [35] (fun v35 wc => ∃ (kq : Nat) (x35_15 : Bool), v35 = .bool x35_15 ∧ Aside0 (wire_GetInt.j2 kq l0 a1 t318 x35_15 = some (r1, r2, r3)) ∧ Aside0 (kq ≤ kj5) ∧ Drawn0 w wc)
          case first =>
           have H := HC16.out
           clear HC16
           by_cases c18 : t318 > 1152921504606846976
           ·rw [if_pos c18] at H
            have c18b0 : decide (1152921504606846976 < t318) = true := decide_eq_true c18
            clear c18
            (first | rw [c18b0] | (simp only [i64_w, i32_w]; rw [c18b0]) | skip)
            have H' := Aside0.mk H
            clear H
            go_wp2
            go_meet
            case rel => exact ⟨_, (true), (by first | rfl | (simp; done) | (simp [*]; done)), H', ⟨by have := HJ2.out; have := HJ5.out; first | omega | exact Nat.le_refl _⟩, by repeat (first | exact Drawn0.refl _ | apply Drawn0.step)⟩
           ·rw [if_neg c18] at H
            have c18b0 : decide (1152921504606846976 < t318) = false := decide_eq_false c18
            clear c18
            (first | rw [c18b0] | (simp only [i64_w, i32_w]; rw [c18b0]) | skip)
            by_cases c19 : 0 ≤ a1
            ·rw [if_pos c19] at H
             have c19b0 : decide (0 ≤ a1) = true := decide_eq_true c19
             clear c19
             by_cases c20 : a1 < (l0.length : Int)
             ·rw [if_pos c20] at H
              have c20b0 : decide (a1 < (l0.length : Int)) = true := decide_eq_true c20
              clear c20
              by_cases c21 : (rd l0 a1) = 1
              ·rw [if_pos c21] at H
               have c21b0 : ((rd l0 a1) == 1) = true := beq_iff_eq.mpr c21
               have c21b1 : ((rd l0 a1) != 1) = false := bne_eq_false_iff_eq.mpr c21
               clear c21
               have H' := Aside0.mk H
               clear H
               have p319 : 0 ≤ (a1 : Int) := of_decide_eq_true (by first | (with_reducible assumption) | assumption)
               have q319 : a1 < (l0.length : Int) := of_decide_eq_true (by first | (with_reducible assumption) | assumption)
               obtain ⟨ad319, e319, hx319_0⟩ := Kd.at_int HR0.out a1 p319 q319
               cases e319
               replace p319 := eq_true p319
               replace q319 := eq_true q319
               go_wp2
               go_meet
               case rel => exact ⟨_, ((t318 == 0)), (by first | rfl | (simp; done) | (simp [*]; done)), H', ⟨by have := HJ2.out; have := HJ5.out; first | omega | exact Nat.le_refl _⟩, by repeat (first | exact Drawn0.refl _ | apply Drawn0.step)⟩
              ·rw [if_neg c21] at H
               have c21b0 : ((rd l0 a1) == 1) = false := beq_eq_false_iff_ne.mpr c21
               have c21b1 : ((rd l0 a1) != 1) = true := bne_iff_ne.mpr c21
               have H' := Aside0.mk H
               clear H
               have p319 : 0 ≤ (a1 : Int) := of_decide_eq_true (by first | (with_reducible assumption) | assumption)
               have q319 : a1 < (l0.length : Int) := of_decide_eq_true (by first | (with_reducible assumption) | assumption)
               obtain ⟨ad319, e319, hx319_0⟩ := Kd.at_int HR0.out a1 p319 q319
               cases e319
               replace p319 := eq_true p319
               replace q319 := eq_true q319
               go_wp2
               go_meet
               case rel => exact ⟨_, (false), (by first | rfl | (simp; done) | (simp [*]; done)), H', ⟨by have := HJ2.out; have := HJ5.out; first | omega | exact Nat.le_refl _⟩, by repeat (first | exact Drawn0.refl _ | apply Drawn0.step)⟩
             ·rw [if_neg c20] at H
              exact absurd H (by simp)
            ·rw [if_neg c19] at H
             exact absurd H (by simp)
          case rest =>
           clear HC16
           try clear c1
           try clear c2
           try clear p2
           try clear p3
           try clear q3
           try clear hx3
           try clear c4
           try clear c4b0
           try clear c5
           try clear p6
           try clear c7
           try clear c7b0
           try clear c8
           try clear c8b0
           try clear c9
           try clear c9b0
           try clear c10
           try clear c12
           try clear c12b0
           try clear c12b1
           try clear c13
           try clear c13b0
           try clear c13b1
           try clear c14
           try clear c14b0
           try clear c14b1
           try clear c18
           try clear c18b0
           try clear c19
           try clear c19b0
           try clear c20
           try clear c20b0
           try clear c21
           try clear c21b0
           try clear c21b1
           try clear hx316_0
           try clear hx319_0
           try clear p2
           try clear p3
           try clear p316
           try clear p319
           try clear p6
           try clear q3
           try clear q316
           try clear q319
           obtain ⟨kq, x35_15, rfl, HA, HJ15, ⟨mc15, rfl⟩⟩ := hcut
           cases kq with
           | zero => exact absurd HA.out (by simp [wire_GetInt.j2])
           | succ kj15 =>
            have H := HA.out
            clear HA
            simp only [wire_GetInt.j2] at H
            by_cases c22 : x35_15 = true
            ·subst c22
             have H1 : (some (0, 0, 3)) = some (r1, r2, r3) := by rw [if_pos rfl] at H; exact H
             clear H
             have H := H1
             clear H1
             simp only [Option.some.injEq, Prod.mk.injEq] at H
             obtain ⟨rfl, rfl, rfl⟩ := H
             go_wp2
             go_ret3
             exact ⟨by first | rfl | (simp; done) | (simp only [← hji11] <;> (first | rfl | simp)) | (simp [*]; done), by repeat (first | exact Drawn0.refl _ | apply Drawn0.step)⟩
            ·replace c22 := Bool.eq_false_iff.mpr c22
             subst c22
             have H1 : (if 0 ≤ a1 then (if a1 < (l0.length : Int) then (if (rd l0 a1) = 1 then (some (wrap64 (-(wrap64 (t318))), wrap64 (a1 + 9), 0)) else (some (wrap64 (t318), wrap64 (a1 + 9), 0))) else (none)) else (none)) = some (r1, r2, r3) := by rw [if_neg (show ¬ (false = true) by decide)] at H; exact H
             clear H
             have H := H1
             clear H1
             by_cases c23 : 0 ≤ a1
             ·rw [if_pos c23] at H
              have c23b0 : decide (0 ≤ a1) = true := decide_eq_true c23
              clear c23
              by_cases c24 : a1 < (l0.length : Int)
              ·rw [if_pos c24] at H
               have c24b0 : decide (a1 < (l0.length : Int)) = true := decide_eq_true c24
               clear c24
               by_cases c25 : (rd l0 a1) = 1
               ·rw [if_pos c25] at H
                have c25b0 : ((rd l0 a1) == 1) = true := beq_iff_eq.mpr c25
                have c25b1 : ((rd l0 a1) != 1) = false := bne_eq_false_iff_eq.mpr c25
                clear c25
                simp only [Option.some.injEq, Prod.mk.injEq] at H
                obtain ⟨rfl, rfl, rfl⟩ := H
                have p320 : 0 ≤ (a1 : Int) := of_decide_eq_true (by first | (with_reducible assumption) | assumption)
                have q320 : a1 < (l0.length : Int) := of_decide_eq_true (by first | (with_reducible assumption) | assumption)
                obtain ⟨ad320, e320, hx320_0⟩ := Kd.at_int HR0.out a1 p320 q320
                cases e320
                replace p320 := eq_true p320
                replace q320 := eq_true q320
                go_wp2
                go_ret3
                exact ⟨by first | rfl | (simp; done) | (simp only [← hji11] <;> (first | rfl | simp)) | (simp [*]; done), by repeat (first | exact Drawn0.refl _ | apply Drawn0.step)⟩
               ·rw [if_neg c25] at H
                have c25b0 : ((rd l0 a1) == 1) = false := beq_eq_false_iff_ne.mpr c25
                have c25b1 : ((rd l0 a1) != 1) = true := bne_iff_ne.mpr c25
                simp only [Option.some.injEq, Prod.mk.injEq] at H
                obtain ⟨rfl, rfl, rfl⟩ := H
                have p320 : 0 ≤ (a1 : Int) := of_decide_eq_true (by first | (with_reducible assumption) | assumption)
                have q320 : a1 < (l0.length : Int) := of_decide_eq_true (by first | (with_reducible assumption) | assumption)
                obtain ⟨ad320, e320, hx320_0⟩ := Kd.at_int HR0.out a1 p320 q320
                cases e320
                replace p320 := eq_true p320
                replace q320 := eq_true q320
                go_wp2
                go_ret3
                exact ⟨by first | rfl | (simp; done) | (simp only [← hji11] <;> (first | rfl | simp)) | (simp [*]; done), by repeat (first | exact Drawn0.refl _ | apply Drawn0.step)⟩
              ·rw [if_neg c24] at H
               exact absurd H (by simp)
             ·rw [if_neg c23] at H
              exact absurd H (by simp)
         ·rw [if_neg c14] at H
          exact absurd H (by simp)
        ·rw [if_neg c13] at H
         exact absurd H (by simp)
       ·rw [if_neg c12] at H
        exact absurd H (by simp)

/-! ### value_Read: function 76 -/
def value_Read.f (k : Nat) (l0 : List Int) (a1 : Int) : Option (Int × Int × ByteArray × Int × Int) := (wire_Get.f k l0 a1 1).bind fun bt322 => (if bt322.2.2 = 0 then (if bt322.1 = 2 then ((wire_Get.f k l0 bt322.2.1 1).bind fun bt325 => (if bt325.2.2 = 0 then ((value_Check.f bt322.1 bt325.1 (⟨#[]⟩ : ByteArray)).bind fun t328 => (if t328 = 0 then (some (bt322.1, bt325.1, (⟨#[]⟩ : ByteArray), bt325.2.1, 0)) else (some (0, 0, (⟨#[]⟩ : ByteArray), 0, 3)))) else (some (0, 0, (⟨#[]⟩ : ByteArray), 0, 3)))) else (if bt322.1 = 3 then ((wire_GetInt.f k l0 bt322.2.1).bind fun bt329 => (if bt329.2.2 = 0 then ((value_Check.f bt322.1 bt329.1 (⟨#[]⟩ : ByteArray)).bind fun t332 => (if t332 = 0 then (some (bt322.1, bt329.1, (⟨#[]⟩ : ByteArray), bt329.2.1, 0)) else (some (0, 0, (⟨#[]⟩ : ByteArray), 0, 3)))) else (some (0, 0, (⟨#[]⟩ : ByteArray), 0, 3)))) else (if bt322.1 = 4 then ((wire_GetText.f k l0 bt322.2.1).bind fun bt333 => (if bt333.2.2 = 0 then ((value_Check.f bt322.1 0 bt333.1).bind fun t336 => (if t336 = 0 then (some (bt322.1, 0, bt333.1, bt333.2.1, 0)) else (some (0, 0, (⟨#[]⟩ : ByteArray), 0, 3)))) else (some (0, 0, (⟨#[]⟩ : ByteArray), 0, 3)))) else ((value_Check.f bt322.1 0 (⟨#[]⟩ : ByteArray)).bind fun t337 => (if t337 = 0 then (some (bt322.1, 0, (⟨#[]⟩ : ByteArray), bt322.2.1, 0)) else (some (0, 0, (⟨#[]⟩ : ByteArray), 0, 3))))))) else (some (0, 0, (⟨#[]⟩ : ByteArray), 0, bt322.2.2)))
set_option maxHeartbeats 8000000 in
set_option maxRecDepth 100000 in
theorem value_Read.calls (k : Nat) (A0 : Option Addr) (c0 : Nat) (l0 : List Int) (a1 : Int) (r1 : Int) (r2 : Int) (r3 : ByteArray) (r4 : Int) (r5 : Int) (w : World) (hr0 : Kd.C (Kd.int .u8) w A0 l0.length l0) (hc0 : l0.length ≤ c0) (h : value_Read.f k l0 a1 = some (r1, r2, r3, r4, r5)) :
  Calls Try.prog 76 #[.slice A0 l0.length c0, .int .i64 a1] w fun e w' => e = .returned (.tuple #[.agg #[.int .i64 r1, .int .i64 r2, .string r3], .int .i64 r4, .int .i64 r5]) ∧ Below w.heap.size w w' := by
 have hu101 := Try.underlying101
 have HR0 := Aside0.mk hr0
 have HC0 := Aside0.mk hc0
 clear hr0 hc0
 have HB := Aside0.mk (Below.refl w.heap.size w)
 have H : ((wire_Get.f k l0 a1 1).bind fun bt322 => (if bt322.2.2 = 0 then (if bt322.1 = 2 then ((wire_Get.f k l0 bt322.2.1 1).bind fun bt325 => (if bt325.2.2 = 0 then ((value_Check.f bt322.1 bt325.1 (⟨#[]⟩ : ByteArray)).bind fun t328 => (if t328 = 0 then (some (bt322.1, bt325.1, (⟨#[]⟩ : ByteArray), bt325.2.1, 0)) else (some (0, 0, (⟨#[]⟩ : ByteArray), 0, 3)))) else (some (0, 0, (⟨#[]⟩ : ByteArray), 0, 3)))) else (if bt322.1 = 3 then ((wire_GetInt.f k l0 bt322.2.1).bind fun bt329 => (if bt329.2.2 = 0 then ((value_Check.f bt322.1 bt329.1 (⟨#[]⟩ : ByteArray)).bind fun t332 => (if t332 = 0 then (some (bt322.1, bt329.1, (⟨#[]⟩ : ByteArray), bt329.2.1, 0)) else (some (0, 0, (⟨#[]⟩ : ByteArray), 0, 3)))) else (some (0, 0, (⟨#[]⟩ : ByteArray), 0, 3)))) else (if bt322.1 = 4 then ((wire_GetText.f k l0 bt322.2.1).bind fun bt333 => (if bt333.2.2 = 0 then ((value_Check.f bt322.1 0 bt333.1).bind fun t336 => (if t336 = 0 then (some (bt322.1, 0, bt333.1, bt333.2.1, 0)) else (some (0, 0, (⟨#[]⟩ : ByteArray), 0, 3)))) else (some (0, 0, (⟨#[]⟩ : ByteArray), 0, 3)))) else ((value_Check.f bt322.1 0 (⟨#[]⟩ : ByteArray)).bind fun t337 => (if t337 = 0 then (some (bt322.1, 0, (⟨#[]⟩ : ByteArray), bt322.2.1, 0)) else (some (0, 0, (⟨#[]⟩ : ByteArray), 0, 3))))))) else (some (0, 0, (⟨#[]⟩ : ByteArray), 0, bt322.2.2)))) = some (r1, r2, r3, r4, r5) := h
 clear h
 replace H := Option.bind_eq_some_iff.mp H
 obtain ⟨⟨t322, t323, t324⟩, A30, H⟩ := H
 replace H : (if t324 = 0 then (if t322 = 2 then ((wire_Get.f k l0 t323 1).bind fun bt325 => (if bt325.2.2 = 0 then ((value_Check.f t322 bt325.1 (⟨#[]⟩ : ByteArray)).bind fun t328 => (if t328 = 0 then (some (t322, bt325.1, (⟨#[]⟩ : ByteArray), bt325.2.1, 0)) else (some (0, 0, (⟨#[]⟩ : ByteArray), 0, 3)))) else (some (0, 0, (⟨#[]⟩ : ByteArray), 0, 3)))) else (if t322 = 3 then ((wire_GetInt.f k l0 t323).bind fun bt329 => (if bt329.2.2 = 0 then ((value_Check.f t322 bt329.1 (⟨#[]⟩ : ByteArray)).bind fun t332 => (if t332 = 0 then (some (t322, bt329.1, (⟨#[]⟩ : ByteArray), bt329.2.1, 0)) else (some (0, 0, (⟨#[]⟩ : ByteArray), 0, 3)))) else (some (0, 0, (⟨#[]⟩ : ByteArray), 0, 3)))) else (if t322 = 4 then ((wire_GetText.f k l0 t323).bind fun bt333 => (if bt333.2.2 = 0 then ((value_Check.f t322 0 bt333.1).bind fun t336 => (if t336 = 0 then (some (t322, 0, bt333.1, bt333.2.1, 0)) else (some (0, 0, (⟨#[]⟩ : ByteArray), 0, 3)))) else (some (0, 0, (⟨#[]⟩ : ByteArray), 0, 3)))) else ((value_Check.f t322 0 (⟨#[]⟩ : ByteArray)).bind fun t337 => (if t337 = 0 then (some (t322, 0, (⟨#[]⟩ : ByteArray), t323, 0)) else (some (0, 0, (⟨#[]⟩ : ByteArray), 0, 3))))))) else (some (0, 0, (⟨#[]⟩ : ByteArray), 0, t324))) = some (r1, r2, r3, r4, r5) := H
 have A3 := Aside0.mk A30
 clear A30
 by_cases c4 : t324 = 0
 ·rw [if_pos c4] at H
  have c4b0 : (t324 == 0) = true := beq_iff_eq.mpr c4
  have c4b1 : (t324 != 0) = false := bne_eq_false_iff_eq.mpr c4
  clear c4
  by_cases c5 : t322 = 2
  ·rw [if_pos c5] at H
   have c5b0 : (t322 == 2) = true := beq_iff_eq.mpr c5
   have c5b1 : (t322 != 2) = false := bne_eq_false_iff_eq.mpr c5
   clear c5
   replace H := Option.bind_eq_some_iff.mp H
   obtain ⟨⟨t325, t326, t327⟩, A60, H⟩ := H
   replace H : (if t327 = 0 then ((value_Check.f t322 t325 (⟨#[]⟩ : ByteArray)).bind fun t328 => (if t328 = 0 then (some (t322, t325, (⟨#[]⟩ : ByteArray), t326, 0)) else (some (0, 0, (⟨#[]⟩ : ByteArray), 0, 3)))) else (some (0, 0, (⟨#[]⟩ : ByteArray), 0, 3))) = some (r1, r2, r3, r4, r5) := H
   have A6 := Aside0.mk A60
   clear A60
   by_cases c7 : t327 = 0
   ·rw [if_pos c7] at H
    have c7b0 : (t327 == 0) = true := beq_iff_eq.mpr c7
    have c7b1 : (t327 != 0) = false := bne_eq_false_iff_eq.mpr c7
    clear c7
    replace H := Option.bind_eq_some_iff.mp H
    obtain ⟨t328, A80, H⟩ := H
    replace H : (if t328 = 0 then (some (t322, t325, (⟨#[]⟩ : ByteArray), t326, 0)) else (some (0, 0, (⟨#[]⟩ : ByteArray), 0, 3))) = some (r1, r2, r3, r4, r5) := H
    have A8 := Aside0.mk A80
    clear A80
    by_cases c9 : t328 = 0
    ·rw [if_pos c9] at H
     have c9b0 : (t328 == 0) = true := beq_iff_eq.mpr c9
     have c9b1 : (t328 != 0) = false := bne_eq_false_iff_eq.mpr c9
     clear c9
     simp only [Option.some.injEq, Prod.mk.injEq] at H
     obtain ⟨rfl, rfl, rfl, rfl, rfl⟩ := H
     go_enter Try.func76, Try.ntmps76
     go_wp2_with (first | ((with_reducible refine gate_dst (N := 4) rfl ?_); refine box_event ?hg (N := 4) ?hd (cs := #[.int .i64 0, .int .i64 0, .string (⟨#[]⟩ : ByteArray)]) (t := 101) ?hr ?_; (case hd => rfl); (case hg => rfl); (case hr => first | (go_simp; done) | (go_simp; rfl)); intro gb321 hg w10 hbox hb; have n0_ := Aside0.mk (below_step (by repeat (first | (with_reducible first | exact HB.out | apply below_alloc | apply pw_below_drewN | apply below_drew1) | exact HB.out)) hb); have n1_ := Aside0.mk (hbox); have n2_ := Aside0.mk ((by rw [hg]; exact (below_size (by repeat (first | (with_reducible first | exact HB.out | apply below_alloc | apply pw_below_drewN | apply below_drew1) | exact HB.out))) : w.heap.size ≤ gb321)); have n3_ := Aside0.mk ((by rw [hg]; exact (below_size (by repeat (first | (with_reducible first | exact HB.out | apply below_alloc | apply pw_below_drewN | apply below_drew1) | exact HB.out))) : w.heap.size ≤ gb321)); clear HB; have HB := n0_; have BK321 := n1_; have GW321 := n2_; have GE321 := n3_; clear n0_ n1_ n2_ n3_; clear hb hbox hg) | ((with_reducible refine gate_callee (f := 51) rfl ?_); refine goesL_ (some 11) rfl rfl Try.func51 (by kernel_rfl) rfl #[.slice A0 l0.length c0, .int .i64 a1, .int .i64 1] rfl (by (try simp only [List.map_toArray, List.map_cons, List.map_nil]); first | done | rfl | (simp only [List.length_drop, List.length_take]; rfl)) ?_; (with_reducible refine (wire_Get.calls k _ _ l0 a1 1 t322 t323 t324 _ ?side1 ?side2 A3.out).mono ?_); (case side1 => repeat (first | exact (Kd.C_below HR0.out HB.out) | (with_reducible refine Kd.C_alloc ?_ _) | (with_reducible refine Kd.C_drewN ?_ _) | (with_reducible refine Kd.C_drew ?_))); (case side2 => exact HC0.out); rintro e w' ⟨rfl, ⟨nd, rfl⟩⟩; refine ⟨_, rfl, ?_⟩; (try (rw [drewN_self w10]; generalize hq_ : World.drewN w10 _ = w10; have n0_ : Aside0 (w10.heap[gb321]? = some (.cells #[.int .i64 0, .int .i64 0, .string (⟨#[]⟩ : ByteArray)] 101 (0, 0))) := ⟨by rw [← hq_]; exact (by (with_reducible repeat (first | refine blk_drewN ?_ _ | refine blk_drew ?_ | refine blk_alloc ?_ _)); exact BK321.out)⟩; have n1_ : Aside0 (Below w.heap.size w w10) := ⟨by rw [← hq_]; exact (by repeat (first | (with_reducible first | exact HB.out | apply below_alloc | apply pw_below_drewN | apply below_drew1 | refine below_set ?_ GE321.out) | exact HB.out))⟩; clear BK321 HB hq_; have BK321 := n0_; have HB := n1_; clear n0_ n1_)); have hcz11_0 : w10.cell? ⟨gb321, 0, none⟩ = some (.int .i64 0) := (blk_cell BK321.out 0).trans rfl; have hcz11_1 : w10.cell? ⟨gb321, 1, none⟩ = some (.int .i64 0) := (blk_cell BK321.out 1).trans rfl; have hcz11_2 : w10.cell? ⟨gb321, 2, none⟩ = some (.string (⟨#[]⟩ : ByteArray)) := (blk_cell BK321.out 2).trans rfl; have hfz11_0 := blk_frozen BK321.out 0; have hfz11_1 := blk_frozen BK321.out 1; have hfz11_2 := blk_frozen BK321.out 2) | ((with_reducible refine gate_callee (f := 51) rfl ?_); refine goesL_ (some 27) rfl rfl Try.func51 (by kernel_rfl) rfl #[.slice A0 l0.length c0, .int .i64 t323, .int .i64 1] rfl (by (try simp only [List.map_toArray, List.map_cons, List.map_nil]); first | done | rfl | (simp only [List.length_drop, List.length_take]; rfl)) ?_; (with_reducible refine (wire_Get.calls k _ _ l0 t323 1 t325 t326 t327 _ ?side1 ?side2 A6.out).mono ?_); (case side1 => exact Kd.C_below HR0.out (by repeat (first | (with_reducible first | exact HB.out | apply below_alloc | apply pw_below_drewN | apply below_drew1 | refine below_set ?_ GE321.out) | exact HB.out))); (case side2 => exact HC0.out); rintro e w' ⟨rfl, ⟨nd, rfl⟩⟩; refine ⟨_, rfl, ?_⟩) | (go_at_call 79; (with_reducible refine (value_Check.calls t322 t325 (⟨#[]⟩ : ByteArray) t328 _ A8.out).mono ?_); rintro e w12 ⟨rfl, hb⟩; have n0_ := Aside0.mk (blk_below (g := gb321) (o := .cells #[.int .i64 t322, .int .i64 t325, .string (⟨#[]⟩ : ByteArray)] 101 (0, 0)) (by (with_reducible repeat (first | refine blk_drewN ?_ _ | refine blk_drew ?_ | refine blk_alloc ?_ _)); refine blk_put (cs := #[.int .i64 t322, .int .i64 0, .string (⟨#[]⟩ : ByteArray)]) ?_ 1 _ rfl; (with_reducible repeat (first | refine blk_drewN ?_ _ | refine blk_drew ?_ | refine blk_alloc ?_ _)); refine blk_put (cs := #[.int .i64 0, .int .i64 0, .string (⟨#[]⟩ : ByteArray)]) ?_ 0 _ rfl; (with_reducible repeat (first | refine blk_drewN ?_ _ | refine blk_drew ?_ | refine blk_alloc ?_ _)); exact BK321.out) hb); have n1_ := Aside0.mk (below_step (by repeat (first | (with_reducible first | exact HB.out | apply below_alloc | apply pw_below_drewN | apply below_drew1 | refine below_set ?_ GE321.out) | exact HB.out)) hb); clear BK321; clear HB; have BK321 := n0_; have HB := n1_; clear n0_ n1_; (try clear hb); (try clear hb2); (try clear hk); (try clear hi); have hcz13_0 : w12.cell? ⟨gb321, 0, none⟩ = some (.int .i64 t322) := (blk_cell BK321.out 0).trans rfl; have hcz13_1 : w12.cell? ⟨gb321, 1, none⟩ = some (.int .i64 t325) := (blk_cell BK321.out 1).trans rfl; have hcz13_2 : w12.cell? ⟨gb321, 2, none⟩ = some (.string (⟨#[]⟩ : ByteArray)) := (blk_cell BK321.out 2).trans rfl; have hfz13_0 := blk_frozen BK321.out 0; have hfz13_1 := blk_frozen BK321.out 1; have hfz13_2 := blk_frozen BK321.out 2))
     refine bodyPost_ret (results_ctt rfl _ _ gb321 101 #[.int .i64 t322, .int .i64 t325, .string (⟨#[]⟩ : ByteArray)] (0, 0) _ rfl (by (with_reducible repeat (first | refine blk_drewN ?_ _ | refine blk_drew ?_ | refine blk_alloc ?_ _)); refine blk_put (cs := #[.int .i64 t322, .int .i64 t325, .string (⟨#[]⟩ : ByteArray)]) ?_ 2 _ rfl; (with_reducible repeat (first | refine blk_drewN ?_ _ | refine blk_drew ?_ | refine blk_alloc ?_ _)); refine blk_put (cs := #[.int .i64 t322, .int .i64 t325, .string (⟨#[]⟩ : ByteArray)]) ?_ 1 _ rfl; (with_reducible repeat (first | refine blk_drewN ?_ _ | refine blk_drew ?_ | refine blk_alloc ?_ _)); refine blk_put (cs := #[.int .i64 t322, .int .i64 t325, .string (⟨#[]⟩ : ByteArray)]) ?_ 0 _ rfl; (with_reducible repeat (first | refine blk_drewN ?_ _ | refine blk_drew ?_ | refine blk_alloc ?_ _)); exact BK321.out) Try.underlying101 rfl (by kernel_rfl)) rfl ?_
     exact ⟨by first | rfl | (simp [errW_none, errW_some] <;> rfl) | (simp [*, errW_none, errW_some] <;> rfl), by repeat (first | (with_reducible first | exact HB.out | apply below_alloc | apply pw_below_drewN | apply below_drew1 | refine below_set ?_ GE321.out) | exact HB.out)⟩
    ·rw [if_neg c9] at H
     have c9b0 : (t328 == 0) = false := beq_eq_false_iff_ne.mpr c9
     have c9b1 : (t328 != 0) = true := bne_iff_ne.mpr c9
     simp only [Option.some.injEq, Prod.mk.injEq] at H
     obtain ⟨rfl, rfl, rfl, rfl, rfl⟩ := H
     go_enter Try.func76, Try.ntmps76
     go_wp2_with (first | ((with_reducible refine gate_dst (N := 4) rfl ?_); refine box_event ?hg (N := 4) ?hd (cs := #[.int .i64 0, .int .i64 0, .string (⟨#[]⟩ : ByteArray)]) (t := 101) ?hr ?_; (case hd => rfl); (case hg => rfl); (case hr => first | (go_simp; done) | (go_simp; rfl)); intro gb321 hg w14 hbox hb; have n0_ := Aside0.mk (below_step (by repeat (first | (with_reducible first | exact HB.out | apply below_alloc | apply pw_below_drewN | apply below_drew1) | exact HB.out)) hb); have n1_ := Aside0.mk (hbox); have n2_ := Aside0.mk ((by rw [hg]; exact (below_size (by repeat (first | (with_reducible first | exact HB.out | apply below_alloc | apply pw_below_drewN | apply below_drew1) | exact HB.out))) : w.heap.size ≤ gb321)); have n3_ := Aside0.mk ((by rw [hg]; exact (below_size (by repeat (first | (with_reducible first | exact HB.out | apply below_alloc | apply pw_below_drewN | apply below_drew1) | exact HB.out))) : w.heap.size ≤ gb321)); clear HB; have HB := n0_; have BK321 := n1_; have GW321 := n2_; have GE321 := n3_; clear n0_ n1_ n2_ n3_; clear hb hbox hg) | ((with_reducible refine gate_callee (f := 51) rfl ?_); refine goesL_ (some 11) rfl rfl Try.func51 (by kernel_rfl) rfl #[.slice A0 l0.length c0, .int .i64 a1, .int .i64 1] rfl (by (try simp only [List.map_toArray, List.map_cons, List.map_nil]); first | done | rfl | (simp only [List.length_drop, List.length_take]; rfl)) ?_; (with_reducible refine (wire_Get.calls k _ _ l0 a1 1 t322 t323 t324 _ ?side1 ?side2 A3.out).mono ?_); (case side1 => repeat (first | exact (Kd.C_below HR0.out HB.out) | (with_reducible refine Kd.C_alloc ?_ _) | (with_reducible refine Kd.C_drewN ?_ _) | (with_reducible refine Kd.C_drew ?_))); (case side2 => exact HC0.out); rintro e w' ⟨rfl, ⟨nd, rfl⟩⟩; refine ⟨_, rfl, ?_⟩; (try (rw [drewN_self w14]; generalize hq_ : World.drewN w14 _ = w14; have n0_ : Aside0 (w14.heap[gb321]? = some (.cells #[.int .i64 0, .int .i64 0, .string (⟨#[]⟩ : ByteArray)] 101 (0, 0))) := ⟨by rw [← hq_]; exact (by (with_reducible repeat (first | refine blk_drewN ?_ _ | refine blk_drew ?_ | refine blk_alloc ?_ _)); exact BK321.out)⟩; have n1_ : Aside0 (Below w.heap.size w w14) := ⟨by rw [← hq_]; exact (by repeat (first | (with_reducible first | exact HB.out | apply below_alloc | apply pw_below_drewN | apply below_drew1 | refine below_set ?_ GE321.out) | exact HB.out))⟩; clear BK321 HB hq_; have BK321 := n0_; have HB := n1_; clear n0_ n1_)); have hcz15_0 : w14.cell? ⟨gb321, 0, none⟩ = some (.int .i64 0) := (blk_cell BK321.out 0).trans rfl; have hcz15_1 : w14.cell? ⟨gb321, 1, none⟩ = some (.int .i64 0) := (blk_cell BK321.out 1).trans rfl; have hcz15_2 : w14.cell? ⟨gb321, 2, none⟩ = some (.string (⟨#[]⟩ : ByteArray)) := (blk_cell BK321.out 2).trans rfl; have hfz15_0 := blk_frozen BK321.out 0; have hfz15_1 := blk_frozen BK321.out 1; have hfz15_2 := blk_frozen BK321.out 2) | ((with_reducible refine gate_callee (f := 51) rfl ?_); refine goesL_ (some 27) rfl rfl Try.func51 (by kernel_rfl) rfl #[.slice A0 l0.length c0, .int .i64 t323, .int .i64 1] rfl (by (try simp only [List.map_toArray, List.map_cons, List.map_nil]); first | done | rfl | (simp only [List.length_drop, List.length_take]; rfl)) ?_; (with_reducible refine (wire_Get.calls k _ _ l0 t323 1 t325 t326 t327 _ ?side1 ?side2 A6.out).mono ?_); (case side1 => exact Kd.C_below HR0.out (by repeat (first | (with_reducible first | exact HB.out | apply below_alloc | apply pw_below_drewN | apply below_drew1 | refine below_set ?_ GE321.out) | exact HB.out))); (case side2 => exact HC0.out); rintro e w' ⟨rfl, ⟨nd, rfl⟩⟩; refine ⟨_, rfl, ?_⟩) | (go_at_call 79; (with_reducible refine (value_Check.calls t322 t325 (⟨#[]⟩ : ByteArray) t328 _ A8.out).mono ?_); rintro e w16 ⟨rfl, hb⟩; have n0_ := Aside0.mk (blk_below (g := gb321) (o := .cells #[.int .i64 t322, .int .i64 t325, .string (⟨#[]⟩ : ByteArray)] 101 (0, 0)) (by (with_reducible repeat (first | refine blk_drewN ?_ _ | refine blk_drew ?_ | refine blk_alloc ?_ _)); refine blk_put (cs := #[.int .i64 t322, .int .i64 0, .string (⟨#[]⟩ : ByteArray)]) ?_ 1 _ rfl; (with_reducible repeat (first | refine blk_drewN ?_ _ | refine blk_drew ?_ | refine blk_alloc ?_ _)); refine blk_put (cs := #[.int .i64 0, .int .i64 0, .string (⟨#[]⟩ : ByteArray)]) ?_ 0 _ rfl; (with_reducible repeat (first | refine blk_drewN ?_ _ | refine blk_drew ?_ | refine blk_alloc ?_ _)); exact BK321.out) hb); have n1_ := Aside0.mk (below_step (by repeat (first | (with_reducible first | exact HB.out | apply below_alloc | apply pw_below_drewN | apply below_drew1 | refine below_set ?_ GE321.out) | exact HB.out)) hb); clear BK321; clear HB; have BK321 := n0_; have HB := n1_; clear n0_ n1_; (try clear hb); (try clear hb2); (try clear hk); (try clear hi); have hcz17_0 : w16.cell? ⟨gb321, 0, none⟩ = some (.int .i64 t322) := (blk_cell BK321.out 0).trans rfl; have hcz17_1 : w16.cell? ⟨gb321, 1, none⟩ = some (.int .i64 t325) := (blk_cell BK321.out 1).trans rfl; have hcz17_2 : w16.cell? ⟨gb321, 2, none⟩ = some (.string (⟨#[]⟩ : ByteArray)) := (blk_cell BK321.out 2).trans rfl; have hfz17_0 := blk_frozen BK321.out 0; have hfz17_1 := blk_frozen BK321.out 1; have hfz17_2 := blk_frozen BK321.out 2))
     refine bodyPost_ret (results_ctt rfl _ _ gb321 101 #[.int .i64 0, .int .i64 0, .string (⟨#[]⟩ : ByteArray)] (0, 0) _ rfl (by (with_reducible repeat (first | refine blk_drewN ?_ _ | refine blk_drew ?_ | refine blk_alloc ?_ _)); refine blk_put (cs := #[.int .i64 0, .int .i64 0, .string (⟨#[]⟩ : ByteArray)]) ?_ 2 _ rfl; (with_reducible repeat (first | refine blk_drewN ?_ _ | refine blk_drew ?_ | refine blk_alloc ?_ _)); refine blk_put (cs := #[.int .i64 0, .int .i64 t325, .string (⟨#[]⟩ : ByteArray)]) ?_ 1 _ rfl; (with_reducible repeat (first | refine blk_drewN ?_ _ | refine blk_drew ?_ | refine blk_alloc ?_ _)); refine blk_put (cs := #[.int .i64 t322, .int .i64 t325, .string (⟨#[]⟩ : ByteArray)]) ?_ 0 _ rfl; (with_reducible repeat (first | refine blk_drewN ?_ _ | refine blk_drew ?_ | refine blk_alloc ?_ _)); exact BK321.out) Try.underlying101 rfl (by kernel_rfl)) rfl ?_
     exact ⟨by first | rfl | (simp [errW_none, errW_some] <;> rfl) | (simp [*, errW_none, errW_some] <;> rfl), by repeat (first | (with_reducible first | exact HB.out | apply below_alloc | apply pw_below_drewN | apply below_drew1 | refine below_set ?_ GE321.out) | exact HB.out)⟩
   ·rw [if_neg c7] at H
    have c7b0 : (t327 == 0) = false := beq_eq_false_iff_ne.mpr c7
    have c7b1 : (t327 != 0) = true := bne_iff_ne.mpr c7
    simp only [Option.some.injEq, Prod.mk.injEq] at H
    obtain ⟨rfl, rfl, rfl, rfl, rfl⟩ := H
    go_enter Try.func76, Try.ntmps76
    go_wp2_with (first | ((with_reducible refine gate_dst (N := 4) rfl ?_); refine box_event ?hg (N := 4) ?hd (cs := #[.int .i64 0, .int .i64 0, .string (⟨#[]⟩ : ByteArray)]) (t := 101) ?hr ?_; (case hd => rfl); (case hg => rfl); (case hr => first | (go_simp; done) | (go_simp; rfl)); intro gb321 hg w18 hbox hb; have n0_ := Aside0.mk (below_step (by repeat (first | (with_reducible first | exact HB.out | apply below_alloc | apply pw_below_drewN | apply below_drew1) | exact HB.out)) hb); have n1_ := Aside0.mk (hbox); have n2_ := Aside0.mk ((by rw [hg]; exact (below_size (by repeat (first | (with_reducible first | exact HB.out | apply below_alloc | apply pw_below_drewN | apply below_drew1) | exact HB.out))) : w.heap.size ≤ gb321)); have n3_ := Aside0.mk ((by rw [hg]; exact (below_size (by repeat (first | (with_reducible first | exact HB.out | apply below_alloc | apply pw_below_drewN | apply below_drew1) | exact HB.out))) : w.heap.size ≤ gb321)); clear HB; have HB := n0_; have BK321 := n1_; have GW321 := n2_; have GE321 := n3_; clear n0_ n1_ n2_ n3_; clear hb hbox hg) | ((with_reducible refine gate_callee (f := 51) rfl ?_); refine goesL_ (some 11) rfl rfl Try.func51 (by kernel_rfl) rfl #[.slice A0 l0.length c0, .int .i64 a1, .int .i64 1] rfl (by (try simp only [List.map_toArray, List.map_cons, List.map_nil]); first | done | rfl | (simp only [List.length_drop, List.length_take]; rfl)) ?_; (with_reducible refine (wire_Get.calls k _ _ l0 a1 1 t322 t323 t324 _ ?side1 ?side2 A3.out).mono ?_); (case side1 => repeat (first | exact (Kd.C_below HR0.out HB.out) | (with_reducible refine Kd.C_alloc ?_ _) | (with_reducible refine Kd.C_drewN ?_ _) | (with_reducible refine Kd.C_drew ?_))); (case side2 => exact HC0.out); rintro e w' ⟨rfl, ⟨nd, rfl⟩⟩; refine ⟨_, rfl, ?_⟩; (try (rw [drewN_self w18]; generalize hq_ : World.drewN w18 _ = w18; have n0_ : Aside0 (w18.heap[gb321]? = some (.cells #[.int .i64 0, .int .i64 0, .string (⟨#[]⟩ : ByteArray)] 101 (0, 0))) := ⟨by rw [← hq_]; exact (by (with_reducible repeat (first | refine blk_drewN ?_ _ | refine blk_drew ?_ | refine blk_alloc ?_ _)); exact BK321.out)⟩; have n1_ : Aside0 (Below w.heap.size w w18) := ⟨by rw [← hq_]; exact (by repeat (first | (with_reducible first | exact HB.out | apply below_alloc | apply pw_below_drewN | apply below_drew1 | refine below_set ?_ GE321.out) | exact HB.out))⟩; clear BK321 HB hq_; have BK321 := n0_; have HB := n1_; clear n0_ n1_)); have hcz19_0 : w18.cell? ⟨gb321, 0, none⟩ = some (.int .i64 0) := (blk_cell BK321.out 0).trans rfl; have hcz19_1 : w18.cell? ⟨gb321, 1, none⟩ = some (.int .i64 0) := (blk_cell BK321.out 1).trans rfl; have hcz19_2 : w18.cell? ⟨gb321, 2, none⟩ = some (.string (⟨#[]⟩ : ByteArray)) := (blk_cell BK321.out 2).trans rfl; have hfz19_0 := blk_frozen BK321.out 0; have hfz19_1 := blk_frozen BK321.out 1; have hfz19_2 := blk_frozen BK321.out 2) | ((with_reducible refine gate_callee (f := 51) rfl ?_); refine goesL_ (some 27) rfl rfl Try.func51 (by kernel_rfl) rfl #[.slice A0 l0.length c0, .int .i64 t323, .int .i64 1] rfl (by (try simp only [List.map_toArray, List.map_cons, List.map_nil]); first | done | rfl | (simp only [List.length_drop, List.length_take]; rfl)) ?_; (with_reducible refine (wire_Get.calls k _ _ l0 t323 1 t325 t326 t327 _ ?side1 ?side2 A6.out).mono ?_); (case side1 => exact Kd.C_below HR0.out (by repeat (first | (with_reducible first | exact HB.out | apply below_alloc | apply pw_below_drewN | apply below_drew1 | refine below_set ?_ GE321.out) | exact HB.out))); (case side2 => exact HC0.out); rintro e w' ⟨rfl, ⟨nd, rfl⟩⟩; refine ⟨_, rfl, ?_⟩))
    refine bodyPost_ret (results_ctt rfl _ _ gb321 101 #[.int .i64 0, .int .i64 0, .string (⟨#[]⟩ : ByteArray)] (0, 0) _ rfl (by (with_reducible repeat (first | refine blk_drewN ?_ _ | refine blk_drew ?_ | refine blk_alloc ?_ _)); refine blk_put (cs := #[.int .i64 0, .int .i64 0, .string (⟨#[]⟩ : ByteArray)]) ?_ 2 _ rfl; (with_reducible repeat (first | refine blk_drewN ?_ _ | refine blk_drew ?_ | refine blk_alloc ?_ _)); refine blk_put (cs := #[.int .i64 0, .int .i64 t325, .string (⟨#[]⟩ : ByteArray)]) ?_ 1 _ rfl; (with_reducible repeat (first | refine blk_drewN ?_ _ | refine blk_drew ?_ | refine blk_alloc ?_ _)); refine blk_put (cs := #[.int .i64 t322, .int .i64 t325, .string (⟨#[]⟩ : ByteArray)]) ?_ 0 _ rfl; (with_reducible repeat (first | refine blk_drewN ?_ _ | refine blk_drew ?_ | refine blk_alloc ?_ _)); refine blk_put (cs := #[.int .i64 t322, .int .i64 0, .string (⟨#[]⟩ : ByteArray)]) ?_ 1 _ rfl; (with_reducible repeat (first | refine blk_drewN ?_ _ | refine blk_drew ?_ | refine blk_alloc ?_ _)); refine blk_put (cs := #[.int .i64 0, .int .i64 0, .string (⟨#[]⟩ : ByteArray)]) ?_ 0 _ rfl; (with_reducible repeat (first | refine blk_drewN ?_ _ | refine blk_drew ?_ | refine blk_alloc ?_ _)); exact BK321.out) Try.underlying101 rfl (by kernel_rfl)) rfl ?_
    exact ⟨by first | rfl | (simp [errW_none, errW_some] <;> rfl) | (simp [*, errW_none, errW_some] <;> rfl), by repeat (first | (with_reducible first | exact HB.out | apply below_alloc | apply pw_below_drewN | apply below_drew1 | refine below_set ?_ GE321.out) | exact HB.out)⟩
  ·rw [if_neg c5] at H
   have c5b0 : (t322 == 2) = false := beq_eq_false_iff_ne.mpr c5
   have c5b1 : (t322 != 2) = true := bne_iff_ne.mpr c5
   by_cases c20 : t322 = 3
   ·rw [if_pos c20] at H
    have c20b0 : (t322 == 3) = true := beq_iff_eq.mpr c20
    have c20b1 : (t322 != 3) = false := bne_eq_false_iff_eq.mpr c20
    clear c20
    replace H := Option.bind_eq_some_iff.mp H
    obtain ⟨⟨t329, t330, t331⟩, A210, H⟩ := H
    replace H : (if t331 = 0 then ((value_Check.f t322 t329 (⟨#[]⟩ : ByteArray)).bind fun t332 => (if t332 = 0 then (some (t322, t329, (⟨#[]⟩ : ByteArray), t330, 0)) else (some (0, 0, (⟨#[]⟩ : ByteArray), 0, 3)))) else (some (0, 0, (⟨#[]⟩ : ByteArray), 0, 3))) = some (r1, r2, r3, r4, r5) := H
    have A21 := Aside0.mk A210
    clear A210
    by_cases c22 : t331 = 0
    ·rw [if_pos c22] at H
     have c22b0 : (t331 == 0) = true := beq_iff_eq.mpr c22
     have c22b1 : (t331 != 0) = false := bne_eq_false_iff_eq.mpr c22
     clear c22
     replace H := Option.bind_eq_some_iff.mp H
     obtain ⟨t332, A230, H⟩ := H
     replace H : (if t332 = 0 then (some (t322, t329, (⟨#[]⟩ : ByteArray), t330, 0)) else (some (0, 0, (⟨#[]⟩ : ByteArray), 0, 3))) = some (r1, r2, r3, r4, r5) := H
     have A23 := Aside0.mk A230
     clear A230
     by_cases c24 : t332 = 0
     ·rw [if_pos c24] at H
      have c24b0 : (t332 == 0) = true := beq_iff_eq.mpr c24
      have c24b1 : (t332 != 0) = false := bne_eq_false_iff_eq.mpr c24
      clear c24
      simp only [Option.some.injEq, Prod.mk.injEq] at H
      obtain ⟨rfl, rfl, rfl, rfl, rfl⟩ := H
      go_enter Try.func76, Try.ntmps76
      go_wp2_with (first | ((with_reducible refine gate_dst (N := 4) rfl ?_); refine box_event ?hg (N := 4) ?hd (cs := #[.int .i64 0, .int .i64 0, .string (⟨#[]⟩ : ByteArray)]) (t := 101) ?hr ?_; (case hd => rfl); (case hg => rfl); (case hr => first | (go_simp; done) | (go_simp; rfl)); intro gb321 hg w25 hbox hb; have n0_ := Aside0.mk (below_step (by repeat (first | (with_reducible first | exact HB.out | apply below_alloc | apply pw_below_drewN | apply below_drew1) | exact HB.out)) hb); have n1_ := Aside0.mk (hbox); have n2_ := Aside0.mk ((by rw [hg]; exact (below_size (by repeat (first | (with_reducible first | exact HB.out | apply below_alloc | apply pw_below_drewN | apply below_drew1) | exact HB.out))) : w.heap.size ≤ gb321)); have n3_ := Aside0.mk ((by rw [hg]; exact (below_size (by repeat (first | (with_reducible first | exact HB.out | apply below_alloc | apply pw_below_drewN | apply below_drew1) | exact HB.out))) : w.heap.size ≤ gb321)); clear HB; have HB := n0_; have BK321 := n1_; have GW321 := n2_; have GE321 := n3_; clear n0_ n1_ n2_ n3_; clear hb hbox hg) | ((with_reducible refine gate_callee (f := 51) rfl ?_); refine goesL_ (some 11) rfl rfl Try.func51 (by kernel_rfl) rfl #[.slice A0 l0.length c0, .int .i64 a1, .int .i64 1] rfl (by (try simp only [List.map_toArray, List.map_cons, List.map_nil]); first | done | rfl | (simp only [List.length_drop, List.length_take]; rfl)) ?_; (with_reducible refine (wire_Get.calls k _ _ l0 a1 1 t322 t323 t324 _ ?side1 ?side2 A3.out).mono ?_); (case side1 => repeat (first | exact (Kd.C_below HR0.out HB.out) | (with_reducible refine Kd.C_alloc ?_ _) | (with_reducible refine Kd.C_drewN ?_ _) | (with_reducible refine Kd.C_drew ?_))); (case side2 => exact HC0.out); rintro e w' ⟨rfl, ⟨nd, rfl⟩⟩; refine ⟨_, rfl, ?_⟩; (try (rw [drewN_self w25]; generalize hq_ : World.drewN w25 _ = w25; have n0_ : Aside0 (w25.heap[gb321]? = some (.cells #[.int .i64 0, .int .i64 0, .string (⟨#[]⟩ : ByteArray)] 101 (0, 0))) := ⟨by rw [← hq_]; exact (by (with_reducible repeat (first | refine blk_drewN ?_ _ | refine blk_drew ?_ | refine blk_alloc ?_ _)); exact BK321.out)⟩; have n1_ : Aside0 (Below w.heap.size w w25) := ⟨by rw [← hq_]; exact (by repeat (first | (with_reducible first | exact HB.out | apply below_alloc | apply pw_below_drewN | apply below_drew1 | refine below_set ?_ GE321.out) | exact HB.out))⟩; clear BK321 HB hq_; have BK321 := n0_; have HB := n1_; clear n0_ n1_)); have hcz26_0 : w25.cell? ⟨gb321, 0, none⟩ = some (.int .i64 0) := (blk_cell BK321.out 0).trans rfl; have hcz26_1 : w25.cell? ⟨gb321, 1, none⟩ = some (.int .i64 0) := (blk_cell BK321.out 1).trans rfl; have hcz26_2 : w25.cell? ⟨gb321, 2, none⟩ = some (.string (⟨#[]⟩ : ByteArray)) := (blk_cell BK321.out 2).trans rfl; have hfz26_0 := blk_frozen BK321.out 0; have hfz26_1 := blk_frozen BK321.out 1; have hfz26_2 := blk_frozen BK321.out 2) | ((with_reducible refine gate_callee (f := 88) rfl ?_); refine goesL_ (some 37) rfl rfl Try.func88 (by kernel_rfl) rfl #[.slice A0 l0.length c0, .int .i64 t323] rfl (by (try simp only [List.map_toArray, List.map_cons, List.map_nil]); first | done | rfl | (simp only [List.length_drop, List.length_take]; rfl)) ?_; (with_reducible refine (wire_GetInt.calls k _ _ l0 t323 t329 t330 t331 _ ?side1 ?side2 A21.out).mono ?_); (case side1 => exact Kd.C_below HR0.out (by repeat (first | (with_reducible first | exact HB.out | apply below_alloc | apply pw_below_drewN | apply below_drew1 | refine below_set ?_ GE321.out) | exact HB.out))); (case side2 => exact HC0.out); rintro e w' ⟨rfl, ⟨nd, rfl⟩⟩; refine ⟨_, rfl, ?_⟩) | (go_at_call 79; (with_reducible refine (value_Check.calls t322 t329 (⟨#[]⟩ : ByteArray) t332 _ A23.out).mono ?_); rintro e w27 ⟨rfl, hb⟩; have n0_ := Aside0.mk (blk_below (g := gb321) (o := .cells #[.int .i64 t322, .int .i64 t329, .string (⟨#[]⟩ : ByteArray)] 101 (0, 0)) (by (with_reducible repeat (first | refine blk_drewN ?_ _ | refine blk_drew ?_ | refine blk_alloc ?_ _)); refine blk_put (cs := #[.int .i64 t322, .int .i64 0, .string (⟨#[]⟩ : ByteArray)]) ?_ 1 _ rfl; (with_reducible repeat (first | refine blk_drewN ?_ _ | refine blk_drew ?_ | refine blk_alloc ?_ _)); refine blk_put (cs := #[.int .i64 0, .int .i64 0, .string (⟨#[]⟩ : ByteArray)]) ?_ 0 _ rfl; (with_reducible repeat (first | refine blk_drewN ?_ _ | refine blk_drew ?_ | refine blk_alloc ?_ _)); exact BK321.out) hb); have n1_ := Aside0.mk (below_step (by repeat (first | (with_reducible first | exact HB.out | apply below_alloc | apply pw_below_drewN | apply below_drew1 | refine below_set ?_ GE321.out) | exact HB.out)) hb); clear BK321; clear HB; have BK321 := n0_; have HB := n1_; clear n0_ n1_; (try clear hb); (try clear hb2); (try clear hk); (try clear hi); have hcz28_0 : w27.cell? ⟨gb321, 0, none⟩ = some (.int .i64 t322) := (blk_cell BK321.out 0).trans rfl; have hcz28_1 : w27.cell? ⟨gb321, 1, none⟩ = some (.int .i64 t329) := (blk_cell BK321.out 1).trans rfl; have hcz28_2 : w27.cell? ⟨gb321, 2, none⟩ = some (.string (⟨#[]⟩ : ByteArray)) := (blk_cell BK321.out 2).trans rfl; have hfz28_0 := blk_frozen BK321.out 0; have hfz28_1 := blk_frozen BK321.out 1; have hfz28_2 := blk_frozen BK321.out 2))
      refine bodyPost_ret (results_ctt rfl _ _ gb321 101 #[.int .i64 t322, .int .i64 t329, .string (⟨#[]⟩ : ByteArray)] (0, 0) _ rfl (by (with_reducible repeat (first | refine blk_drewN ?_ _ | refine blk_drew ?_ | refine blk_alloc ?_ _)); refine blk_put (cs := #[.int .i64 t322, .int .i64 t329, .string (⟨#[]⟩ : ByteArray)]) ?_ 2 _ rfl; (with_reducible repeat (first | refine blk_drewN ?_ _ | refine blk_drew ?_ | refine blk_alloc ?_ _)); refine blk_put (cs := #[.int .i64 t322, .int .i64 t329, .string (⟨#[]⟩ : ByteArray)]) ?_ 1 _ rfl; (with_reducible repeat (first | refine blk_drewN ?_ _ | refine blk_drew ?_ | refine blk_alloc ?_ _)); refine blk_put (cs := #[.int .i64 t322, .int .i64 t329, .string (⟨#[]⟩ : ByteArray)]) ?_ 0 _ rfl; (with_reducible repeat (first | refine blk_drewN ?_ _ | refine blk_drew ?_ | refine blk_alloc ?_ _)); exact BK321.out) Try.underlying101 rfl (by kernel_rfl)) rfl ?_
      exact ⟨by first | rfl | (simp [errW_none, errW_some] <;> rfl) | (simp [*, errW_none, errW_some] <;> rfl), by repeat (first | (with_reducible first | exact HB.out | apply below_alloc | apply pw_below_drewN | apply below_drew1 | refine below_set ?_ GE321.out) | exact HB.out)⟩
     ·rw [if_neg c24] at H
      have c24b0 : (t332 == 0) = false := beq_eq_false_iff_ne.mpr c24
      have c24b1 : (t332 != 0) = true := bne_iff_ne.mpr c24
      simp only [Option.some.injEq, Prod.mk.injEq] at H
      obtain ⟨rfl, rfl, rfl, rfl, rfl⟩ := H
      go_enter Try.func76, Try.ntmps76
      go_wp2_with (first | ((with_reducible refine gate_dst (N := 4) rfl ?_); refine box_event ?hg (N := 4) ?hd (cs := #[.int .i64 0, .int .i64 0, .string (⟨#[]⟩ : ByteArray)]) (t := 101) ?hr ?_; (case hd => rfl); (case hg => rfl); (case hr => first | (go_simp; done) | (go_simp; rfl)); intro gb321 hg w29 hbox hb; have n0_ := Aside0.mk (below_step (by repeat (first | (with_reducible first | exact HB.out | apply below_alloc | apply pw_below_drewN | apply below_drew1) | exact HB.out)) hb); have n1_ := Aside0.mk (hbox); have n2_ := Aside0.mk ((by rw [hg]; exact (below_size (by repeat (first | (with_reducible first | exact HB.out | apply below_alloc | apply pw_below_drewN | apply below_drew1) | exact HB.out))) : w.heap.size ≤ gb321)); have n3_ := Aside0.mk ((by rw [hg]; exact (below_size (by repeat (first | (with_reducible first | exact HB.out | apply below_alloc | apply pw_below_drewN | apply below_drew1) | exact HB.out))) : w.heap.size ≤ gb321)); clear HB; have HB := n0_; have BK321 := n1_; have GW321 := n2_; have GE321 := n3_; clear n0_ n1_ n2_ n3_; clear hb hbox hg) | ((with_reducible refine gate_callee (f := 51) rfl ?_); refine goesL_ (some 11) rfl rfl Try.func51 (by kernel_rfl) rfl #[.slice A0 l0.length c0, .int .i64 a1, .int .i64 1] rfl (by (try simp only [List.map_toArray, List.map_cons, List.map_nil]); first | done | rfl | (simp only [List.length_drop, List.length_take]; rfl)) ?_; (with_reducible refine (wire_Get.calls k _ _ l0 a1 1 t322 t323 t324 _ ?side1 ?side2 A3.out).mono ?_); (case side1 => repeat (first | exact (Kd.C_below HR0.out HB.out) | (with_reducible refine Kd.C_alloc ?_ _) | (with_reducible refine Kd.C_drewN ?_ _) | (with_reducible refine Kd.C_drew ?_))); (case side2 => exact HC0.out); rintro e w' ⟨rfl, ⟨nd, rfl⟩⟩; refine ⟨_, rfl, ?_⟩; (try (rw [drewN_self w29]; generalize hq_ : World.drewN w29 _ = w29; have n0_ : Aside0 (w29.heap[gb321]? = some (.cells #[.int .i64 0, .int .i64 0, .string (⟨#[]⟩ : ByteArray)] 101 (0, 0))) := ⟨by rw [← hq_]; exact (by (with_reducible repeat (first | refine blk_drewN ?_ _ | refine blk_drew ?_ | refine blk_alloc ?_ _)); exact BK321.out)⟩; have n1_ : Aside0 (Below w.heap.size w w29) := ⟨by rw [← hq_]; exact (by repeat (first | (with_reducible first | exact HB.out | apply below_alloc | apply pw_below_drewN | apply below_drew1 | refine below_set ?_ GE321.out) | exact HB.out))⟩; clear BK321 HB hq_; have BK321 := n0_; have HB := n1_; clear n0_ n1_)); have hcz30_0 : w29.cell? ⟨gb321, 0, none⟩ = some (.int .i64 0) := (blk_cell BK321.out 0).trans rfl; have hcz30_1 : w29.cell? ⟨gb321, 1, none⟩ = some (.int .i64 0) := (blk_cell BK321.out 1).trans rfl; have hcz30_2 : w29.cell? ⟨gb321, 2, none⟩ = some (.string (⟨#[]⟩ : ByteArray)) := (blk_cell BK321.out 2).trans rfl; have hfz30_0 := blk_frozen BK321.out 0; have hfz30_1 := blk_frozen BK321.out 1; have hfz30_2 := blk_frozen BK321.out 2) | ((with_reducible refine gate_callee (f := 88) rfl ?_); refine goesL_ (some 37) rfl rfl Try.func88 (by kernel_rfl) rfl #[.slice A0 l0.length c0, .int .i64 t323] rfl (by (try simp only [List.map_toArray, List.map_cons, List.map_nil]); first | done | rfl | (simp only [List.length_drop, List.length_take]; rfl)) ?_; (with_reducible refine (wire_GetInt.calls k _ _ l0 t323 t329 t330 t331 _ ?side1 ?side2 A21.out).mono ?_); (case side1 => exact Kd.C_below HR0.out (by repeat (first | (with_reducible first | exact HB.out | apply below_alloc | apply pw_below_drewN | apply below_drew1 | refine below_set ?_ GE321.out) | exact HB.out))); (case side2 => exact HC0.out); rintro e w' ⟨rfl, ⟨nd, rfl⟩⟩; refine ⟨_, rfl, ?_⟩) | (go_at_call 79; (with_reducible refine (value_Check.calls t322 t329 (⟨#[]⟩ : ByteArray) t332 _ A23.out).mono ?_); rintro e w31 ⟨rfl, hb⟩; have n0_ := Aside0.mk (blk_below (g := gb321) (o := .cells #[.int .i64 t322, .int .i64 t329, .string (⟨#[]⟩ : ByteArray)] 101 (0, 0)) (by (with_reducible repeat (first | refine blk_drewN ?_ _ | refine blk_drew ?_ | refine blk_alloc ?_ _)); refine blk_put (cs := #[.int .i64 t322, .int .i64 0, .string (⟨#[]⟩ : ByteArray)]) ?_ 1 _ rfl; (with_reducible repeat (first | refine blk_drewN ?_ _ | refine blk_drew ?_ | refine blk_alloc ?_ _)); refine blk_put (cs := #[.int .i64 0, .int .i64 0, .string (⟨#[]⟩ : ByteArray)]) ?_ 0 _ rfl; (with_reducible repeat (first | refine blk_drewN ?_ _ | refine blk_drew ?_ | refine blk_alloc ?_ _)); exact BK321.out) hb); have n1_ := Aside0.mk (below_step (by repeat (first | (with_reducible first | exact HB.out | apply below_alloc | apply pw_below_drewN | apply below_drew1 | refine below_set ?_ GE321.out) | exact HB.out)) hb); clear BK321; clear HB; have BK321 := n0_; have HB := n1_; clear n0_ n1_; (try clear hb); (try clear hb2); (try clear hk); (try clear hi); have hcz32_0 : w31.cell? ⟨gb321, 0, none⟩ = some (.int .i64 t322) := (blk_cell BK321.out 0).trans rfl; have hcz32_1 : w31.cell? ⟨gb321, 1, none⟩ = some (.int .i64 t329) := (blk_cell BK321.out 1).trans rfl; have hcz32_2 : w31.cell? ⟨gb321, 2, none⟩ = some (.string (⟨#[]⟩ : ByteArray)) := (blk_cell BK321.out 2).trans rfl; have hfz32_0 := blk_frozen BK321.out 0; have hfz32_1 := blk_frozen BK321.out 1; have hfz32_2 := blk_frozen BK321.out 2))
      refine bodyPost_ret (results_ctt rfl _ _ gb321 101 #[.int .i64 0, .int .i64 0, .string (⟨#[]⟩ : ByteArray)] (0, 0) _ rfl (by (with_reducible repeat (first | refine blk_drewN ?_ _ | refine blk_drew ?_ | refine blk_alloc ?_ _)); refine blk_put (cs := #[.int .i64 0, .int .i64 0, .string (⟨#[]⟩ : ByteArray)]) ?_ 2 _ rfl; (with_reducible repeat (first | refine blk_drewN ?_ _ | refine blk_drew ?_ | refine blk_alloc ?_ _)); refine blk_put (cs := #[.int .i64 0, .int .i64 t329, .string (⟨#[]⟩ : ByteArray)]) ?_ 1 _ rfl; (with_reducible repeat (first | refine blk_drewN ?_ _ | refine blk_drew ?_ | refine blk_alloc ?_ _)); refine blk_put (cs := #[.int .i64 t322, .int .i64 t329, .string (⟨#[]⟩ : ByteArray)]) ?_ 0 _ rfl; (with_reducible repeat (first | refine blk_drewN ?_ _ | refine blk_drew ?_ | refine blk_alloc ?_ _)); exact BK321.out) Try.underlying101 rfl (by kernel_rfl)) rfl ?_
      exact ⟨by first | rfl | (simp [errW_none, errW_some] <;> rfl) | (simp [*, errW_none, errW_some] <;> rfl), by repeat (first | (with_reducible first | exact HB.out | apply below_alloc | apply pw_below_drewN | apply below_drew1 | refine below_set ?_ GE321.out) | exact HB.out)⟩
    ·rw [if_neg c22] at H
     have c22b0 : (t331 == 0) = false := beq_eq_false_iff_ne.mpr c22
     have c22b1 : (t331 != 0) = true := bne_iff_ne.mpr c22
     simp only [Option.some.injEq, Prod.mk.injEq] at H
     obtain ⟨rfl, rfl, rfl, rfl, rfl⟩ := H
     go_enter Try.func76, Try.ntmps76
     go_wp2_with (first | ((with_reducible refine gate_dst (N := 4) rfl ?_); refine box_event ?hg (N := 4) ?hd (cs := #[.int .i64 0, .int .i64 0, .string (⟨#[]⟩ : ByteArray)]) (t := 101) ?hr ?_; (case hd => rfl); (case hg => rfl); (case hr => first | (go_simp; done) | (go_simp; rfl)); intro gb321 hg w33 hbox hb; have n0_ := Aside0.mk (below_step (by repeat (first | (with_reducible first | exact HB.out | apply below_alloc | apply pw_below_drewN | apply below_drew1) | exact HB.out)) hb); have n1_ := Aside0.mk (hbox); have n2_ := Aside0.mk ((by rw [hg]; exact (below_size (by repeat (first | (with_reducible first | exact HB.out | apply below_alloc | apply pw_below_drewN | apply below_drew1) | exact HB.out))) : w.heap.size ≤ gb321)); have n3_ := Aside0.mk ((by rw [hg]; exact (below_size (by repeat (first | (with_reducible first | exact HB.out | apply below_alloc | apply pw_below_drewN | apply below_drew1) | exact HB.out))) : w.heap.size ≤ gb321)); clear HB; have HB := n0_; have BK321 := n1_; have GW321 := n2_; have GE321 := n3_; clear n0_ n1_ n2_ n3_; clear hb hbox hg) | ((with_reducible refine gate_callee (f := 51) rfl ?_); refine goesL_ (some 11) rfl rfl Try.func51 (by kernel_rfl) rfl #[.slice A0 l0.length c0, .int .i64 a1, .int .i64 1] rfl (by (try simp only [List.map_toArray, List.map_cons, List.map_nil]); first | done | rfl | (simp only [List.length_drop, List.length_take]; rfl)) ?_; (with_reducible refine (wire_Get.calls k _ _ l0 a1 1 t322 t323 t324 _ ?side1 ?side2 A3.out).mono ?_); (case side1 => repeat (first | exact (Kd.C_below HR0.out HB.out) | (with_reducible refine Kd.C_alloc ?_ _) | (with_reducible refine Kd.C_drewN ?_ _) | (with_reducible refine Kd.C_drew ?_))); (case side2 => exact HC0.out); rintro e w' ⟨rfl, ⟨nd, rfl⟩⟩; refine ⟨_, rfl, ?_⟩; (try (rw [drewN_self w33]; generalize hq_ : World.drewN w33 _ = w33; have n0_ : Aside0 (w33.heap[gb321]? = some (.cells #[.int .i64 0, .int .i64 0, .string (⟨#[]⟩ : ByteArray)] 101 (0, 0))) := ⟨by rw [← hq_]; exact (by (with_reducible repeat (first | refine blk_drewN ?_ _ | refine blk_drew ?_ | refine blk_alloc ?_ _)); exact BK321.out)⟩; have n1_ : Aside0 (Below w.heap.size w w33) := ⟨by rw [← hq_]; exact (by repeat (first | (with_reducible first | exact HB.out | apply below_alloc | apply pw_below_drewN | apply below_drew1 | refine below_set ?_ GE321.out) | exact HB.out))⟩; clear BK321 HB hq_; have BK321 := n0_; have HB := n1_; clear n0_ n1_)); have hcz34_0 : w33.cell? ⟨gb321, 0, none⟩ = some (.int .i64 0) := (blk_cell BK321.out 0).trans rfl; have hcz34_1 : w33.cell? ⟨gb321, 1, none⟩ = some (.int .i64 0) := (blk_cell BK321.out 1).trans rfl; have hcz34_2 : w33.cell? ⟨gb321, 2, none⟩ = some (.string (⟨#[]⟩ : ByteArray)) := (blk_cell BK321.out 2).trans rfl; have hfz34_0 := blk_frozen BK321.out 0; have hfz34_1 := blk_frozen BK321.out 1; have hfz34_2 := blk_frozen BK321.out 2) | ((with_reducible refine gate_callee (f := 88) rfl ?_); refine goesL_ (some 37) rfl rfl Try.func88 (by kernel_rfl) rfl #[.slice A0 l0.length c0, .int .i64 t323] rfl (by (try simp only [List.map_toArray, List.map_cons, List.map_nil]); first | done | rfl | (simp only [List.length_drop, List.length_take]; rfl)) ?_; (with_reducible refine (wire_GetInt.calls k _ _ l0 t323 t329 t330 t331 _ ?side1 ?side2 A21.out).mono ?_); (case side1 => exact Kd.C_below HR0.out (by repeat (first | (with_reducible first | exact HB.out | apply below_alloc | apply pw_below_drewN | apply below_drew1 | refine below_set ?_ GE321.out) | exact HB.out))); (case side2 => exact HC0.out); rintro e w' ⟨rfl, ⟨nd, rfl⟩⟩; refine ⟨_, rfl, ?_⟩))
     refine bodyPost_ret (results_ctt rfl _ _ gb321 101 #[.int .i64 0, .int .i64 0, .string (⟨#[]⟩ : ByteArray)] (0, 0) _ rfl (by (with_reducible repeat (first | refine blk_drewN ?_ _ | refine blk_drew ?_ | refine blk_alloc ?_ _)); refine blk_put (cs := #[.int .i64 0, .int .i64 0, .string (⟨#[]⟩ : ByteArray)]) ?_ 2 _ rfl; (with_reducible repeat (first | refine blk_drewN ?_ _ | refine blk_drew ?_ | refine blk_alloc ?_ _)); refine blk_put (cs := #[.int .i64 0, .int .i64 t329, .string (⟨#[]⟩ : ByteArray)]) ?_ 1 _ rfl; (with_reducible repeat (first | refine blk_drewN ?_ _ | refine blk_drew ?_ | refine blk_alloc ?_ _)); refine blk_put (cs := #[.int .i64 t322, .int .i64 t329, .string (⟨#[]⟩ : ByteArray)]) ?_ 0 _ rfl; (with_reducible repeat (first | refine blk_drewN ?_ _ | refine blk_drew ?_ | refine blk_alloc ?_ _)); refine blk_put (cs := #[.int .i64 t322, .int .i64 0, .string (⟨#[]⟩ : ByteArray)]) ?_ 1 _ rfl; (with_reducible repeat (first | refine blk_drewN ?_ _ | refine blk_drew ?_ | refine blk_alloc ?_ _)); refine blk_put (cs := #[.int .i64 0, .int .i64 0, .string (⟨#[]⟩ : ByteArray)]) ?_ 0 _ rfl; (with_reducible repeat (first | refine blk_drewN ?_ _ | refine blk_drew ?_ | refine blk_alloc ?_ _)); exact BK321.out) Try.underlying101 rfl (by kernel_rfl)) rfl ?_
     exact ⟨by first | rfl | (simp [errW_none, errW_some] <;> rfl) | (simp [*, errW_none, errW_some] <;> rfl), by repeat (first | (with_reducible first | exact HB.out | apply below_alloc | apply pw_below_drewN | apply below_drew1 | refine below_set ?_ GE321.out) | exact HB.out)⟩
   ·rw [if_neg c20] at H
    have c20b0 : (t322 == 3) = false := beq_eq_false_iff_ne.mpr c20
    have c20b1 : (t322 != 3) = true := bne_iff_ne.mpr c20
    by_cases c35 : t322 = 4
    ·rw [if_pos c35] at H
     have c35b0 : (t322 == 4) = true := beq_iff_eq.mpr c35
     have c35b1 : (t322 != 4) = false := bne_eq_false_iff_eq.mpr c35
     clear c35
     replace H := Option.bind_eq_some_iff.mp H
     obtain ⟨⟨t333, t334, t335⟩, A360, H⟩ := H
     replace H : (if t335 = 0 then ((value_Check.f t322 0 t333).bind fun t336 => (if t336 = 0 then (some (t322, 0, t333, t334, 0)) else (some (0, 0, (⟨#[]⟩ : ByteArray), 0, 3)))) else (some (0, 0, (⟨#[]⟩ : ByteArray), 0, 3))) = some (r1, r2, r3, r4, r5) := H
     have A36 := Aside0.mk A360
     clear A360
     by_cases c37 : t335 = 0
     ·rw [if_pos c37] at H
      have c37b0 : (t335 == 0) = true := beq_iff_eq.mpr c37
      have c37b1 : (t335 != 0) = false := bne_eq_false_iff_eq.mpr c37
      clear c37
      replace H := Option.bind_eq_some_iff.mp H
      obtain ⟨t336, A380, H⟩ := H
      replace H : (if t336 = 0 then (some (t322, 0, t333, t334, 0)) else (some (0, 0, (⟨#[]⟩ : ByteArray), 0, 3))) = some (r1, r2, r3, r4, r5) := H
      have A38 := Aside0.mk A380
      clear A380
      by_cases c39 : t336 = 0
      ·rw [if_pos c39] at H
       have c39b0 : (t336 == 0) = true := beq_iff_eq.mpr c39
       have c39b1 : (t336 != 0) = false := bne_eq_false_iff_eq.mpr c39
       clear c39
       simp only [Option.some.injEq, Prod.mk.injEq] at H
       obtain ⟨rfl, rfl, rfl, rfl, rfl⟩ := H
       go_enter Try.func76, Try.ntmps76
       go_wp2_with (first | ((with_reducible refine gate_dst (N := 4) rfl ?_); refine box_event ?hg (N := 4) ?hd (cs := #[.int .i64 0, .int .i64 0, .string (⟨#[]⟩ : ByteArray)]) (t := 101) ?hr ?_; (case hd => rfl); (case hg => rfl); (case hr => first | (go_simp; done) | (go_simp; rfl)); intro gb321 hg w40 hbox hb; have n0_ := Aside0.mk (below_step (by repeat (first | (with_reducible first | exact HB.out | apply below_alloc | apply pw_below_drewN | apply below_drew1) | exact HB.out)) hb); have n1_ := Aside0.mk (hbox); have n2_ := Aside0.mk ((by rw [hg]; exact (below_size (by repeat (first | (with_reducible first | exact HB.out | apply below_alloc | apply pw_below_drewN | apply below_drew1) | exact HB.out))) : w.heap.size ≤ gb321)); have n3_ := Aside0.mk ((by rw [hg]; exact (below_size (by repeat (first | (with_reducible first | exact HB.out | apply below_alloc | apply pw_below_drewN | apply below_drew1) | exact HB.out))) : w.heap.size ≤ gb321)); clear HB; have HB := n0_; have BK321 := n1_; have GW321 := n2_; have GE321 := n3_; clear n0_ n1_ n2_ n3_; clear hb hbox hg) | ((with_reducible refine gate_callee (f := 51) rfl ?_); refine goesL_ (some 11) rfl rfl Try.func51 (by kernel_rfl) rfl #[.slice A0 l0.length c0, .int .i64 a1, .int .i64 1] rfl (by (try simp only [List.map_toArray, List.map_cons, List.map_nil]); first | done | rfl | (simp only [List.length_drop, List.length_take]; rfl)) ?_; (with_reducible refine (wire_Get.calls k _ _ l0 a1 1 t322 t323 t324 _ ?side1 ?side2 A3.out).mono ?_); (case side1 => repeat (first | exact (Kd.C_below HR0.out HB.out) | (with_reducible refine Kd.C_alloc ?_ _) | (with_reducible refine Kd.C_drewN ?_ _) | (with_reducible refine Kd.C_drew ?_))); (case side2 => exact HC0.out); rintro e w' ⟨rfl, ⟨nd, rfl⟩⟩; refine ⟨_, rfl, ?_⟩; (try (rw [drewN_self w40]; generalize hq_ : World.drewN w40 _ = w40; have n0_ : Aside0 (w40.heap[gb321]? = some (.cells #[.int .i64 0, .int .i64 0, .string (⟨#[]⟩ : ByteArray)] 101 (0, 0))) := ⟨by rw [← hq_]; exact (by (with_reducible repeat (first | refine blk_drewN ?_ _ | refine blk_drew ?_ | refine blk_alloc ?_ _)); exact BK321.out)⟩; have n1_ : Aside0 (Below w.heap.size w w40) := ⟨by rw [← hq_]; exact (by repeat (first | (with_reducible first | exact HB.out | apply below_alloc | apply pw_below_drewN | apply below_drew1 | refine below_set ?_ GE321.out) | exact HB.out))⟩; clear BK321 HB hq_; have BK321 := n0_; have HB := n1_; clear n0_ n1_)); have hcz41_0 : w40.cell? ⟨gb321, 0, none⟩ = some (.int .i64 0) := (blk_cell BK321.out 0).trans rfl; have hcz41_1 : w40.cell? ⟨gb321, 1, none⟩ = some (.int .i64 0) := (blk_cell BK321.out 1).trans rfl; have hcz41_2 : w40.cell? ⟨gb321, 2, none⟩ = some (.string (⟨#[]⟩ : ByteArray)) := (blk_cell BK321.out 2).trans rfl; have hfz41_0 := blk_frozen BK321.out 0; have hfz41_1 := blk_frozen BK321.out 1; have hfz41_2 := blk_frozen BK321.out 2) | ((with_reducible refine gate_callee (f := 75) rfl ?_); refine goesL_ (some 47) rfl rfl Try.func75 (by kernel_rfl) rfl #[.slice A0 l0.length c0, .int .i64 t323] rfl (by (try simp only [List.map_toArray, List.map_cons, List.map_nil]); first | done | rfl | (simp only [List.length_drop, List.length_take]; rfl)) ?_; (with_reducible refine (wire_GetText.calls k _ _ l0 t323 t333 t334 t335 _ ?side1 ?side2 A36.out).mono ?_); (case side1 => exact Kd.C_below HR0.out (by repeat (first | (with_reducible first | exact HB.out | apply below_alloc | apply pw_below_drewN | apply below_drew1 | refine below_set ?_ GE321.out) | exact HB.out))); (case side2 => exact HC0.out); rintro e w' ⟨rfl, ⟨nd, rfl⟩⟩; refine ⟨_, rfl, ?_⟩) | (go_at_call 79; (with_reducible refine (value_Check.calls t322 0 t333 t336 _ A38.out).mono ?_); rintro e w42 ⟨rfl, hb⟩; have n0_ := Aside0.mk (blk_below (g := gb321) (o := .cells #[.int .i64 t322, .int .i64 0, .string t333] 101 (0, 0)) (by (with_reducible repeat (first | refine blk_drewN ?_ _ | refine blk_drew ?_ | refine blk_alloc ?_ _)); refine blk_put (cs := #[.int .i64 t322, .int .i64 0, .string (⟨#[]⟩ : ByteArray)]) ?_ 2 _ rfl; (with_reducible repeat (first | refine blk_drewN ?_ _ | refine blk_drew ?_ | refine blk_alloc ?_ _)); refine blk_put (cs := #[.int .i64 0, .int .i64 0, .string (⟨#[]⟩ : ByteArray)]) ?_ 0 _ rfl; (with_reducible repeat (first | refine blk_drewN ?_ _ | refine blk_drew ?_ | refine blk_alloc ?_ _)); exact BK321.out) hb); have n1_ := Aside0.mk (below_step (by repeat (first | (with_reducible first | exact HB.out | apply below_alloc | apply pw_below_drewN | apply below_drew1 | refine below_set ?_ GE321.out) | exact HB.out)) hb); clear BK321; clear HB; have BK321 := n0_; have HB := n1_; clear n0_ n1_; (try clear hb); (try clear hb2); (try clear hk); (try clear hi); have hcz43_0 : w42.cell? ⟨gb321, 0, none⟩ = some (.int .i64 t322) := (blk_cell BK321.out 0).trans rfl; have hcz43_1 : w42.cell? ⟨gb321, 1, none⟩ = some (.int .i64 0) := (blk_cell BK321.out 1).trans rfl; have hcz43_2 : w42.cell? ⟨gb321, 2, none⟩ = some (.string t333) := (blk_cell BK321.out 2).trans rfl; have hfz43_0 := blk_frozen BK321.out 0; have hfz43_1 := blk_frozen BK321.out 1; have hfz43_2 := blk_frozen BK321.out 2))
       refine bodyPost_ret (results_ctt rfl _ _ gb321 101 #[.int .i64 t322, .int .i64 0, .string t333] (0, 0) _ rfl (by (with_reducible repeat (first | refine blk_drewN ?_ _ | refine blk_drew ?_ | refine blk_alloc ?_ _)); refine blk_put (cs := #[.int .i64 t322, .int .i64 0, .string t333]) ?_ 2 _ rfl; (with_reducible repeat (first | refine blk_drewN ?_ _ | refine blk_drew ?_ | refine blk_alloc ?_ _)); refine blk_put (cs := #[.int .i64 t322, .int .i64 0, .string t333]) ?_ 1 _ rfl; (with_reducible repeat (first | refine blk_drewN ?_ _ | refine blk_drew ?_ | refine blk_alloc ?_ _)); refine blk_put (cs := #[.int .i64 t322, .int .i64 0, .string t333]) ?_ 0 _ rfl; (with_reducible repeat (first | refine blk_drewN ?_ _ | refine blk_drew ?_ | refine blk_alloc ?_ _)); exact BK321.out) Try.underlying101 rfl (by kernel_rfl)) rfl ?_
       exact ⟨by first | rfl | (simp [errW_none, errW_some] <;> rfl) | (simp [*, errW_none, errW_some] <;> rfl), by repeat (first | (with_reducible first | exact HB.out | apply below_alloc | apply pw_below_drewN | apply below_drew1 | refine below_set ?_ GE321.out) | exact HB.out)⟩
      ·rw [if_neg c39] at H
       have c39b0 : (t336 == 0) = false := beq_eq_false_iff_ne.mpr c39
       have c39b1 : (t336 != 0) = true := bne_iff_ne.mpr c39
       simp only [Option.some.injEq, Prod.mk.injEq] at H
       obtain ⟨rfl, rfl, rfl, rfl, rfl⟩ := H
       go_enter Try.func76, Try.ntmps76
       go_wp2_with (first | ((with_reducible refine gate_dst (N := 4) rfl ?_); refine box_event ?hg (N := 4) ?hd (cs := #[.int .i64 0, .int .i64 0, .string (⟨#[]⟩ : ByteArray)]) (t := 101) ?hr ?_; (case hd => rfl); (case hg => rfl); (case hr => first | (go_simp; done) | (go_simp; rfl)); intro gb321 hg w44 hbox hb; have n0_ := Aside0.mk (below_step (by repeat (first | (with_reducible first | exact HB.out | apply below_alloc | apply pw_below_drewN | apply below_drew1) | exact HB.out)) hb); have n1_ := Aside0.mk (hbox); have n2_ := Aside0.mk ((by rw [hg]; exact (below_size (by repeat (first | (with_reducible first | exact HB.out | apply below_alloc | apply pw_below_drewN | apply below_drew1) | exact HB.out))) : w.heap.size ≤ gb321)); have n3_ := Aside0.mk ((by rw [hg]; exact (below_size (by repeat (first | (with_reducible first | exact HB.out | apply below_alloc | apply pw_below_drewN | apply below_drew1) | exact HB.out))) : w.heap.size ≤ gb321)); clear HB; have HB := n0_; have BK321 := n1_; have GW321 := n2_; have GE321 := n3_; clear n0_ n1_ n2_ n3_; clear hb hbox hg) | ((with_reducible refine gate_callee (f := 51) rfl ?_); refine goesL_ (some 11) rfl rfl Try.func51 (by kernel_rfl) rfl #[.slice A0 l0.length c0, .int .i64 a1, .int .i64 1] rfl (by (try simp only [List.map_toArray, List.map_cons, List.map_nil]); first | done | rfl | (simp only [List.length_drop, List.length_take]; rfl)) ?_; (with_reducible refine (wire_Get.calls k _ _ l0 a1 1 t322 t323 t324 _ ?side1 ?side2 A3.out).mono ?_); (case side1 => repeat (first | exact (Kd.C_below HR0.out HB.out) | (with_reducible refine Kd.C_alloc ?_ _) | (with_reducible refine Kd.C_drewN ?_ _) | (with_reducible refine Kd.C_drew ?_))); (case side2 => exact HC0.out); rintro e w' ⟨rfl, ⟨nd, rfl⟩⟩; refine ⟨_, rfl, ?_⟩; (try (rw [drewN_self w44]; generalize hq_ : World.drewN w44 _ = w44; have n0_ : Aside0 (w44.heap[gb321]? = some (.cells #[.int .i64 0, .int .i64 0, .string (⟨#[]⟩ : ByteArray)] 101 (0, 0))) := ⟨by rw [← hq_]; exact (by (with_reducible repeat (first | refine blk_drewN ?_ _ | refine blk_drew ?_ | refine blk_alloc ?_ _)); exact BK321.out)⟩; have n1_ : Aside0 (Below w.heap.size w w44) := ⟨by rw [← hq_]; exact (by repeat (first | (with_reducible first | exact HB.out | apply below_alloc | apply pw_below_drewN | apply below_drew1 | refine below_set ?_ GE321.out) | exact HB.out))⟩; clear BK321 HB hq_; have BK321 := n0_; have HB := n1_; clear n0_ n1_)); have hcz45_0 : w44.cell? ⟨gb321, 0, none⟩ = some (.int .i64 0) := (blk_cell BK321.out 0).trans rfl; have hcz45_1 : w44.cell? ⟨gb321, 1, none⟩ = some (.int .i64 0) := (blk_cell BK321.out 1).trans rfl; have hcz45_2 : w44.cell? ⟨gb321, 2, none⟩ = some (.string (⟨#[]⟩ : ByteArray)) := (blk_cell BK321.out 2).trans rfl; have hfz45_0 := blk_frozen BK321.out 0; have hfz45_1 := blk_frozen BK321.out 1; have hfz45_2 := blk_frozen BK321.out 2) | ((with_reducible refine gate_callee (f := 75) rfl ?_); refine goesL_ (some 47) rfl rfl Try.func75 (by kernel_rfl) rfl #[.slice A0 l0.length c0, .int .i64 t323] rfl (by (try simp only [List.map_toArray, List.map_cons, List.map_nil]); first | done | rfl | (simp only [List.length_drop, List.length_take]; rfl)) ?_; (with_reducible refine (wire_GetText.calls k _ _ l0 t323 t333 t334 t335 _ ?side1 ?side2 A36.out).mono ?_); (case side1 => exact Kd.C_below HR0.out (by repeat (first | (with_reducible first | exact HB.out | apply below_alloc | apply pw_below_drewN | apply below_drew1 | refine below_set ?_ GE321.out) | exact HB.out))); (case side2 => exact HC0.out); rintro e w' ⟨rfl, ⟨nd, rfl⟩⟩; refine ⟨_, rfl, ?_⟩) | (go_at_call 79; (with_reducible refine (value_Check.calls t322 0 t333 t336 _ A38.out).mono ?_); rintro e w46 ⟨rfl, hb⟩; have n0_ := Aside0.mk (blk_below (g := gb321) (o := .cells #[.int .i64 t322, .int .i64 0, .string t333] 101 (0, 0)) (by (with_reducible repeat (first | refine blk_drewN ?_ _ | refine blk_drew ?_ | refine blk_alloc ?_ _)); refine blk_put (cs := #[.int .i64 t322, .int .i64 0, .string (⟨#[]⟩ : ByteArray)]) ?_ 2 _ rfl; (with_reducible repeat (first | refine blk_drewN ?_ _ | refine blk_drew ?_ | refine blk_alloc ?_ _)); refine blk_put (cs := #[.int .i64 0, .int .i64 0, .string (⟨#[]⟩ : ByteArray)]) ?_ 0 _ rfl; (with_reducible repeat (first | refine blk_drewN ?_ _ | refine blk_drew ?_ | refine blk_alloc ?_ _)); exact BK321.out) hb); have n1_ := Aside0.mk (below_step (by repeat (first | (with_reducible first | exact HB.out | apply below_alloc | apply pw_below_drewN | apply below_drew1 | refine below_set ?_ GE321.out) | exact HB.out)) hb); clear BK321; clear HB; have BK321 := n0_; have HB := n1_; clear n0_ n1_; (try clear hb); (try clear hb2); (try clear hk); (try clear hi); have hcz47_0 : w46.cell? ⟨gb321, 0, none⟩ = some (.int .i64 t322) := (blk_cell BK321.out 0).trans rfl; have hcz47_1 : w46.cell? ⟨gb321, 1, none⟩ = some (.int .i64 0) := (blk_cell BK321.out 1).trans rfl; have hcz47_2 : w46.cell? ⟨gb321, 2, none⟩ = some (.string t333) := (blk_cell BK321.out 2).trans rfl; have hfz47_0 := blk_frozen BK321.out 0; have hfz47_1 := blk_frozen BK321.out 1; have hfz47_2 := blk_frozen BK321.out 2))
       refine bodyPost_ret (results_ctt rfl _ _ gb321 101 #[.int .i64 0, .int .i64 0, .string (⟨#[]⟩ : ByteArray)] (0, 0) _ rfl (by (with_reducible repeat (first | refine blk_drewN ?_ _ | refine blk_drew ?_ | refine blk_alloc ?_ _)); refine blk_put (cs := #[.int .i64 0, .int .i64 0, .string t333]) ?_ 2 _ rfl; (with_reducible repeat (first | refine blk_drewN ?_ _ | refine blk_drew ?_ | refine blk_alloc ?_ _)); refine blk_put (cs := #[.int .i64 0, .int .i64 0, .string t333]) ?_ 1 _ rfl; (with_reducible repeat (first | refine blk_drewN ?_ _ | refine blk_drew ?_ | refine blk_alloc ?_ _)); refine blk_put (cs := #[.int .i64 t322, .int .i64 0, .string t333]) ?_ 0 _ rfl; (with_reducible repeat (first | refine blk_drewN ?_ _ | refine blk_drew ?_ | refine blk_alloc ?_ _)); exact BK321.out) Try.underlying101 rfl (by kernel_rfl)) rfl ?_
       exact ⟨by first | rfl | (simp [errW_none, errW_some] <;> rfl) | (simp [*, errW_none, errW_some] <;> rfl), by repeat (first | (with_reducible first | exact HB.out | apply below_alloc | apply pw_below_drewN | apply below_drew1 | refine below_set ?_ GE321.out) | exact HB.out)⟩
     ·rw [if_neg c37] at H
      have c37b0 : (t335 == 0) = false := beq_eq_false_iff_ne.mpr c37
      have c37b1 : (t335 != 0) = true := bne_iff_ne.mpr c37
      simp only [Option.some.injEq, Prod.mk.injEq] at H
      obtain ⟨rfl, rfl, rfl, rfl, rfl⟩ := H
      go_enter Try.func76, Try.ntmps76
      go_wp2_with (first | ((with_reducible refine gate_dst (N := 4) rfl ?_); refine box_event ?hg (N := 4) ?hd (cs := #[.int .i64 0, .int .i64 0, .string (⟨#[]⟩ : ByteArray)]) (t := 101) ?hr ?_; (case hd => rfl); (case hg => rfl); (case hr => first | (go_simp; done) | (go_simp; rfl)); intro gb321 hg w48 hbox hb; have n0_ := Aside0.mk (below_step (by repeat (first | (with_reducible first | exact HB.out | apply below_alloc | apply pw_below_drewN | apply below_drew1) | exact HB.out)) hb); have n1_ := Aside0.mk (hbox); have n2_ := Aside0.mk ((by rw [hg]; exact (below_size (by repeat (first | (with_reducible first | exact HB.out | apply below_alloc | apply pw_below_drewN | apply below_drew1) | exact HB.out))) : w.heap.size ≤ gb321)); have n3_ := Aside0.mk ((by rw [hg]; exact (below_size (by repeat (first | (with_reducible first | exact HB.out | apply below_alloc | apply pw_below_drewN | apply below_drew1) | exact HB.out))) : w.heap.size ≤ gb321)); clear HB; have HB := n0_; have BK321 := n1_; have GW321 := n2_; have GE321 := n3_; clear n0_ n1_ n2_ n3_; clear hb hbox hg) | ((with_reducible refine gate_callee (f := 51) rfl ?_); refine goesL_ (some 11) rfl rfl Try.func51 (by kernel_rfl) rfl #[.slice A0 l0.length c0, .int .i64 a1, .int .i64 1] rfl (by (try simp only [List.map_toArray, List.map_cons, List.map_nil]); first | done | rfl | (simp only [List.length_drop, List.length_take]; rfl)) ?_; (with_reducible refine (wire_Get.calls k _ _ l0 a1 1 t322 t323 t324 _ ?side1 ?side2 A3.out).mono ?_); (case side1 => repeat (first | exact (Kd.C_below HR0.out HB.out) | (with_reducible refine Kd.C_alloc ?_ _) | (with_reducible refine Kd.C_drewN ?_ _) | (with_reducible refine Kd.C_drew ?_))); (case side2 => exact HC0.out); rintro e w' ⟨rfl, ⟨nd, rfl⟩⟩; refine ⟨_, rfl, ?_⟩; (try (rw [drewN_self w48]; generalize hq_ : World.drewN w48 _ = w48; have n0_ : Aside0 (w48.heap[gb321]? = some (.cells #[.int .i64 0, .int .i64 0, .string (⟨#[]⟩ : ByteArray)] 101 (0, 0))) := ⟨by rw [← hq_]; exact (by (with_reducible repeat (first | refine blk_drewN ?_ _ | refine blk_drew ?_ | refine blk_alloc ?_ _)); exact BK321.out)⟩; have n1_ : Aside0 (Below w.heap.size w w48) := ⟨by rw [← hq_]; exact (by repeat (first | (with_reducible first | exact HB.out | apply below_alloc | apply pw_below_drewN | apply below_drew1 | refine below_set ?_ GE321.out) | exact HB.out))⟩; clear BK321 HB hq_; have BK321 := n0_; have HB := n1_; clear n0_ n1_)); have hcz49_0 : w48.cell? ⟨gb321, 0, none⟩ = some (.int .i64 0) := (blk_cell BK321.out 0).trans rfl; have hcz49_1 : w48.cell? ⟨gb321, 1, none⟩ = some (.int .i64 0) := (blk_cell BK321.out 1).trans rfl; have hcz49_2 : w48.cell? ⟨gb321, 2, none⟩ = some (.string (⟨#[]⟩ : ByteArray)) := (blk_cell BK321.out 2).trans rfl; have hfz49_0 := blk_frozen BK321.out 0; have hfz49_1 := blk_frozen BK321.out 1; have hfz49_2 := blk_frozen BK321.out 2) | ((with_reducible refine gate_callee (f := 75) rfl ?_); refine goesL_ (some 47) rfl rfl Try.func75 (by kernel_rfl) rfl #[.slice A0 l0.length c0, .int .i64 t323] rfl (by (try simp only [List.map_toArray, List.map_cons, List.map_nil]); first | done | rfl | (simp only [List.length_drop, List.length_take]; rfl)) ?_; (with_reducible refine (wire_GetText.calls k _ _ l0 t323 t333 t334 t335 _ ?side1 ?side2 A36.out).mono ?_); (case side1 => exact Kd.C_below HR0.out (by repeat (first | (with_reducible first | exact HB.out | apply below_alloc | apply pw_below_drewN | apply below_drew1 | refine below_set ?_ GE321.out) | exact HB.out))); (case side2 => exact HC0.out); rintro e w' ⟨rfl, ⟨nd, rfl⟩⟩; refine ⟨_, rfl, ?_⟩))
      refine bodyPost_ret (results_ctt rfl _ _ gb321 101 #[.int .i64 0, .int .i64 0, .string (⟨#[]⟩ : ByteArray)] (0, 0) _ rfl (by (with_reducible repeat (first | refine blk_drewN ?_ _ | refine blk_drew ?_ | refine blk_alloc ?_ _)); refine blk_put (cs := #[.int .i64 0, .int .i64 0, .string t333]) ?_ 2 _ rfl; (with_reducible repeat (first | refine blk_drewN ?_ _ | refine blk_drew ?_ | refine blk_alloc ?_ _)); refine blk_put (cs := #[.int .i64 0, .int .i64 0, .string t333]) ?_ 1 _ rfl; (with_reducible repeat (first | refine blk_drewN ?_ _ | refine blk_drew ?_ | refine blk_alloc ?_ _)); refine blk_put (cs := #[.int .i64 t322, .int .i64 0, .string t333]) ?_ 0 _ rfl; (with_reducible repeat (first | refine blk_drewN ?_ _ | refine blk_drew ?_ | refine blk_alloc ?_ _)); refine blk_put (cs := #[.int .i64 t322, .int .i64 0, .string (⟨#[]⟩ : ByteArray)]) ?_ 2 _ rfl; (with_reducible repeat (first | refine blk_drewN ?_ _ | refine blk_drew ?_ | refine blk_alloc ?_ _)); refine blk_put (cs := #[.int .i64 0, .int .i64 0, .string (⟨#[]⟩ : ByteArray)]) ?_ 0 _ rfl; (with_reducible repeat (first | refine blk_drewN ?_ _ | refine blk_drew ?_ | refine blk_alloc ?_ _)); exact BK321.out) Try.underlying101 rfl (by kernel_rfl)) rfl ?_
      exact ⟨by first | rfl | (simp [errW_none, errW_some] <;> rfl) | (simp [*, errW_none, errW_some] <;> rfl), by repeat (first | (with_reducible first | exact HB.out | apply below_alloc | apply pw_below_drewN | apply below_drew1 | refine below_set ?_ GE321.out) | exact HB.out)⟩
    ·rw [if_neg c35] at H
     have c35b0 : (t322 == 4) = false := beq_eq_false_iff_ne.mpr c35
     have c35b1 : (t322 != 4) = true := bne_iff_ne.mpr c35
     replace H := Option.bind_eq_some_iff.mp H
     obtain ⟨t337, A500, H⟩ := H
     replace H : (if t337 = 0 then (some (t322, 0, (⟨#[]⟩ : ByteArray), t323, 0)) else (some (0, 0, (⟨#[]⟩ : ByteArray), 0, 3))) = some (r1, r2, r3, r4, r5) := H
     have A50 := Aside0.mk A500
     clear A500
     by_cases c51 : t337 = 0
     ·rw [if_pos c51] at H
      have c51b0 : (t337 == 0) = true := beq_iff_eq.mpr c51
      have c51b1 : (t337 != 0) = false := bne_eq_false_iff_eq.mpr c51
      clear c51
      simp only [Option.some.injEq, Prod.mk.injEq] at H
      obtain ⟨rfl, rfl, rfl, rfl, rfl⟩ := H
      go_enter Try.func76, Try.ntmps76
      go_wp2_with (first | ((with_reducible refine gate_dst (N := 4) rfl ?_); refine box_event ?hg (N := 4) ?hd (cs := #[.int .i64 0, .int .i64 0, .string (⟨#[]⟩ : ByteArray)]) (t := 101) ?hr ?_; (case hd => rfl); (case hg => rfl); (case hr => first | (go_simp; done) | (go_simp; rfl)); intro gb321 hg w52 hbox hb; have n0_ := Aside0.mk (below_step (by repeat (first | (with_reducible first | exact HB.out | apply below_alloc | apply pw_below_drewN | apply below_drew1) | exact HB.out)) hb); have n1_ := Aside0.mk (hbox); have n2_ := Aside0.mk ((by rw [hg]; exact (below_size (by repeat (first | (with_reducible first | exact HB.out | apply below_alloc | apply pw_below_drewN | apply below_drew1) | exact HB.out))) : w.heap.size ≤ gb321)); have n3_ := Aside0.mk ((by rw [hg]; exact (below_size (by repeat (first | (with_reducible first | exact HB.out | apply below_alloc | apply pw_below_drewN | apply below_drew1) | exact HB.out))) : w.heap.size ≤ gb321)); clear HB; have HB := n0_; have BK321 := n1_; have GW321 := n2_; have GE321 := n3_; clear n0_ n1_ n2_ n3_; clear hb hbox hg) | ((with_reducible refine gate_callee (f := 51) rfl ?_); refine goesL_ (some 11) rfl rfl Try.func51 (by kernel_rfl) rfl #[.slice A0 l0.length c0, .int .i64 a1, .int .i64 1] rfl (by (try simp only [List.map_toArray, List.map_cons, List.map_nil]); first | done | rfl | (simp only [List.length_drop, List.length_take]; rfl)) ?_; (with_reducible refine (wire_Get.calls k _ _ l0 a1 1 t322 t323 t324 _ ?side1 ?side2 A3.out).mono ?_); (case side1 => repeat (first | exact (Kd.C_below HR0.out HB.out) | (with_reducible refine Kd.C_alloc ?_ _) | (with_reducible refine Kd.C_drewN ?_ _) | (with_reducible refine Kd.C_drew ?_))); (case side2 => exact HC0.out); rintro e w' ⟨rfl, ⟨nd, rfl⟩⟩; refine ⟨_, rfl, ?_⟩; (try (rw [drewN_self w52]; generalize hq_ : World.drewN w52 _ = w52; have n0_ : Aside0 (w52.heap[gb321]? = some (.cells #[.int .i64 0, .int .i64 0, .string (⟨#[]⟩ : ByteArray)] 101 (0, 0))) := ⟨by rw [← hq_]; exact (by (with_reducible repeat (first | refine blk_drewN ?_ _ | refine blk_drew ?_ | refine blk_alloc ?_ _)); exact BK321.out)⟩; have n1_ : Aside0 (Below w.heap.size w w52) := ⟨by rw [← hq_]; exact (by repeat (first | (with_reducible first | exact HB.out | apply below_alloc | apply pw_below_drewN | apply below_drew1 | refine below_set ?_ GE321.out) | exact HB.out))⟩; clear BK321 HB hq_; have BK321 := n0_; have HB := n1_; clear n0_ n1_)); have hcz53_0 : w52.cell? ⟨gb321, 0, none⟩ = some (.int .i64 0) := (blk_cell BK321.out 0).trans rfl; have hcz53_1 : w52.cell? ⟨gb321, 1, none⟩ = some (.int .i64 0) := (blk_cell BK321.out 1).trans rfl; have hcz53_2 : w52.cell? ⟨gb321, 2, none⟩ = some (.string (⟨#[]⟩ : ByteArray)) := (blk_cell BK321.out 2).trans rfl; have hfz53_0 := blk_frozen BK321.out 0; have hfz53_1 := blk_frozen BK321.out 1; have hfz53_2 := blk_frozen BK321.out 2) | (go_at_call 79; (with_reducible refine (value_Check.calls t322 0 (⟨#[]⟩ : ByteArray) t337 _ A50.out).mono ?_); rintro e w54 ⟨rfl, hb⟩; have n0_ := Aside0.mk (blk_below (g := gb321) (o := .cells #[.int .i64 t322, .int .i64 0, .string (⟨#[]⟩ : ByteArray)] 101 (0, 0)) (by (with_reducible repeat (first | refine blk_drewN ?_ _ | refine blk_drew ?_ | refine blk_alloc ?_ _)); refine blk_put (cs := #[.int .i64 0, .int .i64 0, .string (⟨#[]⟩ : ByteArray)]) ?_ 0 _ rfl; (with_reducible repeat (first | refine blk_drewN ?_ _ | refine blk_drew ?_ | refine blk_alloc ?_ _)); exact BK321.out) hb); have n1_ := Aside0.mk (below_step (by repeat (first | (with_reducible first | exact HB.out | apply below_alloc | apply pw_below_drewN | apply below_drew1 | refine below_set ?_ GE321.out) | exact HB.out)) hb); clear BK321; clear HB; have BK321 := n0_; have HB := n1_; clear n0_ n1_; (try clear hb); (try clear hb2); (try clear hk); (try clear hi); have hcz55_0 : w54.cell? ⟨gb321, 0, none⟩ = some (.int .i64 t322) := (blk_cell BK321.out 0).trans rfl; have hcz55_1 : w54.cell? ⟨gb321, 1, none⟩ = some (.int .i64 0) := (blk_cell BK321.out 1).trans rfl; have hcz55_2 : w54.cell? ⟨gb321, 2, none⟩ = some (.string (⟨#[]⟩ : ByteArray)) := (blk_cell BK321.out 2).trans rfl; have hfz55_0 := blk_frozen BK321.out 0; have hfz55_1 := blk_frozen BK321.out 1; have hfz55_2 := blk_frozen BK321.out 2))
      refine bodyPost_ret (results_ctt rfl _ _ gb321 101 #[.int .i64 t322, .int .i64 0, .string (⟨#[]⟩ : ByteArray)] (0, 0) _ rfl (by (with_reducible repeat (first | refine blk_drewN ?_ _ | refine blk_drew ?_ | refine blk_alloc ?_ _)); refine blk_put (cs := #[.int .i64 t322, .int .i64 0, .string (⟨#[]⟩ : ByteArray)]) ?_ 2 _ rfl; (with_reducible repeat (first | refine blk_drewN ?_ _ | refine blk_drew ?_ | refine blk_alloc ?_ _)); refine blk_put (cs := #[.int .i64 t322, .int .i64 0, .string (⟨#[]⟩ : ByteArray)]) ?_ 1 _ rfl; (with_reducible repeat (first | refine blk_drewN ?_ _ | refine blk_drew ?_ | refine blk_alloc ?_ _)); refine blk_put (cs := #[.int .i64 t322, .int .i64 0, .string (⟨#[]⟩ : ByteArray)]) ?_ 0 _ rfl; (with_reducible repeat (first | refine blk_drewN ?_ _ | refine blk_drew ?_ | refine blk_alloc ?_ _)); exact BK321.out) Try.underlying101 rfl (by kernel_rfl)) rfl ?_
      exact ⟨by first | rfl | (simp [errW_none, errW_some] <;> rfl) | (simp [*, errW_none, errW_some] <;> rfl), by repeat (first | (with_reducible first | exact HB.out | apply below_alloc | apply pw_below_drewN | apply below_drew1 | refine below_set ?_ GE321.out) | exact HB.out)⟩
     ·rw [if_neg c51] at H
      have c51b0 : (t337 == 0) = false := beq_eq_false_iff_ne.mpr c51
      have c51b1 : (t337 != 0) = true := bne_iff_ne.mpr c51
      simp only [Option.some.injEq, Prod.mk.injEq] at H
      obtain ⟨rfl, rfl, rfl, rfl, rfl⟩ := H
      go_enter Try.func76, Try.ntmps76
      go_wp2_with (first | ((with_reducible refine gate_dst (N := 4) rfl ?_); refine box_event ?hg (N := 4) ?hd (cs := #[.int .i64 0, .int .i64 0, .string (⟨#[]⟩ : ByteArray)]) (t := 101) ?hr ?_; (case hd => rfl); (case hg => rfl); (case hr => first | (go_simp; done) | (go_simp; rfl)); intro gb321 hg w56 hbox hb; have n0_ := Aside0.mk (below_step (by repeat (first | (with_reducible first | exact HB.out | apply below_alloc | apply pw_below_drewN | apply below_drew1) | exact HB.out)) hb); have n1_ := Aside0.mk (hbox); have n2_ := Aside0.mk ((by rw [hg]; exact (below_size (by repeat (first | (with_reducible first | exact HB.out | apply below_alloc | apply pw_below_drewN | apply below_drew1) | exact HB.out))) : w.heap.size ≤ gb321)); have n3_ := Aside0.mk ((by rw [hg]; exact (below_size (by repeat (first | (with_reducible first | exact HB.out | apply below_alloc | apply pw_below_drewN | apply below_drew1) | exact HB.out))) : w.heap.size ≤ gb321)); clear HB; have HB := n0_; have BK321 := n1_; have GW321 := n2_; have GE321 := n3_; clear n0_ n1_ n2_ n3_; clear hb hbox hg) | ((with_reducible refine gate_callee (f := 51) rfl ?_); refine goesL_ (some 11) rfl rfl Try.func51 (by kernel_rfl) rfl #[.slice A0 l0.length c0, .int .i64 a1, .int .i64 1] rfl (by (try simp only [List.map_toArray, List.map_cons, List.map_nil]); first | done | rfl | (simp only [List.length_drop, List.length_take]; rfl)) ?_; (with_reducible refine (wire_Get.calls k _ _ l0 a1 1 t322 t323 t324 _ ?side1 ?side2 A3.out).mono ?_); (case side1 => repeat (first | exact (Kd.C_below HR0.out HB.out) | (with_reducible refine Kd.C_alloc ?_ _) | (with_reducible refine Kd.C_drewN ?_ _) | (with_reducible refine Kd.C_drew ?_))); (case side2 => exact HC0.out); rintro e w' ⟨rfl, ⟨nd, rfl⟩⟩; refine ⟨_, rfl, ?_⟩; (try (rw [drewN_self w56]; generalize hq_ : World.drewN w56 _ = w56; have n0_ : Aside0 (w56.heap[gb321]? = some (.cells #[.int .i64 0, .int .i64 0, .string (⟨#[]⟩ : ByteArray)] 101 (0, 0))) := ⟨by rw [← hq_]; exact (by (with_reducible repeat (first | refine blk_drewN ?_ _ | refine blk_drew ?_ | refine blk_alloc ?_ _)); exact BK321.out)⟩; have n1_ : Aside0 (Below w.heap.size w w56) := ⟨by rw [← hq_]; exact (by repeat (first | (with_reducible first | exact HB.out | apply below_alloc | apply pw_below_drewN | apply below_drew1 | refine below_set ?_ GE321.out) | exact HB.out))⟩; clear BK321 HB hq_; have BK321 := n0_; have HB := n1_; clear n0_ n1_)); have hcz57_0 : w56.cell? ⟨gb321, 0, none⟩ = some (.int .i64 0) := (blk_cell BK321.out 0).trans rfl; have hcz57_1 : w56.cell? ⟨gb321, 1, none⟩ = some (.int .i64 0) := (blk_cell BK321.out 1).trans rfl; have hcz57_2 : w56.cell? ⟨gb321, 2, none⟩ = some (.string (⟨#[]⟩ : ByteArray)) := (blk_cell BK321.out 2).trans rfl; have hfz57_0 := blk_frozen BK321.out 0; have hfz57_1 := blk_frozen BK321.out 1; have hfz57_2 := blk_frozen BK321.out 2) | (go_at_call 79; (with_reducible refine (value_Check.calls t322 0 (⟨#[]⟩ : ByteArray) t337 _ A50.out).mono ?_); rintro e w58 ⟨rfl, hb⟩; have n0_ := Aside0.mk (blk_below (g := gb321) (o := .cells #[.int .i64 t322, .int .i64 0, .string (⟨#[]⟩ : ByteArray)] 101 (0, 0)) (by (with_reducible repeat (first | refine blk_drewN ?_ _ | refine blk_drew ?_ | refine blk_alloc ?_ _)); refine blk_put (cs := #[.int .i64 0, .int .i64 0, .string (⟨#[]⟩ : ByteArray)]) ?_ 0 _ rfl; (with_reducible repeat (first | refine blk_drewN ?_ _ | refine blk_drew ?_ | refine blk_alloc ?_ _)); exact BK321.out) hb); have n1_ := Aside0.mk (below_step (by repeat (first | (with_reducible first | exact HB.out | apply below_alloc | apply pw_below_drewN | apply below_drew1 | refine below_set ?_ GE321.out) | exact HB.out)) hb); clear BK321; clear HB; have BK321 := n0_; have HB := n1_; clear n0_ n1_; (try clear hb); (try clear hb2); (try clear hk); (try clear hi); have hcz59_0 : w58.cell? ⟨gb321, 0, none⟩ = some (.int .i64 t322) := (blk_cell BK321.out 0).trans rfl; have hcz59_1 : w58.cell? ⟨gb321, 1, none⟩ = some (.int .i64 0) := (blk_cell BK321.out 1).trans rfl; have hcz59_2 : w58.cell? ⟨gb321, 2, none⟩ = some (.string (⟨#[]⟩ : ByteArray)) := (blk_cell BK321.out 2).trans rfl; have hfz59_0 := blk_frozen BK321.out 0; have hfz59_1 := blk_frozen BK321.out 1; have hfz59_2 := blk_frozen BK321.out 2))
      refine bodyPost_ret (results_ctt rfl _ _ gb321 101 #[.int .i64 0, .int .i64 0, .string (⟨#[]⟩ : ByteArray)] (0, 0) _ rfl (by (with_reducible repeat (first | refine blk_drewN ?_ _ | refine blk_drew ?_ | refine blk_alloc ?_ _)); refine blk_put (cs := #[.int .i64 0, .int .i64 0, .string (⟨#[]⟩ : ByteArray)]) ?_ 2 _ rfl; (with_reducible repeat (first | refine blk_drewN ?_ _ | refine blk_drew ?_ | refine blk_alloc ?_ _)); refine blk_put (cs := #[.int .i64 0, .int .i64 0, .string (⟨#[]⟩ : ByteArray)]) ?_ 1 _ rfl; (with_reducible repeat (first | refine blk_drewN ?_ _ | refine blk_drew ?_ | refine blk_alloc ?_ _)); refine blk_put (cs := #[.int .i64 t322, .int .i64 0, .string (⟨#[]⟩ : ByteArray)]) ?_ 0 _ rfl; (with_reducible repeat (first | refine blk_drewN ?_ _ | refine blk_drew ?_ | refine blk_alloc ?_ _)); exact BK321.out) Try.underlying101 rfl (by kernel_rfl)) rfl ?_
      exact ⟨by first | rfl | (simp [errW_none, errW_some] <;> rfl) | (simp [*, errW_none, errW_some] <;> rfl), by repeat (first | (with_reducible first | exact HB.out | apply below_alloc | apply pw_below_drewN | apply below_drew1 | refine below_set ?_ GE321.out) | exact HB.out)⟩
 ·rw [if_neg c4] at H
  have c4b0 : (t324 == 0) = false := beq_eq_false_iff_ne.mpr c4
  have c4b1 : (t324 != 0) = true := bne_iff_ne.mpr c4
  simp only [Option.some.injEq, Prod.mk.injEq] at H
  obtain ⟨rfl, rfl, rfl, rfl, rfl⟩ := H
  go_enter Try.func76, Try.ntmps76
  go_wp2_with (first | ((with_reducible refine gate_dst (N := 4) rfl ?_); refine box_event ?hg (N := 4) ?hd (cs := #[.int .i64 0, .int .i64 0, .string (⟨#[]⟩ : ByteArray)]) (t := 101) ?hr ?_; (case hd => rfl); (case hg => rfl); (case hr => first | (go_simp; done) | (go_simp; rfl)); intro gb321 hg w60 hbox hb; have n0_ := Aside0.mk (below_step (by repeat (first | (with_reducible first | exact HB.out | apply below_alloc | apply pw_below_drewN | apply below_drew1) | exact HB.out)) hb); have n1_ := Aside0.mk (hbox); have n2_ := Aside0.mk ((by rw [hg]; exact (below_size (by repeat (first | (with_reducible first | exact HB.out | apply below_alloc | apply pw_below_drewN | apply below_drew1) | exact HB.out))) : w.heap.size ≤ gb321)); have n3_ := Aside0.mk ((by rw [hg]; exact (below_size (by repeat (first | (with_reducible first | exact HB.out | apply below_alloc | apply pw_below_drewN | apply below_drew1) | exact HB.out))) : w.heap.size ≤ gb321)); clear HB; have HB := n0_; have BK321 := n1_; have GW321 := n2_; have GE321 := n3_; clear n0_ n1_ n2_ n3_; clear hb hbox hg) | ((with_reducible refine gate_callee (f := 51) rfl ?_); refine goesL_ (some 11) rfl rfl Try.func51 (by kernel_rfl) rfl #[.slice A0 l0.length c0, .int .i64 a1, .int .i64 1] rfl (by (try simp only [List.map_toArray, List.map_cons, List.map_nil]); first | done | rfl | (simp only [List.length_drop, List.length_take]; rfl)) ?_; (with_reducible refine (wire_Get.calls k _ _ l0 a1 1 t322 t323 t324 _ ?side1 ?side2 A3.out).mono ?_); (case side1 => repeat (first | exact (Kd.C_below HR0.out HB.out) | (with_reducible refine Kd.C_alloc ?_ _) | (with_reducible refine Kd.C_drewN ?_ _) | (with_reducible refine Kd.C_drew ?_))); (case side2 => exact HC0.out); rintro e w' ⟨rfl, ⟨nd, rfl⟩⟩; refine ⟨_, rfl, ?_⟩; (try (rw [drewN_self w60]; generalize hq_ : World.drewN w60 _ = w60; have n0_ : Aside0 (w60.heap[gb321]? = some (.cells #[.int .i64 0, .int .i64 0, .string (⟨#[]⟩ : ByteArray)] 101 (0, 0))) := ⟨by rw [← hq_]; exact (by (with_reducible repeat (first | refine blk_drewN ?_ _ | refine blk_drew ?_ | refine blk_alloc ?_ _)); exact BK321.out)⟩; have n1_ : Aside0 (Below w.heap.size w w60) := ⟨by rw [← hq_]; exact (by repeat (first | (with_reducible first | exact HB.out | apply below_alloc | apply pw_below_drewN | apply below_drew1 | refine below_set ?_ GE321.out) | exact HB.out))⟩; clear BK321 HB hq_; have BK321 := n0_; have HB := n1_; clear n0_ n1_)); have hcz61_0 : w60.cell? ⟨gb321, 0, none⟩ = some (.int .i64 0) := (blk_cell BK321.out 0).trans rfl; have hcz61_1 : w60.cell? ⟨gb321, 1, none⟩ = some (.int .i64 0) := (blk_cell BK321.out 1).trans rfl; have hcz61_2 : w60.cell? ⟨gb321, 2, none⟩ = some (.string (⟨#[]⟩ : ByteArray)) := (blk_cell BK321.out 2).trans rfl; have hfz61_0 := blk_frozen BK321.out 0; have hfz61_1 := blk_frozen BK321.out 1; have hfz61_2 := blk_frozen BK321.out 2))
  refine bodyPost_ret (results_ctt rfl _ _ gb321 101 #[.int .i64 0, .int .i64 0, .string (⟨#[]⟩ : ByteArray)] (0, 0) _ rfl (by (with_reducible repeat (first | refine blk_drewN ?_ _ | refine blk_drew ?_ | refine blk_alloc ?_ _)); refine blk_put (cs := #[.int .i64 0, .int .i64 0, .string (⟨#[]⟩ : ByteArray)]) ?_ 2 _ rfl; (with_reducible repeat (first | refine blk_drewN ?_ _ | refine blk_drew ?_ | refine blk_alloc ?_ _)); refine blk_put (cs := #[.int .i64 0, .int .i64 0, .string (⟨#[]⟩ : ByteArray)]) ?_ 1 _ rfl; (with_reducible repeat (first | refine blk_drewN ?_ _ | refine blk_drew ?_ | refine blk_alloc ?_ _)); refine blk_put (cs := #[.int .i64 0, .int .i64 0, .string (⟨#[]⟩ : ByteArray)]) ?_ 0 _ rfl; (with_reducible repeat (first | refine blk_drewN ?_ _ | refine blk_drew ?_ | refine blk_alloc ?_ _)); exact BK321.out) Try.underlying101 rfl (by kernel_rfl)) rfl ?_
  exact ⟨by first | rfl | (simp [errW_none, errW_some] <;> rfl) | (simp [*, errW_none, errW_some] <;> rfl), by repeat (first | (with_reducible first | exact HB.out | apply below_alloc | apply pw_below_drewN | apply below_drew1 | refine below_set ?_ GE321.out) | exact HB.out)⟩

/-! ### row_Read: function 56 -/
def row_Read.l0 : Nat → List Int → List (S101) → Int → Int → Int → Option ((List (S101)) × Int × Int)
 | 0, _, _, _, _, _ => none
 | k + 1, x0, x4, x5, x23, x24 => if x24 < x23 then ((value_Read.f k x0 x5).bind fun bt341 => (if bt341.2.2.2.2 = 0 then (if x4.length < 4398046511104 then (row_Read.l0 k x0 (x4 ++ [(⟨bt341.1, bt341.2.1, bt341.2.2.1⟩ : S101)]) bt341.2.2.2.1 x23 (wrap64 (x24 + 1))) else (none)) else (some (([] : List (S101)), 0, 3)))) else (some (x4, x5, 0))
def row_Read.f (k : Nat) (l0 : List Int) (a1 : Int) : Option ((List (S101)) × Int × Int) := (wire_Get.f k l0 a1 1).bind fun bt338 => (if bt338.2.2 = 0 then (if bt338.1 > 12 then (some (([] : List (S101)), 0, 3)) else (row_Read.l0 k l0 ([] : List (S101)) bt338.2.1 bt338.1 0)) else (some (([] : List (S101)), 0, bt338.2.2)))
set_option maxHeartbeats 8000000 in
set_option maxRecDepth 100000 in
theorem row_Read.calls (k : Nat) (A0 : Option Addr) (c0 : Nat) (l0 : List Int) (a1 : Int) (r1 : List (S101)) (r2 : Int) (r3 : Int) (w : World) (hr0 : Kd.C (Kd.int .u8) w A0 l0.length l0) (hc0 : l0.length ≤ c0) (h : row_Read.f k l0 a1 = some (r1, r2, r3)) :
  Calls Try.prog 56 #[.slice A0 l0.length c0, .int .i64 a1] w fun e w' => ∃ v0_ : Value, e = .returned (.tuple #[v0_, .int .i64 r2, .int .i64 r3]) ∧ Kd.R k101 101 w' w.heap.size (fun _ => True) v0_ r1 ∧ Below w.heap.size w w' := by
 have hu101 := Try.underlying101
 have HR0 := Aside0.mk hr0
 have HC0 := Aside0.mk hc0
 clear hr0 hc0
 have HB := Aside0.mk (Below.refl w.heap.size w)
 have H : ((wire_Get.f k l0 a1 1).bind fun bt338 => (if bt338.2.2 = 0 then (if bt338.1 > 12 then (some (([] : List (S101)), 0, 3)) else (row_Read.l0 k l0 ([] : List (S101)) bt338.2.1 bt338.1 0)) else (some (([] : List (S101)), 0, bt338.2.2)))) = some (r1, r2, r3) := h
 clear h
 replace H := Option.bind_eq_some_iff.mp H
 obtain ⟨⟨t338, t339, t340⟩, A30, H⟩ := H
 replace H : (if t340 = 0 then (if t338 > 12 then (some (([] : List (S101)), 0, 3)) else (row_Read.l0 k l0 ([] : List (S101)) t339 t338 0)) else (some (([] : List (S101)), 0, t340))) = some (r1, r2, r3) := H
 have A3 := Aside0.mk A30
 clear A30
 by_cases c4 : t340 = 0
 ·rw [if_pos c4] at H
  have c4b0 : (t340 == 0) = true := beq_iff_eq.mpr c4
  have c4b1 : (t340 != 0) = false := bne_eq_false_iff_eq.mpr c4
  clear c4
  by_cases c5 : t338 > 12
  ·rw [if_pos c5] at H
   have c5b0 : decide (12 < t338) = true := decide_eq_true c5
   clear c5
   simp only [Option.some.injEq, Prod.mk.injEq] at H
   obtain ⟨rfl, rfl, rfl⟩ := H
   go_enter Try.func56, Try.ntmps56
   go_wp2_with (first | ((with_reducible refine gate_callee (f := 51) rfl ?_); refine goesL_ (some 14) rfl rfl Try.func51 (by kernel_rfl) rfl #[.slice A0 l0.length c0, .int .i64 a1, .int .i64 1] rfl (by (try simp only [List.map_toArray, List.map_cons, List.map_nil]); first | done | rfl | (simp only [List.length_drop, List.length_take]; rfl)) ?_; (with_reducible refine (wire_Get.calls k _ _ l0 a1 1 t338 t339 t340 _ ?side1 ?side2 A3.out).mono ?_); (case side1 => repeat (first | exact HR0.out | (with_reducible refine Kd.C_alloc ?_ _) | (with_reducible refine Kd.C_drewN ?_ _) | (with_reducible refine Kd.C_drew ?_))); (case side2 => exact HC0.out); rintro e w' ⟨rfl, ⟨nd, rfl⟩⟩; refine ⟨_, rfl, ?_⟩))
   go_ret3
   exact ⟨_, by first | rfl | (simp [errW_none, errW_some] <;> rfl) | (simp [*, errW_none, errW_some] <;> rfl), by first | exact Kd.R_nil _ _ _ _ _ | exact Kd.N_nil _ _ _ _ _ | exact Kd.V_nil _ _ _ _ _ | exact Kd.Q_nil _ _ _ _ _ | exact Kd.S_nil _ _ _ _ _, by repeat (first | (with_reducible first | exact HB.out | apply below_alloc | apply pw_below_drewN | apply below_drew1) | exact HB.out)⟩
  ·rw [if_neg c5] at H
   have c5b0 : decide (12 < t338) = false := decide_eq_false c5
   clear c5
   have H' := Aside0.mk H
   clear H
   go_enter Try.func56, Try.ntmps56
   go_wp2_with (first | ((with_reducible refine gate_callee (f := 51) rfl ?_); refine goesL_ (some 14) rfl rfl Try.func51 (by kernel_rfl) rfl #[.slice A0 l0.length c0, .int .i64 a1, .int .i64 1] rfl (by (try simp only [List.map_toArray, List.map_cons, List.map_nil]); first | done | rfl | (simp only [List.length_drop, List.length_take]; rfl)) ?_; (with_reducible refine (wire_Get.calls k _ _ l0 a1 1 t338 t339 t340 _ ?side1 ?side2 A3.out).mono ?_); (case side1 => repeat (first | exact HR0.out | (with_reducible refine Kd.C_alloc ?_ _) | (with_reducible refine Kd.C_drewN ?_ _) | (with_reducible refine Kd.C_drew ?_))); (case side2 => exact HC0.out); rintro e w' ⟨rfl, ⟨nd, rfl⟩⟩; refine ⟨_, rfl, ?_⟩))
   go_loopg [4, 5, 24] k (fun kq v4 v5 v24 w' => ∃ (x4_1 : List (S101)) (x5_1 : Int) (x24_1 : Int), v5 = .int .i64 x5_1 ∧ v24 = .int .i64 x24_1 ∧ Aside0 (row_Read.l0 kq l0 x4_1 x5_1 t338 x24_1 = some (r1, r2, r3)) ∧ Aside0 (kq ≤ k) ∧ Aside0 (Kd.R k101 101 w' w.heap.size (fun _ => True) v4 x4_1) ∧ Aside0 (Below w.heap.size w w'))
   case atStart => exact ⟨(([] : List (S101))), (t339), (0), (by first | rfl | (simp; done) | (simp [*]; done)), (by first | rfl | (simp; done) | (simp [*]; done)), H', ⟨Nat.le_refl _⟩, ⟨by first | exact Kd.R_nil _ _ _ _ _ | exact Kd.N_nil _ _ _ _ _ | exact Kd.V_nil _ _ _ _ _ | exact Kd.Q_nil _ _ _ _ _ | exact Kd.S_nil _ _ _ _ _⟩, ⟨by repeat (first | (with_reducible first | exact HB.out | apply below_alloc | apply pw_below_drewN | apply below_drew1) | exact HB.out)⟩⟩
   case round =>
    clear H'
    try clear p2
    try clear c4
    try clear c4b0
    try clear c4b1
    try clear c5
    try clear c5b0
    obtain ⟨x4_1, x5_1, x24_1, rfl, rfl, HA, HK1, HO_4, HB⟩ := hrel
    cases gk with
    | zero => exact absurd HA.out (by simp [row_Read.l0])
    | succ k1 =>
     have H := HA.out
     clear HA
     simp only [row_Read.l0] at H
     by_cases c6 : x24_1 < t338
     ·rw [if_pos c6] at H
      have c6b0 : decide (x24_1 < t338) = true := decide_eq_true c6
      clear c6
      replace H := Option.bind_eq_some_iff.mp H
      obtain ⟨⟨t341, t342, t343, t344, t345⟩, A70, H⟩ := H
      replace H : (if t345 = 0 then (if x4_1.length < 4398046511104 then (row_Read.l0 k1 l0 (x4_1 ++ [(⟨t341, t342, t343⟩ : S101)]) t344 t338 (wrap64 (x24_1 + 1))) else (none)) else (some (([] : List (S101)), 0, 3))) = some (r1, r2, r3) := H
      have A7 := Aside0.mk A70
      clear A70
      by_cases c8 : t345 = 0
      ·rw [if_pos c8] at H
       have c8b0 : (t345 == 0) = true := beq_iff_eq.mpr c8
       have c8b1 : (t345 != 0) = false := bne_eq_false_iff_eq.mpr c8
       clear c8
       by_cases c9 : x4_1.length < 4398046511104
       ·rw [if_pos c9] at H
        have LMc9 := Aside0.mk c9
        clear c9
        obtain ⟨y347, hy347⟩ : ∃ y_ : List (S101), y_ = (x4_1 ++ [(⟨t341, t342, t343⟩ : S101)]) := ⟨_, rfl⟩
        replace H : (row_Read.l0 k1 l0 y347 t344 t338 (wrap64 (x24_1 + 1))) = some (r1, r2, r3) := by first | (rw [hy347]; with_reducible exact H) | (have H2_ := (Option.bind_some _ _).symm.trans H; rw [hy347]; with_reducible exact H2_) | (have H2_ := (Option.bind_some _ _).symm.trans H; with_reducible exact H2_) | with_reducible exact H | (rw [hy347]; exact H) | exact H
        have Ny347 := Aside0.mk hy347
        clear hy347
        have H' := Aside0.mk H
        clear H
        go_wp2_with (first | ((with_reducible refine gate_callee (f := 76) rfl ?_); refine goesL_ (some 29) rfl rfl Try.func76 (by kernel_rfl) rfl #[.slice A0 l0.length c0, .int .i64 x5_1] rfl (by (try simp only [List.map_toArray, List.map_cons, List.map_nil]); first | done | rfl | (simp only [List.length_drop, List.length_take]; rfl)) ?_; (with_reducible refine (value_Read.calls k1 _ _ l0 x5_1 t341 t342 t343 t344 t345 _ ?side1 ?side2 A7.out).mono ?_); (case side1 => repeat (first | exact (Kd.C_below HR0.out HB.out) | (with_reducible refine Kd.C_alloc ?_ _) | (with_reducible refine Kd.C_drewN ?_ _) | (with_reducible refine Kd.C_drew ?_))); (case side2 => exact HC0.out); rintro e w10 ⟨rfl, hb⟩; refine ⟨_, rfl, ?_⟩; have n0_ := Aside0.mk (Kd.R_below (by (with_reducible repeat (first | apply Kd.R_alloc | apply Kd.R_drewN | apply Kd.R_drew)); exact HO_4.out) hb); have n1_ := Aside0.mk (below_step (by repeat (first | (with_reducible first | exact HB.out | apply below_alloc | apply pw_below_drewN | apply below_drew1) | exact HB.out)) hb); clear HO_4; clear HB; have HO_4 := n0_; have HB := n1_; clear n0_ n1_; (try clear hb); (try clear hb2); (try clear hk); (try clear hi)) | ((with_reducible refine gate_dst (N := 8) rfl ?_); refine box_event ?hg (N := 8) ?hd (cs := #[.int .i64 0, .int .i64 0, .string (⟨#[]⟩ : ByteArray)]) (t := 101) ?hr ?_; (case hd => rfl); (case hg => rfl); (case hr => first | (go_simp; done) | (go_simp; rfl)); intro gb346 hg w11 hbox hb; have n0_ := Aside0.mk (Kd.R_below (Kd.R_elderB (by (with_reducible repeat (first | apply Kd.R_alloc | apply Kd.R_drewN | apply Kd.R_drew)); exact HO_4.out) gb346 (Nat.le_of_eq hg.symm)) hb); have n1_ := Aside0.mk (below_step (by repeat (first | (with_reducible first | exact HB.out | apply below_alloc | apply pw_below_drewN | apply below_drew1) | exact HB.out)) hb); have n2_ := Aside0.mk (hbox); have n3_ := Aside0.mk ((by rw [hg]; exact (below_size (by repeat (first | (with_reducible first | exact HB.out | apply below_alloc | apply pw_below_drewN | apply below_drew1) | exact HB.out))) : w.heap.size ≤ gb346)); have n4_ := Aside0.mk ((by rw [hg]; exact (below_size (by repeat (first | (with_reducible first | exact HB.out | apply below_alloc | apply pw_below_drewN | apply below_drew1) | exact HB.out))) : w.heap.size ≤ gb346)); clear HO_4; clear HB; have HO_4 := n0_; have HB := n1_; have BK346 := n2_; have GW346 := n3_; have GE346 := n4_; clear n0_ n1_ n2_ n3_ n4_; clear hb hbox hg; have hcz12_0 : w11.cell? ⟨gb346, 0, none⟩ = some (.int .i64 0) := (blk_cell BK346.out 0).trans rfl; have hcz12_1 : w11.cell? ⟨gb346, 1, none⟩ = some (.int .i64 0) := (blk_cell BK346.out 1).trans rfl; have hcz12_2 : w11.cell? ⟨gb346, 2, none⟩ = some (.string (⟨#[]⟩ : ByteArray)) := (blk_cell BK346.out 2).trans rfl; have hfz12_0 := blk_frozen BK346.out 0; have hfz12_1 := blk_frozen BK346.out 1; have hfz12_2 := blk_frozen BK346.out 2) | ((with_reducible refine gate_builtin (b := .append) (xs := #[.tmp 35, .tmp 37]) rfl ?_); at_builtin; refine Kd.R_append k101 (w0 := w) w.heap.size rfl (.tmp 35) (.tmp 37) 52 101 (.agg #[(.int .i64 0), (.int .i64 0), (.string ⟨#[]⟩)]) 32 rfl Try.underlying52 info101 rfl (by decide) (by omega) u4 x4_1 (⟨t341, t342, t343⟩ : S101) [.int .i64 t341, .int .i64 t342, .string t343] (fun k_ => k_ ≠ gb346) (fun _ => False) rfl (by first | (go_simp; done) | (go_simp; rfl)) ?aP (fun _ hk => hk.elim) ?aF ?aO ?aB ?aS ?aL ?_; (case aP => exact k101_mkM _ _ _ (⟨t341, t342, t343⟩ : S101)); (case aB => exact (by repeat (first | (with_reducible first | exact HB.out | apply below_alloc | apply pw_below_drewN | apply below_drew1 | refine below_set ?_ GE346.out) | exact HB.out))); (case aF => exact (fun k_ hk => Kd.freshB (g := gb346) (o := .cells #[.int .i64 t341, .int .i64 t342, .string t343] 101 (0, 0)) (by (with_reducible repeat (first | refine blk_drewN ?_ _ | refine blk_drew ?_ | refine blk_alloc ?_ _)); refine blk_put (cs := #[.int .i64 t341, .int .i64 t342, .string (⟨#[]⟩ : ByteArray)]) ?_ 2 _ rfl; (with_reducible repeat (first | refine blk_drewN ?_ _ | refine blk_drew ?_ | refine blk_alloc ?_ _)); refine blk_put (cs := #[.int .i64 t341, .int .i64 0, .string (⟨#[]⟩ : ByteArray)]) ?_ 1 _ rfl; (with_reducible repeat (first | refine blk_drewN ?_ _ | refine blk_drew ?_ | refine blk_alloc ?_ _)); refine blk_put (cs := #[.int .i64 0, .int .i64 0, .string (⟨#[]⟩ : ByteArray)]) ?_ 0 _ rfl; (with_reducible repeat (first | refine blk_drewN ?_ _ | refine blk_drew ?_ | refine blk_alloc ?_ _)); exact BK346.out) k_ hk)); (case aO => exact (by (with_reducible repeat (first | apply Kd.R_alloc | apply Kd.R_drewN | apply Kd.R_drew)); exact Kd.R_mono (Kd.R_far (p := ⟨gb346, 2, none⟩) (Kd.R_far (p := ⟨gb346, 1, none⟩) (Kd.R_far (p := ⟨gb346, 0, none⟩) (Kd.R_mono HO_4.out (fun k_ hk => (⟨hk, hk.2⟩ : _ ∧ k_ ≠ gb346))) (fun _ hk => hk.2) (.int .i64 t341)) (fun _ hk => hk.2) (.int .i64 t342)) (fun _ hk => hk.2) (.string t343)) (fun _ hk => hk.1.2))); (case aS => exact (below_size (by repeat (first | (with_reducible first | exact HB.out | apply below_alloc | apply pw_below_drewN | apply below_drew1 | refine below_set ?_ GE346.out) | exact HB.out)))); (case aL => have := LMc9.out; omega); intro v348 w13 ho hb hg hat; rw [← Ny347.out] at ho; have n0_ := Aside0.mk (blk_grown (g := gb346) (o := .cells #[.int .i64 t341, .int .i64 t342, .string t343] 101 (0, 0)) (by (with_reducible repeat (first | refine blk_drewN ?_ _ | refine blk_drew ?_ | refine blk_alloc ?_ _)); refine blk_put (cs := #[.int .i64 t341, .int .i64 t342, .string (⟨#[]⟩ : ByteArray)]) ?_ 2 _ rfl; (with_reducible repeat (first | refine blk_drewN ?_ _ | refine blk_drew ?_ | refine blk_alloc ?_ _)); refine blk_put (cs := #[.int .i64 t341, .int .i64 0, .string (⟨#[]⟩ : ByteArray)]) ?_ 1 _ rfl; (with_reducible repeat (first | refine blk_drewN ?_ _ | refine blk_drew ?_ | refine blk_alloc ?_ _)); refine blk_put (cs := #[.int .i64 0, .int .i64 0, .string (⟨#[]⟩ : ByteArray)]) ?_ 0 _ rfl; (with_reducible repeat (first | refine blk_drewN ?_ _ | refine blk_drew ?_ | refine blk_alloc ?_ _)); exact BK346.out) hg (Kd.R_away HO_4.out (fun _ hk => hk.2))); have n1_ := Aside0.mk (hb); have n2_ := Aside0.mk (ho); clear BK346; clear HB; clear HO_4; have BK346 := n0_; have HB := n1_; have HO349 := n2_; clear n0_ n1_ n2_; clear ho hb hg hat))
        go_roundg k1
        case measure => have := HK1.out; omega
        case rel => exact ⟨(y347), (t344), (wrap64 (x24_1 + 1)), (by first | rfl | (simp; done) | (simp [*]; done)), (by first | rfl | (simp; done) | (simp [*]; done)), H', ⟨by have := HK1.out; omega⟩, ⟨by (with_reducible repeat (first | apply Kd.R_alloc | apply Kd.R_drewN | apply Kd.R_drew)); exact Kd.R_mono HO349.out (fun _ hk => trivial)⟩, ⟨by repeat (first | (with_reducible first | exact HB.out | apply below_alloc | apply pw_below_drewN | apply below_drew1 | refine below_set ?_ GE346.out) | exact HB.out)⟩⟩
       ·rw [if_neg c9] at H
        exact absurd H (by simp)
      ·rw [if_neg c8] at H
       have c8b0 : (t345 == 0) = false := beq_eq_false_iff_ne.mpr c8
       have c8b1 : (t345 != 0) = true := bne_iff_ne.mpr c8
       simp only [Option.some.injEq, Prod.mk.injEq] at H
       obtain ⟨rfl, rfl, rfl⟩ := H
       go_wp2_with (first | ((with_reducible refine gate_callee (f := 76) rfl ?_); refine goesL_ (some 29) rfl rfl Try.func76 (by kernel_rfl) rfl #[.slice A0 l0.length c0, .int .i64 x5_1] rfl (by (try simp only [List.map_toArray, List.map_cons, List.map_nil]); first | done | rfl | (simp only [List.length_drop, List.length_take]; rfl)) ?_; (with_reducible refine (value_Read.calls k1 _ _ l0 x5_1 t341 t342 t343 t344 t345 _ ?side1 ?side2 A7.out).mono ?_); (case side1 => repeat (first | exact (Kd.C_below HR0.out HB.out) | (with_reducible refine Kd.C_alloc ?_ _) | (with_reducible refine Kd.C_drewN ?_ _) | (with_reducible refine Kd.C_drew ?_))); (case side2 => exact HC0.out); rintro e w14 ⟨rfl, hb⟩; refine ⟨_, rfl, ?_⟩; have n0_ := Aside0.mk (Kd.R_below (by (with_reducible repeat (first | apply Kd.R_alloc | apply Kd.R_drewN | apply Kd.R_drew)); exact HO_4.out) hb); have n1_ := Aside0.mk (below_step (by repeat (first | (with_reducible first | exact HB.out | apply below_alloc | apply pw_below_drewN | apply below_drew1) | exact HB.out)) hb); clear HO_4; clear HB; have HO_4 := n0_; have HB := n1_; clear n0_ n1_; (try clear hb); (try clear hb2); (try clear hk); (try clear hi)) | ((with_reducible refine gate_dst (N := 8) rfl ?_); refine box_event ?hg (N := 8) ?hd (cs := #[.int .i64 0, .int .i64 0, .string (⟨#[]⟩ : ByteArray)]) (t := 101) ?hr ?_; (case hd => rfl); (case hg => rfl); (case hr => first | (go_simp; done) | (go_simp; rfl)); intro gb346 hg w15 hbox hb; have n0_ := Aside0.mk (Kd.R_below (Kd.R_elderB (by (with_reducible repeat (first | apply Kd.R_alloc | apply Kd.R_drewN | apply Kd.R_drew)); exact HO_4.out) gb346 (Nat.le_of_eq hg.symm)) hb); have n1_ := Aside0.mk (below_step (by repeat (first | (with_reducible first | exact HB.out | apply below_alloc | apply pw_below_drewN | apply below_drew1) | exact HB.out)) hb); have n2_ := Aside0.mk (hbox); have n3_ := Aside0.mk ((by rw [hg]; exact (below_size (by repeat (first | (with_reducible first | exact HB.out | apply below_alloc | apply pw_below_drewN | apply below_drew1) | exact HB.out))) : w.heap.size ≤ gb346)); have n4_ := Aside0.mk ((by rw [hg]; exact (below_size (by repeat (first | (with_reducible first | exact HB.out | apply below_alloc | apply pw_below_drewN | apply below_drew1) | exact HB.out))) : w.heap.size ≤ gb346)); clear HO_4; clear HB; have HO_4 := n0_; have HB := n1_; have BK346 := n2_; have GW346 := n3_; have GE346 := n4_; clear n0_ n1_ n2_ n3_ n4_; clear hb hbox hg; have hcz16_0 : w15.cell? ⟨gb346, 0, none⟩ = some (.int .i64 0) := (blk_cell BK346.out 0).trans rfl; have hcz16_1 : w15.cell? ⟨gb346, 1, none⟩ = some (.int .i64 0) := (blk_cell BK346.out 1).trans rfl; have hcz16_2 : w15.cell? ⟨gb346, 2, none⟩ = some (.string (⟨#[]⟩ : ByteArray)) := (blk_cell BK346.out 2).trans rfl; have hfz16_0 := blk_frozen BK346.out 0; have hfz16_1 := blk_frozen BK346.out 1; have hfz16_2 := blk_frozen BK346.out 2))
       go_ret3
       exact ⟨_, by first | rfl | (simp [errW_none, errW_some] <;> rfl) | (simp [*, errW_none, errW_some] <;> rfl), by first | exact Kd.R_nil _ _ _ _ _ | exact Kd.N_nil _ _ _ _ _ | exact Kd.V_nil _ _ _ _ _ | exact Kd.Q_nil _ _ _ _ _ | exact Kd.S_nil _ _ _ _ _, by repeat (first | (with_reducible first | exact HB.out | apply below_alloc | apply pw_below_drewN | apply below_drew1 | refine below_set ?_ GE346.out) | exact HB.out)⟩
     ·rw [if_neg c6] at H
      have c6b0 : decide (x24_1 < t338) = false := decide_eq_false c6
      clear c6
      simp only [Option.some.injEq, Prod.mk.injEq] at H
      obtain ⟨rfl, rfl, rfl⟩ := H
      go_wp2
      go_ret3
      exact ⟨_, by first | rfl | (simp [errW_none, errW_some] <;> rfl) | (simp [*, errW_none, errW_some] <;> rfl), by (with_reducible repeat (first | apply Kd.R_alloc | apply Kd.R_drewN | apply Kd.R_drew)); exact HO_4.out, by repeat (first | (with_reducible first | exact HB.out | apply below_alloc | apply pw_below_drewN | apply below_drew1) | exact HB.out)⟩
 ·rw [if_neg c4] at H
  have c4b0 : (t340 == 0) = false := beq_eq_false_iff_ne.mpr c4
  have c4b1 : (t340 != 0) = true := bne_iff_ne.mpr c4
  simp only [Option.some.injEq, Prod.mk.injEq] at H
  obtain ⟨rfl, rfl, rfl⟩ := H
  go_enter Try.func56, Try.ntmps56
  go_wp2_with (first | ((with_reducible refine gate_callee (f := 51) rfl ?_); refine goesL_ (some 14) rfl rfl Try.func51 (by kernel_rfl) rfl #[.slice A0 l0.length c0, .int .i64 a1, .int .i64 1] rfl (by (try simp only [List.map_toArray, List.map_cons, List.map_nil]); first | done | rfl | (simp only [List.length_drop, List.length_take]; rfl)) ?_; (with_reducible refine (wire_Get.calls k _ _ l0 a1 1 t338 t339 t340 _ ?side1 ?side2 A3.out).mono ?_); (case side1 => repeat (first | exact HR0.out | (with_reducible refine Kd.C_alloc ?_ _) | (with_reducible refine Kd.C_drewN ?_ _) | (with_reducible refine Kd.C_drew ?_))); (case side2 => exact HC0.out); rintro e w' ⟨rfl, ⟨nd, rfl⟩⟩; refine ⟨_, rfl, ?_⟩))
  go_ret3
  exact ⟨_, by first | rfl | (simp [errW_none, errW_some] <;> rfl) | (simp [*, errW_none, errW_some] <;> rfl), by first | exact Kd.R_nil _ _ _ _ _ | exact Kd.N_nil _ _ _ _ _ | exact Kd.V_nil _ _ _ _ _ | exact Kd.Q_nil _ _ _ _ _ | exact Kd.S_nil _ _ _ _ _, by repeat (first | (with_reducible first | exact HB.out | apply below_alloc | apply pw_below_drewN | apply below_drew1) | exact HB.out)⟩


end Go.Proofs.Ytnbjflcfdncocaa.M

/- Plain facts: what wire.GetInt, value.Read and row.Read tell, of the bytes that are left. -/
namespace Go.Proofs.Ytnbjflcfdncocaa.M
open Go.RowKit Go.Proofs.YtnbjflcfdncocaaW.PrintWords Go.Proofs.YtnbjflcfdncocaaW.PrintLast Go.Proofs.YtnbjflcfdncocaaW.PrintMore

theorem Get1_nil (B : List Int) (at_ : Nat) (hb : Bytes_ B) (hl : B.length ≤ 65536) (ha : at_ ≤ B.length) (hd : B.drop at_ = []) (k : Nat) (hk : 10 < k) : wire_Get.f k B (at_ : Int) 1 = some (0, 0, 3) := by
  have := Get_eq B [] at_ 1 hb hl ha hd (by omega) (by omega) k hk
  simpa using this
theorem Get1_cons (B : List Int) (at_ : Nat) (c : Int) (tl : List Int) (hb : Bytes_ B) (hl : B.length ≤ 65536) (ha : at_ ≤ B.length) (hd : B.drop at_ = c :: tl) (k : Nat) (hk : 10 < k) : wire_Get.f k B (at_ : Int) 1 = some (c, ((at_ + 1 : Nat) : Int), 0) := by
  have := Get_eq B (c :: tl) at_ 1 hb hl ha hd (by omega) (by omega) k hk
  have e : numL [c] = c := by simp [numL]
  simp only [List.length_cons, List.take_succ_cons, List.take_zero, e] at this
  rw [if_neg (by omega)] at this
  exact this
theorem at_cons {B : List Int} {at_ : Nat} {c : Int} {tl : List Int} (hd : B.drop at_ = c :: tl) : at_ < B.length ∧ B.drop (at_ + 1) = tl ∧ tl.length + 1 = B.length - at_ ∧ rd B (at_ : Int) = c := by
  have h := congrArg List.length hd
  simp only [List.length_drop, List.length_cons] at h
  have hlt : at_ < B.length := by omega
  have h2 := drop_cons B at_ hlt
  rw [hd] at h2
  refine ⟨hlt, (List.cons.inj h2).2.symm, by omega, ?_⟩
  rw [rd_nat]; exact (List.cons.inj h2).1.symm
/-- What a number with a sign is. -/
def gint (l : List Int) : Option (Int × List Int) :=
  if l.length < 9 ∨ l.getD 0 0 > 1 then none
  else if numL ((l.drop 1).take 8) > 1152921504606846976 ∨ (l.getD 0 0 = 1 ∧ numL ((l.drop 1).take 8) = 0) then none
  else some (if l.getD 0 0 = 1 then -numL ((l.drop 1).take 8) else numL ((l.drop 1).take 8), l.drop 9)
theorem GetInt_eq (B rest : List Int) (at_ : Nat) (hb : Bytes_ B) (hl : B.length ≤ 65536) (ha : at_ ≤ B.length) (hd : B.drop at_ = rest) (k : Nat) (hk : 20 < k) :
    wire_GetInt.f k B (at_ : Int) = some (match gint rest with | none => (0, 0, 3) | some (n, _) => (n, ((at_ + 9 : Nat) : Int), 0)) := by
  obtain ⟨k, rfl⟩ : ∃ m, k = m + 3 := ⟨k - 3, by omega⟩
  have hr : rest.length = B.length - at_ := by rw [← hd]; simp
  unfold wire_GetInt.f
  rw [if_neg (by omega), decide_eq_false (by omega)]
  simp only [wire_GetInt.j0]
  rw [if_neg (by decide), wrap_in _ (by omega) (by omega)]
  unfold gint
  by_cases h9 : rest.length < 9
  · rw [if_pos (by omega), if_pos (.inl h9)]
    simp only [wire_GetInt.j1]; rfl
  · obtain ⟨c, tl, rfl⟩ : ∃ c tl, rest = c :: tl := by
      rcases rest with _ | ⟨c, tl⟩
      · simp at h9
      · exact ⟨c, tl, rfl⟩
    obtain ⟨a1, a2, a3, a4⟩ := at_cons hd
    have hc : (c :: tl).getD 0 0 = c := rfl
    have ht : (c :: tl).drop 1 = tl := rfl
    have h8 : 8 ≤ tl.length := by simp only [List.length_cons] at h9; omega
    rw [if_neg (by omega), if_pos (by omega), if_pos (by omega), a4, hc, ht]
    by_cases h1 : c > 1
    · rw [if_pos (.inr h1), decide_eq_true h1]
      simp only [wire_GetInt.j1]; rfl
    · rw [if_neg (by rintro (h | h); exact h9 h; exact h1 h), decide_eq_false h1]
      simp only [wire_GetInt.j1]
      have hbt : Bytes_ (tl.take 8) := Bytes_take (by rw [← a2]; exact Bytes_drop hb _) 8
      have hlt : (tl.take 8).length = 8 := by simp; omega
      have hn := numL_bound 8 (tl.take 8) hlt hbt
      have e : (B.take ((at_ : Int) + 9).toNat).drop ((at_ : Int) + 1).toNat = tl.take 8 := by
        rw [show ((at_ : Int) + 9).toNat = at_ + 9 from by omega, show ((at_ : Int) + 1).toNat = at_ + 1 from by omega, List.drop_take, a2]
        congr 1; omega
      rw [if_neg (by decide), wrap_in ((at_ : Int) + 1) (by omega) (by omega), wrap_in ((at_ : Int) + 9) (by omega) (by omega), if_pos (by omega), if_pos (by omega), if_pos (by omega), e, num_eq _ hbt (by omega) (k + 1) (by omega), Option.bind_some]
      obtain ⟨z, hz⟩ : ∃ z, z = numL (tl.take 8) := ⟨_, rfl⟩
      rw [← hz] at hn ⊢
      by_cases h2 : z > 1152921504606846976
      · rw [if_pos h2, if_pos (.inl h2)]
        simp only [wire_GetInt.j2]; rfl
      · rw [if_neg h2, if_pos (by omega), if_pos (by omega), a4]
        by_cases h3 : c = 1
        · rw [if_pos h3]
          by_cases h4 : z = 0
          · rw [if_pos (.inr ⟨h3, h4⟩), show (z == 0) = true from by rw [h4]; rfl]
            simp only [wire_GetInt.j2]; rfl
          · rw [if_neg (by rintro (h | h); exact h2 h; exact h4 h.2), show (z == 0) = false from by simpa using h4]
            simp only [wire_GetInt.j2]
            rw [if_neg (by decide), if_pos (by omega), if_pos (by omega), a4, if_pos h3, if_pos h3, wrap_in z (by omega) (by omega), wrap_in (-z) (by omega) (by omega), wrap_in ((at_ : Int) + 9) (by omega) (by omega)]
            rfl
        · rw [if_neg h3, if_neg (by rintro (h | h); exact h2 h; exact h3 h.1)]
          simp only [wire_GetInt.j2]
          rw [if_neg (by decide), if_pos (by omega), if_pos (by omega), a4, if_neg h3, if_neg h3, wrap_in z (by omega) (by omega), wrap_in ((at_ : Int) + 9) (by omega) (by omega)]
          rfl
/-- What a value is. -/
def ok (v : Val) (tl : List Int) : Option (Val × List Int) := if goodV v then some (v, tl) else none
theorem ok_pos {v : Val} (h : goodV v) (tl : List Int) : ok v tl = some (v, tl) := if_pos h
theorem ok_neg {v : Val} (h : ¬ goodV v) (tl : List Int) : ok v tl = none := if_neg h
def rval2 : List Int → Option (Val × List Int)
  | [] => none
  | b :: t => ok ⟨2, b, ⟨#[]⟩⟩ t
def rval3 (l : List Int) : Option (Val × List Int) := (gint l).bind fun p => ok ⟨3, p.1, ⟨#[]⟩⟩ p.2
def rval4 : List Int → Option (Val × List Int)
  | [] => none
  | b :: t => if b > 24 ∨ (t.length : Int) < b then none else ok ⟨4, 0, strOfNums (t.take b.toNat)⟩ (t.drop b.toNat)
def rval : List Int → Option (Val × List Int)
  | [] => none
  | c :: tl => if c = 2 then rval2 tl else if c = 3 then rval3 tl else if c = 4 then rval4 tl else ok ⟨c, 0, ⟨#[]⟩⟩ tl
/-- The values that value.Read tells, and where the next begins. -/
def ValIs (B rest : List Int) (at_ k : Nat) : Prop :=
  (rval rest = none ∧ ∃ e, e ≠ 0 ∧ value_Read.f k B (at_ : Int) = some (0, 0, ⟨#[]⟩, 0, e)) ∨
  (∃ (v : Val) (tl : List Int) (at1 : Nat), rval rest = some (v, tl) ∧ at_ < at1 ∧ at1 ≤ B.length ∧ B.drop at1 = tl ∧ value_Read.f k B (at_ : Int) = some (v.f0, v.f1, v.f2, (at1 : Int), 0))
theorem Check3 (a b : Int) (s : ByteArray) : value_Check.f a b s = some (if goodV ⟨a, b, s⟩ then 0 else 1) := Check_eq ⟨a, b, s⟩
theorem gint_some {l : List Int} {p : Int × List Int} (h : gint l = some p) : 9 ≤ l.length ∧ l.drop 9 = p.2 := by
  unfold gint at h
  split at h
  · cases h
  · rename_i h1
    split at h
    · cases h
    · have := Option.some.inj h
      rw [← this]
      exact ⟨by omega, rfl⟩
theorem valRead_eq (B rest : List Int) (at_ : Nat) (hb : Bytes_ B) (hl : B.length ≤ 65536) (ha : at_ ≤ B.length) (hd : B.drop at_ = rest) (k : Nat) (hk : 20 < k) : ValIs B rest at_ k := by
  unfold ValIs value_Read.f
  rcases rest with _ | ⟨c, tl⟩
  · rw [Get1_nil B at_ hb hl ha hd k (by omega), Option.bind_some]
    exact .inl ⟨rfl, 3, by decide, by rw [if_neg (by decide)]⟩
  · obtain ⟨a1, a2, a3, a4⟩ := at_cons hd
    rw [Get1_cons B at_ c tl hb hl ha hd k (by omega), Option.bind_some, if_pos rfl]
    by_cases h2 : c = 2
    · subst h2
      have e0 : rval (2 :: tl) = rval2 tl := rfl
      rw [if_pos rfl, e0]
      rcases tl with _ | ⟨b, t⟩
      · rw [Get1_nil B (at_ + 1) hb hl (by omega) a2 k (by omega), Option.bind_some]
        exact .inl ⟨rfl, 3, by decide, by rw [if_neg (by decide)]⟩
      · obtain ⟨b1, b2, b3, b4⟩ := at_cons a2
        have e1 : rval2 (b :: t) = ok ⟨2, b, ⟨#[]⟩⟩ t := rfl
        rw [Get1_cons B (at_ + 1) b t hb hl (by omega) a2 k (by omega), Option.bind_some, if_pos rfl, Check3, Option.bind_some, e1]
        by_cases hg : goodV ⟨2, b, ⟨#[]⟩⟩
        · rw [if_pos hg, ok_pos hg, if_pos rfl]
          exact .inr ⟨_, _, at_ + 1 + 1, rfl, by omega, by omega, b2, rfl⟩
        · rw [if_neg hg, ok_neg hg, if_neg (by decide)]
          exact .inl ⟨rfl, 3, by decide, rfl⟩
    · rw [if_neg h2]
      by_cases h3 : c = 3
      · subst h3
        have e0 : rval (3 :: tl) = rval3 tl := rfl
        rw [if_pos rfl, e0, GetInt_eq B tl (at_ + 1) hb hl (by omega) a2 k hk, Option.bind_some]
        rcases hg : gint tl with _ | ⟨n, t⟩
        · exact .inl ⟨by unfold rval3; rw [hg]; rfl, 3, by decide, rfl⟩
        · have e1 : rval3 tl = ok ⟨3, n, ⟨#[]⟩⟩ t := by unfold rval3; rw [hg]; rfl
          have h9 := gint_some hg
          simp only
          rw [if_pos trivial, Check3, Option.bind_some, e1]
          by_cases hq : goodV ⟨3, n, ⟨#[]⟩⟩
          · rw [if_pos hq, ok_pos hq, if_pos rfl]
            exact .inr ⟨_, _, at_ + 1 + 9, rfl, by omega, by omega, by rw [← List.drop_drop, a2]; exact h9.2, rfl⟩
          · rw [if_neg hq, ok_neg hq, if_neg (by decide)]
            exact .inl ⟨rfl, 3, by decide, rfl⟩
      · rw [if_neg h3]
        by_cases h4 : c = 4
        · subst h4
          have e0 : rval (4 :: tl) = rval4 tl := rfl
          rw [if_pos rfl, e0, GetText_eq B tl (at_ + 1) hb hl (by omega) a2 k (by omega), Option.bind_some]
          rcases tl with _ | ⟨b, t⟩
          · exact .inl ⟨rfl, 3, by decide, rfl⟩
          · obtain ⟨b1, b2, b3, b4⟩ := at_cons a2
            have hbb : Byte b := hb b (by have : b ∈ B.drop (at_ + 1) := by { rw [a2]; simp }; exact List.mem_of_mem_drop this)
            unfold Byte at hbb
            simp only
            by_cases h5 : b > 24 ∨ (t.length : Int) < b
            · rw [if_pos h5]
              exact .inl ⟨if_pos h5, 3, by decide, rfl⟩
            · have e1 : rval4 (b :: t) = ok ⟨4, 0, strOfNums (t.take b.toNat)⟩ (t.drop b.toNat) := if_neg h5
              rw [if_neg h5]
              simp only
              rw [if_pos trivial, Check3, Option.bind_some, e1]
              by_cases hq : goodV ⟨4, 0, strOfNums (t.take b.toNat)⟩
              · rw [if_pos hq, ok_pos hq, if_pos rfl]
                refine .inr ⟨_, _, at_ + 1 + 1 + b.toNat, rfl, by omega, by omega, by rw [← List.drop_drop, b2], ?_⟩
                rw [show ((at_ + 1 : Nat) : Int) + 1 + b = ((at_ + 1 + 1 + b.toNat : Nat) : Int) from by omega]
              · rw [if_neg hq, ok_neg hq, if_neg (by decide)]
                exact .inl ⟨rfl, 3, by decide, rfl⟩
        · have e0 : rval (c :: tl) = ok ⟨c, 0, ⟨#[]⟩⟩ tl := (if_neg h2).trans ((if_neg h3).trans (if_neg h4))
          rw [if_neg h4, Check3, Option.bind_some, e0]
          by_cases hq : goodV ⟨c, 0, ⟨#[]⟩⟩
          · rw [if_pos hq, ok_pos hq, if_pos rfl]
            exact .inr ⟨_, _, at_ + 1, rfl, by omega, by omega, a2, rfl⟩
          · rw [if_neg hq, ok_neg hq, if_neg (by decide)]
            exact .inl ⟨rfl, 3, by decide, rfl⟩
/-- What a row is. -/
def rvals : Nat → List Int → Option (List Val × List Int)
  | 0, l => some ([], l)
  | n + 1, l => (rval l).bind fun p => (rvals n p.2).bind fun q => some (p.1 :: q.1, q.2)
def rrow : List Int → Option (List Val × List Int)
  | [] => none
  | c :: tl => if c > 12 then none else rvals c.toNat tl
theorem rvals_l0 (B : List Int) (hb : Bytes_ B) (hl : B.length ≤ 65536) (m : Nat) (hm : m ≤ 12) : ∀ (d i k at_ : Nat) (acc : List Val) (rest : List Int), i + d = m → acc.length = i → at_ ≤ B.length → B.drop at_ = rest → d + 21 < k →
    (rvals d rest = none ∧ ∃ e, e ≠ 0 ∧ row_Read.l0 k B acc (at_ : Int) (m : Int) (i : Int) = some ([], 0, e)) ∨
    (∃ (vs : List Val) (tl : List Int) (at1 : Nat), rvals d rest = some (vs, tl) ∧ at1 ≤ B.length ∧ B.drop at1 = tl ∧ row_Read.l0 k B acc (at_ : Int) (m : Int) (i : Int) = some (acc ++ vs, (at1 : Int), 0)) := by
  intro d
  induction d with
  | zero =>
    intro i k at_ acc rest h1 h2 h3 h4 hk
    obtain ⟨k, rfl⟩ : ∃ m, k = m + 1 := ⟨k - 1, by omega⟩
    simp only [row_Read.l0]
    refine .inr ⟨[], rest, at_, rfl, h3, h4, ?_⟩
    rw [if_neg (by omega), List.append_nil]
  | succ d ih =>
    intro i k at_ acc rest h1 h2 h3 h4 hk
    obtain ⟨k, rfl⟩ : ∃ m, k = m + 1 := ⟨k - 1, by omega⟩
    have hv := valRead_eq B rest at_ hb hl h3 h4 k (by omega)
    have e0 : rvals (d + 1) rest = (rval rest).bind fun p => (rvals d p.2).bind fun q => some (p.1 :: q.1, q.2) := rfl
    simp only [row_Read.l0]
    rw [if_pos (by omega), e0]
    rcases hv with ⟨hr, e, he, hv⟩ | ⟨v, t, at1, hr, hlt, hle, hd1, hv⟩
    · rw [hr, hv, Option.bind_some, if_neg he]
      exact .inl ⟨rfl, 3, by decide, rfl⟩
    · have := ih (i + 1) k at1 (acc ++ [v]) t (by omega) (by simp [h2]) hle hd1 (by omega)
      rw [hr, hv, Option.bind_some, Option.bind_some, if_pos rfl, if_pos (by omega), wrap_in _ (by omega) (by omega), show (i : Int) + 1 = ((i + 1 : Nat) : Int) from by omega]
      rcases this with ⟨g0, e, he, g1⟩ | ⟨vs, tl, at2, g0, g1, g2, g3⟩
      · rw [g0]
        exact .inl ⟨rfl, e, he, g1⟩
      · rw [g0]
        refine .inr ⟨v :: vs, tl, at2, rfl, g1, g2, ?_⟩
        rw [List.append_assoc] at g3
        exact g3
theorem rowRead_eq (B rest : List Int) (at_ : Nat) (hb : Bytes_ B) (hl : B.length ≤ 65536) (ha : at_ ≤ B.length) (hd : B.drop at_ = rest) (k : Nat) (hk : 40 < k) :
    (rrow rest = none ∧ ∃ e, e ≠ 0 ∧ row_Read.f k B (at_ : Int) = some ([], 0, e)) ∨
    (∃ (vs : List Val) (tl : List Int) (at1 : Nat), rrow rest = some (vs, tl) ∧ at1 ≤ B.length ∧ B.drop at1 = tl ∧ row_Read.f k B (at_ : Int) = some (vs, (at1 : Int), 0)) := by
  unfold row_Read.f
  rcases rest with _ | ⟨c, tl⟩
  · rw [Get1_nil B at_ hb hl ha hd k (by omega), Option.bind_some]
    exact .inl ⟨rfl, 3, by decide, by rw [if_neg (by decide)]⟩
  · obtain ⟨a1, a2, a3, a4⟩ := at_cons hd
    have hbb : Byte c := hb c (by have : c ∈ B.drop at_ := by { rw [hd]; simp }; exact List.mem_of_mem_drop this)
    unfold Byte at hbb
    rw [Get1_cons B at_ c tl hb hl ha hd k (by omega), Option.bind_some, if_pos rfl]
    by_cases h : c > 12
    · rw [if_pos h, show rrow (c :: tl) = none from if_pos h]
      exact .inl ⟨rfl, 3, by decide, rfl⟩
    · rw [if_neg h, show rrow (c :: tl) = rvals c.toNat tl from if_neg h]
      have := rvals_l0 B hb hl c.toNat (by omega) c.toNat 0 k (at_ + 1) [] tl (by omega) rfl (by omega) a2 (by omega)
      rw [show ((c.toNat : Nat) : Int) = c from by omega, show ((0 : Nat) : Int) = 0 from rfl] at this
      exact this
end Go.Proofs.Ytnbjflcfdncocaa.M

/- The reader's contract for an operation (Op), walked by hand. -/
namespace Go.Proofs.Ytnbjflcfdncocaa.M
open Go.RowKit Go.Proofs.YtnbjflcfdncocaaW.PrintWords Go.Proofs.YtnbjflcfdncocaaW.PrintLast Go.Proofs.YtnbjflcfdncocaaW.PrintMore

def rdots : Nat → List Int × Bool → List Dt × (List Int × Bool)
  | 0, st => ([], st)
  | k + 1, st => ((rdots k st).1 ++ [(rdot (rdots k st).2).1], (rdot (rdots k st).2).2)
theorem rdots_length (st : List Int × Bool) : ∀ k, (rdots k st).1.length = k
  | 0 => rfl
  | k + 1 => by simp [rdots, rdots_length st k]
/-- An operation's head, as it is read: all but its values and its dots. -/
structure Head where
  kind : Int
  dot : Dt
  deps : List Int
  stamp : S51
  table : Int
  key : ByteArray
  col : Int
def rhead (st : List Int × Bool) : Head × (List Int × Bool) :=
  (⟨(rnum 1 st).1, (rdot (rnum 1 st).2).1, (rnums (rdot (rnum 1 st).2).2).1, (rstamp (rnums (rdot (rnum 1 st).2).2).2).1, (rnum 1 (rstamp (rnums (rdot (rnum 1 st).2).2).2).2).1,
    (rtext (rnum 1 (rstamp (rnums (rdot (rnum 1 st).2).2).2).2).2).1, (rnum 1 (rtext (rnum 1 (rstamp (rnums (rdot (rnum 1 st).2).2).2).2).2).2).1⟩, (rnum 1 (rtext (rnum 1 (rstamp (rnums (rdot (rnum 1 st).2).2).2).2).2).2).2)
def rdl (st : List Int × Bool) : List Dt × (List Int × Bool) := rdots (rmany 1 64 st).1.toNat (rmany 1 64 st).2
def mkOp (h : Head) (vs : List Val) (ds : List Dt) : Opr := ⟨h.dot, h.deps, h.stamp, h.kind, h.table, h.key, h.col, vs, ds⟩
def rtail (h : Head × (List Int × Bool)) : Option (List Val × List Int) → Opr × (List Int × Bool)
  | none => (z55, (h.2.1, true))
  | some (vs, tl) => if h.2.2 = true then (z55, (h.2.1, true)) else (mkOp h.1 vs (rdl (tl, false)).1, (rdl (tl, false)).2)
def rop (st : List Int × Bool) : Opr × (List Int × Bool) := rtail (rhead st) (rrow (rhead st).2.1)
theorem set12 {W : World} {b t : Nat} {a0 a1 a2 a3 a4 a5 a6 a7 a8 a9 a10 a11 : Value} (h : W.heap[b]? = some (.cells #[a0, a1, a2, a3, a4, a5, a6, a7, a8, a9, a10, a11] t (0, 0))) (c0 c1 c2 c3 c4 c5 c6 c7 c8 c9 c10 c11 : Value) :
    (((((((((((((W.setCell ⟨b, 0, none⟩ c0).setCell ⟨b, 1, none⟩ c1).setCell ⟨b, 2, none⟩ c2).setCell ⟨b, 3, none⟩ c3).setCell ⟨b, 4, none⟩ c4).setCell ⟨b, 5, none⟩ c5).setCell ⟨b, 6, none⟩ c6).setCell ⟨b, 7, none⟩ c7).setCell ⟨b, 8, none⟩ c8).setCell ⟨b, 9, none⟩ c9).setCell ⟨b, 10, none⟩ c10).setCell ⟨b, 11, none⟩ c11)).heap[b]? = some (.cells #[c0, c1, c2, c3, c4, c5, c6, c7, c8, c9, c10, c11] t (0, 0)) := by
  have h1 : (W.setCell ⟨b, 0, none⟩ c0).heap[b]? = some (.cells #[c0, a1, a2, a3, a4, a5, a6, a7, a8, a9, a10, a11] t (0, 0)) := blk_set h 0 c0
  have h2 : ((W.setCell ⟨b, 0, none⟩ c0).setCell ⟨b, 1, none⟩ c1).heap[b]? = some (.cells #[c0, c1, a2, a3, a4, a5, a6, a7, a8, a9, a10, a11] t (0, 0)) := blk_set h1 1 c1
  have h3 : (((W.setCell ⟨b, 0, none⟩ c0).setCell ⟨b, 1, none⟩ c1).setCell ⟨b, 2, none⟩ c2).heap[b]? = some (.cells #[c0, c1, c2, a3, a4, a5, a6, a7, a8, a9, a10, a11] t (0, 0)) := blk_set h2 2 c2
  have h4 : ((((W.setCell ⟨b, 0, none⟩ c0).setCell ⟨b, 1, none⟩ c1).setCell ⟨b, 2, none⟩ c2).setCell ⟨b, 3, none⟩ c3).heap[b]? = some (.cells #[c0, c1, c2, c3, a4, a5, a6, a7, a8, a9, a10, a11] t (0, 0)) := blk_set h3 3 c3
  have h5 : (((((W.setCell ⟨b, 0, none⟩ c0).setCell ⟨b, 1, none⟩ c1).setCell ⟨b, 2, none⟩ c2).setCell ⟨b, 3, none⟩ c3).setCell ⟨b, 4, none⟩ c4).heap[b]? = some (.cells #[c0, c1, c2, c3, c4, a5, a6, a7, a8, a9, a10, a11] t (0, 0)) := blk_set h4 4 c4
  have h6 : ((((((W.setCell ⟨b, 0, none⟩ c0).setCell ⟨b, 1, none⟩ c1).setCell ⟨b, 2, none⟩ c2).setCell ⟨b, 3, none⟩ c3).setCell ⟨b, 4, none⟩ c4).setCell ⟨b, 5, none⟩ c5).heap[b]? = some (.cells #[c0, c1, c2, c3, c4, c5, a6, a7, a8, a9, a10, a11] t (0, 0)) := blk_set h5 5 c5
  have h7 : (((((((W.setCell ⟨b, 0, none⟩ c0).setCell ⟨b, 1, none⟩ c1).setCell ⟨b, 2, none⟩ c2).setCell ⟨b, 3, none⟩ c3).setCell ⟨b, 4, none⟩ c4).setCell ⟨b, 5, none⟩ c5).setCell ⟨b, 6, none⟩ c6).heap[b]? = some (.cells #[c0, c1, c2, c3, c4, c5, c6, a7, a8, a9, a10, a11] t (0, 0)) := blk_set h6 6 c6
  have h8 : ((((((((W.setCell ⟨b, 0, none⟩ c0).setCell ⟨b, 1, none⟩ c1).setCell ⟨b, 2, none⟩ c2).setCell ⟨b, 3, none⟩ c3).setCell ⟨b, 4, none⟩ c4).setCell ⟨b, 5, none⟩ c5).setCell ⟨b, 6, none⟩ c6).setCell ⟨b, 7, none⟩ c7).heap[b]? = some (.cells #[c0, c1, c2, c3, c4, c5, c6, c7, a8, a9, a10, a11] t (0, 0)) := blk_set h7 7 c7
  have h9 : (((((((((W.setCell ⟨b, 0, none⟩ c0).setCell ⟨b, 1, none⟩ c1).setCell ⟨b, 2, none⟩ c2).setCell ⟨b, 3, none⟩ c3).setCell ⟨b, 4, none⟩ c4).setCell ⟨b, 5, none⟩ c5).setCell ⟨b, 6, none⟩ c6).setCell ⟨b, 7, none⟩ c7).setCell ⟨b, 8, none⟩ c8).heap[b]? = some (.cells #[c0, c1, c2, c3, c4, c5, c6, c7, c8, a9, a10, a11] t (0, 0)) := blk_set h8 8 c8
  have h10 : ((((((((((W.setCell ⟨b, 0, none⟩ c0).setCell ⟨b, 1, none⟩ c1).setCell ⟨b, 2, none⟩ c2).setCell ⟨b, 3, none⟩ c3).setCell ⟨b, 4, none⟩ c4).setCell ⟨b, 5, none⟩ c5).setCell ⟨b, 6, none⟩ c6).setCell ⟨b, 7, none⟩ c7).setCell ⟨b, 8, none⟩ c8).setCell ⟨b, 9, none⟩ c9).heap[b]? = some (.cells #[c0, c1, c2, c3, c4, c5, c6, c7, c8, c9, a10, a11] t (0, 0)) := blk_set h9 9 c9
  have h11 : (((((((((((W.setCell ⟨b, 0, none⟩ c0).setCell ⟨b, 1, none⟩ c1).setCell ⟨b, 2, none⟩ c2).setCell ⟨b, 3, none⟩ c3).setCell ⟨b, 4, none⟩ c4).setCell ⟨b, 5, none⟩ c5).setCell ⟨b, 6, none⟩ c6).setCell ⟨b, 7, none⟩ c7).setCell ⟨b, 8, none⟩ c8).setCell ⟨b, 9, none⟩ c9).setCell ⟨b, 10, none⟩ c10).heap[b]? = some (.cells #[c0, c1, c2, c3, c4, c5, c6, c7, c8, c9, c10, a11] t (0, 0)) := blk_set h10 10 c10
  have h12 : ((((((((((((W.setCell ⟨b, 0, none⟩ c0).setCell ⟨b, 1, none⟩ c1).setCell ⟨b, 2, none⟩ c2).setCell ⟨b, 3, none⟩ c3).setCell ⟨b, 4, none⟩ c4).setCell ⟨b, 5, none⟩ c5).setCell ⟨b, 6, none⟩ c6).setCell ⟨b, 7, none⟩ c7).setCell ⟨b, 8, none⟩ c8).setCell ⟨b, 9, none⟩ c9).setCell ⟨b, 10, none⟩ c10).setCell ⟨b, 11, none⟩ c11).heap[b]? = some (.cells #[c0, c1, c2, c3, c4, c5, c6, c7, c8, c9, c10, c11] t (0, 0)) := blk_set h11 11 c11
  exact h12
theorem rinfo49 : (Try.prog.info? 49).map (fun i => (i.zero, i.size, i.bytes)) = some (some (.agg #[.int .i64 0, .int .i64 0]), 2, 16) := by kernel_rfl
theorem heap_set {W1 W : World} {k b i : Nat} {u : Value} (h : W1.heap[k]? = W.heap[k]?) (hk : k ≠ b) : (W1.setCell ⟨b, i, none⟩ u).heap[k]? = W.heap[k]? := (Below.heap_setCell W1 ⟨b, i, none⟩ u k hk).trans h
theorem Kd.R_elder0 {α : Type} {d : Kd α} {e : Nat} {w w1 : World} {v : Value} {xs : List α} {g : Nat} (h : Kd.R d e w1 w.heap.size (fun _ => True) v xs) (hg : g < w.heap.size) : Kd.R d e w1 w.heap.size (fun k => k ≠ g) v xs :=
  Kd.R_mono (Kd.R_bound h) (fun k hk => by have := hk.2.1; omega)
set_option maxHeartbeats 8000000 in
set_option maxRecDepth 100000 in
theorem R_op (w0 w : World) (g : Nat) (B rest : List Int) (bad : Bool) (h : IsR w0 w g B rest bad) :
    Calls Try.prog 40 #[.pointer (some ⟨g, 0, none⟩)] w fun en w' => ∃ cs : List Value, en = .returned (.agg cs.toArray) ∧ k55.M w' w.heap.size (fun k => k ≠ g) (rop (rest, bad)).1 cs ∧
      IsR w0 w' g B (rop (rest, bad)).2.1 (rop (rest, bad)).2.2 ∧ KeepBut w w' g none := by
  have hgl : g < w.heap.size := h.lt
  have hne : w.heap.size ≠ g := by omega
  have H0 := Aside0.mk (h.alloc (.cells #[.int .i64 0, .int .i64 0, .slice none 0 0, .int .i64 0, .int .i64 0, .int .i64 0, .int .i64 0, .int .i64 0, .string ⟨#[]⟩, .int .i64 0, .slice none 0 0, .slice none 0 0] 55))
  have K0 := Aside0.mk (keep_alloc (KeepBut.refl w g none) (.cells #[.int .i64 0, .int .i64 0, .slice none 0 0, .int .i64 0, .int .i64 0, .int .i64 0, .int .i64 0, .int .i64 0, .string ⟨#[]⟩, .int .i64 0, .slice none 0 0, .slice none 0 0] 55))
  have D0 := Aside0.mk (heap_alloc_new w (.cells #[.int .i64 0, .int .i64 0, .slice none 0 0, .int .i64 0, .int .i64 0, .int .i64 0, .int .i64 0, .int .i64 0, .string ⟨#[]⟩, .int .i64 0, .slice none 0 0, .slice none 0 0] 55))
  have HNE := Aside0.mk hne
  have HB0 := Aside0.mk (below_size h.1)
  clear h hgl hne
  obtain ⟨q1, hq1⟩ : ∃ q, q = rnum 1 (rest, bad) := ⟨_, rfl⟩
  obtain ⟨q2, hq2⟩ : ∃ q, q = rdot (q1.2.1, q1.2.2) := ⟨_, rfl⟩
  obtain ⟨q3, hq3⟩ : ∃ q, q = rnums (q2.2.1, q2.2.2) := ⟨_, rfl⟩
  obtain ⟨q4, hq4⟩ : ∃ q, q = rstamp (q3.2.1, q3.2.2) := ⟨_, rfl⟩
  obtain ⟨q5, hq5⟩ : ∃ q, q = rnum 1 (q4.2.1, q4.2.2) := ⟨_, rfl⟩
  obtain ⟨q6, hq6⟩ : ∃ q, q = rtext (q5.2.1, q5.2.2) := ⟨_, rfl⟩
  obtain ⟨q7, hq7⟩ : ∃ q, q = rnum 1 (q6.2.1, q6.2.2) := ⟨_, rfl⟩
  have HS := Aside0.mk (show rop (rest, bad) = rtail (⟨q1.1, q2.1, q3.1, q4.1, q5.1, q6.1, q7.1⟩, q7.2) (rrow q7.2.1) from by rw [hq7, hq6, hq5, hq4, hq3, hq2, hq1]; rfl)
  have HQ1 := Aside0.mk hq1
  have HQ2 := Aside0.mk hq2
  have HQ3 := Aside0.mk hq3
  have HQ4 := Aside0.mk hq4
  have HQ5 := Aside0.mk hq5
  have HQ6 := Aside0.mk hq6
  have HQ7 := Aside0.mk hq7
  clear hq1 hq2 hq3 hq4 hq5 hq6 hq7
  go_enter Try.func40, Try.ntmps40
  go_wp2_with fail
  refine (R_num w0 _ g B rest bad H0.out 1 1 rfl (by omega) (by omega)).mono ?_
  rintro e w1 ⟨rfl, hi, hk⟩
  rw [← HQ1.out] at hi
  rw [← HQ1.out]
  have D1 := Aside0.mk (hk.blk D0.out HNE.out (by simp))
  have H1 := Aside0.mk hi
  have K1 := Aside0.mk (keep_then K0.out hk)
  clear hi hk HQ1
  go_wp2_with fail
  refine (R_dot w0 _ g B q1.2.1 q1.2.2 H1.out).mono ?_
  rintro e w2 ⟨rfl, hi, hk⟩
  rw [← HQ2.out] at hi
  rw [← HQ2.out]
  have D2 := Aside0.mk (hk.blk D1.out HNE.out (by simp))
  have H2 := Aside0.mk hi
  have K2 := Aside0.mk (keep_then K1.out hk)
  clear hi hk HQ2
  go_wp2_with fail
  refine (R_nums w0 _ g B q2.2.1 q2.2.2 H2.out).mono ?_
  rintro e w3 ⟨v, rfl, ho, hi, hk⟩
  rw [← HQ3.out] at hi ho
  obtain ⟨Ad, cd, rfl⟩ := Kd.R_slice ho
  have O3 := Aside0.mk (Kd.R_lower ho (keep_size K2.out))
  have D3 := Aside0.mk (hk.blk D2.out HNE.out (by simp))
  have H3 := Aside0.mk hi
  have K3 := Aside0.mk (keep_then K2.out hk)
  clear hi hk HQ3 ho
  go_wp2_with fail
  refine (R_stamp w0 _ g B q3.2.1 q3.2.2 H3.out).mono ?_
  rintro e w4 ⟨rfl, hi, hk⟩
  rw [← HQ4.out] at hi
  rw [← HQ4.out]
  have O4 := Aside0.mk (Kd.R_keep O3.out hk (fun _ h => h))
  have D4 := Aside0.mk (hk.blk D3.out HNE.out (by simp))
  have H4 := Aside0.mk hi
  have K4 := Aside0.mk (keep_then K3.out hk)
  clear hi hk HQ4
  go_wp2_with fail
  refine (R_num w0 _ g B q4.2.1 q4.2.2 H4.out 1 1 rfl (by omega) (by omega)).mono ?_
  rintro e w5 ⟨rfl, hi, hk⟩
  rw [← HQ5.out] at hi
  rw [← HQ5.out]
  have O5 := Aside0.mk (Kd.R_keep O4.out hk (fun _ h => h))
  have D5 := Aside0.mk (hk.blk D4.out HNE.out (by simp))
  have H5 := Aside0.mk hi
  have K5 := Aside0.mk (keep_then K4.out hk)
  clear hi hk HQ5
  go_wp2_with fail
  refine (R_text w0 _ g B q5.2.1 q5.2.2 H5.out).mono ?_
  rintro e w6 ⟨rfl, hi, hk⟩
  rw [← HQ6.out] at hi
  rw [← HQ6.out]
  have O6 := Aside0.mk (Kd.R_keep O5.out hk (fun _ h => h))
  have D6 := Aside0.mk (hk.blk D5.out HNE.out (by simp))
  have H6 := Aside0.mk hi
  have K6 := Aside0.mk (keep_then K5.out hk)
  clear hi hk HQ6
  go_wp2_with fail
  refine (R_num w0 _ g B q6.2.1 q6.2.2 H6.out 1 1 rfl (by omega) (by omega)).mono ?_
  rintro e w7 ⟨rfl, hi, hk⟩
  rw [← HQ7.out] at hi
  rw [← HQ7.out]
  have O7 := Aside0.mk (Kd.R_keep O6.out hk (fun _ h => h))
  have D7 := Aside0.mk (hk.blk D6.out HNE.out (by simp))
  have H7 := Aside0.mk hi
  have K7 := Aside0.mk (keep_then K6.out hk)
  clear hi hk HQ7
  go_wp2
  have K8 := Aside0.mk (keep_alloc K7.out (.cells #[.int .i64 q2.1.f0, .int .i64 q2.1.f1, .slice Ad q3.1.length cd, .int .i64 q4.1.f0, .int .i64 q4.1.f1, .int .i64 q4.1.f2, .int .i64 q1.1, .int .i64 q5.1, .string q6.1, .int .i64 q7.1, .slice none 0 0, .slice none 0 0] 55))
  have H8 := Aside0.mk (H7.out.alloc (.cells #[.int .i64 q2.1.f0, .int .i64 q2.1.f1, .slice Ad q3.1.length cd, .int .i64 q4.1.f0, .int .i64 q4.1.f1, .int .i64 q4.1.f2, .int .i64 q1.1, .int .i64 q5.1, .string q6.1, .int .i64 q7.1, .slice none 0 0, .slice none 0 0] 55))
  have X8 := Aside0.mk (heap_alloc_new w7 (.cells #[.int .i64 q2.1.f0, .int .i64 q2.1.f1, .slice Ad q3.1.length cd, .int .i64 q4.1.f0, .int .i64 q4.1.f1, .int .i64 q4.1.f2, .int .i64 q1.1, .int .i64 q5.1, .string q6.1, .int .i64 q7.1, .slice none 0 0, .slice none 0 0] 55))
  have D8 := Aside0.mk (blk_below D7.out (below_alloc (Below.refl _ w7) (.cells #[.int .i64 q2.1.f0, .int .i64 q2.1.f1, .slice Ad q3.1.length cd, .int .i64 q4.1.f0, .int .i64 q4.1.f1, .int .i64 q4.1.f2, .int .i64 q1.1, .int .i64 q5.1, .string q6.1, .int .i64 q7.1, .slice none 0 0, .slice none 0 0] 55)))
  have O8 := Aside0.mk (Kd.R_alloc O7.out (.cells #[.int .i64 q2.1.f0, .int .i64 q2.1.f1, .slice Ad q3.1.length cd, .int .i64 q4.1.f0, .int .i64 q4.1.f1, .int .i64 q4.1.f2, .int .i64 q1.1, .int .i64 q5.1, .string q6.1, .int .i64 q7.1, .slice none 0 0, .slice none 0 0] 55))
  have hxg : w7.heap.size ≠ g := by have := H7.out.lt; omega
  have hxr : w7.heap.size ≠ w.heap.size := by have := blk_lt D7.out; omega
  have hxw : w.heap.size ≤ w7.heap.size := keep_size K7.out
  obtain ⟨w8, hw8⟩ : ∃ w8, w8 = w7.alloc (.cells #[.int .i64 q2.1.f0, .int .i64 q2.1.f1, .slice Ad q3.1.length cd, .int .i64 q4.1.f0, .int .i64 q4.1.f1, .int .i64 q4.1.f2, .int .i64 q1.1, .int .i64 q5.1, .string q6.1, .int .i64 q7.1, .slice none 0 0, .slice none 0 0] 55) := ⟨_, rfl⟩
  rw [← hw8] at K8 H8 X8 D8 O8
  rw [← hw8]
  obtain ⟨xb, hxb⟩ : ∃ xb, xb = w7.heap.size := ⟨_, rfl⟩
  rw [← hxb] at X8 hxg hxr hxw
  rw [← hxb]
  have HXG := Aside0.mk hxg
  have HXR := Aside0.mk hxr
  have HXW := Aside0.mk hxw
  clear hw8 hxb hxg hxr hxw K7 H7 D7 O7 D0 D1 D2 D3 D4 D5 D6 H0 H1 H2 H3 H4 H5 H6 K0 K1 K2 K3 K4 K5 K6 O3 O4 O5 O6
  obtain ⟨h0, hg, h2, h3, A, c, at_, hv, hC, hc, ha, hd⟩ := H8.out
  have HP : ∃ r1 r2 r3, row_Read.f 100 B (at_ : Int) = some (r1, r2, r3) ∧ ((rrow q7.2.1 = none ∧ r3 ≠ 0) ∨ (∃ (tl : List Int) (at1 : Nat), rrow q7.2.1 = some (r1, tl) ∧ at1 ≤ B.length ∧ B.drop at1 = tl ∧ r2 = (at1 : Int) ∧ r3 = 0)) := by
    rcases rowRead_eq B q7.2.1 at_ h2 h3 ha hd 100 (by omega) with ⟨e0, e, he, e1⟩ | ⟨vs, tl, at1, e0, g1, g2, e1⟩
    · exact ⟨_, _, _, e1, .inl ⟨e0, he⟩⟩
    · exact ⟨_, _, _, e1, .inr ⟨tl, at1, e0, g1, g2, rfl, rfl⟩⟩
  obtain ⟨r1, r2, r3, hp, hr⟩ := HP
  have HP := Aside0.mk hp
  have HR := Aside0.mk hr
  have HC := Aside0.mk (Kd.C_below hC h0)
  have HC0 := Aside0.mk hC
  have Hc := Aside0.mk hc
  have HH := Aside0.mk h0
  have Hg := Aside0.mk hg
  have Hb := Aside0.mk h2
  have Hl := Aside0.mk h3
  have Hv := Aside0.mk hv
  have Ha := Aside0.mk ha
  have Hd := Aside0.mk hd
  have hs0 : w8.cell? ⟨g, 0, none⟩ = some (.slice A B.length c) := (blk_cell hv 0).trans rfl
  have hs1 : w8.cell? ⟨g, 1, none⟩ = some (.int .i64 (at_ : Int)) := (blk_cell hv 1).trans rfl
  clear h0 hg h2 h3 hv hC hc ha hd hp hr
  go_region_held3 (fun w' => w'.cell? ⟨g, 0, none⟩ = some (.slice A B.length c) ∧ w'.cell? ⟨g, 1, none⟩ = some (.int .i64 (at_ : Int))) (first | exact ⟨hs0, hs1⟩ | exact ⟨ht0, ht1⟩)
    (first | (go_at_call 56; refine (row_Read.calls 100 A c B (at_ : Int) r1 r2 r3 _ (Kd.C_below HC.out (by first | exact Below.refl _ _ | exact below_drew (Below.refl _ _) | exact pw_below_drewN (Below.refl _ _) _)) Hc.out HP.out).mono ?_; rintro e w9 ⟨v9, rfl, ho, hb⟩; obtain ⟨A9, c9, rfl⟩ := Kd.R_slice ho; have HB9 := Aside0.mk (show Below w8.heap.size w8 w9 from below_step (below_drew (Below.refl _ w8)) hb); have O9 := Aside0.mk (show Kd.R k101 101 w9 w8.heap.size (fun _ => True) (.slice A9 r1.length c9) r1 from ho); clear ho hb; have ht0 := pw_cell_below HB9.out hs0; have ht1 := pw_cell_below HB9.out hs1))
  have Hv9 := Aside0.mk (blk_below Hv.out HB9.out)
  have D9 := Aside0.mk (blk_below D8.out HB9.out)
  have X9 := Aside0.mk (blk_below X8.out HB9.out)
  have OD9 := Aside0.mk (Kd.R_below O8.out HB9.out)
  have H9 := Aside0.mk (H8.out.below HB9.out)
  have K9 := Aside0.mk (keep_then K8.out (KeepBut.of_below (row := none) HB9.out g))
  have OV9 := Aside0.mk (Kd.R_lower (Kd.R_elder0 O9.out H8.out.lt) (keep_size K8.out))
  have he2 : w9.cell? ⟨g, 2, none⟩ = some (.bool q7.2.2) := (blk_cell Hv9.out 2).trans rfl
  have hf1 := blk_frozen Hv9.out 1
  have hf2 := blk_frozen Hv9.out 2
  have hdc := fun i => blk_cell D9.out i
  have hdf := fun i => blk_frozen D9.out i
  have hxc := fun i => blk_cell X9.out i
  have hxf := fun i => blk_frozen X9.out i
  have hgr : g ≠ w.heap.size := fun e_ => HNE.out e_.symm
  clear hs0 hs1 HP
  obtain ⟨qb, hqb⟩ : ∃ qb, qb = q7.2.2 := ⟨_, rfl⟩
  have HQB := Aside0.mk hqb
  rw [← hqb] at he2 H9 Hv9
  clear hqb H8 O8 X8 D8 K8 O9 Hv
  rcases HR.out with ⟨hn, h3⟩ | ⟨tl, at1, hn, g1, g2, rfl, rfl⟩
  · have HN := Aside0.mk (show rtail (⟨q1.1, q2.1, q3.1, q4.1, q5.1, q6.1, q7.1⟩, q7.2) (rrow q7.2.1) = (z55, (q7.2.1, true)) from by rw [hn]; rfl)
    have h3b : (r3 != 0) = true := bne_iff_ne.2 h3
    clear h3 hn HR
    rcases bad_cases qb with rfl | rfl
    · go_wp2
      rw [HS.out, HN.out]
      refine bodyPost_ret (v := .agg #[.int .i64 0, .int .i64 0, .slice none 0 0, .int .i64 0, .int .i64 0, .int .i64 0, .int .i64 0, .int .i64 0, .string ⟨#[]⟩, .int .i64 0, .slice none 0 0, .slice none 0 0]) ?_ rfl ⟨[.int .i64 0, .int .i64 0, .slice none 0 0, .int .i64 0, .int .i64 0, .int .i64 0, .int .i64 0, .int .i64 0, .string ⟨#[]⟩, .int .i64 0, .slice none 0 0, .slice none 0 0], rfl, (k55_mkM _ _ _ z55 (Kd.R_nil _ _ _ _ _) (Kd.R_nil _ _ _ _ _) (Kd.R_nil _ _ _ _ _)), (((((((((((((((((((((((((IsR.bad H9.out)).far HNE.out HB0.out 0 (.int .i64 0))).far HNE.out HB0.out 1 (.int .i64 0))).far HNE.out HB0.out 2 (.slice none 0 0))).far HNE.out HB0.out 3 (.int .i64 0))).far HNE.out HB0.out 4 (.int .i64 0))).far HNE.out HB0.out 5 (.int .i64 0))).far HNE.out HB0.out 6 (.int .i64 0))).far HNE.out HB0.out 7 (.int .i64 0))).far HNE.out HB0.out 8 (.string ⟨#[]⟩))).far HNE.out HB0.out 9 (.int .i64 0))).far HNE.out HB0.out 10 (.slice none 0 0))).far HNE.out HB0.out 11 (.slice none 0 0)), (keep_far ((keep_far ((keep_far ((keep_far ((keep_far ((keep_far ((keep_far ((keep_far ((keep_far ((keep_far ((keep_far ((keep_far ((K9.out.set_ 2 (.bool true))) (p := ⟨w.heap.size, 0, none⟩) (Nat.le_refl _) (.int .i64 0))) (p := ⟨w.heap.size, 1, none⟩) (Nat.le_refl _) (.int .i64 0))) (p := ⟨w.heap.size, 2, none⟩) (Nat.le_refl _) (.slice none 0 0))) (p := ⟨w.heap.size, 3, none⟩) (Nat.le_refl _) (.int .i64 0))) (p := ⟨w.heap.size, 4, none⟩) (Nat.le_refl _) (.int .i64 0))) (p := ⟨w.heap.size, 5, none⟩) (Nat.le_refl _) (.int .i64 0))) (p := ⟨w.heap.size, 6, none⟩) (Nat.le_refl _) (.int .i64 0))) (p := ⟨w.heap.size, 7, none⟩) (Nat.le_refl _) (.int .i64 0))) (p := ⟨w.heap.size, 8, none⟩) (Nat.le_refl _) (.string ⟨#[]⟩))) (p := ⟨w.heap.size, 9, none⟩) (Nat.le_refl _) (.int .i64 0))) (p := ⟨w.heap.size, 10, none⟩) (Nat.le_refl _) (.slice none 0 0))) (p := ⟨w.heap.size, 11, none⟩) (Nat.le_refl _) (.slice none 0 0))⟩
      exact results_cell_row (p := 2) (ty := 55) rfl _ _ w.heap.size 55 #[.int .i64 0, .int .i64 0, .slice none 0 0, .int .i64 0, .int .i64 0, .int .i64 0, .int .i64 0, .int .i64 0, .string ⟨#[]⟩, .int .i64 0, .slice none 0 0, .slice none 0 0] (0, 0) _ rfl (set12 ((Below.heap_setCell w9 ⟨g, 2, none⟩ (.bool true) w.heap.size HNE.out).trans D9.out) _ _ _ _ _ _ _ _ _ _ _ _) Try.underlying55 rfl (by kernel_rfl)
    · go_wp2
      rw [HS.out, HN.out]
      refine bodyPost_ret (v := .agg #[.int .i64 0, .int .i64 0, .slice none 0 0, .int .i64 0, .int .i64 0, .int .i64 0, .int .i64 0, .int .i64 0, .string ⟨#[]⟩, .int .i64 0, .slice none 0 0, .slice none 0 0]) ?_ rfl ⟨[.int .i64 0, .int .i64 0, .slice none 0 0, .int .i64 0, .int .i64 0, .int .i64 0, .int .i64 0, .int .i64 0, .string ⟨#[]⟩, .int .i64 0, .slice none 0 0, .slice none 0 0], rfl, (k55_mkM _ _ _ z55 (Kd.R_nil _ _ _ _ _) (Kd.R_nil _ _ _ _ _) (Kd.R_nil _ _ _ _ _)), (((((((((((((((((((((((((IsR.bad H9.out)).far HNE.out HB0.out 0 (.int .i64 0))).far HNE.out HB0.out 1 (.int .i64 0))).far HNE.out HB0.out 2 (.slice none 0 0))).far HNE.out HB0.out 3 (.int .i64 0))).far HNE.out HB0.out 4 (.int .i64 0))).far HNE.out HB0.out 5 (.int .i64 0))).far HNE.out HB0.out 6 (.int .i64 0))).far HNE.out HB0.out 7 (.int .i64 0))).far HNE.out HB0.out 8 (.string ⟨#[]⟩))).far HNE.out HB0.out 9 (.int .i64 0))).far HNE.out HB0.out 10 (.slice none 0 0))).far HNE.out HB0.out 11 (.slice none 0 0)), (keep_far ((keep_far ((keep_far ((keep_far ((keep_far ((keep_far ((keep_far ((keep_far ((keep_far ((keep_far ((keep_far ((keep_far ((K9.out.set_ 2 (.bool true))) (p := ⟨w.heap.size, 0, none⟩) (Nat.le_refl _) (.int .i64 0))) (p := ⟨w.heap.size, 1, none⟩) (Nat.le_refl _) (.int .i64 0))) (p := ⟨w.heap.size, 2, none⟩) (Nat.le_refl _) (.slice none 0 0))) (p := ⟨w.heap.size, 3, none⟩) (Nat.le_refl _) (.int .i64 0))) (p := ⟨w.heap.size, 4, none⟩) (Nat.le_refl _) (.int .i64 0))) (p := ⟨w.heap.size, 5, none⟩) (Nat.le_refl _) (.int .i64 0))) (p := ⟨w.heap.size, 6, none⟩) (Nat.le_refl _) (.int .i64 0))) (p := ⟨w.heap.size, 7, none⟩) (Nat.le_refl _) (.int .i64 0))) (p := ⟨w.heap.size, 8, none⟩) (Nat.le_refl _) (.string ⟨#[]⟩))) (p := ⟨w.heap.size, 9, none⟩) (Nat.le_refl _) (.int .i64 0))) (p := ⟨w.heap.size, 10, none⟩) (Nat.le_refl _) (.slice none 0 0))) (p := ⟨w.heap.size, 11, none⟩) (Nat.le_refl _) (.slice none 0 0))⟩
      exact results_cell_row (p := 2) (ty := 55) rfl _ _ w.heap.size 55 #[.int .i64 0, .int .i64 0, .slice none 0 0, .int .i64 0, .int .i64 0, .int .i64 0, .int .i64 0, .int .i64 0, .string ⟨#[]⟩, .int .i64 0, .slice none 0 0, .slice none 0 0] (0, 0) _ rfl (set12 ((Below.heap_setCell w9 ⟨g, 2, none⟩ (.bool true) w.heap.size HNE.out).trans D9.out) _ _ _ _ _ _ _ _ _ _ _ _) Try.underlying55 rfl (by kernel_rfl)
  · have HG := Aside0.mk (show at1 ≤ B.length ∧ B.drop at1 = tl from ⟨g1, g2⟩)
    have HN := Aside0.mk hn
    clear hn g1 g2 HR
    rcases bad_cases qb with rfl | rfl
    · have HM := Aside0.mk (show rtail (⟨q1.1, q2.1, q3.1, q4.1, q5.1, q6.1, q7.1⟩, q7.2) (rrow q7.2.1) = (z55, (q7.2.1, true)) from by rw [HN.out]; exact if_pos HQB.out.symm)
      go_wp2
      rw [HS.out, HM.out]
      refine bodyPost_ret (v := .agg #[.int .i64 0, .int .i64 0, .slice none 0 0, .int .i64 0, .int .i64 0, .int .i64 0, .int .i64 0, .int .i64 0, .string ⟨#[]⟩, .int .i64 0, .slice none 0 0, .slice none 0 0]) ?_ rfl ⟨[.int .i64 0, .int .i64 0, .slice none 0 0, .int .i64 0, .int .i64 0, .int .i64 0, .int .i64 0, .int .i64 0, .string ⟨#[]⟩, .int .i64 0, .slice none 0 0, .slice none 0 0], rfl, (k55_mkM _ _ _ z55 (Kd.R_nil _ _ _ _ _) (Kd.R_nil _ _ _ _ _) (Kd.R_nil _ _ _ _ _)), (((((((((((((((((((((((((IsR.bad H9.out)).far HNE.out HB0.out 0 (.int .i64 0))).far HNE.out HB0.out 1 (.int .i64 0))).far HNE.out HB0.out 2 (.slice none 0 0))).far HNE.out HB0.out 3 (.int .i64 0))).far HNE.out HB0.out 4 (.int .i64 0))).far HNE.out HB0.out 5 (.int .i64 0))).far HNE.out HB0.out 6 (.int .i64 0))).far HNE.out HB0.out 7 (.int .i64 0))).far HNE.out HB0.out 8 (.string ⟨#[]⟩))).far HNE.out HB0.out 9 (.int .i64 0))).far HNE.out HB0.out 10 (.slice none 0 0))).far HNE.out HB0.out 11 (.slice none 0 0)), (keep_far ((keep_far ((keep_far ((keep_far ((keep_far ((keep_far ((keep_far ((keep_far ((keep_far ((keep_far ((keep_far ((keep_far ((K9.out.set_ 2 (.bool true))) (p := ⟨w.heap.size, 0, none⟩) (Nat.le_refl _) (.int .i64 0))) (p := ⟨w.heap.size, 1, none⟩) (Nat.le_refl _) (.int .i64 0))) (p := ⟨w.heap.size, 2, none⟩) (Nat.le_refl _) (.slice none 0 0))) (p := ⟨w.heap.size, 3, none⟩) (Nat.le_refl _) (.int .i64 0))) (p := ⟨w.heap.size, 4, none⟩) (Nat.le_refl _) (.int .i64 0))) (p := ⟨w.heap.size, 5, none⟩) (Nat.le_refl _) (.int .i64 0))) (p := ⟨w.heap.size, 6, none⟩) (Nat.le_refl _) (.int .i64 0))) (p := ⟨w.heap.size, 7, none⟩) (Nat.le_refl _) (.int .i64 0))) (p := ⟨w.heap.size, 8, none⟩) (Nat.le_refl _) (.string ⟨#[]⟩))) (p := ⟨w.heap.size, 9, none⟩) (Nat.le_refl _) (.int .i64 0))) (p := ⟨w.heap.size, 10, none⟩) (Nat.le_refl _) (.slice none 0 0))) (p := ⟨w.heap.size, 11, none⟩) (Nat.le_refl _) (.slice none 0 0))⟩
      exact results_cell_row (p := 2) (ty := 55) rfl _ _ w.heap.size 55 #[.int .i64 0, .int .i64 0, .slice none 0 0, .int .i64 0, .int .i64 0, .int .i64 0, .int .i64 0, .int .i64 0, .string ⟨#[]⟩, .int .i64 0, .slice none 0 0, .slice none 0 0] (0, 0) _ rfl (set12 ((Below.heap_setCell w9 ⟨g, 2, none⟩ (.bool true) w.heap.size HNE.out).trans D9.out) _ _ _ _ _ _ _ _ _ _ _ _) Try.underlying55 rfl (by kernel_rfl)
    · have HX0 := Aside0.mk (show g ≠ xb from fun e_ => HXG.out e_.symm)
      have HRX := Aside0.mk (show w.heap.size ≠ xb from fun e_ => HXR.out e_.symm)
      obtain ⟨q8, hq8⟩ : ∃ q, q = rmany 1 64 (tl, false) := ⟨_, rfl⟩
      have HM8 := Aside0.mk (show q8.1 ≤ 64 from by rw [hq8]; exact rmany_le 1 64 (by omega) (tl, false))
      have HQ8 := Aside0.mk hq8
      have HE := Aside0.mk (show rtail (⟨q1.1, q2.1, q3.1, q4.1, q5.1, q6.1, q7.1⟩, q7.2) (rrow q7.2.1) = (mkOp ⟨q1.1, q2.1, q3.1, q4.1, q5.1, q6.1, q7.1⟩ r1 (rdots q8.1.toNat q8.2).1, (rdots q8.1.toNat q8.2).2) from by rw [HN.out, hq8]; exact if_neg (by rw [← HQB.out]; exact Bool.false_ne_true))
      clear hq8
      have H10 := Aside0.mk (IsR.go (bad := false) (x := (at_ : Int)) (below_set H9.out.1 (by have := HXW.out; have := HB0.out; omega)) Hg.out Hb.out Hl.out ((Below.heap_setCell w9 ⟨xb, 10, none⟩ (.slice A9 r1.length c9) g HX0.out).trans Hv9.out) HC0.out Hc.out HG.out.1 HG.out.2)
      have D10 := Aside0.mk ((Below.heap_setCell (w9.setCell ⟨xb, 10, none⟩ (.slice A9 r1.length c9)) ⟨g, 1, none⟩ (.int .i64 (at1 : Int)) w.heap.size HNE.out).trans ((Below.heap_setCell w9 ⟨xb, 10, none⟩ (.slice A9 r1.length c9) w.heap.size HRX.out).trans D9.out))
      have X10 := Aside0.mk ((Below.heap_setCell (w9.setCell ⟨xb, 10, none⟩ (.slice A9 r1.length c9)) ⟨g, 1, none⟩ (.int .i64 (at1 : Int)) xb HXG.out).trans (blk_set X9.out 10 (.slice A9 r1.length c9)))
      have OD10 := Aside0.mk (Kd.R_far (Kd.R_set OD9.out X9.out (by decide) 10 (.slice A9 r1.length c9)) (p := ⟨g, 1, none⟩) (fun _ h => h) (.int .i64 (at1 : Int)))
      have OV10 := Aside0.mk (Kd.R_far (Kd.R_set OV9.out X9.out (by decide) 10 (.slice A9 r1.length c9)) (p := ⟨g, 1, none⟩) (fun _ h => h) (.int .i64 (at1 : Int)))
      have K10 := Aside0.mk ((keep_far K9.out (p := ⟨xb, 10, none⟩) HXW.out (.slice A9 r1.length c9)).set_ 1 (.int .i64 (at1 : Int)))
      go_wp2_with fail
      refine (R_many w0 _ g B tl false H10.out 1 64 1 rfl (by omega) (by omega)).mono ?_
      rintro e w11 ⟨rfl, hi, hk⟩
      rw [← HQ8.out] at hi
      rw [← HQ8.out]
      have H11 := Aside0.mk hi
      have D11 := Aside0.mk (hk.blk D10.out HNE.out (by simp))
      have X11 := Aside0.mk (hk.blk X10.out HXG.out (by simp))
      have OD11 := Aside0.mk (Kd.R_keep OD10.out hk (fun _ h => h))
      have OV11 := Aside0.mk (Kd.R_keep OV10.out hk (fun _ h => h))
      have K11 := Aside0.mk (keep_then K10.out hk)
      clear hi hk he2 hf1 hf2 hdc hdf hxc hxf hgr D10 X10 OD10 OV10 K10 H10 D9 X9 OD9 OV9 K9 H9 Hv9 HC
      go_wp2
      go_loopw [55] (fun v wr => ∃ (k : Nat) (At : Option Addr) (ct : Nat), k ≤ q8.1.toNat ∧ v = .int .i64 k ∧ Aside0 (IsR w0 wr g B (rdots k q8.2).2.1 (rdots k q8.2).2.2) ∧ Aside0 (KeepBut w wr g none) ∧ Aside0 (wr.heap[w.heap.size]? = some (.cells #[.int .i64 0, .int .i64 0, .slice none 0 0, .int .i64 0, .int .i64 0, .int .i64 0, .int .i64 0, .int .i64 0, .string ⟨#[]⟩, .int .i64 0, .slice none 0 0, .slice none 0 0] 55 (0, 0))) ∧ Aside0 (wr.heap[xb]? = some (.cells #[.int .i64 q2.1.f0, .int .i64 q2.1.f1, .slice Ad q3.1.length cd, .int .i64 q4.1.f0, .int .i64 q4.1.f1, .int .i64 q4.1.f2, .int .i64 q1.1, .int .i64 q5.1, .string q6.1, .int .i64 q7.1, .slice A9 r1.length c9, .slice At (rdots k q8.2).1.length ct] 55 (0, 0))) ∧ Aside0 (Kd.R (Kd.int .i64) 3 wr w.heap.size (fun k => k ≠ g) (.slice Ad q3.1.length cd) q3.1) ∧ Aside0 (Kd.R k101 101 wr w.heap.size (fun k => k ≠ g) (.slice A9 r1.length c9) r1) ∧ Aside0 (Kd.R k49 49 wr w.heap.size (fun k => k ≠ g) (.slice At (rdots k q8.2).1.length ct) (rdots k q8.2).1)) (fun v _ => q8.1.toNat - (intOf v).toNat)
      case atStart => exact ⟨0, none, 0, by omega, rfl, H11, K11, D11, X11, OD11, OV11, ⟨Kd.R_nil _ _ _ _ _⟩⟩
      case round =>
        obtain ⟨k, At, ct, hk, rfl, HI, HK, HD, HX, HOD, HOV, HOT⟩ := hrel
        have hkm : (k : Int) ≤ 64 := by have := HM8.out; omega
        by_cases hlt : (k : Int) < q8.1
        · have HLn := Aside0.mk (rdots_length q8.2 k)
          have HT := Aside0.mk (show rdots (k + 1) q8.2 = ((rdots k q8.2).1 ++ [(rdot ((rdots k q8.2).2.1, (rdots k q8.2).2.2)).1], (rdot ((rdots k q8.2).2.1, (rdots k q8.2).2.2)).2) from rfl)
          obtain ⟨q9, hq9⟩ : ∃ q, q = rdot ((rdots k q8.2).2.1, (rdots k q8.2).2.2) := ⟨_, rfl⟩
          rw [← hq9] at HT
          have HQ9 := Aside0.mk hq9
          obtain ⟨L, hL⟩ : ∃ L, L = (rdots k q8.2).1 := ⟨_, rfl⟩
          rw [← hL] at HLn HT HOT HX
          clear hL hq9
          have hxc := fun i => blk_cell HX.out i
          have hxf := fun i => blk_frozen HX.out i
          go_wp2_with fail
          go_region_law (first | (go_simp; go_at_call 53; refine (R_dot w0 _ g B _ _ (HI.out.below (by first | exact Below.refl _ _ | exact below_drew (Below.refl _ _)))).mono ?_; rintro e w12 ⟨rfl, hi, hk2⟩; rw [← HQ9.out] at hi; rw [← HQ9.out]; have H12 := Aside0.mk hi; have hk3 : KeepBut wr w12 g none := hk2; have K12 := Aside0.mk (keep_then HK.out hk3); have D12 := Aside0.mk (hk3.blk HD.out HNE.out (by simp)); have X12 := Aside0.mk (hk3.blk HX.out HXG.out (by simp)); have OD12 := Aside0.mk (Kd.R_keep HOD.out hk3 (fun _ h => h)); have OV12 := Aside0.mk (Kd.R_keep HOV.out hk3 (fun _ h => h)); have OT12 := Aside0.mk (Kd.R_keep HOT.out hk3 (fun _ h => h)); have hxc2 := fun i => blk_cell X12.out i; have hxf2 := fun i => blk_frozen X12.out i; have X12a := Aside0.mk (blk_below X12.out (below_alloc (Below.refl _ w12) (.cells #[.int .i64 q9.1.f0, .int .i64 q9.1.f1] 49))); have hxc2a := fun i => blk_cell X12a.out i; clear hi hk2 hk3 X12a) | (refine Kd.R_append_step k49 (w0 := w12) w.heap.size rfl (.tmp 58) (.tmp 61) 53 49 (.agg #[.int .i64 0, .int .i64 0]) 16 rfl Try.underlying53 rinfo49 rfl (by decide) (by omega) (.slice At L.length ct) L q9.1 [.int .i64 q9.1.f0, .int .i64 q9.1.f1] (fun k => k ≠ g) (fun _ => False) rfl rfl (k49_mkM _ _ _ _) (fun _ hk => hk.elim) (fun k hk e_ => by have := H12.out.lt; omega) OT12.out (Below.refl _ _) K12.out.1 (by have := HLn.out; omega) ?_; intro v3 w13 ho hb hgw hat; obtain ⟨A3, c3, rfl⟩ := Kd.R_slice ho; have O13 := Aside0.mk ho; have H13 := Aside0.mk (H12.out.grown hgw (fun e_ => OT12.out.1 g e_ rfl) (fun k hk => by have := Kd.R_base OT12.out k hk; have := HB0.out; omega)); have K13 := Aside0.mk (keep_grown K12.out hgw (fun k hk => Kd.R_base OT12.out k hk)); have D13 := Aside0.mk (blk_grown D12.out hgw (Kd.R_ne OT12.out D12.out (by decide))); have X13 := Aside0.mk (blk_grown X12.out hgw (Kd.R_ne OT12.out X12.out (by decide))); have OD13 := Aside0.mk (Kd.R_over OD12.out OT12.out (by decide) hgw); have OV13 := Aside0.mk (Kd.R_over OV12.out OT12.out (by decide) hgw); have hxc3 := fun i => blk_cell X13.out i; have hxf3 := fun i => blk_frozen X13.out i; clear ho hb hgw hat hxc2 hxf2 hxc2a))
          all_goals (go_wp2; go_roundw)
          case rel => exact ⟨k + 1, A3, c3, by omega, by go_num, by rw [HT.out]; exact ⟨H13.out.far HXG.out (by have := HXW.out; have := HB0.out; omega) 11 (.slice A3 (L.length + 1) c3)⟩, ⟨keep_far K13.out (p := ⟨xb, 11, none⟩) HXW.out (.slice A3 (L.length + 1) c3)⟩, ⟨(Below.heap_setCell w13 ⟨xb, 11, none⟩ (.slice A3 (L.length + 1) c3) w.heap.size HRX.out).trans D13.out⟩, by rw [HT.out, show (L ++ [q9.1]).length = L.length + 1 from by simp]; exact ⟨blk_set X13.out 11 (.slice A3 (L.length + 1) c3)⟩, ⟨Kd.R_set OD13.out X13.out (by decide) 11 (.slice A3 (L.length + 1) c3)⟩, ⟨Kd.R_set OV13.out X13.out (by decide) 11 (.slice A3 (L.length + 1) c3)⟩, by rw [HT.out]; exact ⟨Kd.R_set O13.out X13.out (by decide) 11 (.slice A3 (L.length + 1) c3)⟩⟩
          case measure => simp [intOf]; omega
          case rel => exact ⟨k + 1, A3, c3, by omega, by go_num, by rw [HT.out]; exact ⟨H13.out.far HXG.out (by have := HXW.out; have := HB0.out; omega) 11 (.slice A3 (L.length + 1) c3)⟩, ⟨keep_far K13.out (p := ⟨xb, 11, none⟩) HXW.out (.slice A3 (L.length + 1) c3)⟩, ⟨(Below.heap_setCell w13 ⟨xb, 11, none⟩ (.slice A3 (L.length + 1) c3) w.heap.size HRX.out).trans D13.out⟩, by rw [HT.out, show (L ++ [q9.1]).length = L.length + 1 from by simp]; exact ⟨blk_set X13.out 11 (.slice A3 (L.length + 1) c3)⟩, ⟨Kd.R_set OD13.out X13.out (by decide) 11 (.slice A3 (L.length + 1) c3)⟩, ⟨Kd.R_set OV13.out X13.out (by decide) 11 (.slice A3 (L.length + 1) c3)⟩, by rw [HT.out]; exact ⟨Kd.R_set O13.out X13.out (by decide) 11 (.slice A3 (L.length + 1) c3)⟩⟩
          case measure => simp [intOf]; omega
          case rel => exact ⟨k + 1, A3, c3, by omega, by go_num, by rw [HT.out]; exact ⟨H13.out.far HXG.out (by have := HXW.out; have := HB0.out; omega) 11 (.slice A3 (L.length + 1) c3)⟩, ⟨keep_far K13.out (p := ⟨xb, 11, none⟩) HXW.out (.slice A3 (L.length + 1) c3)⟩, ⟨(Below.heap_setCell w13 ⟨xb, 11, none⟩ (.slice A3 (L.length + 1) c3) w.heap.size HRX.out).trans D13.out⟩, by rw [HT.out, show (L ++ [q9.1]).length = L.length + 1 from by simp]; exact ⟨blk_set X13.out 11 (.slice A3 (L.length + 1) c3)⟩, ⟨Kd.R_set OD13.out X13.out (by decide) 11 (.slice A3 (L.length + 1) c3)⟩, ⟨Kd.R_set OV13.out X13.out (by decide) 11 (.slice A3 (L.length + 1) c3)⟩, by rw [HT.out]; exact ⟨Kd.R_set O13.out X13.out (by decide) 11 (.slice A3 (L.length + 1) c3)⟩⟩
          case measure => simp [intOf]; omega
        · obtain rfl : k = q8.1.toNat := by omega
          have hxc := fun i => blk_cell HX.out i
          have hxf := fun i => blk_frozen HX.out i
          have hdc := fun i => blk_cell HD.out i
          have hdf := fun i => blk_frozen HD.out i
          go_wp2
          rw [HS.out, HE.out]
          refine bodyPost_ret (v := .agg #[.int .i64 q2.1.f0, .int .i64 q2.1.f1, .slice Ad q3.1.length cd, .int .i64 q4.1.f0, .int .i64 q4.1.f1, .int .i64 q4.1.f2, .int .i64 q1.1, .int .i64 q5.1, .string q6.1, .int .i64 q7.1, .slice A9 r1.length c9, .slice At (rdots q8.1.toNat q8.2).1.length ct]) ?_ rfl ⟨[.int .i64 q2.1.f0, .int .i64 q2.1.f1, .slice Ad q3.1.length cd, .int .i64 q4.1.f0, .int .i64 q4.1.f1, .int .i64 q4.1.f2, .int .i64 q1.1, .int .i64 q5.1, .string q6.1, .int .i64 q7.1, .slice A9 r1.length c9, .slice At (rdots q8.1.toNat q8.2).1.length ct], rfl, (k55_mkM _ _ _ _ (Kd.R_mono (Kd.R_step (Kd.R_types HOD.out HD.out (by decide)) (fun k hk _ => by repeat (first | refine heap_set ?_ hk.2 | rfl))) (fun _ hk => hk.1)) (Kd.R_mono (Kd.R_step (Kd.R_types HOV.out HD.out (by decide)) (fun k hk _ => by repeat (first | refine heap_set ?_ hk.2 | rfl))) (fun _ hk => hk.1)) (Kd.R_mono (Kd.R_step (Kd.R_types HOT.out HD.out (by decide)) (fun k hk _ => by repeat (first | refine heap_set ?_ hk.2 | rfl))) (fun _ hk => hk.1))), ((((((((((((((((((((((((HI.out).far HNE.out HB0.out 0 (.int .i64 q2.1.f0))).far HNE.out HB0.out 1 (.int .i64 q2.1.f1))).far HNE.out HB0.out 2 (.slice Ad q3.1.length cd))).far HNE.out HB0.out 3 (.int .i64 q4.1.f0))).far HNE.out HB0.out 4 (.int .i64 q4.1.f1))).far HNE.out HB0.out 5 (.int .i64 q4.1.f2))).far HNE.out HB0.out 6 (.int .i64 q1.1))).far HNE.out HB0.out 7 (.int .i64 q5.1))).far HNE.out HB0.out 8 (.string q6.1))).far HNE.out HB0.out 9 (.int .i64 q7.1))).far HNE.out HB0.out 10 (.slice A9 r1.length c9))).far HNE.out HB0.out 11 (.slice At (rdots q8.1.toNat q8.2).1.length ct)), (keep_far ((keep_far ((keep_far ((keep_far ((keep_far ((keep_far ((keep_far ((keep_far ((keep_far ((keep_far ((keep_far ((keep_far (HK.out) (p := ⟨w.heap.size, 0, none⟩) (Nat.le_refl _) (.int .i64 q2.1.f0))) (p := ⟨w.heap.size, 1, none⟩) (Nat.le_refl _) (.int .i64 q2.1.f1))) (p := ⟨w.heap.size, 2, none⟩) (Nat.le_refl _) (.slice Ad q3.1.length cd))) (p := ⟨w.heap.size, 3, none⟩) (Nat.le_refl _) (.int .i64 q4.1.f0))) (p := ⟨w.heap.size, 4, none⟩) (Nat.le_refl _) (.int .i64 q4.1.f1))) (p := ⟨w.heap.size, 5, none⟩) (Nat.le_refl _) (.int .i64 q4.1.f2))) (p := ⟨w.heap.size, 6, none⟩) (Nat.le_refl _) (.int .i64 q1.1))) (p := ⟨w.heap.size, 7, none⟩) (Nat.le_refl _) (.int .i64 q5.1))) (p := ⟨w.heap.size, 8, none⟩) (Nat.le_refl _) (.string q6.1))) (p := ⟨w.heap.size, 9, none⟩) (Nat.le_refl _) (.int .i64 q7.1))) (p := ⟨w.heap.size, 10, none⟩) (Nat.le_refl _) (.slice A9 r1.length c9))) (p := ⟨w.heap.size, 11, none⟩) (Nat.le_refl _) (.slice At (rdots q8.1.toNat q8.2).1.length ct))⟩
          exact results_cell_row (p := 2) (ty := 55) rfl _ _ w.heap.size 55 #[.int .i64 q2.1.f0, .int .i64 q2.1.f1, .slice Ad q3.1.length cd, .int .i64 q4.1.f0, .int .i64 q4.1.f1, .int .i64 q4.1.f2, .int .i64 q1.1, .int .i64 q5.1, .string q6.1, .int .i64 q7.1, .slice A9 r1.length c9, .slice At (rdots q8.1.toNat q8.2).1.length ct] (0, 0) _ rfl (set12 HD.out _ _ _ _ _ _ _ _ _ _ _ _) Try.underlying55 rfl (by kernel_rfl)
end Go.Proofs.Ytnbjflcfdncocaa.M

/- op.Bytes and msg.Bytes: what they tell, for every operation and message whose lists are no longer than the laws play. -/
namespace Go.Proofs.Ytnbjflcfdncocaa.M
open Go.RowKit Go.Proofs.YtnbjflcfdncocaaW.PrintWords Go.Proofs.YtnbjflcfdncocaaW.PrintLast Go.Proofs.YtnbjflcfdncocaaW.PrintMore

/-- What op.Bytes tells. -/
def opB (x : Opr) : List Int × Int := if (wop x ([], false)).2 = true then ([], 1) else ((wop x ([], false)).1, 0)
def op_Bytes.f (a0_0 a0_1 : Int) (l0_2 : List Int) (a0_3 a0_4 a0_5 a0_6 a0_7 : Int) (a0_8 : ByteArray) (a0_9 : Int) (l0_10 : List Val) (l0_11 : List Dt) : Option (List Int × Int) :=
  if l0_2.length ≤ 300 ∧ l0_11.length ≤ 300 then some (opB ⟨⟨a0_0, a0_1⟩, l0_2, ⟨a0_3, a0_4, a0_5⟩, a0_6, a0_7, a0_8, a0_9, l0_10, l0_11⟩) else none
set_option maxHeartbeats 4000000 in
set_option maxRecDepth 100000 in
theorem op_Bytes.calls (a0_0 : Int) (a0_1 : Int) (A0_2 : Option Addr) (c0_2 : Nat) (l0_2 : List Int) (a0_3 : Int) (a0_4 : Int) (a0_5 : Int) (a0_6 : Int) (a0_7 : Int) (a0_8 : ByteArray) (a0_9 : Int) (A0_10 : Option Addr) (c0_10 : Nat) (l0_10 : List Val) (A0_11 : Option Addr) (c0_11 : Nat) (l0_11 : List Dt) (r1 : List Int) (r2 : Int) (w : World)
    (hr0_2 : Kd.C (Kd.int .i64) w A0_2 l0_2.length l0_2) (_hc0_2 : l0_2.length ≤ c0_2) (hr0_10 : Kd.C k101 w A0_10 l0_10.length l0_10) (hc0_10 : l0_10.length ≤ c0_10) (hr0_11 : Kd.C k49 w A0_11 l0_11.length l0_11) (_hc0_11 : l0_11.length ≤ c0_11)
    (h : op_Bytes.f a0_0 a0_1 l0_2 a0_3 a0_4 a0_5 a0_6 a0_7 a0_8 a0_9 l0_10 l0_11 = some (r1, r2)) :
    Calls Try.prog 26 #[.agg #[.int .i64 a0_0, .int .i64 a0_1, .slice A0_2 l0_2.length c0_2, .int .i64 a0_3, .int .i64 a0_4, .int .i64 a0_5, .int .i64 a0_6, .int .i64 a0_7, .string a0_8, .int .i64 a0_9, .slice A0_10 l0_10.length c0_10, .slice A0_11 l0_11.length c0_11]] w fun e w' => ∃ v0_ : Value, e = .returned (.tuple #[v0_, .int .i64 r2]) ∧ Kd.R (Kd.int .u8) 5 w' w.heap.size (fun _ => True) v0_ r1 ∧ Below w.heap.size w w' := by
  unfold op_Bytes.f at h
  by_cases hb : l0_2.length ≤ 300 ∧ l0_11.length ≤ 300
  case neg => rw [if_neg hb] at h; cases h
  rw [if_pos hb] at h
  obtain ⟨x, hx⟩ : ∃ x : Opr, x = ⟨⟨a0_0, a0_1⟩, l0_2, ⟨a0_3, a0_4, a0_5⟩, a0_6, a0_7, a0_8, a0_9, l0_10, l0_11⟩ := ⟨_, rfl⟩
  rw [← hx] at h
  have E1 := Aside0.mk (Option.some.inj h)
  have HB := Aside0.mk hb
  have R1 := Aside0.mk hr0_2
  have R2 := Aside0.mk hr0_10
  have R3 := Aside0.mk hr0_11
  have RC := Aside0.mk hc0_10
  have HW := Aside0.mk (show IsW w ((w.alloc (.cells #[.int .i64 a0_0, .int .i64 a0_1, .slice A0_2 l0_2.length c0_2, .int .i64 a0_3, .int .i64 a0_4, .int .i64 a0_5, .int .i64 a0_6, .int .i64 a0_7, .string a0_8, .int .i64 a0_9, .slice A0_10 l0_10.length c0_10, .slice A0_11 l0_11.length c0_11] 55)).alloc (.cells #[.slice none 0 0, .bool false] 62)) (w.heap.size + 1) [] false from
    IsW.mk2 (v := .slice none 0 0) (below_alloc (below_alloc (Below.refl _ w) _) _) (by omega) (by have := heap_alloc2_new w (.cells #[.int .i64 a0_0, .int .i64 a0_1, .slice A0_2 l0_2.length c0_2, .int .i64 a0_3, .int .i64 a0_4, .int .i64 a0_5, .int .i64 a0_6, .int .i64 a0_7, .string a0_8, .int .i64 a0_9, .slice A0_10 l0_10.length c0_10, .slice A0_11 l0_11.length c0_11] 55) (.cells #[.slice none 0 0, .bool false] 62); exact this) (Kd.R_nil _ _ _ _ _))
  have HX := Aside0.mk (heap_alloc2_old w (.cells #[.int .i64 a0_0, .int .i64 a0_1, .slice A0_2 l0_2.length c0_2, .int .i64 a0_3, .int .i64 a0_4, .int .i64 a0_5, .int .i64 a0_6, .int .i64 a0_7, .string a0_8, .int .i64 a0_9, .slice A0_10 l0_10.length c0_10, .slice A0_11 l0_11.length c0_11] 55) (.cells #[.slice none 0 0, .bool false] 62))
  clear h hb hr0_2 hr0_10 hr0_11 hc0_10
  have hcx := fun i => blk_cell HX.out i
  go_enter Try.func26, Try.ntmps26
  go_wp2_with fail
  refine (W_op w _ (w.heap.size + 1) ([], false) HW.out ⟨⟨a0_0, a0_1⟩, l0_2, ⟨a0_3, a0_4, a0_5⟩, a0_6, a0_7, a0_8, a0_9, l0_10, l0_11⟩ A0_2 c0_2 A0_10 c0_10 A0_11 c0_11 R1.out R2.out RC.out R3.out (by simp) (by have := HB.out.1; simp only; omega) (by have := HB.out.2; simp only; omega)).mono ?_
  rintro e w1 ⟨rfl, hi, hk⟩
  rw [← hx] at hi
  obtain ⟨B, hB⟩ : ∃ B, B = (wop x ([], false)).1 := ⟨_, rfl⟩
  obtain ⟨b, hb⟩ : ∃ b, b = (wop x ([], false)).2 := ⟨_, rfl⟩
  rw [← hB, ← hb] at hi
  have E2 := Aside0.mk (show (if b = true then (([] : List Int), (1 : Int)) else (B, 0)) = (r1, r2) from by rw [hB, hb]; exact E1.out)
  obtain ⟨h0, hg, v, hv, hR⟩ := hi
  obtain ⟨Av, cv, rfl⟩ := Kd.R_slice hR
  have hc0 : w1.cell? ⟨w.heap.size + 1, 0, none⟩ = some (.slice Av B.length cv) := (blk_cell hv 0).trans rfl
  have hc1 : w1.cell? ⟨w.heap.size + 1, 1, none⟩ = some (.bool b) := (blk_cell hv 1).trans rfl
  have H0 := Aside0.mk h0
  have HR := Aside0.mk hR
  clear hx hB hb h0 hg hv hR hk hcx
  cases b
  · go_wp2
    go_ret2
    have e2 := E2.out
    rw [if_neg (by decide)] at e2
    obtain ⟨rfl, rfl⟩ := Prod.mk.inj e2
    exact ⟨_, rfl, Kd.R_mono HR.out (fun _ _ => trivial), H0.out⟩
  · go_wp2
    go_ret2
    have e2 := E2.out
    have e2 : (([] : List Int), (1 : Int)) = (r1, r2) := by simpa using e2
    obtain ⟨rfl, rfl⟩ := Prod.mk.inj e2
    exact ⟨_, rfl, Kd.R_nil _ _ _ _ _, H0.out⟩
end Go.Proofs.Ytnbjflcfdncocaa.M

/- msg.Bytes: what it tells, for every message whose lists are no longer than the laws play. -/
namespace Go.Proofs.Ytnbjflcfdncocaa.M
open Go.RowKit Go.Proofs.YtnbjflcfdncocaaW.PrintWords Go.Proofs.YtnbjflcfdncocaaW.PrintLast Go.Proofs.YtnbjflcfdncocaaW.PrintMore

def wops (l : List Opr) (st : List Int × Bool) : List Int × Bool := l.foldl (fun s x => wop x s) st
theorem wops_take (l : List Opr) (k : Nat) (h : k < l.length) (st : List Int × Bool) : wops (l.take (k + 1)) st = wop (l.getD k z55) (wops (l.take k) st) := by
  unfold wops
  rw [List.take_succ_eq_append_getElem h, List.foldl_append]
  simp [List.getD_eq_getElem?_getD, h]
/-- Lists as long as a law plays. -/
def okOp (x : Opr) : Prop := x.f1.length ≤ 300 ∧ x.f8.length ≤ 300
instance (x : Opr) : Decidable (okOp x) := by unfold okOp; infer_instance
theorem wops_len : ∀ (l : List Opr) (st : List Int × Bool), (∀ x ∈ l, okOp x) → (wops l st).1.length ≤ st.1.length + 3065 * l.length
  | [], st, _ => by simp [wops]
  | x :: l, st, h => by
    have h1 := wops_len l (wop x st) (fun y hy => h y (by simp [hy]))
    have h2 := wop_len x st
    have h3 := h x (by simp)
    simp only [okOp] at h3
    simp only [wops, List.foldl_cons, List.length_cons] at h1 ⊢; omega
/-- A message's bytes, without their sum, up to its operations; the whole. -/
def msgW0 (a b c : Int) (h s : List Int) (n : Nat) : List Int × Bool := wnum 2 (n : Int) (wnums s (wnums h (wnum 1 c (wnum 1 b (wnum 1 a ([], false))))))
def msgW (a b c : Int) (h s : List Int) (l : List Opr) : List Int × Bool := wops l (msgW0 a b c h s l.length)
theorem msgW0_len (a b c : Int) (h s : List Int) (n : Nat) : (msgW0 a b c h s n).1.length ≤ 7 + 4 * h.length + 4 * s.length := by
  have h1 := wnum_len 2 (n : Int) (wnums s (wnums h (wnum 1 c (wnum 1 b (wnum 1 a ([], false))))))
  have h2 := wnums_len s (wnums h (wnum 1 c (wnum 1 b (wnum 1 a ([], false)))))
  have h3 := wnums_len h (wnum 1 c (wnum 1 b (wnum 1 a ([], false))))
  have h4 := wnum_len 1 c (wnum 1 b (wnum 1 a ([], false)))
  have h5 := wnum_len 1 b (wnum 1 a ([], false))
  have h6 := wnum_len 1 a ([], false)
  simp only [List.length_nil] at h6
  unfold msgW0; omega
/-- What msg.Bytes tells. -/
def sealB (l : List Int) : List Int × Int := if l.length ≤ 65532 then (sealL l, 0) else ([], 2)
def msgB (a b c : Int) (h s : List Int) (l : List Opr) : List Int × Int := if (msgW a b c h s l).2 = true then ([], 1) else sealB (msgW a b c h s l).1
theorem Seal_all (l : List Int) : crc_Seal.f l = some (sealB l) := by
  unfold sealB
  split
  · exact Seal_eq l (by omega)
  · exact Seal_long l (by omega)
def msg_Bytes.f (a0_0 a0_1 a0_2 : Int) (l0_3 l0_4 : List Int) (l0_5 : List Opr) : Option (List Int × Int) :=
  if l0_3.length ≤ 300 ∧ l0_4.length ≤ 300 ∧ l0_5.length ≤ 300 ∧ ∀ x ∈ l0_5, okOp x then some (msgB a0_0 a0_1 a0_2 l0_3 l0_4 l0_5) else none
set_option maxHeartbeats 8000000 in
set_option maxRecDepth 100000 in
theorem msg_Bytes.calls (a0_0 : Int) (a0_1 : Int) (a0_2 : Int) (A0_3 : Option Addr) (c0_3 : Nat) (l0_3 : List Int) (A0_4 : Option Addr) (c0_4 : Nat) (l0_4 : List Int) (A0_5 : Option Addr) (c0_5 : Nat) (l0_5 : List (S55)) (r1 : List Int) (r2 : Int) (w : World)
    (hr0_3 : Kd.C (Kd.int .i64) w A0_3 l0_3.length l0_3) (_hc0_3 : l0_3.length ≤ c0_3) (hr0_4 : Kd.C (Kd.int .i64) w A0_4 l0_4.length l0_4) (_hc0_4 : l0_4.length ≤ c0_4) (hr0_5 : Kd.C k55 w A0_5 l0_5.length l0_5) (_hc0_5 : l0_5.length ≤ c0_5)
    (h : msg_Bytes.f a0_0 a0_1 a0_2 l0_3 l0_4 l0_5 = some (r1, r2)) :
    Calls Try.prog 22 #[.agg #[.int .i64 a0_0, .int .i64 a0_1, .int .i64 a0_2, .slice A0_3 l0_3.length c0_3, .slice A0_4 l0_4.length c0_4, .slice A0_5 l0_5.length c0_5]] w fun e w' => ∃ v0_ : Value, e = .returned (.tuple #[v0_, .int .i64 r2]) ∧ Kd.R (Kd.int .u8) 5 w' w.heap.size (fun _ => True) v0_ r1 ∧ Below w.heap.size w w' := by
  unfold msg_Bytes.f at h
  by_cases hb : l0_3.length ≤ 300 ∧ l0_4.length ≤ 300 ∧ l0_5.length ≤ 300 ∧ ∀ x ∈ l0_5, okOp x
  case neg => rw [if_neg hb] at h; cases h
  rw [if_pos hb] at h
  have E1 := Aside0.mk (Option.some.inj h)
  have HB := Aside0.mk (show l0_3.length ≤ 300 ∧ l0_4.length ≤ 300 ∧ l0_5.length ≤ 300 from ⟨hb.1, hb.2.1, hb.2.2.1⟩)
  have HG := Aside0.mk hb.2.2.2
  have R3 := Aside0.mk hr0_3
  have R4 := Aside0.mk hr0_4
  have R5 := Aside0.mk hr0_5
  have HW := Aside0.mk (show IsW w ((w.alloc (.cells #[.int .i64 a0_0, .int .i64 a0_1, .int .i64 a0_2, .slice A0_3 l0_3.length c0_3, .slice A0_4 l0_4.length c0_4, .slice A0_5 l0_5.length c0_5] 40)).alloc (.cells #[.slice none 0 0, .bool false] 62)) (w.heap.size + 1) [] false from
    IsW.mk2 (v := .slice none 0 0) (below_alloc (below_alloc (Below.refl _ w) _) _) (by omega) (by have := heap_alloc2_new w (.cells #[.int .i64 a0_0, .int .i64 a0_1, .int .i64 a0_2, .slice A0_3 l0_3.length c0_3, .slice A0_4 l0_4.length c0_4, .slice A0_5 l0_5.length c0_5] 40) (.cells #[.slice none 0 0, .bool false] 62); exact this) (Kd.R_nil _ _ _ _ _))
  have HX := Aside0.mk (heap_alloc2_old w (.cells #[.int .i64 a0_0, .int .i64 a0_1, .int .i64 a0_2, .slice A0_3 l0_3.length c0_3, .slice A0_4 l0_4.length c0_4, .slice A0_5 l0_5.length c0_5] 40) (.cells #[.slice none 0 0, .bool false] 62))
  have L1 := Aside0.mk (wnum_len 1 a0_0 ([], false))
  have L2 := Aside0.mk (wnum_len 1 a0_1 (wnum 1 a0_0 ([], false)))
  have L3 := Aside0.mk (wnum_len 1 a0_2 (wnum 1 a0_1 (wnum 1 a0_0 ([], false))))
  have L4 := Aside0.mk (wnums_len l0_3 (wnum 1 a0_2 (wnum 1 a0_1 (wnum 1 a0_0 ([], false)))))
  have L5 := Aside0.mk (wnums_len l0_4 (wnums l0_3 (wnum 1 a0_2 (wnum 1 a0_1 (wnum 1 a0_0 ([], false))))))
  have L6 := Aside0.mk (wnum_len 2 (l0_5.length : Int) (wnums l0_4 (wnums l0_3 (wnum 1 a0_2 (wnum 1 a0_1 (wnum 1 a0_0 ([], false)))))))
  have LM := Aside0.mk (msgW0_len a0_0 a0_1 a0_2 l0_3 l0_4 l0_5.length)
  obtain ⟨SU, hSU⟩ : ∃ SU, SU = msgW0 a0_0 a0_1 a0_2 l0_3 l0_4 l0_5.length := ⟨_, rfl⟩
  have E2 := Aside0.mk (show wnum 2 (l0_5.length : Int) (wnums l0_4 (wnums l0_3 (wnum 1 a0_2 (wnum 1 a0_1 (wnum 1 a0_0 ([], false)))))) = SU from by rw [hSU]; rfl)
  have E3 := Aside0.mk (show wops l0_5 SU = msgW a0_0 a0_1 a0_2 l0_3 l0_4 l0_5 from by rw [hSU]; rfl)
  rw [← hSU] at LM
  clear hSU
  have hg1 : ¬ ((l0_5.length : Int) > 65535) := by have := HB.out; omega
  have hg2 := decide_eq_false (show ¬ (65535 : Int) < (l0_5.length : Int) by omega)
  have hg3 := decide_eq_false (show ¬ 65535 < l0_5.length by omega)
  clear h hb hr0_3 hr0_4 hr0_5
  have hcx := fun i => blk_cell HX.out i
  go_enter Try.func22, Try.ntmps22
  go_wp2_with fail
  refine (W_num w _ (w.heap.size + 1) ([], false) HW.out a0_0 1 1 rfl (by omega) (by omega) (by have := HB.out; simp only [List.length_nil] at *; omega)).mono ?_
  rintro e w1 ⟨rfl, hi, hk⟩
  have H1 := Aside0.mk hi
  have D1 := Aside0.mk (hk _ _ _ _ HX.out (by decide) (by decide))
  have hc1 := fun i => blk_cell D1.out i
  have hf1 := fun i => blk_frozen D1.out i
  clear hi hk
  go_wp2_with fail
  refine (W_num w _ (w.heap.size + 1) (wnum 1 a0_0 ([], false)) H1.out a0_1 1 1 rfl (by omega) (by omega) (by have := HB.out; have := L1.out; simp only [List.length_nil] at *; omega)).mono ?_
  rintro e w2 ⟨rfl, hi, hk⟩
  have H2 := Aside0.mk hi
  have D2 := Aside0.mk (hk _ _ _ _ D1.out (by decide) (by decide))
  have hc2 := fun i => blk_cell D2.out i
  have hf2 := fun i => blk_frozen D2.out i
  clear hi hk
  go_wp2_with fail
  refine (W_num w _ (w.heap.size + 1) (wnum 1 a0_1 (wnum 1 a0_0 ([], false))) H2.out a0_2 1 1 rfl (by omega) (by omega) (by have := HB.out; have := L1.out; have := L2.out; simp only [List.length_nil] at *; omega)).mono ?_
  rintro e w3 ⟨rfl, hi, hk⟩
  have H3 := Aside0.mk hi
  have D3 := Aside0.mk (hk _ _ _ _ D2.out (by decide) (by decide))
  have hc3 := fun i => blk_cell D3.out i
  have hf3 := fun i => blk_frozen D3.out i
  clear hi hk
  go_wp2_with fail
  refine (W_nums w _ (w.heap.size + 1) (wnum 1 a0_2 (wnum 1 a0_1 (wnum 1 a0_0 ([], false)))) H3.out A0_3 c0_3 l0_3 R3.out (by have := HB.out; have := L1.out; have := L2.out; have := L3.out; simp only [List.length_nil] at *; omega) (by have := HB.out; omega)).mono ?_
  rintro e w4 ⟨rfl, hi, hk⟩
  have H4 := Aside0.mk hi
  have D4 := Aside0.mk (hk _ _ _ _ D3.out (by decide) (by decide))
  have hc4 := fun i => blk_cell D4.out i
  have hf4 := fun i => blk_frozen D4.out i
  clear hi hk
  go_wp2_with fail
  refine (W_nums w _ (w.heap.size + 1) (wnums l0_3 (wnum 1 a0_2 (wnum 1 a0_1 (wnum 1 a0_0 ([], false))))) H4.out A0_4 c0_4 l0_4 R4.out (by have := HB.out; have := L1.out; have := L2.out; have := L3.out; have := L4.out; simp only [List.length_nil] at *; omega) (by have := HB.out; omega)).mono ?_
  rintro e w5 ⟨rfl, hi, hk⟩
  have H5 := Aside0.mk hi
  have D5 := Aside0.mk (hk _ _ _ _ D4.out (by decide) (by decide))
  have hc5 := fun i => blk_cell D5.out i
  have hf5 := fun i => blk_frozen D5.out i
  clear hi hk
  go_wp2_with fail
  refine (W_num w _ (w.heap.size + 1) (wnums l0_4 (wnums l0_3 (wnum 1 a0_2 (wnum 1 a0_1 (wnum 1 a0_0 ([], false)))))) H5.out (l0_5.length : Int) 2 2 rfl (by omega) (by omega) (by have := HB.out; have := L1.out; have := L2.out; have := L3.out; have := L4.out; have := L5.out; simp only [List.length_nil] at *; omega)).mono ?_
  rintro e w6 ⟨rfl, hi, hk⟩
  have H6 := Aside0.mk hi
  have D6 := Aside0.mk (hk _ _ _ _ D5.out (by decide) (by decide))
  have hc6 := fun i => blk_cell D6.out i
  have hf6 := fun i => blk_frozen D6.out i
  clear hi hk
  have H6b := Aside0.mk (show IsW w w6 (w.heap.size + 1) SU.1 SU.2 from by have := H6.out; rw [E2.out] at this; exact this)
  clear H6 HW H1 H2 H3 H4 H5 hcx hc1 hc2 hc3 hc4 hc5 hf1 hf2 hf3 hf4 hf5 L1 L2 L3 L4 L5 L6
  go_wp2
  go_loopw [41] (fun v wr => ∃ k : Nat, k ≤ l0_5.length ∧ v = .int .i64 k ∧ Aside0 (IsW w wr (w.heap.size + 1) (wops (l0_5.take k) SU).1 (wops (l0_5.take k) SU).2)) (fun v _ => l0_5.length - (intOf v).toNat)
  case atStart => exact ⟨0, by omega, rfl, H6b⟩
  case round =>
    obtain ⟨k, hk, rfl, HI⟩ := hrel
    by_cases hlt : k < l0_5.length
    · obtain ⟨ad, Y2, d2, Y10, d10, Y11, d11, e, hd0, hd1, hd2, hd3, hd4, hd5, hd6, hd7, hd8, hd9, hd10, hd11, hl2, hq2, hl10, hq10, hl11, hq11⟩ := at_T55 R5.out (k : Int) (by omega) (by omega)
      subst e
      replace hd0 := pw_cell_below HI.out.1 hd0
      replace hd1 := pw_cell_below HI.out.1 hd1
      replace hd2 := pw_cell_below HI.out.1 hd2
      replace hd3 := pw_cell_below HI.out.1 hd3
      replace hd4 := pw_cell_below HI.out.1 hd4
      replace hd5 := pw_cell_below HI.out.1 hd5
      replace hd6 := pw_cell_below HI.out.1 hd6
      replace hd7 := pw_cell_below HI.out.1 hd7
      replace hd8 := pw_cell_below HI.out.1 hd8
      replace hd9 := pw_cell_below HI.out.1 hd9
      replace hd10 := pw_cell_below HI.out.1 hd10
      replace hd11 := pw_cell_below HI.out.1 hd11
      have hrd : rd_T55 l0_5 (k : Int) = l0_5.getD k z55 := by simp [rd_T55]
      have hin : okOp (l0_5.getD k z55) := by
        rw [List.getD_eq_getElem?_getD, List.getElem?_eq_getElem hlt]
        exact HG.out _ (List.getElem_mem hlt)
      rw [Int.toNat_natCast, hrd] at hd0 hd1 hd2 hd3 hd4 hd5 hd6 hd7 hd8 hd9 hd10 hd11
      rw [hrd] at hl2 hq2 hl10 hq10 hl11 hq11
      clear hrd
      have HT := Aside0.mk (wops_take l0_5 k hlt SU)
      have HZ := Aside0.mk (wops_len (l0_5.take k) SU (fun x hx => HG.out x (List.mem_of_mem_take hx)))
      have HTk := Aside0.mk (List.length_take_le k l0_5)
      obtain ⟨y, hy⟩ : ∃ y, y = l0_5.getD k z55 := ⟨_, rfl⟩
      rw [← hy] at hd0 hd1 hd2 hd3 hd4 hd5 hd6 hd7 hd8 hd9 hd10 hd11 hl2 hq2 hl10 hq10 hl11 hq11 HT hin
      clear hy
      have Q2 := Aside0.mk hq2
      have Q10 := Aside0.mk hq10
      have Q11 := Aside0.mk hq11
      have QL := Aside0.mk hl10
      have QI := Aside0.mk hin
      clear hl2 hq2 hl10 hq10 hl11 hq11 hin
      have hkb : l0_5.length ≤ 300 := HB.out.2.2
      have HI2 := Aside0.mk (HI.out.alloc (.cells #[.int .i64 y.f0.f0, .int .i64 y.f0.f1, .slice Y2 y.f1.length d2, .int .i64 y.f2.f0, .int .i64 y.f2.f1, .int .i64 y.f2.f2, .int .i64 y.f3, .int .i64 y.f4, .string y.f5, .int .i64 y.f6, .slice Y10 y.f7.length d10, .slice Y11 y.f8.length d11] 55))
      go_wp2_with fail
      refine (W_op w _ (w.heap.size + 1) (wops (l0_5.take k) SU) HI2.out y Y2 d2 Y10 d10 Y11 d11 Q2.out Q10.out QL.out Q11.out (by have := HZ.out; have := HTk.out; have := HB.out; have := LM.out; omega) (by have := QI.out.1; omega) (by have := QI.out.2; omega)).mono ?_
      rintro e w2 ⟨rfl, hi, -⟩
      rw [← HT.out] at hi
      have H2 := Aside0.mk hi
      clear hi
      go_wp2
      go_roundw
      case rel => exact ⟨k + 1, by omega, by go_num, H2⟩
      case measure => simp [intOf]; omega
    · obtain rfl : k = l0_5.length := by omega
      rw [List.take_length, E3.out] at HI
      obtain ⟨B, hB⟩ : ∃ B, B = (msgW a0_0 a0_1 a0_2 l0_3 l0_4 l0_5).1 := ⟨_, rfl⟩
      obtain ⟨b, hb⟩ : ∃ b, b = (msgW a0_0 a0_1 a0_2 l0_3 l0_4 l0_5).2 := ⟨_, rfl⟩
      rw [← hB, ← hb] at HI
      have E4 := Aside0.mk (show (if b = true then (([] : List Int), (1 : Int)) else sealB B) = (r1, r2) from by rw [hB, hb]; exact E1.out)
      clear hB hb E1 E2 E3
      obtain ⟨h0, hg, v, hv, hR⟩ := HI.out
      obtain ⟨Av, cv, rfl⟩ := Kd.R_slice hR
      have hc0 : wr.cell? ⟨w.heap.size + 1, 0, none⟩ = some (.slice Av B.length cv) := (blk_cell hv 0).trans rfl
      have hc1 : wr.cell? ⟨w.heap.size + 1, 1, none⟩ = some (.bool b) := (blk_cell hv 1).trans rfl
      have H0 := Aside0.mk h0
      have HR := Aside0.mk (Kd.R_reads' hR)
      clear h0 hg hv hR
      cases b
      · have e4 := E4.out
        rw [if_neg (by decide)] at e4
        go_wp2_with fail
        refine (crc_Seal.calls Av cv B r1 r2 wr HR.out.2.2 HR.out.2.1 (by rw [Seal_all, e4])).mono ?_
        rintro e w9 ⟨v9, rfl, ho, hb9⟩
        have HO := Aside0.mk ho
        have HB9 := Aside0.mk hb9
        clear ho hb9
        go_wp2
        go_ret2
        exact ⟨_, rfl, Kd.R_lower HO.out (below_size H0.out), below_step H0.out HB9.out⟩
      · have e4 := E4.out
        have e5 : (([] : List Int), (1 : Int)) = (r1, r2) := by simpa using e4
        go_wp2
        go_ret2
        obtain ⟨rfl, rfl⟩ := Prod.mk.inj e5
        exact ⟨_, rfl, Kd.R_nil _ _ _ _ _, H0.out⟩
end Go.Proofs.Ytnbjflcfdncocaa.M

/- msg.Read: what it tells of bytes, walked by hand. -/
namespace Go.Proofs.Ytnbjflcfdncocaa.M
open Go.RowKit Go.Proofs.YtnbjflcfdncocaaW.PrintWords Go.Proofs.YtnbjflcfdncocaaW.PrintLast Go.Proofs.YtnbjflcfdncocaaW.PrintMore

theorem set6 {W : World} {b t : Nat} {a0 a1 a2 a3 a4 a5 : Value} (h : W.heap[b]? = some (.cells #[a0, a1, a2, a3, a4, a5] t (0, 0))) (c0 c1 c2 c3 c4 c5 : Value) :
    (((((((W.setCell ⟨b, 0, none⟩ c0).setCell ⟨b, 1, none⟩ c1).setCell ⟨b, 2, none⟩ c2).setCell ⟨b, 3, none⟩ c3).setCell ⟨b, 4, none⟩ c4).setCell ⟨b, 5, none⟩ c5)).heap[b]? = some (.cells #[c0, c1, c2, c3, c4, c5] t (0, 0)) := by
  have h1 : (W.setCell ⟨b, 0, none⟩ c0).heap[b]? = some (.cells #[c0, a1, a2, a3, a4, a5] t (0, 0)) := blk_set h 0 c0
  have h2 : ((W.setCell ⟨b, 0, none⟩ c0).setCell ⟨b, 1, none⟩ c1).heap[b]? = some (.cells #[c0, c1, a2, a3, a4, a5] t (0, 0)) := blk_set h1 1 c1
  have h3 : (((W.setCell ⟨b, 0, none⟩ c0).setCell ⟨b, 1, none⟩ c1).setCell ⟨b, 2, none⟩ c2).heap[b]? = some (.cells #[c0, c1, c2, a3, a4, a5] t (0, 0)) := blk_set h2 2 c2
  have h4 : ((((W.setCell ⟨b, 0, none⟩ c0).setCell ⟨b, 1, none⟩ c1).setCell ⟨b, 2, none⟩ c2).setCell ⟨b, 3, none⟩ c3).heap[b]? = some (.cells #[c0, c1, c2, c3, a4, a5] t (0, 0)) := blk_set h3 3 c3
  have h5 : (((((W.setCell ⟨b, 0, none⟩ c0).setCell ⟨b, 1, none⟩ c1).setCell ⟨b, 2, none⟩ c2).setCell ⟨b, 3, none⟩ c3).setCell ⟨b, 4, none⟩ c4).heap[b]? = some (.cells #[c0, c1, c2, c3, c4, a5] t (0, 0)) := blk_set h4 4 c4
  have h6 : ((((((W.setCell ⟨b, 0, none⟩ c0).setCell ⟨b, 1, none⟩ c1).setCell ⟨b, 2, none⟩ c2).setCell ⟨b, 3, none⟩ c3).setCell ⟨b, 4, none⟩ c4).setCell ⟨b, 5, none⟩ c5).heap[b]? = some (.cells #[c0, c1, c2, c3, c4, c5] t (0, 0)) := blk_set h5 5 c5
  exact h6
/-- Operations, as many as are told, while the reader is not bad. -/
def rops : Nat → List Int × Bool → List Opr × (List Int × Bool)
  | 0, st => ([], st)
  | n + 1, st => if st.2 = true then ([], st) else ((rop st).1 :: (rops n (rop st).2).1, (rops n (rop st).2).2)
/-- A message's parts. -/
abbrev MsgP := Int × Int × Int × List Int × List Int × List Opr
def zMsg : MsgP := (0, 0, 0, [], [], [])
def rheadM (st : List Int × Bool) : (Int × Int × Int × List Int × List Int × Int) × (List Int × Bool) :=
  ((rnum 1 st).1, (rnum 1 (rnum 1 st).2).1, (rnum 1 (rnum 1 (rnum 1 st).2).2).1, (rnums (rnum 1 (rnum 1 (rnum 1 st).2).2).2).1, (rnums (rnums (rnum 1 (rnum 1 (rnum 1 st).2).2).2).2).1, (rnum 2 (rnums (rnums (rnum 1 (rnum 1 (rnum 1 st).2).2).2).2).2).1) |> fun x => (x, (rnum 2 (rnums (rnums (rnum 1 (rnum 1 (rnum 1 st).2).2).2).2).2).2)
def rfin (h : Int × Int × Int × List Int × List Int × Int) (t : List Opr × (List Int × Bool)) : MsgP × Int :=
  if t.2.2 = true ∨ t.2.1 ≠ [] then (zMsg, 3) else ((h.1, h.2.1, h.2.2.1, h.2.2.2.1, h.2.2.2.2.1, t.1), 0)
def rmsg (B : List Int) : MsgP × Int := rfin (rheadM (B, false)).1 (rops (rheadM (B, false)).1.2.2.2.2.2.toNat (rheadM (B, false)).2)
def readB (l : List Int) : MsgP × Int := if (openL l).2 = 0 then rmsg (openL l).1 else (zMsg, (openL l).2)
instance (l : List Int) : Decidable (Bytes_ l) := by unfold Bytes_ Byte; infer_instance
def msg_Read.f (l0 : List Int) : Option (Int × Int × Int × List Int × List Int × List (S55) × Int) :=
  if Bytes_ l0 ∧ l0.length < 1000000 then some ((readB l0).1.1, (readB l0).1.2.1, (readB l0).1.2.2.1, (readB l0).1.2.2.2.1, (readB l0).1.2.2.2.2.1, (readB l0).1.2.2.2.2.2, (readB l0).2) else none
theorem openL_len (l : List Int) : (openL l).1.length ≤ 65536 := by
  unfold openL
  split
  · simp
  · split
    · simp; omega
    · simp
theorem openL_bytes (l : List Int) (h : Bytes_ l) : Bytes_ (openL l).1 := by
  unfold openL
  split
  · intro c hc; simp at hc
  · split
    · exact Bytes_take h _
    · intro c hc; simp at hc
theorem rnum_bound (s : Nat) (st : List Int × Bool) (h : Bytes_ st.1) : 0 ≤ (rnum s st).1 ∧ (rnum s st).1 < 256 ^ s := by
  unfold rnum
  split
  · exact ⟨by simp, by simpa using Int.pow_pos (by omega : (0 : Int) < 256)⟩
  · rename_i hn
    exact numL_bound s _ (by simp; omega) (Bytes_take h s)
theorem IsR.bytes {w0 W : World} {g : Nat} {B rest : List Int} {bad : Bool} (h : IsR w0 W g B rest bad) : Bytes_ rest := by
  obtain ⟨_, _, h2, _, A, c, at_, _, _, _, _, hd⟩ := h
  rw [← hd]; exact Bytes_drop h2 at_
theorem meas_down (n : Nat) (h : wrap64 (n : Int) = (n : Int)) : (intOf (Value.int IntKind.i64 (wrap64 (n : Int)))).toNat < (intOf (Value.int IntKind.i64 ((n + 1 : Nat) : Int))).toNat := by
  rw [h]
  show (n : Int).toNat < ((n + 1 : Nat) : Int).toNat
  omega
theorem minfo55 : (Try.prog.info? 55).map (fun i => (i.zero, i.size, i.bytes)) = some (some (.agg #[.int .i64 0, .int .i64 0, .slice none 0 0, .int .i64 0, .int .i64 0, .int .i64 0, .int .i64 0, .int .i64 0, .string ⟨#[]⟩, .int .i64 0, .slice none 0 0, .slice none 0 0]), 12, 152) := by kernel_rfl
set_option maxHeartbeats 8000000 in
set_option maxRecDepth 100000 in
theorem msg_Read.calls (A0 : Option Addr) (c0 : Nat) (l0 : List Int) (r1 r2 r3 : Int) (r4 r5 : List Int) (r6 : List (S55)) (r7 : Int) (w : World) (hr0 : Kd.C (Kd.int .u8) w A0 l0.length l0) (hc0 : l0.length ≤ c0) (h : msg_Read.f l0 = some (r1, r2, r3, r4, r5, r6, r7)) :
    Calls Try.prog 25 #[.slice A0 l0.length c0] w fun e w' => ∃ v0_ v1_ v2_ : Value, e = .returned (.tuple #[.agg #[.int .i64 r1, .int .i64 r2, .int .i64 r3, v0_, v1_, v2_], .int .i64 r7]) ∧ Kd.R (Kd.int .i64) 3 w' w.heap.size (fun _ => True) v0_ r4 ∧ Kd.R (Kd.int .i64) 3 w' w.heap.size (fun _ => True) v1_ r5 ∧ Kd.S k55 55 w' w.heap.size (fun _ => True) v2_ r6 ∧ Below w.heap.size w w' := by
  unfold msg_Read.f at h
  by_cases hb : Bytes_ l0 ∧ l0.length < 1000000
  case neg => rw [if_neg hb] at h; cases h
  rw [if_pos hb] at h
  have h := Option.some.inj h
  simp only [Prod.mk.injEq] at h
  have HEq := Aside0.mk h
  have HR0 := Aside0.mk hr0
  have HC0 := Aside0.mk hc0
  have HP := Aside0.mk (Open_eq l0 (by omega) (l0.length + 2) (by omega))
  obtain ⟨bd, hbd⟩ : ∃ bd, bd = (openL l0).1 := ⟨_, rfl⟩
  obtain ⟨er, her⟩ : ∃ er, er = (openL l0).2 := ⟨_, rfl⟩
  have HBL := Aside0.mk (show bd.length ≤ 65536 from by rw [hbd]; exact openL_len l0)
  have HBB := Aside0.mk (show Bytes_ bd from by rw [hbd]; exact openL_bytes l0 hb.1)
  have HP2 := Aside0.mk (show crc_Open.f (l0.length + 2) l0 = some (bd, er) from by rw [hbd, her]; exact HP.out)
  clear h hb hr0 hc0 HP
  go_enter Try.func25, Try.ntmps25
  go_wp2_with fail
  refine (crc_Open.calls (l0.length + 2) A0 c0 l0 bd er _ (Kd.C_alloc HR0.out _) HC0.out HP2.out).mono ?_
  rintro e w1 ⟨v1, rfl, ho, hb⟩
  obtain ⟨Ab, cb, rfl⟩ := Kd.R_slice ho
  have HO1 := Aside0.mk ho
  have D1 := Aside0.mk (blk_below (heap_alloc_new w (.cells #[.int .i64 0, .int .i64 0, .int .i64 0, .slice none 0 0, .slice none 0 0, .slice none 0 0] 40)) hb)
  have HB1 := Aside0.mk (show Below w.heap.size w w1 from below_step (below_alloc (Below.refl _ w) _) hb)
  clear ho hb
  by_cases h0 : er = 0
  case neg =>
    have h1 : (er != 0) = true := bne_iff_ne.2 h0
    have HE := Aside0.mk (show readB l0 = (zMsg, er) from by rw [her]; exact if_neg (by rw [← her]; exact h0))
    have E2 := HEq.out
    rw [HE.out] at E2
    have E3 := Aside0.mk E2
    have hdc := fun i => blk_cell D1.out i
    have hdf := fun i => blk_frozen D1.out i
    clear E2 h0 her hbd
    go_wp2
    obtain ⟨rfl, rfl, rfl, rfl, rfl, rfl, rfl⟩ := E3.out
    refine bodyPost_ret (v := .tuple #[.agg #[.int .i64 0, .int .i64 0, .int .i64 0, .slice none 0 0, .slice none 0 0, .slice none 0 0], .int .i64 er]) ?_ rfl ⟨.slice none 0 0, .slice none 0 0, .slice none 0 0, rfl, Kd.R_nil _ _ _ _ _, Kd.R_nil _ _ _ _ _, Kd.S_nil _ _ _ _ _, by repeat (first | refine below_set ?_ (Nat.le_refl _) | exact HB1.out)⟩
    exact results_ct (p := 2) (u := 3) (ty := 40) rfl _ _ w.heap.size 40 #[.int .i64 0, .int .i64 0, .int .i64 0, .slice none 0 0, .slice none 0 0, .slice none 0 0] (0, 0) _ rfl (set6 D1.out _ _ _ _ _ _) Try.underlying40 rfl (by kernel_rfl)
  subst h0
  have HRB := Aside0.mk (show readB l0 = rmsg bd from by rw [hbd]; exact if_pos her.symm)
  clear her hbd
  obtain ⟨q1, hq1⟩ : ∃ q, q = rnum 1 (bd, false) := ⟨_, rfl⟩
  obtain ⟨q2, hq2⟩ : ∃ q, q = rnum 1 (q1.2.1, q1.2.2) := ⟨_, rfl⟩
  obtain ⟨q3, hq3⟩ : ∃ q, q = rnum 1 (q2.2.1, q2.2.2) := ⟨_, rfl⟩
  obtain ⟨q4, hq4⟩ : ∃ q, q = rnums (q3.2.1, q3.2.2) := ⟨_, rfl⟩
  obtain ⟨q5, hq5⟩ : ∃ q, q = rnums (q4.2.1, q4.2.2) := ⟨_, rfl⟩
  obtain ⟨q6, hq6⟩ : ∃ q, q = rnum 2 (q5.2.1, q5.2.2) := ⟨_, rfl⟩
  have HS := Aside0.mk (show rmsg bd = rfin (q1.1, q2.1, q3.1, q4.1, q5.1, q6.1) (rops q6.1.toNat q6.2) from by rw [hq6, hq5, hq4, hq3, hq2, hq1]; rfl)
  have HQ1 := Aside0.mk hq1
  have HQ2 := Aside0.mk hq2
  have HQ3 := Aside0.mk hq3
  have HQ4 := Aside0.mk hq4
  have HQ5 := Aside0.mk hq5
  have HQ6 := Aside0.mk hq6
  clear hq1 hq2 hq3 hq4 hq5 hq6
  go_wp2_with fail
  obtain ⟨g, hgd⟩ : ∃ g, g = w1.heap.size := ⟨_, rfl⟩
  have H0 := Aside0.mk (show IsR w1 (w1.alloc (.cells #[.slice Ab bd.length cb, .int .i64 0, .bool false] 74)) g bd bd false from ⟨below_alloc (Below.refl _ w1) _, by omega, HBB.out, HBL.out, Ab, cb, 0, by rw [hgd]; exact heap_alloc_new w1 (.cells #[.slice Ab bd.length cb, .int .i64 0, .bool false] 74), (Kd.R_reads' HO1.out).2.2, (Kd.R_reads' HO1.out).2.1, by omega, rfl⟩)
  have D0 := Aside0.mk (blk_below D1.out (below_alloc (Below.refl _ w1) (.cells #[.slice Ab bd.length cb, .int .i64 0, .bool false] 74)))
  have HRG := Aside0.mk (show w.heap.size ≠ g from by have := blk_lt D1.out; omega)
  clear D1
  rw [← hgd]
  clear hgd
  refine (R_num w1 _ g bd bd false H0.out 1 1 rfl (by omega) (by omega)).mono ?_
  rintro e v1 ⟨rfl, hi, hk⟩
  rw [← HQ1.out] at hi
  rw [← HQ1.out]
  have D1 := Aside0.mk (hk.blk D0.out HRG.out (by simp))
  have H1 := Aside0.mk hi
  clear hi hk HQ1
  go_wp2_with fail
  refine (R_num w1 _ g bd q1.2.1 q1.2.2 H1.out 1 1 rfl (by omega) (by omega)).mono ?_
  rintro e v2 ⟨rfl, hi, hk⟩
  rw [← HQ2.out] at hi
  rw [← HQ2.out]
  have D2 := Aside0.mk (hk.blk D1.out HRG.out (by simp))
  have H2 := Aside0.mk hi
  clear hi hk HQ2
  go_wp2_with fail
  refine (R_num w1 _ g bd q2.2.1 q2.2.2 H2.out 1 1 rfl (by omega) (by omega)).mono ?_
  rintro e v3 ⟨rfl, hi, hk⟩
  rw [← HQ3.out] at hi
  rw [← HQ3.out]
  have D3 := Aside0.mk (hk.blk D2.out HRG.out (by simp))
  have H3 := Aside0.mk hi
  clear hi hk HQ3
  go_wp2_with fail
  refine (R_nums w1 _ g bd q3.2.1 q3.2.2 H3.out).mono ?_
  rintro e v4 ⟨v, rfl, ho, hi, hk⟩
  rw [← HQ4.out] at hi ho
  obtain ⟨A4, c4, rfl⟩ := Kd.R_slice ho
  have O4 := Aside0.mk (Kd.R_lower ho (below_size H3.out.1))
  have D4 := Aside0.mk (hk.blk D3.out HRG.out (by simp))
  have H4 := Aside0.mk hi
  clear hi hk HQ4 ho
  go_wp2_with fail
  refine (R_nums w1 _ g bd q4.2.1 q4.2.2 H4.out).mono ?_
  rintro e v5 ⟨v, rfl, ho, hi, hk⟩
  rw [← HQ5.out] at hi ho
  obtain ⟨A5, c5, rfl⟩ := Kd.R_slice ho
  have O5 := Aside0.mk (Kd.R_lower ho (below_size H4.out.1))
  have P5 := Aside0.mk (Kd.R_keep O4.out hk (fun _ h => h))
  have D5 := Aside0.mk (hk.blk D4.out HRG.out (by simp))
  have H5 := Aside0.mk hi
  clear hi hk HQ5 ho
  go_wp2_with fail
  have H6 := Aside0.mk (H5.out.alloc (.cells #[.int .i64 q1.1, .int .i64 q2.1, .int .i64 q3.1, .slice A4 q4.1.length c4, .slice A5 q5.1.length c5, .slice none 0 0] 40))
  have X6 := Aside0.mk (heap_alloc_new v5 (.cells #[.int .i64 q1.1, .int .i64 q2.1, .int .i64 q3.1, .slice A4 q4.1.length c4, .slice A5 q5.1.length c5, .slice none 0 0] 40))
  have D6 := Aside0.mk (blk_below D5.out (below_alloc (Below.refl _ v5) (.cells #[.int .i64 q1.1, .int .i64 q2.1, .int .i64 q3.1, .slice A4 q4.1.length c4, .slice A5 q5.1.length c5, .slice none 0 0] 40)))
  have OS6 := Aside0.mk (Kd.R_alloc O5.out (.cells #[.int .i64 q1.1, .int .i64 q2.1, .int .i64 q3.1, .slice A4 q4.1.length c4, .slice A5 q5.1.length c5, .slice none 0 0] 40))
  have OH6 := Aside0.mk (Kd.R_alloc P5.out (.cells #[.int .i64 q1.1, .int .i64 q2.1, .int .i64 q3.1, .slice A4 q4.1.length c4, .slice A5 q5.1.length c5, .slice none 0 0] 40))
  have hxg : v5.heap.size ≠ g := by have := H5.out.lt; omega
  have hxr : v5.heap.size ≠ w.heap.size := by have := blk_lt D5.out; omega
  have hxw : w1.heap.size ≤ v5.heap.size := below_size H5.out.1
  obtain ⟨v6, hv6⟩ : ∃ v6, v6 = v5.alloc (.cells #[.int .i64 q1.1, .int .i64 q2.1, .int .i64 q3.1, .slice A4 q4.1.length c4, .slice A5 q5.1.length c5, .slice none 0 0] 40) := ⟨_, rfl⟩
  rw [← hv6] at H6 X6 D6 OS6 OH6
  rw [← hv6]
  obtain ⟨xb, hxb⟩ : ∃ xb, xb = v5.heap.size := ⟨_, rfl⟩
  rw [← hxb] at X6 hxg hxr hxw
  rw [← hxb]
  have HXG := Aside0.mk hxg
  have HXR := Aside0.mk hxr
  have HXW := Aside0.mk hxw
  have HRX := Aside0.mk (fun e => HXR.out e.symm : w.heap.size ≠ xb)
  clear hv6 hxb hxg hxr hxw
  refine (R_num w1 _ g bd q5.2.1 q5.2.2 H6.out 2 2 rfl (by omega) (by omega)).mono ?_
  have hq6b := rnum_bound 2 (q5.2.1, q5.2.2) H6.out.bytes
  rw [← HQ6.out] at hq6b
  rintro e v7 ⟨rfl, hi, hk⟩
  rw [← HQ6.out] at hi
  rw [← HQ6.out]
  have H7 := Aside0.mk hi
  have X7 := Aside0.mk (hk.blk X6.out HXG.out (by simp))
  have D7 := Aside0.mk (hk.blk D6.out HRG.out (by simp))
  have OS7 := Aside0.mk (Kd.R_keep OS6.out hk (fun _ h => h))
  have OH7 := Aside0.mk (Kd.R_keep OH6.out hk (fun _ h => h))
  clear hi hk HQ6
  obtain ⟨N, hN⟩ : ∃ N : Nat, q6.1 = (N : Int) := ⟨q6.1.toNat, by omega⟩
  have HN := Aside0.mk (show N ≤ 65535 from by have := hq6b.2; rw [hN] at this; omega)
  have HS2 := Aside0.mk (show rmsg bd = rfin (q1.1, q2.1, q3.1, q4.1, q5.1, q6.1) (rops N q6.2) from by rw [HS.out]; congr 1; rw [hN, Int.toNat_natCast])
  rw [hN]
  clear hq6b hN
  obtain ⟨FL, hFL⟩ : ∃ FL, FL = rops N q6.2 := ⟨_, rfl⟩
  rw [← hFL] at HS2
  have HFL := Aside0.mk hFL
  clear hFL
  go_wp2
  go_loopw [8] (fun v wr => ∃ (n : Nat) (L : List Opr) (st : List Int × Bool) (Ao : Option Addr) (co : Nat), n + L.length ≤ 65535 ∧ v = .int .i64 n ∧ Aside0 (L ++ (rops n st).1 = FL.1 ∧ (rops n st).2 = FL.2) ∧ Aside0 (IsR w1 wr g bd st.1 st.2) ∧ Aside0 (wr.heap[w.heap.size]? = some (.cells #[.int .i64 0, .int .i64 0, .int .i64 0, .slice none 0 0, .slice none 0 0, .slice none 0 0] 40 (0, 0))) ∧ Aside0 (wr.heap[xb]? = some (.cells #[.int .i64 q1.1, .int .i64 q2.1, .int .i64 q3.1, .slice A4 q4.1.length c4, .slice A5 q5.1.length c5, .slice Ao L.length co] 40 (0, 0))) ∧ Aside0 (Kd.R (Kd.int .i64) 3 wr w1.heap.size (fun k => k ≠ g) (.slice A4 q4.1.length c4) q4.1) ∧ Aside0 (Kd.R (Kd.int .i64) 3 wr w1.heap.size (fun k => k ≠ g) (.slice A5 q5.1.length c5) q5.1) ∧ Aside0 (Kd.S k55 55 wr w1.heap.size (fun k => k ≠ g) (.slice Ao L.length co) L)) (fun v _ => (intOf v).toNat)
  case atStart => exact ⟨N, [], q6.2, none, 0, by have := HN.out; simpa using this, rfl, ⟨by rw [HFL.out]; rfl, by rw [HFL.out]⟩, H7, D7, X7, OH7, OS7, ⟨Kd.S_nil _ _ _ _ _⟩⟩
  case round =>
    obtain ⟨n, L, st, Ao, co, hn, rfl, HFL2, HI, HD, HX, HOH, HOS, HOL⟩ := hrel
    rcases n with _ | n
    · have HF := Aside0.mk (show L = FL.1 ∧ st = FL.2 from by have := HFL2.out; simpa [rops] using this)
      clear hn HFL2
      rcases hbq : st.2 with _ | _
      · have HBT := Aside0.mk hbq
        rw [hbq] at HI
        clear hbq
        obtain ⟨h0, hg, h2, h3, A, c, at_, hv, hC, hc, ha, hd⟩ := HI.out
        have hb2 := (blk_cell hv 2).trans rfl
        have hb1 := (blk_cell hv 1).trans rfl
        have hdc := fun i => blk_cell HD.out i
        have hdf := fun i => blk_frozen HD.out i
        have hxc := fun i => blk_cell HX.out i
        by_cases hr : st.1 = []
        · have hne : ((at_ : Int) != (bd.length : Int)) = false := by have h9 := congrArg List.length hd; rw [hr] at h9; simp at h9; simp; omega
          have HE := Aside0.mk (show readB l0 = ((q1.1, q2.1, q3.1, q4.1, q5.1, FL.1), 0) from by rw [HRB.out, HS2.out]; exact if_neg (by rw [← HF.out.2]; rintro (h | h); rw [HBT.out] at h; cases h; exact h hr))
          have E2 := HEq.out
          rw [HE.out, ← HF.out.1] at E2
          have E3 := Aside0.mk E2
          clear E2 hr h0 hg h2 h3 hv hC hc ha hd
          go_wp2
          obtain ⟨rfl, rfl, rfl, rfl, rfl, rfl, rfl⟩ := E3.out
          refine bodyPost_ret (v := .tuple #[.agg #[.int .i64 q1.1, .int .i64 q2.1, .int .i64 q3.1, .slice A4 q4.1.length c4, .slice A5 q5.1.length c5, .slice Ao L.length co], .int .i64 0]) ?_ rfl ⟨.slice A4 q4.1.length c4, .slice A5 q5.1.length c5, .slice Ao L.length co, rfl, (Kd.R_mono (Kd.R_lower (Kd.R_step (Kd.R_types HOH.out HD.out (by decide)) (fun k hk _ => by repeat (first | refine heap_set ?_ hk.2 | rfl))) (below_size HB1.out)) (fun _ _ => trivial)), (Kd.R_mono (Kd.R_lower (Kd.R_step (Kd.R_types HOS.out HD.out (by decide)) (fun k hk _ => by repeat (first | refine heap_set ?_ hk.2 | rfl))) (below_size HB1.out)) (fun _ _ => trivial)), (Kd.S_mono (Kd.S_lower (Kd.S_step (Kd.S_types HOL.out HD.out (by decide)) (fun k hk _ => by repeat (first | refine heap_set ?_ hk.2 | rfl))) (below_size HB1.out)) (fun _ _ => trivial)), by repeat (first | refine below_set ?_ (Nat.le_refl _) | exact (below_step HB1.out HI.out.1))⟩
          exact results_ct (p := 2) (u := 3) (ty := 40) rfl _ _ w.heap.size 40 #[.int .i64 q1.1, .int .i64 q2.1, .int .i64 q3.1, .slice A4 q4.1.length c4, .slice A5 q5.1.length c5, .slice Ao L.length co] (0, 0) _ rfl (set6 HD.out _ _ _ _ _ _) Try.underlying40 rfl (by kernel_rfl)
        · have hne : ((at_ : Int) != (bd.length : Int)) = true := by have h9 : st.1.length = bd.length - at_ := by { rw [← hd]; simp }; have h8 : 0 < st.1.length := List.length_pos_iff.2 hr; simp; omega
          have HE := Aside0.mk (show readB l0 = (zMsg, 3) from by rw [HRB.out, HS2.out]; exact if_pos (by rw [← HF.out.2]; exact .inr hr))
          have E2 := HEq.out
          rw [HE.out] at E2
          have E3 := Aside0.mk E2
          clear E2 h0 hg h2 h3 hv hC hc ha hd
          go_wp2
          obtain ⟨rfl, rfl, rfl, rfl, rfl, rfl, rfl⟩ := E3.out
          refine bodyPost_ret (v := .tuple #[.agg #[.int .i64 0, .int .i64 0, .int .i64 0, .slice none 0 0, .slice none 0 0, .slice none 0 0], .int .i64 3]) ?_ rfl ⟨.slice none 0 0, .slice none 0 0, .slice none 0 0, rfl, Kd.R_nil _ _ _ _ _, Kd.R_nil _ _ _ _ _, Kd.S_nil _ _ _ _ _, by repeat (first | refine below_set ?_ (Nat.le_refl _) | exact (below_step HB1.out HI.out.1))⟩
          exact results_ct (p := 2) (u := 3) (ty := 40) rfl _ _ w.heap.size 40 #[.int .i64 0, .int .i64 0, .int .i64 0, .slice none 0 0, .slice none 0 0, .slice none 0 0] (0, 0) _ rfl (set6 HD.out _ _ _ _ _ _) Try.underlying40 rfl (by kernel_rfl)
      · have HBT := Aside0.mk hbq
        rw [hbq] at HI
        clear hbq
        obtain ⟨h0, hg, h2, h3, A, c, at_, hv, hC, hc, ha, hd⟩ := HI.out
        have hb2 := (blk_cell hv 2).trans rfl
        have hb1 := (blk_cell hv 1).trans rfl
        have hdc := fun i => blk_cell HD.out i
        have hdf := fun i => blk_frozen HD.out i
        have hxc := fun i => blk_cell HX.out i
        have HE := Aside0.mk (show readB l0 = (zMsg, 3) from by rw [HRB.out, HS2.out]; exact if_pos (by rw [← HF.out.2]; exact .inl HBT.out))
        have E2 := HEq.out
        rw [HE.out] at E2
        have E3 := Aside0.mk E2
        clear E2 h0 hg h2 h3 hv hC hc ha hd
        go_wp2
        obtain ⟨rfl, rfl, rfl, rfl, rfl, rfl, rfl⟩ := E3.out
        refine bodyPost_ret (v := .tuple #[.agg #[.int .i64 0, .int .i64 0, .int .i64 0, .slice none 0 0, .slice none 0 0, .slice none 0 0], .int .i64 3]) ?_ rfl ⟨.slice none 0 0, .slice none 0 0, .slice none 0 0, rfl, Kd.R_nil _ _ _ _ _, Kd.R_nil _ _ _ _ _, Kd.S_nil _ _ _ _ _, by repeat (first | refine below_set ?_ (Nat.le_refl _) | exact (below_step HB1.out HI.out.1))⟩
        exact results_ct (p := 2) (u := 3) (ty := 40) rfl _ _ w.heap.size 40 #[.int .i64 0, .int .i64 0, .int .i64 0, .slice none 0 0, .slice none 0 0, .slice none 0 0] (0, 0) _ rfl (set6 HD.out _ _ _ _ _ _) Try.underlying40 rfl (by kernel_rfl)
    · rcases hbq : st.2 with _ | _
      · have HF := Aside0.mk (show L ++ [(rop st).1] ++ (rops n (rop st).2).1 = FL.1 ∧ (rops n (rop st).2).2 = FL.2 from by have := HFL2.out; rw [show rops (n + 1) st = ((rop st).1 :: (rops n (rop st).2).1, (rops n (rop st).2).2) from if_neg (by rw [hbq]; exact Bool.false_ne_true)] at this; simpa using this)
        have hp : decide ((0 : Int) < ((n + 1 : Nat) : Int)) = true := decide_eq_true (by omega)
        have HLN := Aside0.mk hn
        have HWN := Aside0.mk (show wrap64 (n : Int) = (n : Int) from wrap_in _ (by omega) (by omega))
        obtain ⟨q9, hq9⟩ : ∃ q, q = rop (st.1, st.2) := ⟨_, rfl⟩
        have HQ9 := Aside0.mk hq9
        rw [show rop st = q9 from hq9.symm] at HF
        have hv2 : wr.cell? ⟨g, 2, none⟩ = some (.bool false) := by obtain ⟨_, _, _, _, A, c, at_, hv, _⟩ := HI.out; rw [hbq] at hv; exact (blk_cell hv 2).trans rfl
        have hxc := fun i => blk_cell HX.out i
        have hxf := fun i => blk_frozen HX.out i
        have HB12 := Aside0.mk (Kd.S_bound HOL.out)
        clear hbq hq9 hn HFL2
        go_wp2_with fail
        go_region_law (first | (go_simp; go_at_call 40; refine (R_op w1 _ g bd st.1 st.2 (HI.out.below (by first | exact Below.refl _ _ | exact below_drew (Below.refl _ _)))).mono ?_; rintro e w12 ⟨cs, rfl, hM, hi, hk2⟩; rw [← HQ9.out] at hi hM; obtain ⟨u2, u10, u11, rfl, m2, m10, m11⟩ := k55_openM hM; obtain ⟨B2, d2, rfl⟩ := Kd.R_slice m2; obtain ⟨B10, d10, rfl⟩ := Kd.R_slice m10; obtain ⟨B11, d11, rfl⟩ := Kd.R_slice m11; have hk3 : KeepBut wr w12 g none := hk2; have HM12 := Aside0.mk (show k55.M w12 wr.heap.size (fun k => k ≠ g) q9.1 _ from hM); have H12 := Aside0.mk hi; have HZ12 := Aside0.mk hk3.1; have D12 := Aside0.mk (hk3.blk HD.out HRG.out (by simp)); have X12 := Aside0.mk (hk3.blk HX.out HXG.out (by simp)); have OH12 := Aside0.mk (Kd.R_keep HOH.out hk3 (fun _ h => h)); have OS12 := Aside0.mk (Kd.R_keep HOS.out hk3 (fun _ h => h)); have OL12 := Aside0.mk (Kd.S_keep HB12.out hk3 (fun _ h => h.1)); have hxc2 := fun i => blk_cell X12.out i; have hxf2 := fun i => blk_frozen X12.out i; have X12a := Aside0.mk (blk_below X12.out (below_alloc (Below.refl _ w12) (.cells #[.int .i64 q9.1.f0.f0, .int .i64 q9.1.f0.f1, .slice B2 q9.1.f1.length d2, .int .i64 q9.1.f2.f0, .int .i64 q9.1.f2.f1, .int .i64 q9.1.f2.f2, .int .i64 q9.1.f3, .int .i64 q9.1.f4, .string q9.1.f5, .int .i64 q9.1.f6, .slice B10 q9.1.f7.length d10, .slice B11 q9.1.f8.length d11] 55))); have hxc2a := fun i => blk_cell X12a.out i; clear hi hk2 hk3 hM m2 m10 m11 X12a) | (refine Kd.S_append_step k55 (w0 := w12) w1.heap.size rfl (.tmp 46) (.tmp 49) 38 55 _ 152 rfl Try.underlying38 minfo55 rfl (by decide) (by omega) (.slice Ao L.length co) L q9.1 [.int .i64 q9.1.f0.f0, .int .i64 q9.1.f0.f1, .slice B2 q9.1.f1.length d2, .int .i64 q9.1.f2.f0, .int .i64 q9.1.f2.f1, .int .i64 q9.1.f2.f2, .int .i64 q9.1.f3, .int .i64 q9.1.f4, .string q9.1.f5, .int .i64 q9.1.f6, .slice B10 q9.1.f7.length d10, .slice B11 q9.1.f8.length d11] (fun k => k ≠ g) (fun k => k ≠ g ∧ wr.heap.size ≤ k) rfl rfl (k55.M_lower (below_size HI.out.1) (k55.M_mono (fun k hk => ⟨hk.1, hk.2.1⟩) (k55.M_bound HM12.out))) (fun k hk => ⟨hk.1, fun e_ => by have := Kd.S_lt HOL.out k e_.symm; omega⟩) (fun k hk e_ => by have := H12.out.lt; omega) (Kd.S_mono OL12.out (fun k hk => ⟨hk.1, fun h => by have := hk.2.2.1; omega⟩)) (Below.refl _ _) (below_size H12.out.1) (by have := HLN.out; omega) ?_; intro v3 w13 ho hb hgw hat; obtain ⟨A13, c13, rfl⟩ := Kd.R_slice (Kd.S_R ho); have O13 := Aside0.mk ho; have hb12 := fun k (hk : (Value.slice Ao L.length co).ownBlock = some k) => Kd.S_base HOL.out k hk; have hg12 : (Value.slice Ao L.length co).ownBlock ≠ some g := fun e_ => (Kd.S_R HOL.out).1 g e_ rfl; have H13 := Aside0.mk (H12.out.grown hgw hg12 (fun k hk => hb12 k hk)); have D13 := Aside0.mk (blk_grown D12.out hgw (Kd.R_ne (Kd.S_R OL12.out) D12.out (by decide))); have X13 := Aside0.mk (blk_grown X12.out hgw (Kd.R_ne (Kd.S_R OL12.out) X12.out (by decide))); have OH13 := Aside0.mk (Kd.R_over' OH12.out (Kd.S_typed OL12.out) (by decide) hgw); have OS13 := Aside0.mk (Kd.R_over' OS12.out (Kd.S_typed OL12.out) (by decide) hgw); have hxc3 := fun i => blk_cell X13.out i; have hxf3 := fun i => blk_frozen X13.out i; clear ho hb hgw hat hxc2 hxf2 hxc2a hb12 hg12))
        all_goals (go_wp2; go_roundw)
        case rel => exact ⟨n, L ++ [q9.1], q9.2, A13, c13, by have := HLN.out; simp; omega, by first | (rw [HWN.out]; done) | rw [HWN.out] | go_num, HF, ⟨H13.out.far HXG.out HXW.out 5 (.slice A13 (L.length + 1) c13)⟩, ⟨(Below.heap_setCell w13 ⟨xb, 5, none⟩ (.slice A13 (L.length + 1) c13) w.heap.size HRX.out).trans D13.out⟩, by rw [show (L ++ [q9.1]).length = L.length + 1 from by simp]; exact ⟨blk_set X13.out 5 (.slice A13 (L.length + 1) c13)⟩, ⟨Kd.R_set OH13.out X13.out (by decide) 5 (.slice A13 (L.length + 1) c13)⟩, ⟨Kd.R_set OS13.out X13.out (by decide) 5 (.slice A13 (L.length + 1) c13)⟩, ⟨Kd.S_set O13.out X13.out (by decide) 5 (.slice A13 (L.length + 1) c13)⟩⟩
        case measure => exact meas_down n HWN.out
        case rel => exact ⟨n, L ++ [q9.1], q9.2, A13, c13, by have := HLN.out; simp; omega, by first | (rw [HWN.out]; done) | rw [HWN.out] | go_num, HF, ⟨H13.out.far HXG.out HXW.out 5 (.slice A13 (L.length + 1) c13)⟩, ⟨(Below.heap_setCell w13 ⟨xb, 5, none⟩ (.slice A13 (L.length + 1) c13) w.heap.size HRX.out).trans D13.out⟩, by rw [show (L ++ [q9.1]).length = L.length + 1 from by simp]; exact ⟨blk_set X13.out 5 (.slice A13 (L.length + 1) c13)⟩, ⟨Kd.R_set OH13.out X13.out (by decide) 5 (.slice A13 (L.length + 1) c13)⟩, ⟨Kd.R_set OS13.out X13.out (by decide) 5 (.slice A13 (L.length + 1) c13)⟩, ⟨Kd.S_set O13.out X13.out (by decide) 5 (.slice A13 (L.length + 1) c13)⟩⟩
        case measure => exact meas_down n HWN.out
        case rel => exact ⟨n, L ++ [q9.1], q9.2, A13, c13, by have := HLN.out; simp; omega, by first | (rw [HWN.out]; done) | rw [HWN.out] | go_num, HF, ⟨H13.out.far HXG.out HXW.out 5 (.slice A13 (L.length + 1) c13)⟩, ⟨(Below.heap_setCell w13 ⟨xb, 5, none⟩ (.slice A13 (L.length + 1) c13) w.heap.size HRX.out).trans D13.out⟩, by rw [show (L ++ [q9.1]).length = L.length + 1 from by simp]; exact ⟨blk_set X13.out 5 (.slice A13 (L.length + 1) c13)⟩, ⟨Kd.R_set OH13.out X13.out (by decide) 5 (.slice A13 (L.length + 1) c13)⟩, ⟨Kd.R_set OS13.out X13.out (by decide) 5 (.slice A13 (L.length + 1) c13)⟩, ⟨Kd.S_set O13.out X13.out (by decide) 5 (.slice A13 (L.length + 1) c13)⟩⟩
        case measure => exact meas_down n HWN.out
      · have HF := Aside0.mk (show L = FL.1 ∧ st = FL.2 from by have := HFL2.out; rw [show rops (n + 1) st = ([], st) from if_pos hbq] at this; simpa using this)
        have hp : decide ((0 : Int) < ((n + 1 : Nat) : Int)) = true := decide_eq_true (by omega)
        have HBT := Aside0.mk hbq
        rw [hbq] at HI
        clear hbq HFL2 hn
        obtain ⟨h0, hg, h2, h3, A, c, at_, hv, hC, hc, ha, hd⟩ := HI.out
        have hb2 := (blk_cell hv 2).trans rfl
        have hb1 := (blk_cell hv 1).trans rfl
        have hdc := fun i => blk_cell HD.out i
        have hdf := fun i => blk_frozen HD.out i
        have hxc := fun i => blk_cell HX.out i
        have HE := Aside0.mk (show readB l0 = (zMsg, 3) from by rw [HRB.out, HS2.out]; exact if_pos (by rw [← HF.out.2]; exact .inl HBT.out))
        have E2 := HEq.out
        rw [HE.out] at E2
        have E3 := Aside0.mk E2
        clear E2 h0 hg h2 h3 hv hC hc ha hd
        go_wp2
        obtain ⟨rfl, rfl, rfl, rfl, rfl, rfl, rfl⟩ := E3.out
        refine bodyPost_ret (v := .tuple #[.agg #[.int .i64 0, .int .i64 0, .int .i64 0, .slice none 0 0, .slice none 0 0, .slice none 0 0], .int .i64 3]) ?_ rfl ⟨.slice none 0 0, .slice none 0 0, .slice none 0 0, rfl, Kd.R_nil _ _ _ _ _, Kd.R_nil _ _ _ _ _, Kd.S_nil _ _ _ _ _, by repeat (first | refine below_set ?_ (Nat.le_refl _) | exact (below_step HB1.out HI.out.1))⟩
        exact results_ct (p := 2) (u := 3) (ty := 40) rfl _ _ w.heap.size 40 #[.int .i64 0, .int .i64 0, .int .i64 0, .slice none 0 0, .slice none 0 0, .slice none 0 0] (0, 0) _ rfl (set6 HD.out _ _ _ _ _ _) Try.underlying40 rfl (by kernel_rfl)
end Go.Proofs.Ytnbjflcfdncocaa.M

