/- The law MsgCuts of the program's messages holds for every input (its row stands in the last of these texts): part 4 of 6. -/
import Derived.Test.YtnbjflcfdncocaaMsgCuts3
import Derived.Test.YtnbjflcfdncocaaMsgCuts2
import Derived.Deep.QuietTactic
import Derived.BigQuiet
/- The writer's contracts: Num, Text, Nums, Stamp, Dot, walked by hand. -/
namespace Go.Proofs.Ytnbjflcfdncocaa.M
open Go.RowKit Go.Proofs.YtnbjflcfdncocaaW.PrintWords Go.Proofs.YtnbjflcfdncocaaW.PrintLast Go.Proofs.YtnbjflcfdncocaaW.PrintMore

def wadd (b : List Int × Int) (st : List Int × Bool) : List Int × Bool := (st.1 ++ b.1, st.2 || b.2 != 0)
def wnum (s : Nat) (n : Int) (st : List Int × Bool) : List Int × Bool := wadd (putL s n) st
def wtext (t : ByteArray) (st : List Int × Bool) : List Int × Bool := wadd (putT t) st
def wbad (b : Bool) (st : List Int × Bool) : List Int × Bool := (st.1, st.2 || b)
def wdot (a b : Int) (st : List Int × Bool) : List Int × Bool := wnum 4 b (wnum 1 a st)
def wstamp (a b c : Int) (st : List Int × Bool) : List Int × Bool := wnum 1 c (wnum 3 b (wnum 6 a st))
def wints (l : List Int) (st : List Int × Bool) : List Int × Bool := l.foldl (fun s n => wnum 4 n s) st
def wnums (l : List Int) (st : List Int × Bool) : List Int × Bool := wints l (wnum 1 (l.length : Int) (wbad (decide ((l.length : Int) > 5)) st))
theorem wnum_len (s : Nat) (n : Int) (st : List Int × Bool) : (wnum s n st).1.length ≤ st.1.length + s := by
  have := putL_length s n
  simp only [wnum, wadd, List.length_append]; omega
theorem wtext_len (t : ByteArray) (st : List Int × Bool) : (wtext t st).1.length ≤ st.1.length + 25 := by
  have := putT_length t
  simp only [wtext, wadd, List.length_append]; omega
theorem wdot_len (a b : Int) (st : List Int × Bool) : (wdot a b st).1.length ≤ st.1.length + 5 := by
  have h1 := wnum_len 4 b (wnum 1 a st)
  have h2 := wnum_len 1 a st
  unfold wdot; omega
theorem wstamp_len (a b c : Int) (st : List Int × Bool) : (wstamp a b c st).1.length ≤ st.1.length + 10 := by
  have h1 := wnum_len 1 c (wnum 3 b (wnum 6 a st))
  have h2 := wnum_len 3 b (wnum 6 a st)
  have h3 := wnum_len 6 a st
  unfold wstamp; omega
theorem wints_len : ∀ (l : List Int) (st : List Int × Bool), (wints l st).1.length ≤ st.1.length + 4 * l.length
  | [], st => by simp [wints]
  | n :: l, st => by
    have h1 := wints_len l (wnum 4 n st)
    have h2 := wnum_len 4 n st
    simp only [wints, List.foldl_cons, List.length_cons] at h1 ⊢; omega
theorem wnums_len (l : List Int) (st : List Int × Bool) : (wnums l st).1.length ≤ st.1.length + 1 + 4 * l.length := by
  have h1 := wints_len l (wnum 1 (l.length : Int) (wbad (decide ((l.length : Int) > 5)) st))
  have h2 := wnum_len 1 (l.length : Int) (wbad (decide ((l.length : Int) > 5)) st)
  have h3 : (wbad (decide ((l.length : Int) > 5)) st).1 = st.1 := rfl
  rw [h3] at h2
  unfold wnums; omega
theorem wints_take (l : List Int) (k : Nat) (h : k < l.length) (st : List Int × Bool) : wints (l.take (k + 1)) st = wnum 4 (l.getD k 0) (wints (l.take k) st) := by
  unfold wints
  rw [List.take_succ_eq_append_getElem h, List.foldl_append]
  simp [List.getD_eq_getElem?_getD, h]

set_option maxHeartbeats 1000000 in
set_option maxRecDepth 100000 in
theorem W_num (w0 w : World) (g : Nat) (st : List Int × Bool) (h : IsW w0 w g st.1 st.2) (n z : Int) (s : Nat) (hz : z = (s : Int)) (h1 : 1 ≤ s) (h7 : s ≤ 7) (hl : st.1.length < 1000000000) :
    Calls Try.prog 32 #[.pointer (some ⟨g, 0, none⟩), .int .i64 n, .int .i64 z] w fun en w' => en = .returned (.tuple #[]) ∧ IsW w0 w' g (wnum s n st).1 (wnum s n st).2 ∧ KeepW w w' := by
  subst hz
  have H := Aside0.mk h
  have HL := Aside0.mk hl
  have hP := Put_eq n s h1 h7 100 (by omega)
  have HP := Aside0.mk hP
  have HQ := Aside0.mk (putL_length s n)
  have H7 := Aside0.mk h7
  clear h hl hP h1 h7
  go_enter Try.func32, Try.ntmps32
  go_wp2_with (first
    | (go_at_call 42; refine (wire_Put.calls 100 none 0 [] n (s : Int) (putL s n).1 (putL s n).2 _ (Kd.C_nil _ _) (Nat.le_refl _) HP.out).mono ?_; rintro e w1 ⟨v, rfl, ho, hb⟩; obtain ⟨A1, c1, rfl⟩ := Kd.R_slice ho; have HC := Aside0.mk (Kd.R_reads' ho).2.2; have H1 := Aside0.mk (H.out.below hb); have K1 := Aside0.mk (KeepW.below hb); clear ho hb)
    | (go_at_call 43; refine (W_add w0 _ g st.1 st.2 H1.out A1 c1 (putL s n).1 HC.out (putL s n).2 (by have := HL.out; have := HQ.out; have := H7.out; omega)).mono ?_; rintro e w2 ⟨rfl, hi, hk⟩; have H2 := Aside0.mk hi; have K2 := Aside0.mk (K1.out.trans hk); clear hi hk))
  go_end0
  exact ⟨rfl, H2.out, K2.out⟩
set_option maxHeartbeats 1000000 in
set_option maxRecDepth 100000 in
theorem W_text (w0 w : World) (g : Nat) (st : List Int × Bool) (h : IsW w0 w g st.1 st.2) (t : ByteArray) (hl : st.1.length < 1000000000) :
    Calls Try.prog 46 #[.pointer (some ⟨g, 0, none⟩), .string t] w fun en w' => en = .returned (.tuple #[]) ∧ IsW w0 w' g (wtext t st).1 (wtext t st).2 ∧ KeepW w w' := by
  have H := Aside0.mk h
  have HL := Aside0.mk hl
  have HP := Aside0.mk (PutText_eq t)
  have HQ := Aside0.mk (putT_length t)
  clear h hl
  go_enter Try.func46, Try.ntmps46
  go_wp2_with (first
    | (go_at_call 59; refine (wire_PutText.calls none 0 [] t (putT t).1 (putT t).2 _ (Kd.C_nil _ _) (Nat.le_refl _) HP.out).mono ?_; rintro e w1 ⟨v, rfl, ho, hb⟩; obtain ⟨A1, c1, rfl⟩ := Kd.R_slice ho; have HC := Aside0.mk (Kd.R_reads' ho).2.2; have H1 := Aside0.mk (H.out.below hb); have K1 := Aside0.mk (KeepW.below hb); clear ho hb)
    | (go_at_call 43; refine (W_add w0 _ g st.1 st.2 H1.out A1 c1 (putT t).1 HC.out (putT t).2 (by have := HL.out; have := HQ.out; omega)).mono ?_; rintro e w2 ⟨rfl, hi, hk⟩; have H2 := Aside0.mk hi; have K2 := Aside0.mk (K1.out.trans hk); clear hi hk))
  go_end0
  exact ⟨rfl, H2.out, K2.out⟩
set_option maxHeartbeats 1000000 in
set_option maxRecDepth 100000 in
theorem W_dot (w0 w : World) (g : Nat) (st : List Int × Bool) (h : IsW w0 w g st.1 st.2) (a b : Int) (hl : st.1.length < 900000000) :
    Calls Try.prog 44 #[.pointer (some ⟨g, 0, none⟩), .agg #[.int .i64 a, .int .i64 b]] w fun en w' => en = .returned (.tuple #[]) ∧ IsW w0 w' g (wdot a b st).1 (wdot a b st).2 ∧ KeepW w w' := by
  have H := Aside0.mk (h.alloc (.cells #[.int .i64 a, .int .i64 b] 49))
  have HL := Aside0.mk hl
  have HQ := Aside0.mk (wnum_len 1 a st)
  have K0 := Aside0.mk (KeepW.below (below_alloc (Below.refl _ w) (.cells #[.int .i64 a, .int .i64 b] 49)))
  have HD := Aside0.mk (heap_alloc_new w (.cells #[.int .i64 a, .int .i64 b] 49))
  clear h hl
  go_enter Try.func44, Try.ntmps44
  go_wp2_with fail
  refine (W_num w0 _ g st H.out a 1 1 rfl (by omega) (by omega) (by have := HL.out; omega)).mono ?_
  rintro e w1 ⟨rfl, hi, hk⟩
  have H1 := Aside0.mk hi
  have D1 := hk _ _ _ _ HD.out (by decide) (by decide)
  have K1 := Aside0.mk (K0.out.trans hk)
  have hd : w1.cell? ⟨w.heap.size, 1, none⟩ = some (.int .i64 b) := (blk_cell D1 1).trans rfl
  clear hi hk D1
  go_wp2_with fail
  refine (W_num w0 _ g (wnum 1 a st) H1.out b 4 4 rfl (by omega) (by omega) (by have := HL.out; have := HQ.out; omega)).mono ?_
  rintro e w2 ⟨rfl, hi, hk⟩
  have H2 := Aside0.mk hi
  have K2 := Aside0.mk (K1.out.trans hk)
  clear hi hk
  go_wp2
  go_end0
  exact ⟨rfl, H2.out, K2.out⟩
end Go.Proofs.Ytnbjflcfdncocaa.M

/- The writer's contracts: Stamp, Nums, Op, walked by hand. -/
namespace Go.Proofs.Ytnbjflcfdncocaa.M
open Go.RowKit Go.Proofs.YtnbjflcfdncocaaW.PrintWords Go.Proofs.YtnbjflcfdncocaaW.PrintLast Go.Proofs.YtnbjflcfdncocaaW.PrintMore

set_option maxHeartbeats 2000000 in
set_option maxRecDepth 100000 in
theorem W_stamp (w0 w : World) (g : Nat) (st : List Int × Bool) (h : IsW w0 w g st.1 st.2) (a b c : Int) (hl : st.1.length < 900000000) :
    Calls Try.prog 45 #[.pointer (some ⟨g, 0, none⟩), .agg #[.int .i64 a, .int .i64 b, .int .i64 c]] w fun en w' => en = .returned (.tuple #[]) ∧ IsW w0 w' g (wstamp a b c st).1 (wstamp a b c st).2 ∧ KeepW w w' := by
  have H := Aside0.mk (h.alloc (.cells #[.int .i64 a, .int .i64 b, .int .i64 c] 51))
  have HL := Aside0.mk hl
  have HQ1 := Aside0.mk (wnum_len 6 a st)
  have HQ2 := Aside0.mk (wnum_len 3 b (wnum 6 a st))
  have K0 := Aside0.mk (KeepW.below (below_alloc (Below.refl _ w) (.cells #[.int .i64 a, .int .i64 b, .int .i64 c] 51)))
  have HD := Aside0.mk (heap_alloc_new w (.cells #[.int .i64 a, .int .i64 b, .int .i64 c] 51))
  clear h hl
  go_enter Try.func45, Try.ntmps45
  go_wp2_with fail
  refine (W_num w0 _ g st H.out a 6 6 rfl (by omega) (by omega) (by have := HL.out; omega)).mono ?_
  rintro e w1 ⟨rfl, hi, hk⟩
  have H1 := Aside0.mk hi
  have K1 := Aside0.mk (K0.out.trans hk)
  have D1 := Aside0.mk (hk _ _ _ _ HD.out (by decide) (by decide))
  have hc1 := fun i => blk_cell D1.out i
  have hf1 := fun i => blk_frozen D1.out i
  clear hi hk
  go_wp2_with fail
  refine (W_num w0 _ g (wnum 6 a st) H1.out b 3 3 rfl (by omega) (by omega) (by have := HL.out; have := HQ1.out; omega)).mono ?_
  rintro e w2 ⟨rfl, hi, hk⟩
  have H2 := Aside0.mk hi
  have K2 := Aside0.mk (K1.out.trans hk)
  have D2 := Aside0.mk (hk _ _ _ _ D1.out (by decide) (by decide))
  have hc2 := fun i => blk_cell D2.out i
  have hf2 := fun i => blk_frozen D2.out i
  clear hi hk
  go_wp2_with fail
  refine (W_num w0 _ g (wnum 3 b (wnum 6 a st)) H2.out c 1 1 rfl (by omega) (by omega) (by have := HL.out; have := HQ1.out; have := HQ2.out; omega)).mono ?_
  rintro e w3 ⟨rfl, hi, hk⟩
  have H3 := Aside0.mk hi
  have K3 := Aside0.mk (K2.out.trans hk)
  have D3 := Aside0.mk (hk _ _ _ _ D2.out (by decide) (by decide))
  have hc3 := fun i => blk_cell D3.out i
  have hf3 := fun i => blk_frozen D3.out i
  clear hi hk
  go_wp2
  go_end0
  exact ⟨rfl, H3.out, K3.out⟩
set_option maxHeartbeats 2000000 in
set_option maxRecDepth 100000 in
theorem W_nums (w0 w : World) (g : Nat) (st : List Int × Bool) (h : IsW w0 w g st.1 st.2) (A0 : Option Addr) (c0 : Nat) (l0 : List Int) (hr : Kd.C (Kd.int .i64) w0 A0 l0.length l0) (hl : st.1.length < 500000000) (hn : l0.length < 10000000) :
    Calls Try.prog 33 #[.pointer (some ⟨g, 0, none⟩), .slice A0 l0.length c0] w fun en w' => en = .returned (.tuple #[]) ∧ IsW w0 w' g (wnums l0 st).1 (wnums l0 st).2 ∧ KeepW w w' := by
  obtain ⟨B, bad⟩ := st
  obtain ⟨h0, hg, v, hv, hR⟩ := h
  have hc1 : w.cell? ⟨g, 1, none⟩ = some (.bool bad) := (blk_cell hv 1).trans rfl
  have hf1 := blk_frozen hv 1
  obtain ⟨b1, hb1⟩ : ∃ b1, b1 = (bad || decide ((l0.length : Int) > 5)) := ⟨_, rfl⟩
  have H := Aside0.mk (show IsW w0 (w.setCell ⟨g, 1, none⟩ (.bool b1)) g B b1 from IsW.mk2 (v := v) (below_set h0 hg) hg (blk_set hv 1 (.bool b1)) (R_set_far hR 1 (.bool b1)))
  have K0 := Aside0.mk (KeepW.set hv 1 (.bool b1))
  have HL := Aside0.mk (show B.length < 500000000 from hl)
  have HN := Aside0.mk hn
  have HR := Aside0.mk hr
  obtain ⟨ST, hST⟩ : ∃ ST, ST = wnum 1 (l0.length : Int) (wbad (decide ((l0.length : Int) > 5)) (B, bad)) := ⟨_, rfl⟩
  have HS := Aside0.mk (show wnum 1 (l0.length : Int) (B, b1) = ST from by rw [hST, hb1]; rfl)
  have HM := Aside0.mk (show ST.1.length < 600000000 from by
    have := wnum_len 1 (l0.length : Int) (B, b1)
    rw [HS.out] at this
    have := HL.out
    simp only at *
    omega)
  have HF := Aside0.mk (show wints l0 ST = wnums l0 (B, bad) from by rw [hST]; rfl)
  clear hST
  clear h0 hg hv hR hl hr
  go_enter Try.func33, Try.ntmps33
  have hb2 : bad = true ∨ (bad = false ∧ l0.length > 5) ∨ (bad = false ∧ ¬ l0.length > 5) := by cases bad <;> by_cases h : l0.length > 5 <;> simp_all
  rcases hb2 with rfl | ⟨rfl, h5⟩ | ⟨rfl, h5⟩
  · obtain rfl : b1 = true := by rw [hb1]; rfl
    clear hb1
    go_wp2_with fail
    refine (W_num w0 _ g (B, true) H.out (l0.length : Int) 1 1 rfl (by omega) (by omega) (by have := HL.out; simp only; omega)).mono ?_
    rintro e w1 ⟨rfl, hi, hk⟩
    rw [HS.out] at hi
    have H1 := Aside0.mk hi
    have K1 := Aside0.mk (K0.out.trans hk)
    clear hi hk
    go_wp2
    go_loopw [24] (fun v wr => ∃ k : Nat, k ≤ l0.length ∧ v = .int .i64 k ∧ Aside0 (IsW w0 wr g (wints (l0.take k) ST).1 (wints (l0.take k) ST).2) ∧ Aside0 (KeepW w wr)) (fun v _ => l0.length - (intOf v).toNat)
    case atStart => exact ⟨0, by omega, rfl, H1, K1⟩
    case round =>
      obtain ⟨k, hk, rfl, HI, HK⟩ := hrel
      by_cases hlt : k < l0.length
      · obtain ⟨ad, e, hc0⟩ := Kd.at_int (Kd.C_below HR.out HI.out.1) (k : Int) (by omega) (by omega)
        subst e
        rw [Int.toNat_natCast, show rd l0 (k : Int) = l0.getD k 0 from by simp [rd]] at hc0
        have HT := Aside0.mk (wints_take l0 k hlt ST)
        have HZ := Aside0.mk (wints_len (l0.take k) ST)
        have HTk := Aside0.mk (List.length_take_le k l0)
        obtain ⟨x, hx⟩ : ∃ x, x = l0.getD k 0 := ⟨_, rfl⟩
        rw [← hx] at hc0 HT
        clear hx
        go_wp2_with fail
        refine (W_num w0 _ g (wints (l0.take k) ST) HI.out x 4 4 rfl (by omega) (by omega) (by have := HZ.out; have := HTk.out; have := HN.out; have := HM.out; omega)).mono ?_
        rintro e w2 ⟨rfl, hi, hk2⟩
        rw [← HT.out] at hi
        have H2 := Aside0.mk hi
        have K2 := Aside0.mk (HK.out.trans hk2)
        clear hi hk2
        go_wp2
        go_roundw
        case rel => exact ⟨k + 1, by omega, by go_num, H2, K2⟩
        case measure => simp [intOf]; omega
      · obtain rfl : k = l0.length := by omega
        have HE := Aside0.mk (show wints (l0.take l0.length) ST = wnums l0 (B, true) from by rw [List.take_length]; exact HF.out)
        rw [HE.out] at HI
        go_wp2
        go_end0
        exact ⟨rfl, HI.out, HK.out⟩
  · have h6 : ((l0.length : Int) > 5) := by omega
    obtain rfl : b1 = true := by rw [hb1, decide_eq_true h6]; rfl
    clear hb1
    go_wp2_with fail
    refine (W_num w0 _ g (B, true) H.out (l0.length : Int) 1 1 rfl (by omega) (by omega) (by have := HL.out; simp only; omega)).mono ?_
    rintro e w1 ⟨rfl, hi, hk⟩
    rw [HS.out] at hi
    have H1 := Aside0.mk hi
    have K1 := Aside0.mk (K0.out.trans hk)
    clear hi hk
    go_wp2
    go_loopw [24] (fun v wr => ∃ k : Nat, k ≤ l0.length ∧ v = .int .i64 k ∧ Aside0 (IsW w0 wr g (wints (l0.take k) ST).1 (wints (l0.take k) ST).2) ∧ Aside0 (KeepW w wr)) (fun v _ => l0.length - (intOf v).toNat)
    case atStart => exact ⟨0, by omega, rfl, H1, K1⟩
    case round =>
      obtain ⟨k, hk, rfl, HI, HK⟩ := hrel
      by_cases hlt : k < l0.length
      · obtain ⟨ad, e, hc0⟩ := Kd.at_int (Kd.C_below HR.out HI.out.1) (k : Int) (by omega) (by omega)
        subst e
        rw [Int.toNat_natCast, show rd l0 (k : Int) = l0.getD k 0 from by simp [rd]] at hc0
        have HT := Aside0.mk (wints_take l0 k hlt ST)
        have HZ := Aside0.mk (wints_len (l0.take k) ST)
        have HTk := Aside0.mk (List.length_take_le k l0)
        obtain ⟨x, hx⟩ : ∃ x, x = l0.getD k 0 := ⟨_, rfl⟩
        rw [← hx] at hc0 HT
        clear hx
        go_wp2_with fail
        refine (W_num w0 _ g (wints (l0.take k) ST) HI.out x 4 4 rfl (by omega) (by omega) (by have := HZ.out; have := HTk.out; have := HN.out; have := HM.out; omega)).mono ?_
        rintro e w2 ⟨rfl, hi, hk2⟩
        rw [← HT.out] at hi
        have H2 := Aside0.mk hi
        have K2 := Aside0.mk (HK.out.trans hk2)
        clear hi hk2
        go_wp2
        go_roundw
        case rel => exact ⟨k + 1, by omega, by go_num, H2, K2⟩
        case measure => simp [intOf]; omega
      · obtain rfl : k = l0.length := by omega
        have HE := Aside0.mk (show wints (l0.take l0.length) ST = wnums l0 (B, false) from by rw [List.take_length]; exact HF.out)
        rw [HE.out] at HI
        go_wp2
        go_end0
        exact ⟨rfl, HI.out, HK.out⟩
  · have h6 : ¬ ((l0.length : Int) > 5) := by omega
    obtain rfl : b1 = false := by rw [hb1, decide_eq_false h6]; rfl
    clear hb1
    go_wp2_with fail
    refine (W_num w0 _ g (B, false) H.out (l0.length : Int) 1 1 rfl (by omega) (by omega) (by have := HL.out; simp only; omega)).mono ?_
    rintro e w1 ⟨rfl, hi, hk⟩
    rw [HS.out] at hi
    have H1 := Aside0.mk hi
    have K1 := Aside0.mk (K0.out.trans hk)
    clear hi hk
    go_wp2
    go_loopw [24] (fun v wr => ∃ k : Nat, k ≤ l0.length ∧ v = .int .i64 k ∧ Aside0 (IsW w0 wr g (wints (l0.take k) ST).1 (wints (l0.take k) ST).2) ∧ Aside0 (KeepW w wr)) (fun v _ => l0.length - (intOf v).toNat)
    case atStart => exact ⟨0, by omega, rfl, H1, K1⟩
    case round =>
      obtain ⟨k, hk, rfl, HI, HK⟩ := hrel
      by_cases hlt : k < l0.length
      · obtain ⟨ad, e, hc0⟩ := Kd.at_int (Kd.C_below HR.out HI.out.1) (k : Int) (by omega) (by omega)
        subst e
        rw [Int.toNat_natCast, show rd l0 (k : Int) = l0.getD k 0 from by simp [rd]] at hc0
        have HT := Aside0.mk (wints_take l0 k hlt ST)
        have HZ := Aside0.mk (wints_len (l0.take k) ST)
        have HTk := Aside0.mk (List.length_take_le k l0)
        obtain ⟨x, hx⟩ : ∃ x, x = l0.getD k 0 := ⟨_, rfl⟩
        rw [← hx] at hc0 HT
        clear hx
        go_wp2_with fail
        refine (W_num w0 _ g (wints (l0.take k) ST) HI.out x 4 4 rfl (by omega) (by omega) (by have := HZ.out; have := HTk.out; have := HN.out; have := HM.out; omega)).mono ?_
        rintro e w2 ⟨rfl, hi, hk2⟩
        rw [← HT.out] at hi
        have H2 := Aside0.mk hi
        have K2 := Aside0.mk (HK.out.trans hk2)
        clear hi hk2
        go_wp2
        go_roundw
        case rel => exact ⟨k + 1, by omega, by go_num, H2, K2⟩
        case measure => simp [intOf]; omega
      · obtain rfl : k = l0.length := by omega
        have HE := Aside0.mk (show wints (l0.take l0.length) ST = wnums l0 (B, false) from by rw [List.take_length]; exact HF.out)
        rw [HE.out] at HI
        go_wp2
        go_end0
        exact ⟨rfl, HI.out, HK.out⟩
end Go.Proofs.Ytnbjflcfdncocaa.M

/- Contracts of slices.IndexFunc, ContainsFunc and EqualFunc at the types that the messages' laws use, for any function that answers by a plain predicate. -/
namespace Go.Proofs.Ytnbjflcfdncocaa.M
open Go.RowKit Go.Proofs.YtnbjflcfdncocaaW.PrintWords Go.Proofs.YtnbjflcfdncocaaW.PrintLast Go.Proofs.YtnbjflcfdncocaaW.PrintMore

/-- The first place, from i on, of which p holds; -1: none. -/
def idxF {α : Type} (p : α → Bool) : Nat → List α → Int
  | _, [] => -1
  | i, x :: l => if p x then (i : Int) else idxF p (i + 1) l
theorem idxF_any {α : Type} (p : α → Bool) : ∀ (l : List α) (i : Nat), decide (0 ≤ idxF p i l) = l.any p
  | [], _ => by simp [idxF]
  | x :: l, i => by
    unfold idxF
    cases h : p x
    · rw [if_neg (by decide), idxF_any p l (i + 1), List.any_cons, h, Bool.false_or]
    · rw [if_pos rfl, List.any_cons, h, Bool.true_or]; exact decide_eq_true (by omega)
theorem idxF_drop {α : Type} (p : α → Bool) (z : α) (l : List α) (k : Nat) (h : k < l.length) : idxF p k (l.drop k) = if p (l.getD k z) then (k : Int) else idxF p (k + 1) (l.drop (k + 1)) := by
  rw [List.drop_eq_getElem_cons h]
  simp [idxF, h]
theorem idxF_end {α : Type} (p : α → Bool) (l : List α) (k : Nat) : idxF p k (l.drop l.length) = -1 := by
  rw [List.drop_length]; rfl
/-- Are two lists as long, and does p hold of each pair? -/
def allF {α β : Type} (p : α → β → Bool) : List α → List β → Bool
  | [], [] => true
  | x :: a, y :: b => p x y && allF p a b
  | _, _ => false
theorem allF_length {α β : Type} (p : α → β → Bool) : ∀ (a : List α) (b : List β), a.length ≠ b.length → allF p a b = false
  | [], [], h => absurd rfl h
  | [], _ :: _, _ => rfl
  | _ :: _, [], _ => rfl
  | x :: a, y :: b, h => by
    simp only [allF, allF_length p a b (by simpa using h), Bool.and_false]
theorem allF_drop {α β : Type} (p : α → β → Bool) (z : α) (u : β) (a : List α) (b : List β) (k : Nat) (ha : k < a.length) (hb : k < b.length) : allF p (a.drop k) (b.drop k) = (p (a.getD k z) (b.getD k u) && allF p (a.drop (k + 1)) (b.drop (k + 1))) := by
  rw [List.drop_eq_getElem_cons ha, List.drop_eq_getElem_cons hb]
  simp [allF, ha, hb]
theorem allF_end {α β : Type} (p : α → β → Bool) (a : List α) (b : List β) (h : a.length = b.length) : allF p (a.drop a.length) (b.drop a.length) = true := by
  rw [List.drop_length, h, List.drop_length]; rfl
theorem rd_getD (l : List Int) (k : Nat) : rd l (k : Int) = l.getD k 0 := by simp [rd]
set_option maxHeartbeats 1000000 in
set_option maxRecDepth 100000 in
theorem IndexFunc_int (F : Nat) (eg : ∀ args (W : World), (callFunc F args).run Try.prog W = .ok (.enter F args) W) (p : Int → Bool) (hF : ∀ (x : Int) (W : World), Calls Try.prog F #[.int .i64 x] W fun e w' => e = .returned (.bool (p x)) ∧ Below W.heap.size W w')
    (A0 : Option Addr) (c0 : Nat) (l0 : List Int) (w : World) (hr0 : Kd.C (Kd.int .i64) w A0 l0.length l0) :
    Calls Try.prog 82 #[.slice A0 l0.length c0, .func (.func F) #[] #[]] w fun e w' => e = .returned (.int .i64 (idxF p 0 l0)) ∧ Below w.heap.size w w' := by
  have HR := Aside0.mk hr0
  have HF := Aside0.mk hF
  have hm : l0.length ≤ 9223372036854775807 := hr0.2.1
  clear hr0 hF
  go_enter Try.func82, Try.ntmps82
  go_wp2
  go_loopw [8] (fun v wr => ∃ k : Nat, k ≤ l0.length ∧ v = .int .i64 k ∧ Aside0 (Below w.heap.size w wr) ∧ Aside0 (idxF p 0 l0 = idxF p k (l0.drop k))) (fun v _ => l0.length - (intOf v).toNat)
  case atStart => exact ⟨0, by omega, rfl, ⟨Below.refl _ _⟩, ⟨rfl⟩⟩
  case round =>
    obtain ⟨k, hk, rfl, HD, HP⟩ := hrel
    by_cases hlt : k < l0.length
    · obtain ⟨ad, e, hc0⟩ := Kd.at_int (Kd.C_below HR.out HD.out) (k : Int) (by omega) (by omega)
      subst e
      rw [Int.toNat_natCast] at hc0
      have HI := Aside0.mk (idxF_drop p 0 l0 k hlt)
      rw [rd_getD] at hc0
      obtain ⟨x, hx⟩ : ∃ x, x = l0.getD k 0 := ⟨_, rfl⟩
      rw [← hx] at hc0 HI
      clear hx
      obtain ⟨b, hb⟩ : ∃ b, b = p x := ⟨_, rfl⟩
      have hF := HF.out x
      rw [← hb] at hF HI
      have HF2 := Aside0.mk hF
      clear hb hF
      cases b
      · go_wp2_with (refine (HF2.out _).mono ?_; rintro e w' ⟨rfl, hb2⟩; have HD2 := Aside0.mk hb2; clear hb2)
        go_roundw
        case rel => exact ⟨k + 1, by omega, by go_num, ⟨below_step HD.out HD2.out⟩, ⟨by rw [HP.out, HI.out]; rfl⟩⟩
        case measure => simp [intOf]; omega
      · go_wp2_with (refine (HF2.out _).mono ?_; rintro e w' ⟨rfl, hb2⟩; have HD2 := Aside0.mk hb2; clear hb2)
        go_ret
        exact ⟨by rw [HP.out, HI.out]; rfl, below_step HD.out HD2.out⟩
    · obtain rfl : k = l0.length := by omega
      go_wp2
      go_ret
      exact ⟨by rw [HP.out, idxF_end]; rfl, HD.out⟩
set_option maxHeartbeats 1000000 in
set_option maxRecDepth 100000 in
theorem ContainsFunc_int (F : Nat) (eg : ∀ args (W : World), (callFunc F args).run Try.prog W = .ok (.enter F args) W) (p : Int → Bool) (hF : ∀ (x : Int) (W : World), Calls Try.prog F #[.int .i64 x] W fun e w' => e = .returned (.bool (p x)) ∧ Below W.heap.size W w')
    (A0 : Option Addr) (c0 : Nat) (l0 : List Int) (w : World) (hr0 : Kd.C (Kd.int .i64) w A0 l0.length l0) :
    Calls Try.prog 64 #[.slice A0 l0.length c0, .func (.func F) #[] #[]] w fun e w' => e = .returned (.bool (l0.any p)) ∧ Below w.heap.size w w' := by
  have HR := Aside0.mk hr0
  have HF := Aside0.mk hF
  have EG := Aside0.mk eg
  clear hr0 hF eg
  obtain ⟨b, hb⟩ : ∃ b, b = decide (0 ≤ idxF p 0 l0) := ⟨_, rfl⟩
  rw [← idxF_any p l0 0, ← hb]
  have HB := Aside0.mk hb
  clear hb
  go_enter Try.func64, Try.ntmps64
  go_wp2_with (go_at_call 82; refine (IndexFunc_int F EG.out p HF.out _ _ l0 _ HR.out).mono ?_; rintro e w' ⟨rfl, hb2⟩; have HD2 := Aside0.mk hb2; clear hb2)
  go_ret
  exact ⟨by rw [HB.out]; rfl, HD2.out⟩
set_option maxHeartbeats 1000000 in
set_option maxRecDepth 100000 in
theorem IndexFunc_Value (F : Nat) (eg : ∀ args (W : World), (callFunc F args).run Try.prog W = .ok (.enter F args) W) (p : S101 → Bool) (hF : ∀ (x : S101) (W : World), Calls Try.prog F #[.agg #[.int .i64 x.f0, .int .i64 x.f1, .string x.f2]] W fun e w' => e = .returned (.bool (p x)) ∧ Below W.heap.size W w')
    (A0 : Option Addr) (c0 : Nat) (l0 : List S101) (w : World) (hr0 : Kd.C k101 w A0 l0.length l0) :
    Calls Try.prog 89 #[.slice A0 l0.length c0, .func (.func F) #[] #[]] w fun e w' => e = .returned (.int .i64 (idxF p 0 l0)) ∧ Below w.heap.size w w' := by
  have HR := Aside0.mk hr0
  have HF := Aside0.mk hF
  have hm : l0.length ≤ 9223372036854775807 := hr0.2.1
  clear hr0 hF
  go_enter Try.func89, Try.ntmps89
  go_wp2
  go_loopw [8] (fun v wr => ∃ k : Nat, k ≤ l0.length ∧ v = .int .i64 k ∧ Aside0 (Below w.heap.size w wr) ∧ Aside0 (idxF p 0 l0 = idxF p k (l0.drop k))) (fun v _ => l0.length - (intOf v).toNat)
  case atStart => exact ⟨0, by omega, rfl, ⟨Below.refl _ _⟩, ⟨rfl⟩⟩
  case round =>
    obtain ⟨k, hk, rfl, HD, HP⟩ := hrel
    by_cases hlt : k < l0.length
    · obtain ⟨ad, e, hc0, hc1, hc2⟩ := at_T101 (Kd.C_below HR.out HD.out) (k : Int) (by omega) (by omega)
      subst e
      rw [Int.toNat_natCast] at hc0 hc1 hc2
      have HI := Aside0.mk (idxF_drop p z101 l0 k hlt)
      have hrd : rd_T101 l0 (k : Int) = l0.getD k z101 := by simp [rd_T101]
      rw [hrd] at hc0 hc1 hc2
      obtain ⟨x, hx⟩ : ∃ x, x = l0.getD k z101 := ⟨_, rfl⟩
      rw [← hx] at hc0 hc1 hc2 HI
      clear hrd
      clear hx
      obtain ⟨b, hb⟩ : ∃ b, b = p x := ⟨_, rfl⟩
      have hF := HF.out x
      rw [← hb] at hF HI
      have HF2 := Aside0.mk hF
      clear hb hF
      cases b
      · go_wp2_with (refine (HF2.out _).mono ?_; rintro e w' ⟨rfl, hb2⟩; have HD2 := Aside0.mk hb2; clear hb2)
        go_roundw
        case rel => exact ⟨k + 1, by omega, by go_num, ⟨below_step HD.out HD2.out⟩, ⟨by rw [HP.out, HI.out]; rfl⟩⟩
        case measure => simp [intOf]; omega
      · go_wp2_with (refine (HF2.out _).mono ?_; rintro e w' ⟨rfl, hb2⟩; have HD2 := Aside0.mk hb2; clear hb2)
        go_ret
        exact ⟨by rw [HP.out, HI.out]; rfl, below_step HD.out HD2.out⟩
    · obtain rfl : k = l0.length := by omega
      go_wp2
      go_ret
      exact ⟨by rw [HP.out, idxF_end]; rfl, HD.out⟩
set_option maxHeartbeats 1000000 in
set_option maxRecDepth 100000 in
theorem ContainsFunc_Value (F : Nat) (eg : ∀ args (W : World), (callFunc F args).run Try.prog W = .ok (.enter F args) W) (p : S101 → Bool) (hF : ∀ (x : S101) (W : World), Calls Try.prog F #[.agg #[.int .i64 x.f0, .int .i64 x.f1, .string x.f2]] W fun e w' => e = .returned (.bool (p x)) ∧ Below W.heap.size W w')
    (A0 : Option Addr) (c0 : Nat) (l0 : List S101) (w : World) (hr0 : Kd.C k101 w A0 l0.length l0) :
    Calls Try.prog 77 #[.slice A0 l0.length c0, .func (.func F) #[] #[]] w fun e w' => e = .returned (.bool (l0.any p)) ∧ Below w.heap.size w w' := by
  have HR := Aside0.mk hr0
  have HF := Aside0.mk hF
  have EG := Aside0.mk eg
  clear hr0 hF eg
  obtain ⟨b, hb⟩ : ∃ b, b = decide (0 ≤ idxF p 0 l0) := ⟨_, rfl⟩
  rw [← idxF_any p l0 0, ← hb]
  have HB := Aside0.mk hb
  clear hb
  go_enter Try.func77, Try.ntmps77
  go_wp2_with (go_at_call 89; refine (IndexFunc_Value F EG.out p HF.out _ _ l0 _ HR.out).mono ?_; rintro e w' ⟨rfl, hb2⟩; have HD2 := Aside0.mk hb2; clear hb2)
  go_ret
  exact ⟨by rw [HB.out]; rfl, HD2.out⟩
set_option maxHeartbeats 1000000 in
set_option maxRecDepth 100000 in
theorem IndexFunc_Table (F : Nat) (eg : ∀ args (W : World), (callFunc F args).run Try.prog W = .ok (.enter F args) W) (p : S68 → Bool) (hF : ∀ (x : S68) (W : World), ∀ (A1 : Option Addr) (c1 : Nat), x.f0.length ≤ c1 → Kd.C (Kd.int .i64) W A1 x.f0.length x.f0 → Calls Try.prog F #[.agg #[.slice A1 x.f0.length c1]] W fun e w' => e = .returned (.bool (p x)) ∧ Below W.heap.size W w')
    (A0 : Option Addr) (c0 : Nat) (l0 : List S68) (w : World) (hr0 : Kd.C k68 w A0 l0.length l0) :
    Calls Try.prog 81 #[.slice A0 l0.length c0, .func (.func F) #[] #[]] w fun e w' => e = .returned (.int .i64 (idxF p 0 l0)) ∧ Below w.heap.size w w' := by
  have HR := Aside0.mk hr0
  have HF := Aside0.mk hF
  have hm : l0.length ≤ 9223372036854775807 := hr0.2.1
  clear hr0 hF
  go_enter Try.func81, Try.ntmps81
  go_wp2
  go_loopw [8] (fun v wr => ∃ k : Nat, k ≤ l0.length ∧ v = .int .i64 k ∧ Aside0 (Below w.heap.size w wr) ∧ Aside0 (idxF p 0 l0 = idxF p k (l0.drop k))) (fun v _ => l0.length - (intOf v).toNat)
  case atStart => exact ⟨0, by omega, rfl, ⟨Below.refl _ _⟩, ⟨rfl⟩⟩
  case round =>
    obtain ⟨k, hk, rfl, HD, HP⟩ := hrel
    by_cases hlt : k < l0.length
    · obtain ⟨ad, A1, c1, e, hc0, hl1, hr1⟩ := at_T68 (Kd.C_below HR.out HD.out) (k : Int) (by omega) (by omega)
      subst e
      rw [Int.toNat_natCast] at hc0
      have HI := Aside0.mk (idxF_drop p z68 l0 k hlt)
      have hrd : rd_T68 l0 (k : Int) = l0.getD k z68 := by simp [rd_T68]
      rw [hrd] at hc0 hl1 hr1
      obtain ⟨x, hx⟩ : ∃ x, x = l0.getD k z68 := ⟨_, rfl⟩
      rw [← hx] at hc0 hl1 hr1 HI
      clear hrd
      have HL1 := Aside0.mk hl1
      have HR1 := Aside0.mk hr1
      clear hl1 hr1
      clear hx
      obtain ⟨b, hb⟩ : ∃ b, b = p x := ⟨_, rfl⟩
      have hF := HF.out x
      rw [← hb] at hF HI
      have HF2 := Aside0.mk hF
      clear hb hF
      cases b
      · go_wp2_with (refine (HF2.out _ A1 c1 HL1.out HR1.out).mono ?_; rintro e w' ⟨rfl, hb2⟩; have HD2 := Aside0.mk hb2; clear hb2)
        go_roundw
        case rel => exact ⟨k + 1, by omega, by go_num, ⟨below_step HD.out HD2.out⟩, ⟨by rw [HP.out, HI.out]; rfl⟩⟩
        case measure => simp [intOf]; omega
      · go_wp2_with (refine (HF2.out _ A1 c1 HL1.out HR1.out).mono ?_; rintro e w' ⟨rfl, hb2⟩; have HD2 := Aside0.mk hb2; clear hb2)
        go_ret
        exact ⟨by rw [HP.out, HI.out]; rfl, below_step HD.out HD2.out⟩
    · obtain rfl : k = l0.length := by omega
      go_wp2
      go_ret
      exact ⟨by rw [HP.out, idxF_end]; rfl, HD.out⟩
set_option maxHeartbeats 1000000 in
set_option maxRecDepth 100000 in
theorem ContainsFunc_Table (F : Nat) (eg : ∀ args (W : World), (callFunc F args).run Try.prog W = .ok (.enter F args) W) (p : S68 → Bool) (hF : ∀ (x : S68) (W : World), ∀ (A1 : Option Addr) (c1 : Nat), x.f0.length ≤ c1 → Kd.C (Kd.int .i64) W A1 x.f0.length x.f0 → Calls Try.prog F #[.agg #[.slice A1 x.f0.length c1]] W fun e w' => e = .returned (.bool (p x)) ∧ Below W.heap.size W w')
    (A0 : Option Addr) (c0 : Nat) (l0 : List S68) (w : World) (hr0 : Kd.C k68 w A0 l0.length l0) :
    Calls Try.prog 62 #[.slice A0 l0.length c0, .func (.func F) #[] #[]] w fun e w' => e = .returned (.bool (l0.any p)) ∧ Below w.heap.size w w' := by
  have HR := Aside0.mk hr0
  have HF := Aside0.mk hF
  have EG := Aside0.mk eg
  clear hr0 hF eg
  obtain ⟨b, hb⟩ : ∃ b, b = decide (0 ≤ idxF p 0 l0) := ⟨_, rfl⟩
  rw [← idxF_any p l0 0, ← hb]
  have HB := Aside0.mk hb
  clear hb
  go_enter Try.func62, Try.ntmps62
  go_wp2_with (go_at_call 81; refine (IndexFunc_Table F EG.out p HF.out _ _ l0 _ HR.out).mono ?_; rintro e w' ⟨rfl, hb2⟩; have HD2 := Aside0.mk hb2; clear hb2)
  go_ret
  exact ⟨by rw [HB.out]; rfl, HD2.out⟩
set_option maxHeartbeats 1000000 in
set_option maxRecDepth 100000 in
theorem EqualFunc_int_int (F : Nat) (eg : ∀ args (W : World), (callFunc F args).run Try.prog W = .ok (.enter F args) W) (p : Int → Int → Bool) (hF : ∀ (x : Int) (y : Int) (W : World), Calls Try.prog F #[.int .i64 x, .int .i64 y] W fun e w' => e = .returned (.bool (p x y)) ∧ Below W.heap.size W w')
    (A0 : Option Addr) (c0 : Nat) (l0 : List Int) (A1 : Option Addr) (c1 : Nat) (l1 : List Int) (w : World) (hr0 : Kd.C (Kd.int .i64) w A0 l0.length l0) (hr1 : Kd.C (Kd.int .i64) w A1 l1.length l1) :
    Calls Try.prog 96 #[.slice A0 l0.length c0, .slice A1 l1.length c1, .func (.func F) #[] #[]] w fun e w' => e = .returned (.bool (allF p l0 l1)) ∧ Below w.heap.size w w' := by
  have HR := Aside0.mk hr0
  have HS := Aside0.mk hr1
  have HF := Aside0.mk hF
  have hm : l0.length ≤ 9223372036854775807 := hr0.2.1
  clear hr0 hr1 hF
  by_cases hl : l0.length = l1.length
  · have hl2 : (l0.length == l1.length) = true := beq_iff_eq.2 hl
    have hl3 : ((l0.length : Int) == (l1.length : Int)) = true := beq_iff_eq.2 (by omega)
    have hl4 : ((l0.length : Int) != (l1.length : Int)) = false := bne_eq_false_iff_eq.2 (by omega)
    have HL := Aside0.mk hl
    have hle : l0.length ≤ l1.length := by omega
    clear hl
    go_enter Try.func96, Try.ntmps96
    go_wp2
    clear hl2 hl3 hl4
    go_loopw [17] (fun v wr => ∃ k : Nat, k ≤ l0.length ∧ v = .int .i64 k ∧ Aside0 (Below w.heap.size w wr) ∧ Aside0 (allF p l0 l1 = allF p (l0.drop k) (l1.drop k))) (fun v _ => l0.length - (intOf v).toNat)
    case atStart => exact ⟨0, by omega, rfl, ⟨Below.refl _ _⟩, ⟨rfl⟩⟩
    case round =>
      obtain ⟨k, hk, rfl, HD, HP⟩ := hrel
      by_cases hlt : k < l0.length
      · obtain ⟨ad, e, hc0⟩ := Kd.at_int (Kd.C_below HR.out HD.out) (k : Int) (by omega) (by omega)
        subst e
        obtain ⟨ad2, e, hd0⟩ := Kd.at_int (Kd.C_below HS.out HD.out) (k : Int) (by omega) (by omega)
        subst e
        rw [Int.toNat_natCast] at hc0 hd0
        have hlt2 : k < l1.length := by omega
        have HI := Aside0.mk (allF_drop p 0 0 l0 l1 k hlt hlt2)
        rw [rd_getD] at hc0
        rw [rd_getD] at hd0
        obtain ⟨x, hx⟩ : ∃ x, x = l0.getD k 0 := ⟨_, rfl⟩
        obtain ⟨y, hy⟩ : ∃ y, y = l1.getD k 0 := ⟨_, rfl⟩
        rw [← hx] at hc0 HI
        rw [← hy] at hd0 HI
        clear hx hy
        obtain ⟨b, hb⟩ : ∃ b, b = p x y := ⟨_, rfl⟩
        have hF := HF.out x y
        rw [← hb] at hF HI
        have HF2 := Aside0.mk hF
        clear hb hF
        cases b
        · go_wp2_with (refine (HF2.out _).mono ?_; rintro e w' ⟨rfl, hb2⟩; have HD2 := Aside0.mk hb2; clear hb2)
          go_ret
          exact ⟨by rw [HP.out, HI.out]; rfl, below_step HD.out HD2.out⟩
        · go_wp2_with (refine (HF2.out _).mono ?_; rintro e w' ⟨rfl, hb2⟩; have HD2 := Aside0.mk hb2; clear hb2)
          go_roundw
          case rel => exact ⟨k + 1, by omega, by go_num, ⟨below_step HD.out HD2.out⟩, ⟨by rw [HP.out, HI.out]; rfl⟩⟩
          case measure => simp [intOf]; omega
      · obtain rfl : k = l0.length := by omega
        go_wp2
        go_ret
        exact ⟨by rw [HP.out, allF_end p l0 l1 HL.out]; rfl, HD.out⟩
  · have hl2 : (l0.length == l1.length) = false := beq_eq_false_iff_ne.2 hl
    have hl3 : ((l0.length : Int) == (l1.length : Int)) = false := beq_eq_false_iff_ne.2 (by omega)
    have hl4 : ((l0.length : Int) != (l1.length : Int)) = true := bne_iff_ne.2 (by omega)
    have HL := Aside0.mk hl
    go_enter Try.func96, Try.ntmps96
    go_wp2
    go_ret
    exact ⟨by rw [allF_length p l0 l1 HL.out]; rfl, Below.refl _ _⟩
end Go.Proofs.Ytnbjflcfdncocaa.M

/- value.Check always answers. -/
namespace Go.Proofs.Ytnbjflcfdncocaa.M
open Go.RowKit Go.Proofs.YtnbjflcfdncocaaW.PrintWords Go.Proofs.YtnbjflcfdncocaaW.PrintLast Go.Proofs.YtnbjflcfdncocaaW.PrintMore
theorem value_Check_total (a b : Int) (s : ByteArray) : ∃ c, value_Check.f a b s = some c := by
  unfold value_Check.f value_within.f
  repeat' split
  all_goals first | exact ⟨_, rfl⟩ | (simp only [Option.bind_some]; repeat' split) 
  all_goals exact ⟨_, rfl⟩
end Go.Proofs.Ytnbjflcfdncocaa.M

/- slices.ContainsFunc with raddle/row.wrong, as one function. -/
namespace Go.Proofs.Ytnbjflcfdncocaa.M
open Go.RowKit Go.Proofs.YtnbjflcfdncocaaW.PrintWords Go.Proofs.YtnbjflcfdncocaaW.PrintLast Go.Proofs.YtnbjflcfdncocaaW.PrintMore
def contains_wrong.p (x : S101) : Bool := (row_wrong.f x.f0 x.f1 x.f2).getD false
theorem contains_wrong.p_eq (x : S101) : row_wrong.f x.f0 x.f1 x.f2 = some (contains_wrong.p x) := by
  have h : (row_wrong.f x.f0 x.f1 x.f2).isSome = true := by
    unfold row_wrong.f; obtain ⟨c, hc⟩ := value_Check_total x.f0 x.f1 x.f2; rw [hc]; rfl
  unfold contains_wrong.p
  obtain ⟨b, hb⟩ := Option.isSome_iff_exists.1 h
  rw [hb]; rfl
def contains_wrong.f (l0 : List S101) : Option Bool := some (l0.any contains_wrong.p)
theorem contains_wrong.calls (A0 : Option Addr) (c0 : Nat) (l0 : List S101) (r : Bool) (w : World) (hr0 : Kd.C k101 w A0 l0.length l0) (_hc0 : l0.length ≤ c0) (h : contains_wrong.f l0 = some r) :
    Calls Try.prog 77 #[.slice A0 l0.length c0, .func (.func 78) #[] #[]] w fun e w' => e = .returned (.bool r) ∧ Below w.heap.size w w' := by
  obtain rfl := Option.some.inj h
  exact ContainsFunc_Value 78 (enters_ Try.func78 (by kernel_rfl) (by kernel_rfl)) contains_wrong.p (fun x W => (row_wrong.calls x.f0 x.f1 x.f2 _ W (contains_wrong.p_eq x)).mono fun e w' ⟨he, hd⟩ => ⟨he, hd⟩) A0 c0 l0 w hr0
end Go.Proofs.Ytnbjflcfdncocaa.M

namespace Go.Proofs.Ytnbjflcfdncocaa.M
open Go.RowKit Go.Proofs.YtnbjflcfdncocaaW.PrintWords Go.Proofs.YtnbjflcfdncocaaW.PrintLast Go.Proofs.YtnbjflcfdncocaaW.PrintMore
attribute [local go_sem] max2_int min2_int max_two min_two max_three min_three max_four min_four   -- for this text's walks alone
set_option linter.unusedVariables false
set_option linter.unusedSimpArgs false

/-! ### row_Check: function 60 -/
def row_Check.f (l0 : List (S101)) : Option (Int) := if (l0.length : Int) > 12 then (some 2) else ((contains_wrong.f l0).bind fun t212 => (if t212 = true then (some 1) else (some 0)))
set_option maxHeartbeats 8000000 in
set_option maxRecDepth 100000 in
theorem row_Check.calls (A0 : Option Addr) (c0 : Nat) (l0 : List (S101)) (r : Int) (w : World) (hr0 : Kd.C k101 w A0 l0.length l0) (hc0 : l0.length ≤ c0) (h : row_Check.f l0 = some r) :
  Calls Try.prog 60 #[.slice A0 l0.length c0] w fun e w' => e = .returned (.int .i64 r) ∧ Below w.heap.size w w' := by
 have HR0 := Aside0.mk hr0
 have HC0 := Aside0.mk hc0
 clear hr0 hc0
 have HB := Aside0.mk (Below.refl w.heap.size w)
 have H : (if (l0.length : Int) > 12 then (some 2) else ((contains_wrong.f l0).bind fun t212 => (if t212 = true then (some 1) else (some 0)))) = some r := h
 clear h
 by_cases c2 : (l0.length : Int) > 12
 ·rw [if_pos c2] at H
  have c2b0 : decide (12 < (l0.length : Int)) = true := decide_eq_true c2
  have c2b1 : decide (12 < l0.length) = true := decide_eq_true (by omega)
  clear c2
  obtain rfl := Option.some.inj H
  go_enter Try.func60, Try.ntmps60
  go_wp2
  go_ret
  exact ⟨by first | rfl | (simp [errW_none, errW_some] <;> rfl) | (simp [*, errW_none, errW_some] <;> rfl), by repeat (first | (with_reducible first | exact HB.out | apply below_alloc | apply pw_below_drewN | apply below_drew1) | exact HB.out)⟩
 ·rw [if_neg c2] at H
  have c2b0 : decide (12 < (l0.length : Int)) = false := decide_eq_false c2
  have c2b1 : decide (12 < l0.length) = false := decide_eq_false (by omega)
  clear c2
  replace H := Option.bind_eq_some_iff.mp H
  obtain ⟨t212, A30, H⟩ := H
  replace H : (if t212 = true then (some 1) else (some 0)) = some r := H
  have A3 := Aside0.mk A30
  clear A30
  by_cases c4 : t212 = true
  ·subst c4
   have H1 : (some 1) = some r := by rw [if_pos rfl] at H; exact H
   clear H
   have H := H1
   clear H1
   obtain rfl := Option.some.inj H
   go_enter Try.func60, Try.ntmps60
   go_wp2_with (first | (go_at_call 77; (with_reducible refine (contains_wrong.calls _ _ l0 true _ ?side1 ?side2 A3.out).mono ?_); (case side1 => repeat (first | exact HR0.out | (with_reducible refine Kd.C_alloc ?_ _) | (with_reducible refine Kd.C_drewN ?_ _) | (with_reducible refine Kd.C_drew ?_))); (case side2 => exact HC0.out); rintro e w5 ⟨rfl, hb⟩; have n0_ := Aside0.mk (below_step (by repeat (first | (with_reducible first | exact HB.out | apply below_alloc | apply pw_below_drewN | apply below_drew1) | exact HB.out)) hb); clear HB; have HB := n0_; clear n0_; (try clear hb); (try clear hb2); (try clear hk); (try clear hi)))
   go_ret
   exact ⟨by first | rfl | (simp [errW_none, errW_some] <;> rfl) | (simp [*, errW_none, errW_some] <;> rfl), by repeat (first | (with_reducible first | exact HB.out | apply below_alloc | apply pw_below_drewN | apply below_drew1) | exact HB.out)⟩
  ·replace c4 := Bool.eq_false_iff.mpr c4
   subst c4
   have H1 : (some 0) = some r := by rw [if_neg (show ¬ (false = true) by decide)] at H; exact H
   clear H
   have H := H1
   clear H1
   obtain rfl := Option.some.inj H
   go_enter Try.func60, Try.ntmps60
   go_wp2_with (first | (go_at_call 77; (with_reducible refine (contains_wrong.calls _ _ l0 false _ ?side1 ?side2 A3.out).mono ?_); (case side1 => repeat (first | exact HR0.out | (with_reducible refine Kd.C_alloc ?_ _) | (with_reducible refine Kd.C_drewN ?_ _) | (with_reducible refine Kd.C_drew ?_))); (case side2 => exact HC0.out); rintro e w6 ⟨rfl, hb⟩; have n0_ := Aside0.mk (below_step (by repeat (first | (with_reducible first | exact HB.out | apply below_alloc | apply pw_below_drewN | apply below_drew1) | exact HB.out)) hb); clear HB; have HB := n0_; clear n0_; (try clear hb); (try clear hb2); (try clear hk); (try clear hi)))
   go_ret
   exact ⟨by first | rfl | (simp [errW_none, errW_some] <;> rfl) | (simp [*, errW_none, errW_some] <;> rfl), by repeat (first | (with_reducible first | exact HB.out | apply below_alloc | apply pw_below_drewN | apply below_drew1) | exact HB.out)⟩

/-! ### wire_PutInt: function 80 -/
def wire_PutInt.j0 : Nat → List Int → Int → Bool → Option (List Int × Int)
 | 0, _, _, _ => none
 | k + 1, x0, x1, x12 => if x12 = true then (some (([] : List Int), 1)) else (if x1 < 0 then ((slices_Clone_byte_byte.f x0).bind fun t213 => (if t213.length < 140737488355328 then ((wire_big.f k (t213 ++ [1]) (wrap64 (-x1)) 8).bind fun t219 => (some (t219, 0))) else (none))) else ((slices_Clone_byte_byte.f x0).bind fun t222 => (if t222.length < 140737488355328 then ((wire_big.f k (t222 ++ [0]) x1 8).bind fun t228 => (some (t228, 0))) else (none))))
def wire_PutInt.f (k : Nat) (l0 : List Int) (a1 : Int) : Option (List Int × Int) := if a1 < (-1152921504606846976) then (wire_PutInt.j0 k l0 a1 true) else (wire_PutInt.j0 k l0 a1 (decide (a1 > 1152921504606846976)))
set_option maxHeartbeats 8000000 in
set_option maxRecDepth 100000 in
theorem wire_PutInt.calls (k : Nat) (A0 : Option Addr) (c0 : Nat) (l0 : List Int) (a1 : Int) (r1 : List Int) (r2 : Int) (w : World) (hr0 : Kd.C (Kd.int .u8) w A0 l0.length l0) (hc0 : l0.length ≤ c0) (h : wire_PutInt.f k l0 a1 = some (r1, r2)) :
  Calls Try.prog 80 #[.slice A0 l0.length c0, .int .i64 a1] w fun e w' => ∃ v0_ : Value, e = .returned (.tuple #[v0_, .int .i64 r2]) ∧ Kd.R (Kd.int .u8) 5 w' w.heap.size (fun _ => True) v0_ r1 ∧ Below w.heap.size w w' := by
 have HR0 := Aside0.mk hr0
 have HC0 := Aside0.mk hc0
 clear hr0 hc0
 have HB := Aside0.mk (Below.refl w.heap.size w)
 have H : (if a1 < (-1152921504606846976) then (wire_PutInt.j0 k l0 a1 true) else (wire_PutInt.j0 k l0 a1 (decide (a1 > 1152921504606846976)))) = some (r1, r2) := h
 clear h
 have HC3 := Aside0.mk H
 clear H
 go_enter Try.func80, Try.ntmps80
 go_upto_region 1 with (fail)
 go_cut [12] (fun v12 wc => ∃ (kq : Nat) (x12_2 : Bool), v12 = .bool x12_2 ∧ Aside0 (wire_PutInt.j0 kq l0 a1 x12_2 = some (r1, r2)) ∧ Aside0 (kq ≤ k) ∧ Aside0 (Below w.heap.size w wc))
 case first =>
  have H := HC3.out
  clear HC3
  by_cases c4 : a1 < (-1152921504606846976)
  ·rw [if_pos c4] at H
   have c4b0 : decide (a1 < (-1152921504606846976)) = true := decide_eq_true c4
   clear c4
   (first | rw [c4b0] | (simp only [i64_w, i32_w]; rw [c4b0]) | skip)
   have H' := Aside0.mk H
   clear H
   go_wp2
   go_meet
   case rel => exact ⟨_, (true), (by first | rfl | (simp; done) | (simp [*]; done)), H', ⟨by first | omega | exact Nat.le_refl _⟩, ⟨by repeat (first | (with_reducible first | exact HB.out | apply below_alloc | apply pw_below_drewN | apply below_drew1) | exact HB.out)⟩⟩
  ·rw [if_neg c4] at H
   have c4b0 : decide (a1 < (-1152921504606846976)) = false := decide_eq_false c4
   clear c4
   (first | rw [c4b0] | (simp only [i64_w, i32_w]; rw [c4b0]) | skip)
   have H' := Aside0.mk H
   clear H
   go_wp2
   go_meet
   case rel => exact ⟨_, (decide (a1 > 1152921504606846976)), (by first | rfl | (simp; done) | (simp [*]; done)), H', ⟨by first | omega | exact Nat.le_refl _⟩, ⟨by repeat (first | (with_reducible first | exact HB.out | apply below_alloc | apply pw_below_drewN | apply below_drew1) | exact HB.out)⟩⟩
 case rest =>
  clear HC3
  try clear p2
  try clear c4
  try clear c4b0
  obtain ⟨kq, x12_2, rfl, HA, HJ2, HB⟩ := hcut
  cases kq with
  | zero => exact absurd HA.out (by simp [wire_PutInt.j0])
  | succ kj2 =>
   have H := HA.out
   clear HA
   simp only [wire_PutInt.j0] at H
   by_cases c5 : x12_2 = true
   ·subst c5
    have H1 : (some (([] : List Int), 1)) = some (r1, r2) := by rw [if_pos rfl] at H; exact H
    clear H
    have H := H1
    clear H1
    simp only [Option.some.injEq, Prod.mk.injEq] at H
    obtain ⟨rfl, rfl⟩ := H
    go_wp2
    go_ret2
    exact ⟨_, by first | rfl | (simp [errW_none, errW_some] <;> rfl) | (simp [*, errW_none, errW_some] <;> rfl), by first | exact Kd.R_nil _ _ _ _ _ | exact Kd.N_nil _ _ _ _ _ | exact Kd.V_nil _ _ _ _ _ | exact Kd.Q_nil _ _ _ _ _ | exact Kd.S_nil _ _ _ _ _, by repeat (first | (with_reducible first | exact HB.out | apply below_alloc | apply pw_below_drewN | apply below_drew1) | exact HB.out)⟩
   ·replace c5 := Bool.eq_false_iff.mpr c5
    subst c5
    have H1 : (if a1 < 0 then ((slices_Clone_byte_byte.f l0).bind fun t213 => (if t213.length < 140737488355328 then ((wire_big.f kj2 (t213 ++ [1]) (wrap64 (-a1)) 8).bind fun t219 => (some (t219, 0))) else (none))) else ((slices_Clone_byte_byte.f l0).bind fun t222 => (if t222.length < 140737488355328 then ((wire_big.f kj2 (t222 ++ [0]) a1 8).bind fun t228 => (some (t228, 0))) else (none)))) = some (r1, r2) := by rw [if_neg (show ¬ (false = true) by decide)] at H; exact H
    clear H
    have H := H1
    clear H1
    by_cases c6 : a1 < 0
    ·rw [if_pos c6] at H
     have c6b0 : decide (a1 < 0) = true := decide_eq_true c6
     clear c6
     replace H := Option.bind_eq_some_iff.mp H
     obtain ⟨t213, A70, H⟩ := H
     replace H : (if t213.length < 140737488355328 then ((wire_big.f kj2 (t213 ++ [1]) (wrap64 (-a1)) 8).bind fun t219 => (some (t219, 0))) else (none)) = some (r1, r2) := H
     have A7 := Aside0.mk A70
     clear A70
     by_cases c8 : t213.length < 140737488355328
     ·rw [if_pos c8] at H
      have LMc8 := Aside0.mk c8
      clear c8
      obtain ⟨y216, hy216⟩ : ∃ y_ : List Int, y_ = (t213 ++ [1]) := ⟨_, rfl⟩
      replace H : ((wire_big.f kj2 y216 (wrap64 (-a1)) 8).bind fun t219 => (some (t219, 0))) = some (r1, r2) := by first | (rw [hy216]; with_reducible exact H) | (have H2_ := (Option.bind_some _ _).symm.trans H; rw [hy216]; with_reducible exact H2_) | (have H2_ := (Option.bind_some _ _).symm.trans H; with_reducible exact H2_) | with_reducible exact H | (rw [hy216]; exact H) | exact H
      have Ny216 := Aside0.mk hy216
      clear hy216
      replace H := Option.bind_eq_some_iff.mp H
      obtain ⟨t219, A90, H⟩ := H
      replace H : (some (t219, 0)) = some (r1, r2) := H
      have A9 := Aside0.mk A90
      clear A90
      simp only [Option.some.injEq, Prod.mk.injEq] at H
      obtain ⟨rfl, rfl⟩ := H
      go_wp2_with (first | ((with_reducible refine gate_callee (f := 28) rfl ?_); refine goesL_ (some 18) rfl rfl Try.func28 (by kernel_rfl) rfl #[.slice A0 l0.length c0] rfl (by (try simp only [List.map_toArray, List.map_cons, List.map_nil]); first | done | rfl | (simp only [List.length_drop, List.length_take]; rfl)) ?_; (with_reducible refine (slices_Clone_byte_byte.calls _ _ l0 t213 _ ?side1 ?side2 A7.out).mono ?_); (case side1 => repeat (first | exact (Kd.C_below HR0.out HB.out) | (with_reducible refine Kd.C_alloc ?_ _) | (with_reducible refine Kd.C_drewN ?_ _) | (with_reducible refine Kd.C_drew ?_))); (case side2 => exact HC0.out); rintro e w10 ⟨v214, rfl, ho0, hb⟩; refine ⟨_, rfl, ?_⟩; have n0_ := Aside0.mk (Kd.R_lower ho0 (below_size (by repeat (first | (with_reducible first | exact HB.out | apply below_alloc | apply pw_below_drewN | apply below_drew1) | exact HB.out)))); have n1_ := Aside0.mk (below_step (by repeat (first | (with_reducible first | exact HB.out | apply below_alloc | apply pw_below_drewN | apply below_drew1) | exact HB.out)) hb); clear HB; have HO215 := n0_; have HB := n1_; clear n0_ n1_; (try clear hb); (try clear hb2); (try clear hk); (try clear hi); (try clear ho0)) | ((with_reducible refine gate_builtin (b := .append) (xs := #[.tmp 18, .tmp 20]) rfl ?_); at_builtin; refine Kd.R_append (Kd.int .u8) (w0 := w) w.heap.size rfl (.tmp 18) (.tmp 20) 22 5 (.int .u8 0) 1 rfl Try.underlying22 info5 rfl (by decide) (by omega) v214 t213 1 [.int .u8 1] (fun _ => True) (fun _ => False) rfl rfl ?aP (fun _ hk => hk.elim) ?aF ?aO ?aB ?aS ?aL ?_; (case aP => exact rfl); (case aB => exact (by repeat (first | (with_reducible first | exact HB.out | apply below_alloc | apply pw_below_drewN | apply below_drew1) | exact HB.out))); (case aF => exact (fun _ _ => trivial)); (case aO => exact (by (with_reducible repeat (first | apply Kd.R_alloc | apply Kd.R_drewN | apply Kd.R_drew)); exact HO215.out)); (case aS => exact (below_size (by repeat (first | (with_reducible first | exact HB.out | apply below_alloc | apply pw_below_drewN | apply below_drew1) | exact HB.out)))); (case aL => have := LMc8.out; omega); intro v217 w11 ho hb hg hat; rw [← Ny216.out] at ho; have n0_ := Aside0.mk (hb); have n1_ := Aside0.mk (ho); clear HB; clear HO215; have HB := n0_; have HO218 := n1_; clear n0_ n1_; clear ho hb hg hat; obtain ⟨Ao12, co12, eo12⟩ := Kd.R_slice HO218.out; subst eo12) | ((with_reducible refine gate_callee (f := 58) rfl ?_); refine goesL_ (some 23) rfl rfl Try.func58 (by kernel_rfl) rfl #[.slice Ao12 y216.length co12, .int .i64 (wrap64 (-a1)), .int .i64 8] rfl (by (try simp only [List.map_toArray, List.map_cons, List.map_nil]); first | done | rfl | (simp only [List.length_drop, List.length_take]; rfl)) ?_; (with_reducible refine (wire_big.calls kj2 _ _ y216 (wrap64 (-a1)) 8 t219 _ ?side1 ?side2 A9.out).mono ?_); (case side1 => repeat (first | exact (Kd.R_reads' HO218.out).2.2 | (with_reducible refine Kd.C_alloc ?_ _) | (with_reducible refine Kd.C_drewN ?_ _) | (with_reducible refine Kd.C_drew ?_))); (case side2 => exact (Kd.R_reads' HO218.out).2.1); rintro e w13 ⟨v220, rfl, ho0, hb⟩; refine ⟨_, rfl, ?_⟩; have n0_ := Aside0.mk (Kd.R_elder' (by (with_reducible repeat (first | apply Kd.R_alloc | apply Kd.R_drewN | apply Kd.R_drew)); exact HO218.out) (Kd.R_base ho0) hb); have n1_ := Aside0.mk (Kd.R_lower (Kd.R_new' ho0 (Kd.R_lt (by (with_reducible repeat (first | apply Kd.R_alloc | apply Kd.R_drewN | apply Kd.R_drew)); exact HO218.out))) (below_size (by repeat (first | (with_reducible first | exact HB.out | apply below_alloc | apply pw_below_drewN | apply below_drew1) | exact HB.out)))); have n2_ := Aside0.mk (below_step (by repeat (first | (with_reducible first | exact HB.out | apply below_alloc | apply pw_below_drewN | apply below_drew1) | exact HB.out)) hb); clear HO218; clear HB; have HO218 := n0_; have HO221 := n1_; have HB := n2_; clear n0_ n1_ n2_; (try clear hb); (try clear hb2); (try clear hk); (try clear hi); (try clear ho0)))
      go_ret2
      exact ⟨_, by first | rfl | (simp [errW_none, errW_some] <;> rfl) | (simp [*, errW_none, errW_some] <;> rfl), by (with_reducible repeat (first | apply Kd.R_alloc | apply Kd.R_drewN | apply Kd.R_drew)); exact Kd.R_mono HO221.out (fun _ hk => trivial), by repeat (first | (with_reducible first | exact HB.out | apply below_alloc | apply pw_below_drewN | apply below_drew1) | exact HB.out)⟩
     ·rw [if_neg c8] at H
      exact absurd H (by simp)
    ·rw [if_neg c6] at H
     have c6b0 : decide (a1 < 0) = false := decide_eq_false c6
     clear c6
     replace H := Option.bind_eq_some_iff.mp H
     obtain ⟨t222, A140, H⟩ := H
     replace H : (if t222.length < 140737488355328 then ((wire_big.f kj2 (t222 ++ [0]) a1 8).bind fun t228 => (some (t228, 0))) else (none)) = some (r1, r2) := H
     have A14 := Aside0.mk A140
     clear A140
     by_cases c15 : t222.length < 140737488355328
     ·rw [if_pos c15] at H
      have LMc15 := Aside0.mk c15
      clear c15
      obtain ⟨y225, hy225⟩ : ∃ y_ : List Int, y_ = (t222 ++ [0]) := ⟨_, rfl⟩
      replace H : ((wire_big.f kj2 y225 a1 8).bind fun t228 => (some (t228, 0))) = some (r1, r2) := by first | (rw [hy225]; with_reducible exact H) | (have H2_ := (Option.bind_some _ _).symm.trans H; rw [hy225]; with_reducible exact H2_) | (have H2_ := (Option.bind_some _ _).symm.trans H; with_reducible exact H2_) | with_reducible exact H | (rw [hy225]; exact H) | exact H
      have Ny225 := Aside0.mk hy225
      clear hy225
      replace H := Option.bind_eq_some_iff.mp H
      obtain ⟨t228, A160, H⟩ := H
      replace H : (some (t228, 0)) = some (r1, r2) := H
      have A16 := Aside0.mk A160
      clear A160
      simp only [Option.some.injEq, Prod.mk.injEq] at H
      obtain ⟨rfl, rfl⟩ := H
      go_wp2_with (first | ((with_reducible refine gate_callee (f := 28) rfl ?_); refine goesL_ (some 18) rfl rfl Try.func28 (by kernel_rfl) rfl #[.slice A0 l0.length c0] rfl (by (try simp only [List.map_toArray, List.map_cons, List.map_nil]); first | done | rfl | (simp only [List.length_drop, List.length_take]; rfl)) ?_; (with_reducible refine (slices_Clone_byte_byte.calls _ _ l0 t222 _ ?side1 ?side2 A14.out).mono ?_); (case side1 => repeat (first | exact (Kd.C_below HR0.out HB.out) | (with_reducible refine Kd.C_alloc ?_ _) | (with_reducible refine Kd.C_drewN ?_ _) | (with_reducible refine Kd.C_drew ?_))); (case side2 => exact HC0.out); rintro e w17 ⟨v223, rfl, ho0, hb⟩; refine ⟨_, rfl, ?_⟩; have n0_ := Aside0.mk (Kd.R_lower ho0 (below_size (by repeat (first | (with_reducible first | exact HB.out | apply below_alloc | apply pw_below_drewN | apply below_drew1) | exact HB.out)))); have n1_ := Aside0.mk (below_step (by repeat (first | (with_reducible first | exact HB.out | apply below_alloc | apply pw_below_drewN | apply below_drew1) | exact HB.out)) hb); clear HB; have HO224 := n0_; have HB := n1_; clear n0_ n1_; (try clear hb); (try clear hb2); (try clear hk); (try clear hi); (try clear ho0)) | ((with_reducible refine gate_builtin (b := .append) (xs := #[.tmp 18, .tmp 20]) rfl ?_); at_builtin; refine Kd.R_append (Kd.int .u8) (w0 := w) w.heap.size rfl (.tmp 18) (.tmp 20) 22 5 (.int .u8 0) 1 rfl Try.underlying22 info5 rfl (by decide) (by omega) v223 t222 0 [.int .u8 0] (fun _ => True) (fun _ => False) rfl rfl ?aP (fun _ hk => hk.elim) ?aF ?aO ?aB ?aS ?aL ?_; (case aP => exact rfl); (case aB => exact (by repeat (first | (with_reducible first | exact HB.out | apply below_alloc | apply pw_below_drewN | apply below_drew1) | exact HB.out))); (case aF => exact (fun _ _ => trivial)); (case aO => exact (by (with_reducible repeat (first | apply Kd.R_alloc | apply Kd.R_drewN | apply Kd.R_drew)); exact HO224.out)); (case aS => exact (below_size (by repeat (first | (with_reducible first | exact HB.out | apply below_alloc | apply pw_below_drewN | apply below_drew1) | exact HB.out)))); (case aL => have := LMc15.out; omega); intro v226 w18 ho hb hg hat; rw [← Ny225.out] at ho; have n0_ := Aside0.mk (hb); have n1_ := Aside0.mk (ho); clear HB; clear HO224; have HB := n0_; have HO227 := n1_; clear n0_ n1_; clear ho hb hg hat; obtain ⟨Ao19, co19, eo19⟩ := Kd.R_slice HO227.out; subst eo19) | ((with_reducible refine gate_callee (f := 58) rfl ?_); refine goesL_ (some 23) rfl rfl Try.func58 (by kernel_rfl) rfl #[.slice Ao19 y225.length co19, .int .i64 a1, .int .i64 8] rfl (by (try simp only [List.map_toArray, List.map_cons, List.map_nil]); first | done | rfl | (simp only [List.length_drop, List.length_take]; rfl)) ?_; (with_reducible refine (wire_big.calls kj2 _ _ y225 a1 8 t228 _ ?side1 ?side2 A16.out).mono ?_); (case side1 => repeat (first | exact (Kd.R_reads' HO227.out).2.2 | (with_reducible refine Kd.C_alloc ?_ _) | (with_reducible refine Kd.C_drewN ?_ _) | (with_reducible refine Kd.C_drew ?_))); (case side2 => exact (Kd.R_reads' HO227.out).2.1); rintro e w20 ⟨v229, rfl, ho0, hb⟩; refine ⟨_, rfl, ?_⟩; have n0_ := Aside0.mk (Kd.R_elder' (by (with_reducible repeat (first | apply Kd.R_alloc | apply Kd.R_drewN | apply Kd.R_drew)); exact HO227.out) (Kd.R_base ho0) hb); have n1_ := Aside0.mk (Kd.R_lower (Kd.R_new' ho0 (Kd.R_lt (by (with_reducible repeat (first | apply Kd.R_alloc | apply Kd.R_drewN | apply Kd.R_drew)); exact HO227.out))) (below_size (by repeat (first | (with_reducible first | exact HB.out | apply below_alloc | apply pw_below_drewN | apply below_drew1) | exact HB.out)))); have n2_ := Aside0.mk (below_step (by repeat (first | (with_reducible first | exact HB.out | apply below_alloc | apply pw_below_drewN | apply below_drew1) | exact HB.out)) hb); clear HO227; clear HB; have HO227 := n0_; have HO230 := n1_; have HB := n2_; clear n0_ n1_ n2_; (try clear hb); (try clear hb2); (try clear hk); (try clear hi); (try clear ho0)))
      go_ret2
      exact ⟨_, by first | rfl | (simp [errW_none, errW_some] <;> rfl) | (simp [*, errW_none, errW_some] <;> rfl), by (with_reducible repeat (first | apply Kd.R_alloc | apply Kd.R_drewN | apply Kd.R_drew)); exact Kd.R_mono HO230.out (fun _ hk => trivial), by repeat (first | (with_reducible first | exact HB.out | apply below_alloc | apply pw_below_drewN | apply below_drew1) | exact HB.out)⟩
     ·rw [if_neg c15] at H
      exact absurd H (by simp)

/-! ### value_Bytes: function 61 -/
def value_Bytes.f (k : Nat) (a0_0 : Int) (a0_1 : Int) (a0_2 : ByteArray) : Option (List Int × Int) := (value_Check.f a0_0 a0_1 a0_2).bind fun t232 => (if t232 = 0 then ((some (([(a0_0) % 256] : List Int) : List Int)).bind fun y233 => (if a0_0 = 2 then (if y233.length < 140737488355328 then (some ((y233 ++ [(a0_1) % 256]), 0)) else (none)) else (if a0_0 = 3 then ((wire_PutInt.f k y233 a0_1).bind fun bt239 => (some (bt239.1, bt239.2))) else (if a0_0 = 4 then ((wire_PutText.f y233 a0_2).bind fun bt243 => (some (bt243.1, bt243.2))) else (some (y233, 0)))))) else (some (([] : List Int), t232)))
set_option maxHeartbeats 8000000 in
set_option maxRecDepth 100000 in
theorem value_Bytes.calls (k : Nat) (a0_0 : Int) (a0_1 : Int) (a0_2 : ByteArray) (r1 : List Int) (r2 : Int) (w : World) (h : value_Bytes.f k a0_0 a0_1 a0_2 = some (r1, r2)) :
  Calls Try.prog 61 #[.agg #[.int .i64 a0_0, .int .i64 a0_1, .string a0_2]] w fun e w' => ∃ v0_ : Value, e = .returned (.tuple #[v0_, .int .i64 r2]) ∧ Kd.R (Kd.int .u8) 5 w' w.heap.size (fun _ => True) v0_ r1 ∧ Below w.heap.size w w' := by
 have hu101 := Try.underlying101
 have HB := Aside0.mk (Below.refl w.heap.size w)
 have H : ((value_Check.f a0_0 a0_1 a0_2).bind fun t232 => (if t232 = 0 then ((some (([(a0_0) % 256] : List Int) : List Int)).bind fun y233 => (if a0_0 = 2 then (if y233.length < 140737488355328 then (some ((y233 ++ [(a0_1) % 256]), 0)) else (none)) else (if a0_0 = 3 then ((wire_PutInt.f k y233 a0_1).bind fun bt239 => (some (bt239.1, bt239.2))) else (if a0_0 = 4 then ((wire_PutText.f y233 a0_2).bind fun bt243 => (some (bt243.1, bt243.2))) else (some (y233, 0)))))) else (some (([] : List Int), t232)))) = some (r1, r2) := h
 clear h
 replace H := Option.bind_eq_some_iff.mp H
 obtain ⟨t232, A20, H⟩ := H
 replace H : (if t232 = 0 then ((some (([(a0_0) % 256] : List Int) : List Int)).bind fun y233 => (if a0_0 = 2 then (if y233.length < 140737488355328 then (some ((y233 ++ [(a0_1) % 256]), 0)) else (none)) else (if a0_0 = 3 then ((wire_PutInt.f k y233 a0_1).bind fun bt239 => (some (bt239.1, bt239.2))) else (if a0_0 = 4 then ((wire_PutText.f y233 a0_2).bind fun bt243 => (some (bt243.1, bt243.2))) else (some (y233, 0)))))) else (some (([] : List Int), t232))) = some (r1, r2) := H
 have A2 := Aside0.mk A20
 clear A20
 by_cases c3 : t232 = 0
 ·rw [if_pos c3] at H
  have c3b0 : (t232 == 0) = true := beq_iff_eq.mpr c3
  have c3b1 : (t232 != 0) = false := bne_eq_false_iff_eq.mpr c3
  clear c3
  obtain ⟨y233, hy233⟩ : ∃ y_ : List Int, y_ = (([(a0_0) % 256] : List Int)) := ⟨_, rfl⟩
  replace H : (if a0_0 = 2 then (if y233.length < 140737488355328 then (some ((y233 ++ [(a0_1) % 256]), 0)) else (none)) else (if a0_0 = 3 then ((wire_PutInt.f k y233 a0_1).bind fun bt239 => (some (bt239.1, bt239.2))) else (if a0_0 = 4 then ((wire_PutText.f y233 a0_2).bind fun bt243 => (some (bt243.1, bt243.2))) else (some (y233, 0))))) = some (r1, r2) := by first | (rw [hy233]; with_reducible exact H) | (have H2_ := (Option.bind_some _ _).symm.trans H; rw [hy233]; with_reducible exact H2_) | (have H2_ := (Option.bind_some _ _).symm.trans H; with_reducible exact H2_) | with_reducible exact H | (rw [hy233]; exact H) | exact H
  have Ny233 := Aside0.mk hy233
  clear hy233
  by_cases c4 : a0_0 = 2
  ·rw [if_pos c4] at H
   have c4b0 : (a0_0 == 2) = true := beq_iff_eq.mpr c4
   have c4b1 : (a0_0 != 2) = false := bne_eq_false_iff_eq.mpr c4
   clear c4
   by_cases c5 : y233.length < 140737488355328
   ·rw [if_pos c5] at H
    have LMc5 := Aside0.mk c5
    clear c5
    obtain ⟨y236, hy236⟩ : ∃ y_ : List Int, y_ = (y233 ++ [(a0_1) % 256]) := ⟨_, rfl⟩
    replace H : (some (y236, 0)) = some (r1, r2) := by first | (rw [hy236]; with_reducible exact H) | (have H2_ := (Option.bind_some _ _).symm.trans H; rw [hy236]; with_reducible exact H2_) | (have H2_ := (Option.bind_some _ _).symm.trans H; with_reducible exact H2_) | with_reducible exact H | (rw [hy236]; exact H) | exact H
    have Ny236 := Aside0.mk hy236
    clear hy236
    simp only [Option.some.injEq, Prod.mk.injEq] at H
    obtain ⟨rfl, rfl⟩ := H
    go_enter Try.func61, Try.ntmps61
    go_wp2_with (first | ((with_reducible refine gate_dst (N := 1) rfl ?_); refine box_event ?hg (N := 1) ?hd (cs := #[.int .i64 a0_0, .int .i64 a0_1, .string a0_2]) (t := 101) ?hr ?_; (case hd => rfl); (case hg => rfl); (case hr => first | (go_simp; done) | (go_simp; rfl)); intro gb231 hg w6 hbox hb; have n0_ := Aside0.mk (below_step (by repeat (first | (with_reducible first | exact HB.out | apply below_alloc | apply pw_below_drewN | apply below_drew1) | exact HB.out)) hb); have n1_ := Aside0.mk (hbox); have n2_ := Aside0.mk ((by rw [hg]; exact (below_size (by repeat (first | (with_reducible first | exact HB.out | apply below_alloc | apply pw_below_drewN | apply below_drew1) | exact HB.out))) : w.heap.size ≤ gb231)); have n3_ := Aside0.mk ((by rw [hg]; exact (below_size (by repeat (first | (with_reducible first | exact HB.out | apply below_alloc | apply pw_below_drewN | apply below_drew1) | exact HB.out))) : w.heap.size ≤ gb231)); clear HB; have HB := n0_; have BK231 := n1_; have GW231 := n2_; have GE231 := n3_; clear n0_ n1_ n2_ n3_; clear hb hbox hg; have hcz7 := fun i_ => blk_cell BK231.out i_; have hfz7 := fun i_ => blk_frozen BK231.out i_) | ((with_reducible refine gate_callee (f := 79) rfl ?_); refine goesL_ (some 7) rfl rfl Try.func79 (by kernel_rfl) rfl #[.agg #[.int .i64 a0_0, .int .i64 a0_1, .string a0_2]] rfl (by (try simp only [List.map_toArray, List.map_cons, List.map_nil]); first | done | rfl | (simp only [List.length_drop, List.length_take]; rfl)) ?_; (with_reducible refine (value_Check.calls a0_0 a0_1 a0_2 t232 _ A2.out).mono ?_); rintro e w8 ⟨rfl, hb⟩; refine ⟨_, rfl, ?_⟩; have n0_ := Aside0.mk (blk_below (g := gb231) (o := .cells #[.int .i64 a0_0, .int .i64 a0_1, .string a0_2] 101 (0, 0)) (by (with_reducible repeat (first | refine blk_drewN ?_ _ | refine blk_drew ?_ | refine blk_alloc ?_ _)); exact BK231.out) hb); have n1_ := Aside0.mk (below_step (by repeat (first | (with_reducible first | exact HB.out | apply below_alloc | apply pw_below_drewN | apply below_drew1 | refine below_set ?_ GE231.out) | exact HB.out)) hb); clear BK231; clear HB; have BK231 := n0_; have HB := n1_; clear n0_ n1_; (try clear hb); (try clear hb2); (try clear hk); (try clear hi); have hcz9 := fun i_ => blk_cell BK231.out i_; have hfz9 := fun i_ => blk_frozen BK231.out i_) | ((with_reducible refine gate_dst (N := 14) rfl ?_); refine Kd.R_lit (Kd.int .u8) _ 5 ?hg (N := 14) ?hd (xs := ([(a0_0) % 256] : List Int)) (inner := [.int .u8 ((a0_0) % 256)]) (ok := fun _ => True) (okp := fun _ => True) ?hr ?hp (fun _ hk => hk) trivial (Below.refl _ _) (Nat.le_refl _) (by simp) ?_; (case hd => rfl); (case hg => rfl); (case hr => first | (go_simp; done) | (go_simp; rfl)); (case hp => exact (Reps.one (show Kd.M (Kd.int .u8) _ _ _ ((a0_0) % 256) [.int .u8 ((a0_0) % 256)] from rfl) (Reps.none _ _))); intro v234 w10 ho11 hb hg_ hnew_; clear hg_ hnew_; (first | rw [← Ny233.out] at ho11 | (simp only [Int.reduceToNat] at ho11; rw [← Ny233.out] at ho11)); have n0_ := Aside0.mk (Kd.R_lower ho11 (below_size (by repeat (first | (with_reducible first | exact HB.out | apply below_alloc | apply pw_below_drewN | apply below_drew1 | refine below_set ?_ GE231.out) | exact HB.out)))); have n1_ := Aside0.mk (blk_below (g := gb231) (o := .cells #[.int .i64 a0_0, .int .i64 a0_1, .string a0_2] 101 (0, 0)) (by (with_reducible repeat (first | refine blk_drewN ?_ _ | refine blk_drew ?_ | refine blk_alloc ?_ _)); exact BK231.out) hb); have n2_ := Aside0.mk (below_step (by repeat (first | (with_reducible first | exact HB.out | apply below_alloc | apply pw_below_drewN | apply below_drew1 | refine below_set ?_ GE231.out) | exact HB.out)) hb); clear BK231; clear HB; have HO235 := n0_; have BK231 := n1_; have HB := n2_; clear n0_ n1_ n2_; clear hb ho11; have hcz12 := fun i_ => blk_cell BK231.out i_; have hfz12 := fun i_ => blk_frozen BK231.out i_) | ((with_reducible refine gate_builtin (b := .append) (xs := #[.tmp 19, .tmp 23]) rfl ?_); at_builtin; refine Kd.R_append (Kd.int .u8) (w0 := w) w.heap.size rfl (.tmp 19) (.tmp 23) 22 5 (.int .u8 0) 1 rfl Try.underlying22 info5 rfl (by decide) (by omega) v234 y233 ((a0_1) % 256) [.int .u8 ((a0_1) % 256)] (fun _ => True) (fun _ => False) rfl rfl ?aP (fun _ hk => hk.elim) ?aF ?aO ?aB ?aS ?aL ?_; (case aP => exact rfl); (case aB => exact (by repeat (first | (with_reducible first | exact HB.out | apply below_alloc | apply pw_below_drewN | apply below_drew1 | refine below_set ?_ GE231.out) | exact HB.out))); (case aF => exact (fun _ _ => trivial)); (case aO => exact (by (with_reducible repeat (first | apply Kd.R_alloc | apply Kd.R_drewN | apply Kd.R_drew)); exact HO235.out)); (case aS => exact (below_size (by repeat (first | (with_reducible first | exact HB.out | apply below_alloc | apply pw_below_drewN | apply below_drew1 | refine below_set ?_ GE231.out) | exact HB.out)))); (case aL => have := LMc5.out; omega); intro v237 w13 ho hb hg hat; rw [← Ny236.out] at ho; have n0_ := Aside0.mk (blk_grown (g := gb231) (o := .cells #[.int .i64 a0_0, .int .i64 a0_1, .string a0_2] 101 (0, 0)) (by (with_reducible repeat (first | refine blk_drewN ?_ _ | refine blk_drew ?_ | refine blk_alloc ?_ _)); exact BK231.out) hg (Kd.R_ne HO235.out BK231.out (by decide))); have n1_ := Aside0.mk (hb); have n2_ := Aside0.mk (ho); clear BK231; clear HB; clear HO235; have BK231 := n0_; have HB := n1_; have HO238 := n2_; clear n0_ n1_ n2_; clear ho hb hg hat))
    go_ret2
    exact ⟨_, by first | rfl | (simp [errW_none, errW_some] <;> rfl) | (simp [*, errW_none, errW_some] <;> rfl), by (with_reducible repeat (first | apply Kd.R_alloc | apply Kd.R_drewN | apply Kd.R_drew)); exact HO238.out, by repeat (first | (with_reducible first | exact HB.out | apply below_alloc | apply pw_below_drewN | apply below_drew1 | refine below_set ?_ GE231.out) | exact HB.out)⟩
   ·rw [if_neg c5] at H
    exact absurd H (by simp)
  ·rw [if_neg c4] at H
   have c4b0 : (a0_0 == 2) = false := beq_eq_false_iff_ne.mpr c4
   have c4b1 : (a0_0 != 2) = true := bne_iff_ne.mpr c4
   by_cases c14 : a0_0 = 3
   ·rw [if_pos c14] at H
    have c14b0 : (a0_0 == 3) = true := beq_iff_eq.mpr c14
    have c14b1 : (a0_0 != 3) = false := bne_eq_false_iff_eq.mpr c14
    clear c14
    replace H := Option.bind_eq_some_iff.mp H
    obtain ⟨⟨t239, t240⟩, A150, H⟩ := H
    replace H : (some (t239, t240)) = some (r1, r2) := H
    have A15 := Aside0.mk A150
    clear A150
    simp only [Option.some.injEq, Prod.mk.injEq] at H
    obtain ⟨rfl, rfl⟩ := H
    go_enter Try.func61, Try.ntmps61
    go_wp2_with (first | ((with_reducible refine gate_dst (N := 1) rfl ?_); refine box_event ?hg (N := 1) ?hd (cs := #[.int .i64 a0_0, .int .i64 a0_1, .string a0_2]) (t := 101) ?hr ?_; (case hd => rfl); (case hg => rfl); (case hr => first | (go_simp; done) | (go_simp; rfl)); intro gb231 hg w16 hbox hb; have n0_ := Aside0.mk (below_step (by repeat (first | (with_reducible first | exact HB.out | apply below_alloc | apply pw_below_drewN | apply below_drew1) | exact HB.out)) hb); have n1_ := Aside0.mk (hbox); have n2_ := Aside0.mk ((by rw [hg]; exact (below_size (by repeat (first | (with_reducible first | exact HB.out | apply below_alloc | apply pw_below_drewN | apply below_drew1) | exact HB.out))) : w.heap.size ≤ gb231)); have n3_ := Aside0.mk ((by rw [hg]; exact (below_size (by repeat (first | (with_reducible first | exact HB.out | apply below_alloc | apply pw_below_drewN | apply below_drew1) | exact HB.out))) : w.heap.size ≤ gb231)); clear HB; have HB := n0_; have BK231 := n1_; have GW231 := n2_; have GE231 := n3_; clear n0_ n1_ n2_ n3_; clear hb hbox hg; have hcz17 := fun i_ => blk_cell BK231.out i_; have hfz17 := fun i_ => blk_frozen BK231.out i_) | ((with_reducible refine gate_callee (f := 79) rfl ?_); refine goesL_ (some 7) rfl rfl Try.func79 (by kernel_rfl) rfl #[.agg #[.int .i64 a0_0, .int .i64 a0_1, .string a0_2]] rfl (by (try simp only [List.map_toArray, List.map_cons, List.map_nil]); first | done | rfl | (simp only [List.length_drop, List.length_take]; rfl)) ?_; (with_reducible refine (value_Check.calls a0_0 a0_1 a0_2 t232 _ A2.out).mono ?_); rintro e w18 ⟨rfl, hb⟩; refine ⟨_, rfl, ?_⟩; have n0_ := Aside0.mk (blk_below (g := gb231) (o := .cells #[.int .i64 a0_0, .int .i64 a0_1, .string a0_2] 101 (0, 0)) (by (with_reducible repeat (first | refine blk_drewN ?_ _ | refine blk_drew ?_ | refine blk_alloc ?_ _)); exact BK231.out) hb); have n1_ := Aside0.mk (below_step (by repeat (first | (with_reducible first | exact HB.out | apply below_alloc | apply pw_below_drewN | apply below_drew1 | refine below_set ?_ GE231.out) | exact HB.out)) hb); clear BK231; clear HB; have BK231 := n0_; have HB := n1_; clear n0_ n1_; (try clear hb); (try clear hb2); (try clear hk); (try clear hi); have hcz19 := fun i_ => blk_cell BK231.out i_; have hfz19 := fun i_ => blk_frozen BK231.out i_) | ((with_reducible refine gate_dst (N := 14) rfl ?_); refine Kd.R_lit (Kd.int .u8) _ 5 ?hg (N := 14) ?hd (xs := ([(a0_0) % 256] : List Int)) (inner := [.int .u8 ((a0_0) % 256)]) (ok := fun _ => True) (okp := fun _ => True) ?hr ?hp (fun _ hk => hk) trivial (Below.refl _ _) (Nat.le_refl _) (by simp) ?_; (case hd => rfl); (case hg => rfl); (case hr => first | (go_simp; done) | (go_simp; rfl)); (case hp => exact (Reps.one (show Kd.M (Kd.int .u8) _ _ _ ((a0_0) % 256) [.int .u8 ((a0_0) % 256)] from rfl) (Reps.none _ _))); intro v234 w20 ho21 hb hg_ hnew_; clear hg_ hnew_; (first | rw [← Ny233.out] at ho21 | (simp only [Int.reduceToNat] at ho21; rw [← Ny233.out] at ho21)); have n0_ := Aside0.mk (Kd.R_lower ho21 (below_size (by repeat (first | (with_reducible first | exact HB.out | apply below_alloc | apply pw_below_drewN | apply below_drew1 | refine below_set ?_ GE231.out) | exact HB.out)))); have n1_ := Aside0.mk (blk_below (g := gb231) (o := .cells #[.int .i64 a0_0, .int .i64 a0_1, .string a0_2] 101 (0, 0)) (by (with_reducible repeat (first | refine blk_drewN ?_ _ | refine blk_drew ?_ | refine blk_alloc ?_ _)); exact BK231.out) hb); have n2_ := Aside0.mk (below_step (by repeat (first | (with_reducible first | exact HB.out | apply below_alloc | apply pw_below_drewN | apply below_drew1 | refine below_set ?_ GE231.out) | exact HB.out)) hb); clear BK231; clear HB; have HO235 := n0_; have BK231 := n1_; have HB := n2_; clear n0_ n1_ n2_; clear hb ho21; have hcz22 := fun i_ => blk_cell BK231.out i_; have hfz22 := fun i_ => blk_frozen BK231.out i_; obtain ⟨Ao23, co23, eo23⟩ := Kd.R_slice HO235.out; subst eo23) | ((with_reducible refine gate_callee (f := 80) rfl ?_); refine goesL_ (some 30) rfl rfl Try.func80 (by kernel_rfl) rfl #[.slice Ao23 y233.length co23, .int .i64 a0_1] rfl (by (try simp only [List.map_toArray, List.map_cons, List.map_nil]); first | done | rfl | (simp only [List.length_drop, List.length_take]; rfl)) ?_; (with_reducible refine (wire_PutInt.calls k _ _ y233 a0_1 t239 t240 _ ?side1 ?side2 A15.out).mono ?_); (case side1 => repeat (first | exact (Kd.R_reads' HO235.out).2.2 | (with_reducible refine Kd.C_alloc ?_ _) | (with_reducible refine Kd.C_drewN ?_ _) | (with_reducible refine Kd.C_drew ?_))); (case side2 => exact (Kd.R_reads' HO235.out).2.1); rintro e w24 ⟨v241, rfl, ho0, hb⟩; refine ⟨_, rfl, ?_⟩; have n0_ := Aside0.mk (Kd.R_elder' (by (with_reducible repeat (first | apply Kd.R_alloc | apply Kd.R_drewN | apply Kd.R_drew)); exact HO235.out) (Kd.R_base ho0) hb); have n1_ := Aside0.mk (Kd.R_lower (Kd.R_new' ho0 (Kd.R_lt (by (with_reducible repeat (first | apply Kd.R_alloc | apply Kd.R_drewN | apply Kd.R_drew)); exact HO235.out))) (below_size (by repeat (first | (with_reducible first | exact HB.out | apply below_alloc | apply pw_below_drewN | apply below_drew1 | refine below_set ?_ GE231.out) | exact HB.out)))); have n2_ := Aside0.mk (blk_below (g := gb231) (o := .cells #[.int .i64 a0_0, .int .i64 a0_1, .string a0_2] 101 (0, 0)) (by (with_reducible repeat (first | refine blk_drewN ?_ _ | refine blk_drew ?_ | refine blk_alloc ?_ _)); exact BK231.out) hb); have n3_ := Aside0.mk (below_step (by repeat (first | (with_reducible first | exact HB.out | apply below_alloc | apply pw_below_drewN | apply below_drew1 | refine below_set ?_ GE231.out) | exact HB.out)) hb); clear HO235; clear BK231; clear HB; have HO235 := n0_; have HO242 := n1_; have BK231 := n2_; have HB := n3_; clear n0_ n1_ n2_ n3_; (try clear hb); (try clear hb2); (try clear hk); (try clear hi); (try clear ho0)))
    go_ret2
    exact ⟨_, by first | rfl | (simp [errW_none, errW_some] <;> rfl) | (simp [*, errW_none, errW_some] <;> rfl), by (with_reducible repeat (first | apply Kd.R_alloc | apply Kd.R_drewN | apply Kd.R_drew)); exact Kd.R_mono HO242.out (fun _ hk => trivial), by repeat (first | (with_reducible first | exact HB.out | apply below_alloc | apply pw_below_drewN | apply below_drew1 | refine below_set ?_ GE231.out) | exact HB.out)⟩
   ·rw [if_neg c14] at H
    have c14b0 : (a0_0 == 3) = false := beq_eq_false_iff_ne.mpr c14
    have c14b1 : (a0_0 != 3) = true := bne_iff_ne.mpr c14
    by_cases c25 : a0_0 = 4
    ·rw [if_pos c25] at H
     have c25b0 : (a0_0 == 4) = true := beq_iff_eq.mpr c25
     have c25b1 : (a0_0 != 4) = false := bne_eq_false_iff_eq.mpr c25
     clear c25
     replace H := Option.bind_eq_some_iff.mp H
     obtain ⟨⟨t243, t244⟩, A260, H⟩ := H
     replace H : (some (t243, t244)) = some (r1, r2) := H
     have A26 := Aside0.mk A260
     clear A260
     simp only [Option.some.injEq, Prod.mk.injEq] at H
     obtain ⟨rfl, rfl⟩ := H
     go_enter Try.func61, Try.ntmps61
     go_wp2_with (first | ((with_reducible refine gate_dst (N := 1) rfl ?_); refine box_event ?hg (N := 1) ?hd (cs := #[.int .i64 a0_0, .int .i64 a0_1, .string a0_2]) (t := 101) ?hr ?_; (case hd => rfl); (case hg => rfl); (case hr => first | (go_simp; done) | (go_simp; rfl)); intro gb231 hg w27 hbox hb; have n0_ := Aside0.mk (below_step (by repeat (first | (with_reducible first | exact HB.out | apply below_alloc | apply pw_below_drewN | apply below_drew1) | exact HB.out)) hb); have n1_ := Aside0.mk (hbox); have n2_ := Aside0.mk ((by rw [hg]; exact (below_size (by repeat (first | (with_reducible first | exact HB.out | apply below_alloc | apply pw_below_drewN | apply below_drew1) | exact HB.out))) : w.heap.size ≤ gb231)); have n3_ := Aside0.mk ((by rw [hg]; exact (below_size (by repeat (first | (with_reducible first | exact HB.out | apply below_alloc | apply pw_below_drewN | apply below_drew1) | exact HB.out))) : w.heap.size ≤ gb231)); clear HB; have HB := n0_; have BK231 := n1_; have GW231 := n2_; have GE231 := n3_; clear n0_ n1_ n2_ n3_; clear hb hbox hg; have hcz28 := fun i_ => blk_cell BK231.out i_; have hfz28 := fun i_ => blk_frozen BK231.out i_) | ((with_reducible refine gate_callee (f := 79) rfl ?_); refine goesL_ (some 7) rfl rfl Try.func79 (by kernel_rfl) rfl #[.agg #[.int .i64 a0_0, .int .i64 a0_1, .string a0_2]] rfl (by (try simp only [List.map_toArray, List.map_cons, List.map_nil]); first | done | rfl | (simp only [List.length_drop, List.length_take]; rfl)) ?_; (with_reducible refine (value_Check.calls a0_0 a0_1 a0_2 t232 _ A2.out).mono ?_); rintro e w29 ⟨rfl, hb⟩; refine ⟨_, rfl, ?_⟩; have n0_ := Aside0.mk (blk_below (g := gb231) (o := .cells #[.int .i64 a0_0, .int .i64 a0_1, .string a0_2] 101 (0, 0)) (by (with_reducible repeat (first | refine blk_drewN ?_ _ | refine blk_drew ?_ | refine blk_alloc ?_ _)); exact BK231.out) hb); have n1_ := Aside0.mk (below_step (by repeat (first | (with_reducible first | exact HB.out | apply below_alloc | apply pw_below_drewN | apply below_drew1 | refine below_set ?_ GE231.out) | exact HB.out)) hb); clear BK231; clear HB; have BK231 := n0_; have HB := n1_; clear n0_ n1_; (try clear hb); (try clear hb2); (try clear hk); (try clear hi); have hcz30 := fun i_ => blk_cell BK231.out i_; have hfz30 := fun i_ => blk_frozen BK231.out i_) | ((with_reducible refine gate_dst (N := 14) rfl ?_); refine Kd.R_lit (Kd.int .u8) _ 5 ?hg (N := 14) ?hd (xs := ([(a0_0) % 256] : List Int)) (inner := [.int .u8 ((a0_0) % 256)]) (ok := fun _ => True) (okp := fun _ => True) ?hr ?hp (fun _ hk => hk) trivial (Below.refl _ _) (Nat.le_refl _) (by simp) ?_; (case hd => rfl); (case hg => rfl); (case hr => first | (go_simp; done) | (go_simp; rfl)); (case hp => exact (Reps.one (show Kd.M (Kd.int .u8) _ _ _ ((a0_0) % 256) [.int .u8 ((a0_0) % 256)] from rfl) (Reps.none _ _))); intro v234 w31 ho32 hb hg_ hnew_; clear hg_ hnew_; (first | rw [← Ny233.out] at ho32 | (simp only [Int.reduceToNat] at ho32; rw [← Ny233.out] at ho32)); have n0_ := Aside0.mk (Kd.R_lower ho32 (below_size (by repeat (first | (with_reducible first | exact HB.out | apply below_alloc | apply pw_below_drewN | apply below_drew1 | refine below_set ?_ GE231.out) | exact HB.out)))); have n1_ := Aside0.mk (blk_below (g := gb231) (o := .cells #[.int .i64 a0_0, .int .i64 a0_1, .string a0_2] 101 (0, 0)) (by (with_reducible repeat (first | refine blk_drewN ?_ _ | refine blk_drew ?_ | refine blk_alloc ?_ _)); exact BK231.out) hb); have n2_ := Aside0.mk (below_step (by repeat (first | (with_reducible first | exact HB.out | apply below_alloc | apply pw_below_drewN | apply below_drew1 | refine below_set ?_ GE231.out) | exact HB.out)) hb); clear BK231; clear HB; have HO235 := n0_; have BK231 := n1_; have HB := n2_; clear n0_ n1_ n2_; clear hb ho32; have hcz33 := fun i_ => blk_cell BK231.out i_; have hfz33 := fun i_ => blk_frozen BK231.out i_; obtain ⟨Ao34, co34, eo34⟩ := Kd.R_slice HO235.out; subst eo34) | ((with_reducible refine gate_callee (f := 59) rfl ?_); refine goesL_ (some 38) rfl rfl Try.func59 (by kernel_rfl) rfl #[.slice Ao34 y233.length co34, .string a0_2] rfl (by (try simp only [List.map_toArray, List.map_cons, List.map_nil]); first | done | rfl | (simp only [List.length_drop, List.length_take]; rfl)) ?_; (with_reducible refine (wire_PutText.calls _ _ y233 a0_2 t243 t244 _ ?side1 ?side2 A26.out).mono ?_); (case side1 => repeat (first | exact (Kd.R_reads' HO235.out).2.2 | (with_reducible refine Kd.C_alloc ?_ _) | (with_reducible refine Kd.C_drewN ?_ _) | (with_reducible refine Kd.C_drew ?_))); (case side2 => exact (Kd.R_reads' HO235.out).2.1); rintro e w35 ⟨v245, rfl, ho0, hb⟩; refine ⟨_, rfl, ?_⟩; have n0_ := Aside0.mk (Kd.R_elder' (by (with_reducible repeat (first | apply Kd.R_alloc | apply Kd.R_drewN | apply Kd.R_drew)); exact HO235.out) (Kd.R_base ho0) hb); have n1_ := Aside0.mk (Kd.R_lower (Kd.R_new' ho0 (Kd.R_lt (by (with_reducible repeat (first | apply Kd.R_alloc | apply Kd.R_drewN | apply Kd.R_drew)); exact HO235.out))) (below_size (by repeat (first | (with_reducible first | exact HB.out | apply below_alloc | apply pw_below_drewN | apply below_drew1 | refine below_set ?_ GE231.out) | exact HB.out)))); have n2_ := Aside0.mk (blk_below (g := gb231) (o := .cells #[.int .i64 a0_0, .int .i64 a0_1, .string a0_2] 101 (0, 0)) (by (with_reducible repeat (first | refine blk_drewN ?_ _ | refine blk_drew ?_ | refine blk_alloc ?_ _)); exact BK231.out) hb); have n3_ := Aside0.mk (below_step (by repeat (first | (with_reducible first | exact HB.out | apply below_alloc | apply pw_below_drewN | apply below_drew1 | refine below_set ?_ GE231.out) | exact HB.out)) hb); clear HO235; clear BK231; clear HB; have HO235 := n0_; have HO246 := n1_; have BK231 := n2_; have HB := n3_; clear n0_ n1_ n2_ n3_; (try clear hb); (try clear hb2); (try clear hk); (try clear hi); (try clear ho0)))
     go_ret2
     exact ⟨_, by first | rfl | (simp [errW_none, errW_some] <;> rfl) | (simp [*, errW_none, errW_some] <;> rfl), by (with_reducible repeat (first | apply Kd.R_alloc | apply Kd.R_drewN | apply Kd.R_drew)); exact Kd.R_mono HO246.out (fun _ hk => trivial), by repeat (first | (with_reducible first | exact HB.out | apply below_alloc | apply pw_below_drewN | apply below_drew1 | refine below_set ?_ GE231.out) | exact HB.out)⟩
    ·rw [if_neg c25] at H
     have c25b0 : (a0_0 == 4) = false := beq_eq_false_iff_ne.mpr c25
     have c25b1 : (a0_0 != 4) = true := bne_iff_ne.mpr c25
     simp only [Option.some.injEq, Prod.mk.injEq] at H
     obtain ⟨rfl, rfl⟩ := H
     go_enter Try.func61, Try.ntmps61
     go_wp2_with (first | ((with_reducible refine gate_dst (N := 1) rfl ?_); refine box_event ?hg (N := 1) ?hd (cs := #[.int .i64 a0_0, .int .i64 a0_1, .string a0_2]) (t := 101) ?hr ?_; (case hd => rfl); (case hg => rfl); (case hr => first | (go_simp; done) | (go_simp; rfl)); intro gb231 hg w36 hbox hb; have n0_ := Aside0.mk (below_step (by repeat (first | (with_reducible first | exact HB.out | apply below_alloc | apply pw_below_drewN | apply below_drew1) | exact HB.out)) hb); have n1_ := Aside0.mk (hbox); have n2_ := Aside0.mk ((by rw [hg]; exact (below_size (by repeat (first | (with_reducible first | exact HB.out | apply below_alloc | apply pw_below_drewN | apply below_drew1) | exact HB.out))) : w.heap.size ≤ gb231)); have n3_ := Aside0.mk ((by rw [hg]; exact (below_size (by repeat (first | (with_reducible first | exact HB.out | apply below_alloc | apply pw_below_drewN | apply below_drew1) | exact HB.out))) : w.heap.size ≤ gb231)); clear HB; have HB := n0_; have BK231 := n1_; have GW231 := n2_; have GE231 := n3_; clear n0_ n1_ n2_ n3_; clear hb hbox hg; have hcz37 := fun i_ => blk_cell BK231.out i_; have hfz37 := fun i_ => blk_frozen BK231.out i_) | ((with_reducible refine gate_callee (f := 79) rfl ?_); refine goesL_ (some 7) rfl rfl Try.func79 (by kernel_rfl) rfl #[.agg #[.int .i64 a0_0, .int .i64 a0_1, .string a0_2]] rfl (by (try simp only [List.map_toArray, List.map_cons, List.map_nil]); first | done | rfl | (simp only [List.length_drop, List.length_take]; rfl)) ?_; (with_reducible refine (value_Check.calls a0_0 a0_1 a0_2 t232 _ A2.out).mono ?_); rintro e w38 ⟨rfl, hb⟩; refine ⟨_, rfl, ?_⟩; have n0_ := Aside0.mk (blk_below (g := gb231) (o := .cells #[.int .i64 a0_0, .int .i64 a0_1, .string a0_2] 101 (0, 0)) (by (with_reducible repeat (first | refine blk_drewN ?_ _ | refine blk_drew ?_ | refine blk_alloc ?_ _)); exact BK231.out) hb); have n1_ := Aside0.mk (below_step (by repeat (first | (with_reducible first | exact HB.out | apply below_alloc | apply pw_below_drewN | apply below_drew1 | refine below_set ?_ GE231.out) | exact HB.out)) hb); clear BK231; clear HB; have BK231 := n0_; have HB := n1_; clear n0_ n1_; (try clear hb); (try clear hb2); (try clear hk); (try clear hi); have hcz39 := fun i_ => blk_cell BK231.out i_; have hfz39 := fun i_ => blk_frozen BK231.out i_) | ((with_reducible refine gate_dst (N := 14) rfl ?_); refine Kd.R_lit (Kd.int .u8) _ 5 ?hg (N := 14) ?hd (xs := ([(a0_0) % 256] : List Int)) (inner := [.int .u8 ((a0_0) % 256)]) (ok := fun _ => True) (okp := fun _ => True) ?hr ?hp (fun _ hk => hk) trivial (Below.refl _ _) (Nat.le_refl _) (by simp) ?_; (case hd => rfl); (case hg => rfl); (case hr => first | (go_simp; done) | (go_simp; rfl)); (case hp => exact (Reps.one (show Kd.M (Kd.int .u8) _ _ _ ((a0_0) % 256) [.int .u8 ((a0_0) % 256)] from rfl) (Reps.none _ _))); intro v234 w40 ho41 hb hg_ hnew_; clear hg_ hnew_; (first | rw [← Ny233.out] at ho41 | (simp only [Int.reduceToNat] at ho41; rw [← Ny233.out] at ho41)); have n0_ := Aside0.mk (Kd.R_lower ho41 (below_size (by repeat (first | (with_reducible first | exact HB.out | apply below_alloc | apply pw_below_drewN | apply below_drew1 | refine below_set ?_ GE231.out) | exact HB.out)))); have n1_ := Aside0.mk (blk_below (g := gb231) (o := .cells #[.int .i64 a0_0, .int .i64 a0_1, .string a0_2] 101 (0, 0)) (by (with_reducible repeat (first | refine blk_drewN ?_ _ | refine blk_drew ?_ | refine blk_alloc ?_ _)); exact BK231.out) hb); have n2_ := Aside0.mk (below_step (by repeat (first | (with_reducible first | exact HB.out | apply below_alloc | apply pw_below_drewN | apply below_drew1 | refine below_set ?_ GE231.out) | exact HB.out)) hb); clear BK231; clear HB; have HO235 := n0_; have BK231 := n1_; have HB := n2_; clear n0_ n1_ n2_; clear hb ho41; have hcz42 := fun i_ => blk_cell BK231.out i_; have hfz42 := fun i_ => blk_frozen BK231.out i_))
     go_ret2
     exact ⟨_, by first | rfl | (simp [errW_none, errW_some] <;> rfl) | (simp [*, errW_none, errW_some] <;> rfl), by (with_reducible repeat (first | apply Kd.R_alloc | apply Kd.R_drewN | apply Kd.R_drew)); exact HO235.out, by repeat (first | (with_reducible first | exact HB.out | apply below_alloc | apply pw_below_drewN | apply below_drew1 | refine below_set ?_ GE231.out) | exact HB.out)⟩
 ·rw [if_neg c3] at H
  have c3b0 : (t232 == 0) = false := beq_eq_false_iff_ne.mpr c3
  have c3b1 : (t232 != 0) = true := bne_iff_ne.mpr c3
  simp only [Option.some.injEq, Prod.mk.injEq] at H
  obtain ⟨rfl, rfl⟩ := H
  go_enter Try.func61, Try.ntmps61
  go_wp2_with (first | ((with_reducible refine gate_dst (N := 1) rfl ?_); refine box_event ?hg (N := 1) ?hd (cs := #[.int .i64 a0_0, .int .i64 a0_1, .string a0_2]) (t := 101) ?hr ?_; (case hd => rfl); (case hg => rfl); (case hr => first | (go_simp; done) | (go_simp; rfl)); intro gb231 hg w43 hbox hb; have n0_ := Aside0.mk (below_step (by repeat (first | (with_reducible first | exact HB.out | apply below_alloc | apply pw_below_drewN | apply below_drew1) | exact HB.out)) hb); have n1_ := Aside0.mk (hbox); have n2_ := Aside0.mk ((by rw [hg]; exact (below_size (by repeat (first | (with_reducible first | exact HB.out | apply below_alloc | apply pw_below_drewN | apply below_drew1) | exact HB.out))) : w.heap.size ≤ gb231)); have n3_ := Aside0.mk ((by rw [hg]; exact (below_size (by repeat (first | (with_reducible first | exact HB.out | apply below_alloc | apply pw_below_drewN | apply below_drew1) | exact HB.out))) : w.heap.size ≤ gb231)); clear HB; have HB := n0_; have BK231 := n1_; have GW231 := n2_; have GE231 := n3_; clear n0_ n1_ n2_ n3_; clear hb hbox hg; have hcz44 := fun i_ => blk_cell BK231.out i_; have hfz44 := fun i_ => blk_frozen BK231.out i_) | ((with_reducible refine gate_callee (f := 79) rfl ?_); refine goesL_ (some 7) rfl rfl Try.func79 (by kernel_rfl) rfl #[.agg #[.int .i64 a0_0, .int .i64 a0_1, .string a0_2]] rfl (by (try simp only [List.map_toArray, List.map_cons, List.map_nil]); first | done | rfl | (simp only [List.length_drop, List.length_take]; rfl)) ?_; (with_reducible refine (value_Check.calls a0_0 a0_1 a0_2 t232 _ A2.out).mono ?_); rintro e w45 ⟨rfl, hb⟩; refine ⟨_, rfl, ?_⟩; have n0_ := Aside0.mk (blk_below (g := gb231) (o := .cells #[.int .i64 a0_0, .int .i64 a0_1, .string a0_2] 101 (0, 0)) (by (with_reducible repeat (first | refine blk_drewN ?_ _ | refine blk_drew ?_ | refine blk_alloc ?_ _)); exact BK231.out) hb); have n1_ := Aside0.mk (below_step (by repeat (first | (with_reducible first | exact HB.out | apply below_alloc | apply pw_below_drewN | apply below_drew1 | refine below_set ?_ GE231.out) | exact HB.out)) hb); clear BK231; clear HB; have BK231 := n0_; have HB := n1_; clear n0_ n1_; (try clear hb); (try clear hb2); (try clear hk); (try clear hi)))
  go_ret2
  exact ⟨_, by first | rfl | (simp [errW_none, errW_some] <;> rfl) | (simp [*, errW_none, errW_some] <;> rfl), by first | exact Kd.R_nil _ _ _ _ _ | exact Kd.N_nil _ _ _ _ _ | exact Kd.V_nil _ _ _ _ _ | exact Kd.Q_nil _ _ _ _ _ | exact Kd.S_nil _ _ _ _ _, by repeat (first | (with_reducible first | exact HB.out | apply below_alloc | apply pw_below_drewN | apply below_drew1 | refine below_set ?_ GE231.out) | exact HB.out)⟩

/-! ### row_Bytes: function 47 -/
def row_Bytes.l0 : Nat → List Int → List (S101) → Int → Int → Option (List Int × Int)
 | 0, _, _, _, _ => none
 | k + 1, x5, x19, x20, x21 => if x21 < x20 then (if 0 ≤ x21 then (if x21 < (x19.length : Int) then ((value_Bytes.f k ((rd_T101 x19 x21).f0) ((rd_T101 x19 x21).f1) ((rd_T101 x19 x21).f2)).bind fun bt253 => (if x5.length + bt253.1.length < 140737488355328 then (row_Bytes.l0 k (x5 ++ bt253.1) x19 x20 (wrap64 (x21 + 1))) else (none))) else (none)) else (none)) else (some (x5, 0))
def row_Bytes.f (k : Nat) (l0 : List (S101)) : Option (List Int × Int) := (row_Check.f l0).bind fun t247 => (if t247 = 0 then (row_Bytes.l0 k (([((l0.length : Int)) % 256] : List Int)) l0 (l0.length : Int) 0) else (some (([] : List Int), t247)))
set_option maxHeartbeats 8000000 in
set_option maxRecDepth 100000 in
theorem row_Bytes.calls (k : Nat) (A0 : Option Addr) (c0 : Nat) (l0 : List (S101)) (r1 : List Int) (r2 : Int) (w : World) (hr0 : Kd.C k101 w A0 l0.length l0) (hc0 : l0.length ≤ c0) (h : row_Bytes.f k l0 = some (r1, r2)) :
  Calls Try.prog 47 #[.slice A0 l0.length c0] w fun e w' => ∃ v0_ : Value, e = .returned (.tuple #[v0_, .int .i64 r2]) ∧ Kd.R (Kd.int .u8) 5 w' w.heap.size (fun _ => True) v0_ r1 ∧ Below w.heap.size w w' := by
 have hu101 := Try.underlying101
 have HR0 := Aside0.mk hr0
 have HC0 := Aside0.mk hc0
 clear hr0 hc0
 have HB := Aside0.mk (Below.refl w.heap.size w)
 have H : ((row_Check.f l0).bind fun t247 => (if t247 = 0 then (row_Bytes.l0 k (([((l0.length : Int)) % 256] : List Int)) l0 (l0.length : Int) 0) else (some (([] : List Int), t247)))) = some (r1, r2) := h
 clear h
 replace H := Option.bind_eq_some_iff.mp H
 obtain ⟨t247, A20, H⟩ := H
 replace H : (if t247 = 0 then (row_Bytes.l0 k (([((l0.length : Int)) % 256] : List Int)) l0 (l0.length : Int) 0) else (some (([] : List Int), t247))) = some (r1, r2) := H
 have A2 := Aside0.mk A20
 clear A20
 by_cases c3 : t247 = 0
 ·rw [if_pos c3] at H
  have c3b0 : (t247 == 0) = true := beq_iff_eq.mpr c3
  have c3b1 : (t247 != 0) = false := bne_eq_false_iff_eq.mpr c3
  clear c3
  obtain ⟨y248, hy248⟩ : ∃ y_ : List Int, y_ = (([((l0.length : Int)) % 256] : List Int)) := ⟨_, rfl⟩
  replace H : (row_Bytes.l0 k y248 l0 (l0.length : Int) 0) = some (r1, r2) := by first | (rw [hy248]; with_reducible exact H) | (have H2_ := (Option.bind_some _ _).symm.trans H; rw [hy248]; with_reducible exact H2_) | (have H2_ := (Option.bind_some _ _).symm.trans H; with_reducible exact H2_) | with_reducible exact H | (rw [hy248]; exact H) | exact H
  have Ny248 := Aside0.mk hy248
  clear hy248
  have H' := Aside0.mk H
  clear H
  go_enter Try.func47, Try.ntmps47
  go_wp2_with (first | ((with_reducible refine gate_callee (f := 60) rfl ?_); refine goesL_ (some 11) rfl rfl Try.func60 (by kernel_rfl) rfl #[.slice A0 l0.length c0] rfl (by (try simp only [List.map_toArray, List.map_cons, List.map_nil]); first | done | rfl | (simp only [List.length_drop, List.length_take]; rfl)) ?_; (with_reducible refine (row_Check.calls _ _ l0 t247 _ ?side1 ?side2 A2.out).mono ?_); (case side1 => repeat (first | exact HR0.out | (with_reducible refine Kd.C_alloc ?_ _) | (with_reducible refine Kd.C_drewN ?_ _) | (with_reducible refine Kd.C_drew ?_))); (case side2 => exact HC0.out); rintro e w4 ⟨rfl, hb⟩; refine ⟨_, rfl, ?_⟩; have n0_ := Aside0.mk (below_step (by repeat (first | (with_reducible first | exact HB.out | apply below_alloc | apply pw_below_drewN | apply below_drew1) | exact HB.out)) hb); clear HB; have HB := n0_; clear n0_; (try clear hb); (try clear hb2); (try clear hk); (try clear hi)) | ((with_reducible refine gate_dst (N := 18) rfl ?_); refine Kd.R_lit (Kd.int .u8) _ 5 ?hg (N := 18) ?hd (xs := ([((l0.length : Int)) % 256] : List Int)) (inner := [.int .u8 (((l0.length : Int)) % 256)]) (ok := fun _ => True) (okp := fun _ => True) ?hr ?hp (fun _ hk => hk) trivial (Below.refl _ _) (Nat.le_refl _) (by simp) ?_; (case hd => rfl); (case hg => rfl); (case hr => first | (go_simp; done) | (go_simp; rfl)); (case hp => exact (Reps.one (show Kd.M (Kd.int .u8) _ _ _ (((l0.length : Int)) % 256) [.int .u8 (((l0.length : Int)) % 256)] from rfl) (Reps.none _ _))); intro v249 w5 ho6 hb hg_ hnew_; clear hg_ hnew_; (first | rw [← Ny248.out] at ho6 | (simp only [Int.reduceToNat] at ho6; rw [← Ny248.out] at ho6)); have n0_ := Aside0.mk (Kd.R_lower ho6 (below_size (by repeat (first | (with_reducible first | exact HB.out | apply below_alloc | apply pw_below_drewN | apply below_drew1) | exact HB.out)))); have n1_ := Aside0.mk (below_step (by repeat (first | (with_reducible first | exact HB.out | apply below_alloc | apply pw_below_drewN | apply below_drew1) | exact HB.out)) hb); clear HB; have HO250 := n0_; have HB := n1_; clear n0_ n1_; clear hb ho6))
  go_loopg [5, 21] k (fun kq v5 v21 w' => ∃ (x5_1 : List Int) (x21_1 : Int), v21 = .int .i64 x21_1 ∧ Aside0 (row_Bytes.l0 kq x5_1 l0 (l0.length : Int) x21_1 = some (r1, r2)) ∧ Aside0 (kq ≤ k) ∧ Aside0 (Kd.R (Kd.int .u8) 5 w' w.heap.size (fun _ => True) v5 x5_1) ∧ Aside0 (Below w.heap.size w w'))
  case atStart => exact ⟨(y248), (0), (by first | rfl | (simp; done) | (simp [*]; done)), H', ⟨Nat.le_refl _⟩, ⟨by (with_reducible repeat (first | apply Kd.R_alloc | apply Kd.R_drewN | apply Kd.R_drew)); exact HO250.out⟩, ⟨by repeat (first | (with_reducible first | exact HB.out | apply below_alloc | apply pw_below_drewN | apply below_drew1) | exact HB.out)⟩⟩
  case round =>
   clear H'
   try clear p2
   try clear c3
   try clear c3b0
   try clear c3b1
   try clear c4
   try clear c6
   obtain ⟨x5_1, x21_1, rfl, HA, HK1, HO_5, HB⟩ := hrel
   cases gk with
   | zero => exact absurd HA.out (by simp [row_Bytes.l0])
   | succ k1 =>
    have H := HA.out
    clear HA
    simp only [row_Bytes.l0] at H
    by_cases c7 : x21_1 < (l0.length : Int)
    ·rw [if_pos c7] at H
     have c7b0 : decide (x21_1 < (l0.length : Int)) = true := decide_eq_true c7
     clear c7
     by_cases c8 : 0 ≤ x21_1
     ·rw [if_pos c8] at H
      have c8b0 : decide (0 ≤ x21_1) = true := decide_eq_true c8
      clear c8
      by_cases c9 : x21_1 < (l0.length : Int)
      ·rw [if_pos c9] at H
       have c9b0 : decide (x21_1 < (l0.length : Int)) = true := decide_eq_true c9
       clear c9
       replace H := Option.bind_eq_some_iff.mp H
       obtain ⟨⟨t253, t256⟩, A100, H⟩ := H
       replace H : (if x5_1.length + t253.length < 140737488355328 then (row_Bytes.l0 k1 (x5_1 ++ t253) l0 (l0.length : Int) (wrap64 (x21_1 + 1))) else (none)) = some (r1, r2) := H
       have A10 := Aside0.mk A100
       clear A100
       by_cases c11 : x5_1.length + t253.length < 140737488355328
       ·rw [if_pos c11] at H
        have LMc11 := Aside0.mk c11
        clear c11
        obtain ⟨y257, hy257⟩ : ∃ y_ : List Int, y_ = (x5_1 ++ t253) := ⟨_, rfl⟩
        replace H : (row_Bytes.l0 k1 y257 l0 (l0.length : Int) (wrap64 (x21_1 + 1))) = some (r1, r2) := by first | (rw [hy257]; with_reducible exact H) | (have H2_ := (Option.bind_some _ _).symm.trans H; rw [hy257]; with_reducible exact H2_) | (have H2_ := (Option.bind_some _ _).symm.trans H; with_reducible exact H2_) | with_reducible exact H | (rw [hy257]; exact H) | exact H
        have Ny257 := Aside0.mk hy257
        clear hy257
        have H' := Aside0.mk H
        clear H
        have p251 : 0 ≤ (x21_1 : Int) := of_decide_eq_true (by first | (with_reducible assumption) | assumption)
        have q251 : x21_1 < (l0.length : Int) := of_decide_eq_true (by first | (with_reducible assumption) | assumption)
        obtain ⟨ad251, e251, hx251_0, hx251_1, hx251_2⟩ := at_T101 HR0.out x21_1 p251 q251
        cases e251
        replace hx251_0 := (HB.out.cell (World.block_lt_of_cell? w _ hx251_0)).trans hx251_0
        replace hx251_1 := (HB.out.cell (World.block_lt_of_cell? w _ hx251_1)).trans hx251_1
        replace hx251_2 := (HB.out.cell (World.block_lt_of_cell? w _ hx251_2)).trans hx251_2
        replace p251 := eq_true p251
        replace q251 := eq_true q251
        go_wp2_with (first | ((with_reducible refine gate_dst (N := 7) rfl ?_); refine box_event ?hg (N := 7) ?hd (cs := #[.int .i64 0, .int .i64 0, .string (⟨#[]⟩ : ByteArray)]) (t := 101) ?hr ?_; (case hd => rfl); (case hg => rfl); (case hr => first | (go_simp; done) | (go_simp; rfl)); intro gb252 hg w12 hbox hb; have n0_ := Aside0.mk (Kd.R_below (by (with_reducible repeat (first | apply Kd.R_alloc | apply Kd.R_drewN | apply Kd.R_drew)); exact HO_5.out) hb); have n1_ := Aside0.mk (below_step (by repeat (first | (with_reducible first | exact HB.out | apply below_alloc | apply pw_below_drewN | apply below_drew1) | exact HB.out)) hb); have n2_ := Aside0.mk (hbox); have n3_ := Aside0.mk ((by rw [hg]; exact (below_size (by repeat (first | (with_reducible first | exact HB.out | apply below_alloc | apply pw_below_drewN | apply below_drew1) | exact HB.out))) : w.heap.size ≤ gb252)); have n4_ := Aside0.mk ((by rw [hg]; exact (below_size (by repeat (first | (with_reducible first | exact HB.out | apply below_alloc | apply pw_below_drewN | apply below_drew1) | exact HB.out))) : w.heap.size ≤ gb252)); clear HO_5; clear HB; have HO_5 := n0_; have HB := n1_; have BK252 := n2_; have GW252 := n3_; have GE252 := n4_; clear n0_ n1_ n2_ n3_ n4_; clear hb hbox hg; have hcz13 := fun i_ => blk_cell BK252.out i_; have hfz13 := fun i_ => blk_frozen BK252.out i_) | ((with_reducible refine gate_callee (f := 61) rfl ?_); refine goesL_ (some 27) rfl rfl Try.func61 (by kernel_rfl) rfl #[.agg #[.int .i64 ((rd_T101 l0 x21_1).f0), .int .i64 ((rd_T101 l0 x21_1).f1), .string ((rd_T101 l0 x21_1).f2)]] rfl (by (try simp only [List.map_toArray, List.map_cons, List.map_nil]); first | done | rfl | (simp only [List.length_drop, List.length_take]; rfl)) ?_; (with_reducible refine (value_Bytes.calls k1 ((rd_T101 l0 x21_1).f0) ((rd_T101 l0 x21_1).f1) ((rd_T101 l0 x21_1).f2) t253 t256 _ A10.out).mono ?_); rintro e w14 ⟨v254, rfl, ho0, hb⟩; refine ⟨_, rfl, ?_⟩; have n0_ := Aside0.mk (Kd.R_elder' (by (with_reducible repeat (first | apply Kd.R_alloc | apply Kd.R_drewN | apply Kd.R_drew)); exact (Kd.R_mono (Kd.R_far (p := ⟨gb252, 2, none⟩) (Kd.R_far (p := ⟨gb252, 1, none⟩) (Kd.R_far (p := ⟨gb252, 0, none⟩) (Kd.R_types HO_5.out BK252.out (by decide)) (fun _ hk => hk.2) (.int .i64 ((rd_T101 l0 x21_1).f0))) (fun _ hk => hk.2) (.int .i64 ((rd_T101 l0 x21_1).f1))) (fun _ hk => hk.2) (.string ((rd_T101 l0 x21_1).f2))) (fun _ h_ => h_.1))) (Kd.R_base ho0) hb); have n1_ := Aside0.mk (Kd.R_lower (Kd.R_new' ho0 (Kd.R_lt (by (with_reducible repeat (first | apply Kd.R_alloc | apply Kd.R_drewN | apply Kd.R_drew)); exact (Kd.R_mono (Kd.R_far (p := ⟨gb252, 2, none⟩) (Kd.R_far (p := ⟨gb252, 1, none⟩) (Kd.R_far (p := ⟨gb252, 0, none⟩) (Kd.R_types HO_5.out BK252.out (by decide)) (fun _ hk => hk.2) (.int .i64 ((rd_T101 l0 x21_1).f0))) (fun _ hk => hk.2) (.int .i64 ((rd_T101 l0 x21_1).f1))) (fun _ hk => hk.2) (.string ((rd_T101 l0 x21_1).f2))) (fun _ h_ => h_.1))))) (below_size (by repeat (first | (with_reducible first | exact HB.out | apply below_alloc | apply pw_below_drewN | apply below_drew1 | refine below_set ?_ GE252.out) | exact HB.out)))); have n2_ := Aside0.mk (blk_below (g := gb252) (o := .cells #[.int .i64 ((rd_T101 l0 x21_1).f0), .int .i64 ((rd_T101 l0 x21_1).f1), .string ((rd_T101 l0 x21_1).f2)] 101 (0, 0)) (by (with_reducible repeat (first | refine blk_drewN ?_ _ | refine blk_drew ?_ | refine blk_alloc ?_ _)); refine blk_put (cs := #[.int .i64 ((rd_T101 l0 x21_1).f0), .int .i64 ((rd_T101 l0 x21_1).f1), .string (⟨#[]⟩ : ByteArray)]) ?_ 2 _ rfl; (with_reducible repeat (first | refine blk_drewN ?_ _ | refine blk_drew ?_ | refine blk_alloc ?_ _)); refine blk_put (cs := #[.int .i64 ((rd_T101 l0 x21_1).f0), .int .i64 0, .string (⟨#[]⟩ : ByteArray)]) ?_ 1 _ rfl; (with_reducible repeat (first | refine blk_drewN ?_ _ | refine blk_drew ?_ | refine blk_alloc ?_ _)); refine blk_put (cs := #[.int .i64 0, .int .i64 0, .string (⟨#[]⟩ : ByteArray)]) ?_ 0 _ rfl; (with_reducible repeat (first | refine blk_drewN ?_ _ | refine blk_drew ?_ | refine blk_alloc ?_ _)); exact BK252.out) hb); have n3_ := Aside0.mk (below_step (by repeat (first | (with_reducible first | exact HB.out | apply below_alloc | apply pw_below_drewN | apply below_drew1 | refine below_set ?_ GE252.out) | exact HB.out)) hb); clear HO_5; clear BK252; clear HB; have HO_5 := n0_; have HO255 := n1_; have BK252 := n2_; have HB := n3_; clear n0_ n1_ n2_ n3_; (try clear hb); (try clear hb2); (try clear hk); (try clear hi); (try clear ho0); obtain ⟨Ao16, co16, eo16⟩ := Kd.R_slice HO255.out; subst eo16) | ((with_reducible refine gate_builtin (b := .append) (xs := #[.tmp 30, .tmp 31]) rfl ?_); at_builtin; refine Kd.R_append_rows (Kd.int .u8) (w0 := w) w.heap.size rfl (.tmp 30) (.tmp 31) 22 5 (.int .u8 0) 1 rfl Try.underlying22 info5 rfl (by decide) (by omega) u5 x5_1 t253 _ _ _ (fun k_ => some k_ ≠ (.slice Ao16 t253.length co16 : Value).ownBlock) (fun _ => False) rfl rfl ?aO ?aR (fun _ _ h => h) (fun _ h => h.elim) ?aF ?aB ?aS ?aL ?_; (case aR => repeat (first | exact (Kd.R_reads' HO255.out).2.2 | (with_reducible refine Kd.C_alloc ?_ _) | (with_reducible refine Kd.C_drewN ?_ _) | (with_reducible refine Kd.C_drew ?_))); (case aB => exact (by repeat (first | (with_reducible first | exact HB.out | apply below_alloc | apply pw_below_drewN | apply below_drew1 | refine below_set ?_ GE252.out) | exact HB.out))); (case aF => exact (fun k_ hk => Kd.fresh' (Kd.R_lt (by (with_reducible repeat (first | apply Kd.R_alloc | apply Kd.R_drewN | apply Kd.R_drew)); exact HO255.out)) k_ hk)); (case aO => exact (by (with_reducible repeat (first | apply Kd.R_alloc | apply Kd.R_drewN | apply Kd.R_drew)); exact Kd.R_mono HO_5.out (fun _ hk => hk.2))); (case aS => exact (below_size (by repeat (first | (with_reducible first | exact HB.out | apply below_alloc | apply pw_below_drewN | apply below_drew1 | refine below_set ?_ GE252.out) | exact HB.out)))); (case aL => have := LMc11.out; omega); intro v258 w15 ho hb hg hat; rw [← Ny257.out] at ho; have n0_ := Aside0.mk (blk_grown (g := gb252) (o := .cells #[.int .i64 ((rd_T101 l0 x21_1).f0), .int .i64 ((rd_T101 l0 x21_1).f1), .string ((rd_T101 l0 x21_1).f2)] 101 (0, 0)) (by (with_reducible repeat (first | refine blk_drewN ?_ _ | refine blk_drew ?_ | refine blk_alloc ?_ _)); exact BK252.out) hg (Kd.R_ne HO_5.out BK252.out (by decide))); have n1_ := Aside0.mk (Kd.R_after (ok := (fun _ => True)) (by (with_reducible repeat (first | apply Kd.R_alloc | apply Kd.R_drewN | apply Kd.R_drew)); exact HO255.out) hg hat); have n2_ := Aside0.mk (hb); have n3_ := Aside0.mk (ho); clear BK252; clear HO255; clear HB; clear HO_5; have BK252 := n0_; have HO255 := n1_; have HB := n2_; have HO259 := n3_; clear n0_ n1_ n2_ n3_; clear ho hb hg hat))
        go_roundg k1
        case measure => have := HK1.out; omega
        case rel => exact ⟨(y257), (wrap64 (x21_1 + 1)), (by first | rfl | (simp; done) | (simp [*]; done)), H', ⟨by have := HK1.out; omega⟩, ⟨by (with_reducible repeat (first | apply Kd.R_alloc | apply Kd.R_drewN | apply Kd.R_drew)); exact Kd.R_mono HO259.out (fun _ hk => trivial)⟩, ⟨by repeat (first | (with_reducible first | exact HB.out | apply below_alloc | apply pw_below_drewN | apply below_drew1 | refine below_set ?_ GE252.out) | exact HB.out)⟩⟩
       ·rw [if_neg c11] at H
        exact absurd H (by simp)
      ·rw [if_neg c9] at H
       exact absurd H (by simp)
     ·rw [if_neg c8] at H
      exact absurd H (by simp)
    ·rw [if_neg c7] at H
     have c7b0 : decide (x21_1 < (l0.length : Int)) = false := decide_eq_false c7
     clear c7
     simp only [Option.some.injEq, Prod.mk.injEq] at H
     obtain ⟨rfl, rfl⟩ := H
     go_wp2
     go_ret2
     exact ⟨_, by first | rfl | (simp [errW_none, errW_some] <;> rfl) | (simp [*, errW_none, errW_some] <;> rfl), by (with_reducible repeat (first | apply Kd.R_alloc | apply Kd.R_drewN | apply Kd.R_drew)); exact HO_5.out, by repeat (first | (with_reducible first | exact HB.out | apply below_alloc | apply pw_below_drewN | apply below_drew1) | exact HB.out)⟩
 ·rw [if_neg c3] at H
  have c3b0 : (t247 == 0) = false := beq_eq_false_iff_ne.mpr c3
  have c3b1 : (t247 != 0) = true := bne_iff_ne.mpr c3
  simp only [Option.some.injEq, Prod.mk.injEq] at H
  obtain ⟨rfl, rfl⟩ := H
  go_enter Try.func47, Try.ntmps47
  go_wp2_with (first | ((with_reducible refine gate_callee (f := 60) rfl ?_); refine goesL_ (some 11) rfl rfl Try.func60 (by kernel_rfl) rfl #[.slice A0 l0.length c0] rfl (by (try simp only [List.map_toArray, List.map_cons, List.map_nil]); first | done | rfl | (simp only [List.length_drop, List.length_take]; rfl)) ?_; (with_reducible refine (row_Check.calls _ _ l0 t247 _ ?side1 ?side2 A2.out).mono ?_); (case side1 => repeat (first | exact HR0.out | (with_reducible refine Kd.C_alloc ?_ _) | (with_reducible refine Kd.C_drewN ?_ _) | (with_reducible refine Kd.C_drew ?_))); (case side2 => exact HC0.out); rintro e w17 ⟨rfl, hb⟩; refine ⟨_, rfl, ?_⟩; have n0_ := Aside0.mk (below_step (by repeat (first | (with_reducible first | exact HB.out | apply below_alloc | apply pw_below_drewN | apply below_drew1) | exact HB.out)) hb); clear HB; have HB := n0_; clear n0_; (try clear hb); (try clear hb2); (try clear hk); (try clear hi)))
  go_ret2
  exact ⟨_, by first | rfl | (simp [errW_none, errW_some] <;> rfl) | (simp [*, errW_none, errW_some] <;> rfl), by first | exact Kd.R_nil _ _ _ _ _ | exact Kd.N_nil _ _ _ _ _ | exact Kd.V_nil _ _ _ _ _ | exact Kd.Q_nil _ _ _ _ _ | exact Kd.S_nil _ _ _ _ _, by repeat (first | (with_reducible first | exact HB.out | apply below_alloc | apply pw_below_drewN | apply below_drew1) | exact HB.out)⟩


end Go.Proofs.Ytnbjflcfdncocaa.M

/- Plain facts: what value.Check, value.Bytes and row.Bytes tell. -/
namespace Go.Proofs.Ytnbjflcfdncocaa.M
open Go.RowKit Go.Proofs.YtnbjflcfdncocaaW.PrintWords Go.Proofs.YtnbjflcfdncocaaW.PrintLast Go.Proofs.YtnbjflcfdncocaaW.PrintMore

abbrev Val := S101
/-- A right value. -/
def goodV (v : Val) : Prop := (v.f0 = 1 ∧ v.f1 = 0 ∧ v.f2.toList = []) ∨ (v.f0 = 2 ∧ (v.f1 = 0 ∨ v.f1 = 1) ∧ v.f2.toList = []) ∨ (v.f0 = 3 ∧ -1152921504606846976 ≤ v.f1 ∧ v.f1 ≤ 1152921504606846976 ∧ v.f2.toList = []) ∨ (v.f0 = 4 ∧ v.f1 = 0 ∧ (v.f2.size : Int) ≤ 24)
instance (v : Val) : Decidable (goodV v) := by unfold goodV; infer_instance
theorem Check_eq (v : Val) : value_Check.f v.f0 v.f1 v.f2 = some (if goodV v then 0 else 1) := by
  obtain ⟨a, b, s⟩ := v
  unfold value_Check.f value_within.f goodV
  have hw : wrap64 (-1152921504606846976) = -1152921504606846976 := wrap_in _ (by omega) (by omega)
  simp only [hw]
  by_cases h1 : a = 1
  · subst h1
    by_cases h2 : b = 0 <;> by_cases h3 : s.toList = [] <;> simp [h2, h3]
  · by_cases h2 : a = 2
    · subst h2
      by_cases h4 : b = 0
      · subst h4
        by_cases h3 : s.toList = [] <;> simp [h3]
      · by_cases h5 : b = 1
        · subst h5
          by_cases h3 : s.toList = [] <;> simp [h3]
        · simp [h4, h5]
    · by_cases h3 : a = 3
      · subst h3
        by_cases h4 : b ≥ -1152921504606846976
        · by_cases h5 : b ≤ 1152921504606846976
          · by_cases h6 : s.toList = [] <;> simp [h4, h5, h6]
          · simp [h4, h5]
        · have : ¬ (-1152921504606846976 ≤ b) := h4
          simp [this]
      · by_cases h4 : a = 4
        · subst h4
          by_cases h5 : b = 0 <;> by_cases h6 : (s.size : Int) ≤ 24 <;> simp [h5, h6]
        · simp [h1, h2, h3, h4]
def intL (n : Int) : List Int := if n < 0 then 1 :: be 8 (-n) else 0 :: be 8 n
/-- A right value's bytes. -/
def valL (v : Val) : List Int := v.f0 % 256 :: (if v.f0 = 2 then [v.f1 % 256] else if v.f0 = 3 then intL v.f1 else if v.f0 = 4 then (v.f2.size : Int) % 256 :: bytesOf v.f2 else [])
theorem intL_length (n : Int) : (intL n).length = 9 := by
  unfold intL; split <;> simp [be_length]
theorem valL_length (v : Val) (h : goodV v) : (valL v).length ≤ 26 := by
  unfold valL
  rw [List.length_cons]
  split
  · simp
  · split
    · rw [intL_length]; omega
    · split
      · rename_i h4
        rcases h with h | h | h | h
        · omega
        · omega
        · omega
        · simp only [List.length_cons, bytesOf_length]; omega
      · simp
theorem PutInt_eq (l : List Int) (n : Int) (h0 : -1152921504606846976 ≤ n) (h1 : n ≤ 1152921504606846976) (hl : l.length < 1000000) (k : Nat) (hk : 12 < k) : wire_PutInt.f k l n = some (l ++ intL n, 0) := by
  obtain ⟨k, rfl⟩ : ∃ m, k = m + 1 := ⟨k - 1, by omega⟩
  unfold wire_PutInt.f intL
  rw [if_neg (by omega), show decide (n > 1152921504606846976) = false from decide_eq_false (by omega), wire_PutInt.j0, if_neg (by decide)]
  unfold slices_Clone_byte_byte.f
  have e8 : (8 : Int) = ((8 : Nat) : Int) := rfl
  by_cases hn : n < 0
  · rw [if_pos hn, if_pos hn, if_pos (by omega), Option.bind_some, if_pos (by omega), wrap_in _ (by omega) (by omega), e8, big_eq _ _ 8 (by omega) k (by omega) (by simp; omega), Option.bind_some, List.append_assoc]
    rfl
  · rw [if_neg hn, if_neg hn, if_pos (by omega), Option.bind_some, if_pos (by omega), e8, big_eq _ _ 8 (by omega) k (by omega) (by simp; omega), Option.bind_some, List.append_assoc]
    rfl
theorem valBytes_eq (v : Val) (h : goodV v) (k : Nat) (hk : 12 < k) : value_Bytes.f k v.f0 v.f1 v.f2 = some (valL v, 0) := by
  unfold value_Bytes.f valL
  rw [Check_eq, if_pos h, Option.bind_some, if_pos rfl, Option.bind_some]
  by_cases h2 : v.f0 = 2
  · rw [if_pos h2, if_pos h2, if_pos (by simp)]; rfl
  · rw [if_neg h2, if_neg h2]
    by_cases h3 : v.f0 = 3
    · rw [if_pos h3, if_pos h3]
      have hb : -1152921504606846976 ≤ v.f1 ∧ v.f1 ≤ 1152921504606846976 := by
        rcases h with h | h | h | h
        · omega
        · omega
        · exact ⟨h.2.1, h.2.2.1⟩
        · omega
      rw [PutInt_eq _ _ hb.1 hb.2 (by simp) k hk, Option.bind_some]; rfl
    · rw [if_neg h3, if_neg h3]
      by_cases h4 : v.f0 = 4
      · rw [if_pos h4, if_pos h4]
        have hb : (v.f2.size : Int) ≤ 24 := by
          rcases h with h | h | h | h
          · omega
          · omega
          · omega
          · exact h.2.2
        unfold wire_PutText.f slices_Clone_byte_byte.f
        rw [if_neg (by omega), if_pos (by simp), Option.bind_some, if_pos (by simp), Option.bind_some, if_pos (by simp; omega), Option.bind_some]
        simp
      · rw [if_neg h4, if_neg h4]
/-- A row's bytes. -/
def valsL (l : List Val) : List Int := l.flatMap valL
def rowL (l : List Val) : List Int := (l.length : Int) % 256 :: valsL l
theorem valsL_length : ∀ (l : List Val), (∀ v ∈ l, goodV v) → (valsL l).length ≤ 26 * l.length
  | [], _ => by simp [valsL]
  | v :: l, h => by
    have h1 := valL_length v (h v (by simp))
    have h2 := valsL_length l (fun u hu => h u (by simp [hu]))
    simp only [valsL, List.flatMap_cons, List.length_append, List.length_cons] at h2 ⊢; omega
theorem contains_wrong_p (v : Val) : contains_wrong.p v = decide (¬ goodV v) := by
  unfold contains_wrong.p row_wrong.f
  rw [Check_eq, Option.bind_some]
  by_cases h : goodV v <;> simp [h]
theorem any_wrong (l : List Val) : l.any contains_wrong.p = decide (¬ ∀ v ∈ l, goodV v) := by
  rw [Bool.eq_iff_iff, decide_eq_true_eq, List.any_eq_true]
  constructor
  · rintro ⟨v, hv, hp⟩ h
    rw [contains_wrong_p, decide_eq_true_eq] at hp
    exact hp (h v hv)
  · intro h
    apply Classical.byContradiction
    intro hne
    exact h (fun v hv => Classical.byContradiction fun hg => hne ⟨v, hv, by rw [contains_wrong_p]; exact decide_eq_true hg⟩)
/-- What row.Bytes tells. -/
def rowB (l : List Val) : List Int × Int := if l.length > 12 then ([], 2) else if ∀ v ∈ l, goodV v then (rowL l, 0) else ([], 1)
theorem rowB_length (l : List Val) : (rowB l).1.length ≤ 320 := by
  unfold rowB
  split
  · simp
  · split
    · rename_i h1 h2
      have := valsL_length l h2
      simp only [rowL, List.length_cons]; omega
    · simp
theorem rowB_l0 (l : List Val) (hg : ∀ v ∈ l, goodV v) (hl : l.length ≤ 12) : ∀ (d i k : Nat) (acc : List Int), i + d = l.length → d + 15 < k → acc.length + 26 * d < 1000000 →
    row_Bytes.l0 k acc l (l.length : Int) (i : Int) = some (acc ++ valsL (l.drop i), 0) := by
  intro d
  induction d with
  | zero =>
    intro i k acc h1 h2 h3
    obtain ⟨k, rfl⟩ : ∃ m, k = m + 1 := ⟨k - 1, by omega⟩
    simp only [row_Bytes.l0]
    rw [if_neg (by omega), List.drop_of_length_le (by omega)]
    simp [valsL]
  | succ d ih =>
    intro i k acc h1 h2 h3
    obtain ⟨k, rfl⟩ : ∃ m, k = m + 1 := ⟨k - 1, by omega⟩
    have hi : i < l.length := by omega
    have hr : rd_T101 l (i : Int) = l[i] := by simp [rd_T101, hi]
    have hgi := hg l[i] (List.getElem_mem hi)
    have hvl := valL_length _ hgi
    simp only [row_Bytes.l0]
    rw [if_pos (by omega), if_pos (by omega), if_pos (by omega), hr, valBytes_eq _ hgi k (by omega), Option.bind_some, if_pos (by simp only; omega), wrap_in _ (by omega) (by omega), show (i : Int) + 1 = ((i + 1 : Nat) : Int) from by omega, ih (i + 1) k _ (by omega) (by omega) (by simp; omega), List.drop_eq_getElem_cons hi]
    simp only [valsL, List.flatMap_cons, List.append_assoc]
theorem rowBytes_eq (l : List Val) (k : Nat) (hk : 40 < k) : row_Bytes.f k l = some (rowB l) := by
  unfold row_Bytes.f row_Check.f rowB contains_wrong.f
  by_cases h : l.length > 12
  · rw [if_pos (show (l.length : Int) > 12 by omega), if_pos h, Option.bind_some, if_neg (by decide)]
  · rw [if_neg (show ¬ (l.length : Int) > 12 by omega), if_neg h, Option.bind_some, any_wrong]
    by_cases hg : ∀ v ∈ l, goodV v
    · rw [if_pos hg, decide_eq_false (fun h => h hg), if_neg (by decide), Option.bind_some, if_pos rfl]
      have := rowB_l0 l hg (by omega) l.length 0 k [(l.length : Int) % 256] (by omega) (by omega) (by simp; omega)
      rw [show ((0 : Nat) : Int) = 0 from rfl] at this
      rw [this]
      rfl
    · rw [if_neg hg, decide_eq_true hg, if_pos rfl, Option.bind_some, if_neg (by decide)]
end Go.Proofs.Ytnbjflcfdncocaa.M

/- The writer's contract for an operation (op.Writer.Op), walked by hand. -/
namespace Go.Proofs.Ytnbjflcfdncocaa.M
open Go.RowKit Go.Proofs.YtnbjflcfdncocaaW.PrintWords Go.Proofs.YtnbjflcfdncocaaW.PrintLast Go.Proofs.YtnbjflcfdncocaaW.PrintMore

abbrev Opr := S55
abbrev Dt := S49
def wdots (l : List Dt) (st : List Int × Bool) : List Int × Bool := l.foldl (fun s d => wdot d.f0 d.f1 s) st
theorem wdots_len : ∀ (l : List Dt) (st : List Int × Bool), (wdots l st).1.length ≤ st.1.length + 5 * l.length
  | [], st => by simp [wdots]
  | d :: l, st => by
    have h1 := wdots_len l (wdot d.f0 d.f1 st)
    have h2 := wdot_len d.f0 d.f1 st
    simp only [wdots, List.foldl_cons, List.length_cons] at h1 ⊢; omega
theorem wdots_take (l : List Dt) (k : Nat) (h : k < l.length) (st : List Int × Bool) : wdots (l.take (k + 1)) st = wdot (l.getD k z49).f0 (l.getD k z49).f1 (wdots (l.take k) st) := by
  unfold wdots
  rw [List.take_succ_eq_append_getElem h, List.foldl_append]
  simp [List.getD_eq_getElem?_getD, h]
def wrow (l : List Val) (st : List Int × Bool) : List Int × Bool := wadd (rowB l) st
theorem wrow_len (l : List Val) (st : List Int × Bool) : (wrow l st).1.length ≤ st.1.length + 320 := by
  have := rowB_length l
  simp only [wrow, wadd, List.length_append]; omega
/-- The first part of an operation's bytes; the whole. -/
def wop1 (x : Opr) (st : List Int × Bool) : List Int × Bool := wrow x.f7 (wnum 1 x.f6 (wtext x.f5 (wnum 1 x.f4 (wstamp x.f2.f0 x.f2.f1 x.f2.f2 (wnums x.f1 (wdot x.f0.f0 x.f0.f1 (wnum 1 x.f3 st)))))))
def wop2 (x : Opr) (st : List Int × Bool) : List Int × Bool := wnum 1 (x.f8.length : Int) (wbad (decide ((x.f8.length : Int) > 64)) (wop1 x st))
def wop (x : Opr) (st : List Int × Bool) : List Int × Bool := wdots x.f8 (wop2 x st)
theorem wop1_len (x : Opr) (st : List Int × Bool) : (wop1 x st).1.length ≤ st.1.length + 364 + 4 * x.f1.length := by
  have h1 := wrow_len x.f7 (wnum 1 x.f6 (wtext x.f5 (wnum 1 x.f4 (wstamp x.f2.f0 x.f2.f1 x.f2.f2 (wnums x.f1 (wdot x.f0.f0 x.f0.f1 (wnum 1 x.f3 st)))))))
  have h2 := wnum_len 1 x.f6 (wtext x.f5 (wnum 1 x.f4 (wstamp x.f2.f0 x.f2.f1 x.f2.f2 (wnums x.f1 (wdot x.f0.f0 x.f0.f1 (wnum 1 x.f3 st))))))
  have h3 := wtext_len x.f5 (wnum 1 x.f4 (wstamp x.f2.f0 x.f2.f1 x.f2.f2 (wnums x.f1 (wdot x.f0.f0 x.f0.f1 (wnum 1 x.f3 st)))))
  have h4 := wnum_len 1 x.f4 (wstamp x.f2.f0 x.f2.f1 x.f2.f2 (wnums x.f1 (wdot x.f0.f0 x.f0.f1 (wnum 1 x.f3 st))))
  have h5 := wstamp_len x.f2.f0 x.f2.f1 x.f2.f2 (wnums x.f1 (wdot x.f0.f0 x.f0.f1 (wnum 1 x.f3 st)))
  have h6 := wnums_len x.f1 (wdot x.f0.f0 x.f0.f1 (wnum 1 x.f3 st))
  have h7 := wdot_len x.f0.f0 x.f0.f1 (wnum 1 x.f3 st)
  have h8 := wnum_len 1 x.f3 st
  unfold wop1; omega
theorem wop2_len (x : Opr) (st : List Int × Bool) : (wop2 x st).1.length ≤ st.1.length + 365 + 4 * x.f1.length := by
  have h1 := wnum_len 1 (x.f8.length : Int) (wbad (decide ((x.f8.length : Int) > 64)) (wop1 x st))
  have h2 := wop1_len x st
  have h3 : (wbad (decide ((x.f8.length : Int) > 64)) (wop1 x st)).1 = (wop1 x st).1 := rfl
  rw [h3] at h1
  unfold wop2; omega
theorem wop_len (x : Opr) (st : List Int × Bool) : (wop x st).1.length ≤ st.1.length + 365 + 4 * x.f1.length + 5 * x.f8.length := by
  have h1 := wdots_len x.f8 (wop2 x st)
  have h2 := wop2_len x st
  unfold wop; omega
set_option maxHeartbeats 4000000 in
set_option maxRecDepth 100000 in
theorem W_op (w0 w : World) (g : Nat) (st : List Int × Bool) (h : IsW w0 w g st.1 st.2) (x : Opr) (A2 : Option Addr) (c2 : Nat) (A10 : Option Addr) (c10 : Nat) (A11 : Option Addr) (c11 : Nat)
    (h1 : Kd.C (Kd.int .i64) w0 A2 x.f1.length x.f1) (h2 : Kd.C k101 w0 A10 x.f7.length x.f7) (hc2 : x.f7.length ≤ c10) (h3 : Kd.C k49 w0 A11 x.f8.length x.f8) (hl : st.1.length < 400000000) (hn : x.f1.length < 10000000) (hm : x.f8.length < 10000000) :
    Calls Try.prog 34 #[.pointer (some ⟨g, 0, none⟩), .agg #[.int .i64 x.f0.f0, .int .i64 x.f0.f1, .slice A2 x.f1.length c2, .int .i64 x.f2.f0, .int .i64 x.f2.f1, .int .i64 x.f2.f2, .int .i64 x.f3, .int .i64 x.f4, .string x.f5, .int .i64 x.f6, .slice A10 x.f7.length c10, .slice A11 x.f8.length c11]] w fun en w' => en = .returned (.tuple #[]) ∧ IsW w0 w' g (wop x st).1 (wop x st).2 ∧ KeepW w w' := by
  have H := Aside0.mk (h.alloc (.cells #[.int .i64 x.f0.f0, .int .i64 x.f0.f1, .slice A2 x.f1.length c2, .int .i64 x.f2.f0, .int .i64 x.f2.f1, .int .i64 x.f2.f2, .int .i64 x.f3, .int .i64 x.f4, .string x.f5, .int .i64 x.f6, .slice A10 x.f7.length c10, .slice A11 x.f8.length c11] 55))
  have HL := Aside0.mk hl
  have HN := Aside0.mk hn
  have HM := Aside0.mk hm
  have R1 := Aside0.mk h1
  have R2 := Aside0.mk h2
  have R3 := Aside0.mk h3
  have RC2 := Aside0.mk hc2
  have L1 := Aside0.mk (wnum_len 1 x.f3 st)
  have L2 := Aside0.mk (wdot_len x.f0.f0 x.f0.f1 (wnum 1 x.f3 st))
  have L3 := Aside0.mk (wnums_len x.f1 (wdot x.f0.f0 x.f0.f1 (wnum 1 x.f3 st)))
  have L4 := Aside0.mk (wstamp_len x.f2.f0 x.f2.f1 x.f2.f2 (wnums x.f1 (wdot x.f0.f0 x.f0.f1 (wnum 1 x.f3 st))))
  have L5 := Aside0.mk (wnum_len 1 x.f4 (wstamp x.f2.f0 x.f2.f1 x.f2.f2 (wnums x.f1 (wdot x.f0.f0 x.f0.f1 (wnum 1 x.f3 st)))))
  have L6 := Aside0.mk (wtext_len x.f5 (wnum 1 x.f4 (wstamp x.f2.f0 x.f2.f1 x.f2.f2 (wnums x.f1 (wdot x.f0.f0 x.f0.f1 (wnum 1 x.f3 st))))))
  have L7 := Aside0.mk (wnum_len 1 x.f6 (wtext x.f5 (wnum 1 x.f4 (wstamp x.f2.f0 x.f2.f1 x.f2.f2 (wnums x.f1 (wdot x.f0.f0 x.f0.f1 (wnum 1 x.f3 st)))))))
  have K0 := Aside0.mk (KeepW.below (below_alloc (Below.refl _ w) (.cells #[.int .i64 x.f0.f0, .int .i64 x.f0.f1, .slice A2 x.f1.length c2, .int .i64 x.f2.f0, .int .i64 x.f2.f1, .int .i64 x.f2.f2, .int .i64 x.f3, .int .i64 x.f4, .string x.f5, .int .i64 x.f6, .slice A10 x.f7.length c10, .slice A11 x.f8.length c11] 55)))
  have HD := Aside0.mk (heap_alloc_new w (.cells #[.int .i64 x.f0.f0, .int .i64 x.f0.f1, .slice A2 x.f1.length c2, .int .i64 x.f2.f0, .int .i64 x.f2.f1, .int .i64 x.f2.f2, .int .i64 x.f3, .int .i64 x.f4, .string x.f5, .int .i64 x.f6, .slice A10 x.f7.length c10, .slice A11 x.f8.length c11] 55))
  clear h hl hn hm h1 h2 h3 hc2
  go_enter Try.func34, Try.ntmps34
  go_wp2_with fail
  refine (W_num w0 _ g st H.out x.f3 1 1 rfl (by omega) (by omega) (by have := HL.out; have := HN.out; omega)).mono ?_
  rintro e w1 ⟨rfl, hi, hk⟩
  have H1 := Aside0.mk hi
  have K1 := Aside0.mk (K0.out.trans hk)
  have D1 := Aside0.mk (hk _ _ _ _ HD.out (by decide) (by decide))
  have hc1 := fun i => blk_cell D1.out i
  have hf1 := fun i => blk_frozen D1.out i
  clear hi hk
  go_wp2_with fail
  refine (W_dot w0 _ g (wnum 1 x.f3 st) H1.out x.f0.f0 x.f0.f1 (by have := HL.out; have := HN.out; have := L1.out; omega)).mono ?_
  rintro e w2 ⟨rfl, hi, hk⟩
  have H2 := Aside0.mk hi
  have K2 := Aside0.mk (K1.out.trans hk)
  have D2 := Aside0.mk (hk _ _ _ _ D1.out (by decide) (by decide))
  have hc2 := fun i => blk_cell D2.out i
  have hf2 := fun i => blk_frozen D2.out i
  clear hi hk
  go_wp2_with fail
  refine (W_nums w0 _ g (wdot x.f0.f0 x.f0.f1 (wnum 1 x.f3 st)) H2.out A2 c2 x.f1 R1.out (by have := HL.out; have := HN.out; have := L1.out; have := L2.out; omega) HN.out).mono ?_
  rintro e w3 ⟨rfl, hi, hk⟩
  have H3 := Aside0.mk hi
  have K3 := Aside0.mk (K2.out.trans hk)
  have D3 := Aside0.mk (hk _ _ _ _ D2.out (by decide) (by decide))
  have hc3 := fun i => blk_cell D3.out i
  have hf3 := fun i => blk_frozen D3.out i
  clear hi hk
  go_wp2_with fail
  refine (W_stamp w0 _ g (wnums x.f1 (wdot x.f0.f0 x.f0.f1 (wnum 1 x.f3 st))) H3.out x.f2.f0 x.f2.f1 x.f2.f2 (by have := HL.out; have := HN.out; have := L1.out; have := L2.out; have := L3.out; omega)).mono ?_
  rintro e w4 ⟨rfl, hi, hk⟩
  have H4 := Aside0.mk hi
  have K4 := Aside0.mk (K3.out.trans hk)
  have D4 := Aside0.mk (hk _ _ _ _ D3.out (by decide) (by decide))
  have hc4 := fun i => blk_cell D4.out i
  have hf4 := fun i => blk_frozen D4.out i
  clear hi hk
  go_wp2_with fail
  refine (W_num w0 _ g (wstamp x.f2.f0 x.f2.f1 x.f2.f2 (wnums x.f1 (wdot x.f0.f0 x.f0.f1 (wnum 1 x.f3 st)))) H4.out x.f4 1 1 rfl (by omega) (by omega) (by have := HL.out; have := HN.out; have := L1.out; have := L2.out; have := L3.out; have := L4.out; omega)).mono ?_
  rintro e w5 ⟨rfl, hi, hk⟩
  have H5 := Aside0.mk hi
  have K5 := Aside0.mk (K4.out.trans hk)
  have D5 := Aside0.mk (hk _ _ _ _ D4.out (by decide) (by decide))
  have hc5 := fun i => blk_cell D5.out i
  have hf5 := fun i => blk_frozen D5.out i
  clear hi hk
  go_wp2_with fail
  refine (W_text w0 _ g (wnum 1 x.f4 (wstamp x.f2.f0 x.f2.f1 x.f2.f2 (wnums x.f1 (wdot x.f0.f0 x.f0.f1 (wnum 1 x.f3 st))))) H5.out x.f5 (by have := HL.out; have := HN.out; have := L1.out; have := L2.out; have := L3.out; have := L4.out; have := L5.out; omega)).mono ?_
  rintro e w6 ⟨rfl, hi, hk⟩
  have H6 := Aside0.mk hi
  have K6 := Aside0.mk (K5.out.trans hk)
  have D6 := Aside0.mk (hk _ _ _ _ D5.out (by decide) (by decide))
  have hc6 := fun i => blk_cell D6.out i
  have hf6 := fun i => blk_frozen D6.out i
  clear hi hk
  go_wp2_with fail
  refine (W_num w0 _ g (wtext x.f5 (wnum 1 x.f4 (wstamp x.f2.f0 x.f2.f1 x.f2.f2 (wnums x.f1 (wdot x.f0.f0 x.f0.f1 (wnum 1 x.f3 st)))))) H6.out x.f6 1 1 rfl (by omega) (by omega) (by have := HL.out; have := HN.out; have := L1.out; have := L2.out; have := L3.out; have := L4.out; have := L5.out; have := L6.out; omega)).mono ?_
  rintro e w7 ⟨rfl, hi, hk⟩
  have H7 := Aside0.mk hi
  have K7 := Aside0.mk (K6.out.trans hk)
  have D7 := Aside0.mk (hk _ _ _ _ D6.out (by decide) (by decide))
  have hc7 := fun i => blk_cell D7.out i
  have hf7 := fun i => blk_frozen D7.out i
  clear hi hk
  go_wp2_with fail
  refine (row_Bytes.calls 100 A10 c10 x.f7 (rowB x.f7).1 (rowB x.f7).2 _ (Kd.C_below R2.out H7.out.1) RC2.out (rowBytes_eq x.f7 100 (by omega))).mono ?_
  rintro e w8 ⟨v8, rfl, ho, hb⟩
  obtain ⟨A8, c8, rfl⟩ := Kd.R_slice ho
  have C8 := Aside0.mk (Kd.R_reads' ho).2.2
  have H8 := Aside0.mk (H7.out.below hb)
  have K8 := Aside0.mk (K7.out.trans (KeepW.below hb))
  have D8 := Aside0.mk (KeepW.below hb _ _ _ _ D7.out (by decide) (by decide))
  clear ho hb
  go_wp2_with fail
  refine (W_add w0 _ g (wnum 1 x.f6 (wtext x.f5 (wnum 1 x.f4 (wstamp x.f2.f0 x.f2.f1 x.f2.f2 (wnums x.f1 (wdot x.f0.f0 x.f0.f1 (wnum 1 x.f3 st))))))).1 (wnum 1 x.f6 (wtext x.f5 (wnum 1 x.f4 (wstamp x.f2.f0 x.f2.f1 x.f2.f2 (wnums x.f1 (wdot x.f0.f0 x.f0.f1 (wnum 1 x.f3 st))))))).2 H8.out A8 c8 (rowB x.f7).1 C8.out (rowB x.f7).2 (by have := HL.out; have := HN.out; have := rowB_length x.f7; have := L1.out; have := L2.out; have := L3.out; have := L4.out; have := L5.out; have := L6.out; have := L7.out; omega)).mono ?_
  rintro e w9 ⟨rfl, hi, hk⟩
  have H9 := Aside0.mk (show IsW w0 w9 g (wop1 x st).1 (wop1 x st).2 from hi)
  have K9 := Aside0.mk (K8.out.trans hk)
  have D9 := Aside0.mk (hk _ _ _ _ D8.out (by decide) (by decide))
  clear hi hk
  have LW := Aside0.mk (wop1_len x st)
  have LV := Aside0.mk (wop2_len x st)
  obtain ⟨ST, hST⟩ : ∃ ST, ST = wop1 x st := ⟨_, rfl⟩
  obtain ⟨SU, hSU⟩ : ∃ SU, SU = wop2 x st := ⟨_, rfl⟩
  have E2 := Aside0.mk (show wnum 1 (x.f8.length : Int) (wbad (decide ((x.f8.length : Int) > 64)) ST) = SU from by rw [hST, hSU]; rfl)
  have E3 := Aside0.mk (show wdots x.f8 SU = wop x st from by rw [hSU]; rfl)
  rw [← hST] at H9 LW
  rw [← hSU] at LV
  clear hST hSU
  obtain ⟨B, bad⟩ := ST
  obtain ⟨h0, hg, v, hv, hR⟩ := H9.out
  have hgc : w9.cell? ⟨g, 1, none⟩ = some (.bool bad) := (blk_cell hv 1).trans rfl
  have hgf := blk_frozen hv 1
  obtain ⟨b1, hb1⟩ : ∃ b1, b1 = (bad || decide ((x.f8.length : Int) > 64)) := ⟨_, rfl⟩
  have HX := Aside0.mk (show IsW w0 (w9.setCell ⟨g, 1, none⟩ (.bool b1)) g B b1 from IsW.mk2 (v := v) (below_set h0 hg) hg (blk_set hv 1 (.bool b1)) (R_set_far hR 1 (.bool b1)))
  have KX0 := KeepW.set hv 1 (.bool b1)
  have DX := Aside0.mk (KX0 _ _ _ _ D9.out (by decide) (by decide))
  have KX := Aside0.mk (K9.out.trans KX0)
  have hc9 := fun i => blk_cell D9.out i
  have hcx := fun i => blk_cell DX.out i
  have EX := Aside0.mk (show wnum 1 (x.f8.length : Int) (B, b1) = SU from by rw [← E2.out, hb1]; rfl)
  clear h0 hg hv hR KX0
  have hb2 : bad = true ∨ (bad = false ∧ x.f8.length > 64) ∨ (bad = false ∧ ¬ x.f8.length > 64) := by cases bad <;> by_cases h : x.f8.length > 64 <;> simp_all
  rcases hb2 with rfl | ⟨rfl, h5⟩ | ⟨rfl, h5⟩
  · obtain rfl : b1 = true := by rw [hb1]; rfl
    clear hb1
    go_wp2_with fail
    refine (W_num w0 _ g (B, true) HX.out (x.f8.length : Int) 1 1 rfl (by omega) (by omega) (by have := LW.out; have := HL.out; have := HN.out; simp only at *; omega)).mono ?_
    rintro e wa ⟨rfl, hi, hk⟩
    rw [EX.out] at hi
    have H1 := Aside0.mk hi
    have K1 := Aside0.mk (KX.out.trans hk)
    have DA := Aside0.mk (hk _ _ _ _ DX.out (by decide) (by decide))
    have hca := fun i => blk_cell DA.out i
    clear hi hk
    go_wp2
    go_loopw [62] (fun v wr => ∃ k : Nat, k ≤ x.f8.length ∧ v = .int .i64 k ∧ Aside0 (IsW w0 wr g (wdots (x.f8.take k) SU).1 (wdots (x.f8.take k) SU).2) ∧ Aside0 (KeepW w wr)) (fun v _ => x.f8.length - (intOf v).toNat)
    case atStart => exact ⟨0, by omega, rfl, H1, K1⟩
    case round =>
      obtain ⟨k, hk, rfl, HI, HK⟩ := hrel
      by_cases hlt : k < x.f8.length
      · obtain ⟨ad, e, hd0, hd1⟩ := at_T49 (Kd.C_below R3.out HI.out.1) (k : Int) (by omega) (by omega)
        subst e
        have hrd : rd_T49 x.f8 (k : Int) = x.f8.getD k z49 := by simp [rd_T49]
        rw [Int.toNat_natCast, hrd] at hd0 hd1
        clear hrd
        have HT := Aside0.mk (wdots_take x.f8 k hlt SU)
        have HZ := Aside0.mk (wdots_len (x.f8.take k) SU)
        have HTk := Aside0.mk (List.length_take_le k x.f8)
        obtain ⟨y, hy⟩ : ∃ y, y = x.f8.getD k z49 := ⟨_, rfl⟩
        rw [← hy] at hd0 hd1 HT
        clear hy
        have hkb : x.f8.length < 10000000 := HM.out
        have HI2 := Aside0.mk (HI.out.alloc (.cells #[.int .i64 y.f0, .int .i64 y.f1] 49))
        have KI2 := Aside0.mk (KeepW.below (below_alloc (Below.refl _ wr) (.cells #[.int .i64 y.f0, .int .i64 y.f1] 49)))
        go_wp2_with fail
        refine (W_dot w0 _ g (wdots (x.f8.take k) SU) HI2.out y.f0 y.f1 (by have := HZ.out; have := HTk.out; have := HM.out; have := LV.out; have := HL.out; have := HN.out; omega)).mono ?_
        rintro e w2 ⟨rfl, hi, hk2⟩
        rw [← HT.out] at hi
        have H2 := Aside0.mk hi
        have K2 := Aside0.mk ((HK.out.trans KI2.out).trans hk2)
        clear hi hk2
        go_wp2
        go_roundw
        case rel => exact ⟨k + 1, by omega, by go_num, H2, K2⟩
        case measure => simp [intOf]; omega
      · obtain rfl : k = x.f8.length := by omega
        have HE := Aside0.mk (show wdots (x.f8.take x.f8.length) SU = wop x st from by rw [List.take_length]; exact E3.out)
        rw [HE.out] at HI
        go_wp2
        go_end0
        exact ⟨rfl, HI.out, HK.out⟩
  · have h6 : ((x.f8.length : Int) > 64) := by omega
    obtain rfl : b1 = true := by rw [hb1, decide_eq_true h6]; rfl
    clear hb1
    go_wp2_with fail
    refine (W_num w0 _ g (B, true) HX.out (x.f8.length : Int) 1 1 rfl (by omega) (by omega) (by have := LW.out; have := HL.out; have := HN.out; simp only at *; omega)).mono ?_
    rintro e wa ⟨rfl, hi, hk⟩
    rw [EX.out] at hi
    have H1 := Aside0.mk hi
    have K1 := Aside0.mk (KX.out.trans hk)
    have DA := Aside0.mk (hk _ _ _ _ DX.out (by decide) (by decide))
    have hca := fun i => blk_cell DA.out i
    clear hi hk
    go_wp2
    go_loopw [62] (fun v wr => ∃ k : Nat, k ≤ x.f8.length ∧ v = .int .i64 k ∧ Aside0 (IsW w0 wr g (wdots (x.f8.take k) SU).1 (wdots (x.f8.take k) SU).2) ∧ Aside0 (KeepW w wr)) (fun v _ => x.f8.length - (intOf v).toNat)
    case atStart => exact ⟨0, by omega, rfl, H1, K1⟩
    case round =>
      obtain ⟨k, hk, rfl, HI, HK⟩ := hrel
      by_cases hlt : k < x.f8.length
      · obtain ⟨ad, e, hd0, hd1⟩ := at_T49 (Kd.C_below R3.out HI.out.1) (k : Int) (by omega) (by omega)
        subst e
        have hrd : rd_T49 x.f8 (k : Int) = x.f8.getD k z49 := by simp [rd_T49]
        rw [Int.toNat_natCast, hrd] at hd0 hd1
        clear hrd
        have HT := Aside0.mk (wdots_take x.f8 k hlt SU)
        have HZ := Aside0.mk (wdots_len (x.f8.take k) SU)
        have HTk := Aside0.mk (List.length_take_le k x.f8)
        obtain ⟨y, hy⟩ : ∃ y, y = x.f8.getD k z49 := ⟨_, rfl⟩
        rw [← hy] at hd0 hd1 HT
        clear hy
        have hkb : x.f8.length < 10000000 := HM.out
        have HI2 := Aside0.mk (HI.out.alloc (.cells #[.int .i64 y.f0, .int .i64 y.f1] 49))
        have KI2 := Aside0.mk (KeepW.below (below_alloc (Below.refl _ wr) (.cells #[.int .i64 y.f0, .int .i64 y.f1] 49)))
        go_wp2_with fail
        refine (W_dot w0 _ g (wdots (x.f8.take k) SU) HI2.out y.f0 y.f1 (by have := HZ.out; have := HTk.out; have := HM.out; have := LV.out; have := HL.out; have := HN.out; omega)).mono ?_
        rintro e w2 ⟨rfl, hi, hk2⟩
        rw [← HT.out] at hi
        have H2 := Aside0.mk hi
        have K2 := Aside0.mk ((HK.out.trans KI2.out).trans hk2)
        clear hi hk2
        go_wp2
        go_roundw
        case rel => exact ⟨k + 1, by omega, by go_num, H2, K2⟩
        case measure => simp [intOf]; omega
      · obtain rfl : k = x.f8.length := by omega
        have HE := Aside0.mk (show wdots (x.f8.take x.f8.length) SU = wop x st from by rw [List.take_length]; exact E3.out)
        rw [HE.out] at HI
        go_wp2
        go_end0
        exact ⟨rfl, HI.out, HK.out⟩
  · have h6 : ¬ ((x.f8.length : Int) > 64) := by omega
    obtain rfl : b1 = false := by rw [hb1, decide_eq_false h6]; rfl
    have h7 := decide_eq_false (show ¬ (64 : Int) < (x.f8.length : Int) by omega)
    have h8 := decide_eq_false (show ¬ 64 < x.f8.length by omega)
    clear hb1
    go_wp2_with fail
    refine (W_num w0 _ g (B, false) HX.out (x.f8.length : Int) 1 1 rfl (by omega) (by omega) (by have := LW.out; have := HL.out; have := HN.out; simp only at *; omega)).mono ?_
    rintro e wa ⟨rfl, hi, hk⟩
    rw [EX.out] at hi
    have H1 := Aside0.mk hi
    have K1 := Aside0.mk (KX.out.trans hk)
    have DA := Aside0.mk (hk _ _ _ _ DX.out (by decide) (by decide))
    have hca := fun i => blk_cell DA.out i
    clear hi hk
    go_wp2
    go_loopw [62] (fun v wr => ∃ k : Nat, k ≤ x.f8.length ∧ v = .int .i64 k ∧ Aside0 (IsW w0 wr g (wdots (x.f8.take k) SU).1 (wdots (x.f8.take k) SU).2) ∧ Aside0 (KeepW w wr)) (fun v _ => x.f8.length - (intOf v).toNat)
    case atStart => exact ⟨0, by omega, rfl, H1, K1⟩
    case round =>
      obtain ⟨k, hk, rfl, HI, HK⟩ := hrel
      by_cases hlt : k < x.f8.length
      · obtain ⟨ad, e, hd0, hd1⟩ := at_T49 (Kd.C_below R3.out HI.out.1) (k : Int) (by omega) (by omega)
        subst e
        have hrd : rd_T49 x.f8 (k : Int) = x.f8.getD k z49 := by simp [rd_T49]
        rw [Int.toNat_natCast, hrd] at hd0 hd1
        clear hrd
        have HT := Aside0.mk (wdots_take x.f8 k hlt SU)
        have HZ := Aside0.mk (wdots_len (x.f8.take k) SU)
        have HTk := Aside0.mk (List.length_take_le k x.f8)
        obtain ⟨y, hy⟩ : ∃ y, y = x.f8.getD k z49 := ⟨_, rfl⟩
        rw [← hy] at hd0 hd1 HT
        clear hy
        have hkb : x.f8.length < 10000000 := HM.out
        have HI2 := Aside0.mk (HI.out.alloc (.cells #[.int .i64 y.f0, .int .i64 y.f1] 49))
        have KI2 := Aside0.mk (KeepW.below (below_alloc (Below.refl _ wr) (.cells #[.int .i64 y.f0, .int .i64 y.f1] 49)))
        go_wp2_with fail
        refine (W_dot w0 _ g (wdots (x.f8.take k) SU) HI2.out y.f0 y.f1 (by have := HZ.out; have := HTk.out; have := HM.out; have := LV.out; have := HL.out; have := HN.out; omega)).mono ?_
        rintro e w2 ⟨rfl, hi, hk2⟩
        rw [← HT.out] at hi
        have H2 := Aside0.mk hi
        have K2 := Aside0.mk ((HK.out.trans KI2.out).trans hk2)
        clear hi hk2
        go_wp2
        go_roundw
        case rel => exact ⟨k + 1, by omega, by go_num, H2, K2⟩
        case measure => simp [intOf]; omega
      · obtain rfl : k = x.f8.length := by omega
        have HE := Aside0.mk (show wdots (x.f8.take x.f8.length) SU = wop x st from by rw [List.take_length]; exact E3.out)
        rw [HE.out] at HI
        go_wp2
        go_end0
        exact ⟨rfl, HI.out, HK.out⟩
end Go.Proofs.Ytnbjflcfdncocaa.M

/- The reader's contracts: Num, Text, Many, Dot, Stamp, walked by hand. -/
namespace Go.Proofs.Ytnbjflcfdncocaa.M
open Go.RowKit Go.Proofs.YtnbjflcfdncocaaW.PrintWords Go.Proofs.YtnbjflcfdncocaaW.PrintLast Go.Proofs.YtnbjflcfdncocaaW.PrintMore

theorem bad_cases (b : Bool) : b = true ∨ b = false := by cases b <;> simp
set_option maxHeartbeats 4000000 in
set_option maxRecDepth 100000 in
theorem R_num (w0 w : World) (g : Nat) (B rest : List Int) (bad : Bool) (h : IsR w0 w g B rest bad) (z : Int) (s : Nat) (hz : z = (s : Int)) (h1 : 1 ≤ s) (h7 : s ≤ 7) :
    Calls Try.prog 38 #[.pointer (some ⟨g, 0, none⟩), .int .i64 z] w fun en w' => en = .returned (.int .i64 (rnum s (rest, bad)).1) ∧ IsR w0 w' g B (rnum s (rest, bad)).2.1 (rnum s (rest, bad)).2.2 ∧ KeepBut w w' g none := by
  subst hz
  obtain ⟨h0, hg, h2, h3, A, c, at_, hv, hC, hc, ha, hd⟩ := h
  have hc0 : w.cell? ⟨g, 0, none⟩ = some (.slice A B.length c) := (blk_cell hv 0).trans rfl
  have hc1 : w.cell? ⟨g, 1, none⟩ = some (.int .i64 (at_ : Int)) := (blk_cell hv 1).trans rfl
  have hc2 : w.cell? ⟨g, 2, none⟩ = some (.bool bad) := (blk_cell hv 2).trans rfl
  have hf1 := blk_frozen hv 1
  have hf2 := blk_frozen hv 2
  have HC := Aside0.mk (Kd.C_below hC h0)
  have HC0 := Aside0.mk hC
  have Hc := Aside0.mk hc
  have HH := Aside0.mk h0
  have Hg := Aside0.mk hg
  have Hb := Aside0.mk h2
  have Hl := Aside0.mk h3
  have Hv := Aside0.mk hv
  have Ha := Aside0.mk ha
  have Hd := Aside0.mk hd
  have H1 := Aside0.mk h1
  have H7 := Aside0.mk h7
  clear h0 hg h2 h3 hv hC hc ha hd h1 h7
  by_cases hs : rest.length < s
  · rcases bad_cases bad with rfl | rfl
    · have HS := Aside0.mk (show rnum s (rest, true) = (0, (rest, true)) from by unfold rnum; rw [if_pos (by simp)])
      go_enter Try.func38, Try.ntmps38
      go_wp2
      go_quiet ((go_at_call 51; refine Calls.quiet_of (v := .tuple #[.int .i64 0, .int .i64 0, .int .i64 3]) ((wire_Get.calls 100 A c B (at_ : Int) (s : Int) 0 0 3 _ (Kd.C_drewN HC.out _) Hc.out (by rw [Get_eq B rest at_ s Hb.out Hl.out Ha.out Hd.out H1.out H7.out 100 (by omega), if_pos hs])).mono ?_); rintro e w1 ⟨rfl, ⟨m, hm⟩⟩; exact ⟨rfl, m, hm⟩))
      have dr : Below w.heap.size w (w.drewN nq) := pw_below_drewN (Below.refl _ w) nq
      have HH1 := Aside0.mk (below_step HH.out dr)
      have Hv1 := Aside0.mk (blk_below Hv.out dr)
      have hk0 := KeepBut.of_below (row := none) dr g
      have HK1 := Aside0.mk hk0
      clear hk0 dr
      go_wp2
      go_ret
      rw [HS.out]
      exact ⟨rfl, IsR.bad (bad := true) ⟨HH1.out, Hg.out, Hb.out, Hl.out, A, c, at_, Hv1.out, HC0.out, Hc.out, Ha.out, Hd.out⟩, HK1.out.set_ 2 (.bool true)⟩
    · have HS := Aside0.mk (show rnum s (rest, false) = (0, (rest, true)) from by unfold rnum; rw [if_pos (.inr hs)])
      go_enter Try.func38, Try.ntmps38
      go_wp2
      go_quiet ((go_at_call 51; refine Calls.quiet_of (v := .tuple #[.int .i64 0, .int .i64 0, .int .i64 3]) ((wire_Get.calls 100 A c B (at_ : Int) (s : Int) 0 0 3 _ (Kd.C_drewN HC.out _) Hc.out (by rw [Get_eq B rest at_ s Hb.out Hl.out Ha.out Hd.out H1.out H7.out 100 (by omega), if_pos hs])).mono ?_); rintro e w1 ⟨rfl, ⟨m, hm⟩⟩; exact ⟨rfl, m, hm⟩))
      have dr : Below w.heap.size w (w.drewN nq) := pw_below_drewN (Below.refl _ w) nq
      have HH1 := Aside0.mk (below_step HH.out dr)
      have Hv1 := Aside0.mk (blk_below Hv.out dr)
      have hk0 := KeepBut.of_below (row := none) dr g
      have HK1 := Aside0.mk hk0
      clear hk0 dr
      go_wp2
      go_ret
      rw [HS.out]
      exact ⟨rfl, IsR.bad (bad := false) ⟨HH1.out, Hg.out, Hb.out, Hl.out, A, c, at_, Hv1.out, HC0.out, Hc.out, Ha.out, Hd.out⟩, HK1.out.set_ 2 (.bool true)⟩
  · rcases bad_cases bad with rfl | rfl
    · have HS := Aside0.mk (show rnum s (rest, true) = (0, (rest, true)) from by unfold rnum; rw [if_pos (by simp)])
      go_enter Try.func38, Try.ntmps38
      go_wp2
      go_quiet ((go_at_call 51; refine Calls.quiet_of (v := .tuple #[.int .i64 (numL (rest.take s)), .int .i64 ((at_ + s : Nat) : Int), .int .i64 0]) ((wire_Get.calls 100 A c B (at_ : Int) (s : Int) (numL (rest.take s)) ((at_ + s : Nat) : Int) 0 _ (Kd.C_drewN HC.out _) Hc.out (by rw [Get_eq B rest at_ s Hb.out Hl.out Ha.out Hd.out H1.out H7.out 100 (by omega), if_neg hs])).mono ?_); rintro e w1 ⟨rfl, ⟨m, hm⟩⟩; exact ⟨rfl, m, hm⟩))
      have dr : Below w.heap.size w (w.drewN nq) := pw_below_drewN (Below.refl _ w) nq
      have HH1 := Aside0.mk (below_step HH.out dr)
      have Hv1 := Aside0.mk (blk_below Hv.out dr)
      have hk0 := KeepBut.of_below (row := none) dr g
      have HK1 := Aside0.mk hk0
      clear hk0 dr
      go_wp2
      go_ret
      rw [HS.out]
      exact ⟨rfl, IsR.bad (bad := true) ⟨HH1.out, Hg.out, Hb.out, Hl.out, A, c, at_, Hv1.out, HC0.out, Hc.out, Ha.out, Hd.out⟩, HK1.out.set_ 2 (.bool true)⟩
    · have HS := Aside0.mk (show rnum s (rest, false) = (numL (rest.take s), (rest.drop s, false)) from by unfold rnum; rw [if_neg (by rintro (h | h); cases h; exact hs h)])
      have HE := Aside0.mk (show at_ + s ≤ B.length ∧ B.drop (at_ + s) = rest.drop s from ⟨by have h5 : rest.length = B.length - at_ := by { rw [← Hd.out]; simp }; have := Ha.out; omega, by rw [← Hd.out, List.drop_drop]⟩)
      go_enter Try.func38, Try.ntmps38
      go_wp2
      go_quiet ((go_at_call 51; refine Calls.quiet_of (v := .tuple #[.int .i64 (numL (rest.take s)), .int .i64 ((at_ + s : Nat) : Int), .int .i64 0]) ((wire_Get.calls 100 A c B (at_ : Int) (s : Int) (numL (rest.take s)) ((at_ + s : Nat) : Int) 0 _ (Kd.C_drewN HC.out _) Hc.out (by rw [Get_eq B rest at_ s Hb.out Hl.out Ha.out Hd.out H1.out H7.out 100 (by omega), if_neg hs])).mono ?_); rintro e w1 ⟨rfl, ⟨m, hm⟩⟩; exact ⟨rfl, m, hm⟩))
      have dr : Below w.heap.size w (w.drewN nq) := pw_below_drewN (Below.refl _ w) nq
      have HH1 := Aside0.mk (below_step HH.out dr)
      have Hv1 := Aside0.mk (blk_below Hv.out dr)
      have hk0 := KeepBut.of_below (row := none) dr g
      have HK1 := Aside0.mk hk0
      clear hk0 dr
      go_wp2
      go_ret
      rw [HS.out]
      exact ⟨rfl, IsR.go (bad := false) HH1.out Hg.out Hb.out Hl.out Hv1.out HC0.out Hc.out HE.out.1 HE.out.2, HK1.out.set_ 1 _⟩
set_option maxHeartbeats 4000000 in
set_option maxRecDepth 100000 in
theorem R_text (w0 w : World) (g : Nat) (B rest : List Int) (bad : Bool) (h : IsR w0 w g B rest bad) :
    Calls Try.prog 55 #[.pointer (some ⟨g, 0, none⟩)] w fun en w' => en = .returned (.string (rtext (rest, bad)).1) ∧ IsR w0 w' g B (rtext (rest, bad)).2.1 (rtext (rest, bad)).2.2 ∧ KeepBut w w' g none := by
  obtain ⟨h0, hg, h2, h3, A, c, at_, hv, hC, hc, ha, hd⟩ := h
  have hc0 : w.cell? ⟨g, 0, none⟩ = some (.slice A B.length c) := (blk_cell hv 0).trans rfl
  have hc1 : w.cell? ⟨g, 1, none⟩ = some (.int .i64 (at_ : Int)) := (blk_cell hv 1).trans rfl
  have hc2 : w.cell? ⟨g, 2, none⟩ = some (.bool bad) := (blk_cell hv 2).trans rfl
  have hf1 := blk_frozen hv 1
  have hf2 := blk_frozen hv 2
  have HC := Aside0.mk (Kd.C_below hC h0)
  have HC0 := Aside0.mk hC
  have Hc := Aside0.mk hc
  have HH := Aside0.mk h0
  have Hg := Aside0.mk hg
  have Hb := Aside0.mk h2
  have Hl := Aside0.mk h3
  have Hv := Aside0.mk hv
  have Ha := Aside0.mk ha
  have Hd := Aside0.mk hd
  clear h0 hg h2 h3 hv hC hc ha hd
  rcases rest with _ | ⟨b, tl⟩
  · rcases bad_cases bad with rfl | rfl
    · have HS := Aside0.mk (show rtext ([], true) = (⟨#[]⟩, ([], true)) from rfl)
      go_enter Try.func55, Try.ntmps55
      go_wp2
      go_quiet ((go_at_call 75; refine Calls.quiet_of (v := .tuple #[.string ⟨#[]⟩, .int .i64 0, .int .i64 3]) ((wire_GetText.calls 100 A c B (at_ : Int) ⟨#[]⟩ 0 3 _ (Kd.C_drewN HC.out _) Hc.out (GetText_eq B [] at_ Hb.out Hl.out Ha.out Hd.out 100 (by omega))).mono ?_); rintro e w1 ⟨rfl, ⟨m, hm⟩⟩; exact ⟨rfl, m, hm⟩))
      have dr : Below w.heap.size w (w.drewN nq) := pw_below_drewN (Below.refl _ w) nq
      have HH1 := Aside0.mk (below_step HH.out dr)
      have Hv1 := Aside0.mk (blk_below Hv.out dr)
      have hk0 := KeepBut.of_below (row := none) dr g
      have HK1 := Aside0.mk hk0
      clear hk0 dr
      go_wp2
      go_ret
      rw [HS.out]
      exact ⟨rfl, IsR.bad (bad := true) ⟨HH1.out, Hg.out, Hb.out, Hl.out, A, c, at_, Hv1.out, HC0.out, Hc.out, Ha.out, Hd.out⟩, HK1.out.set_ 2 (.bool true)⟩
    · have HS := Aside0.mk (show rtext ([], false) = (⟨#[]⟩, ([], true)) from rfl)
      go_enter Try.func55, Try.ntmps55
      go_wp2
      go_quiet ((go_at_call 75; refine Calls.quiet_of (v := .tuple #[.string ⟨#[]⟩, .int .i64 0, .int .i64 3]) ((wire_GetText.calls 100 A c B (at_ : Int) ⟨#[]⟩ 0 3 _ (Kd.C_drewN HC.out _) Hc.out (GetText_eq B [] at_ Hb.out Hl.out Ha.out Hd.out 100 (by omega))).mono ?_); rintro e w1 ⟨rfl, ⟨m, hm⟩⟩; exact ⟨rfl, m, hm⟩))
      have dr : Below w.heap.size w (w.drewN nq) := pw_below_drewN (Below.refl _ w) nq
      have HH1 := Aside0.mk (below_step HH.out dr)
      have Hv1 := Aside0.mk (blk_below Hv.out dr)
      have hk0 := KeepBut.of_below (row := none) dr g
      have HK1 := Aside0.mk hk0
      clear hk0 dr
      go_wp2
      go_ret
      rw [HS.out]
      exact ⟨rfl, IsR.bad (bad := false) ⟨HH1.out, Hg.out, Hb.out, Hl.out, A, c, at_, Hv1.out, HC0.out, Hc.out, Ha.out, Hd.out⟩, HK1.out.set_ 2 (.bool true)⟩
  · by_cases hs : b > 24 ∨ (tl.length : Int) < b
    · rcases bad_cases bad with rfl | rfl
      · have HS := Aside0.mk (show rtext (b :: tl, true) = (⟨#[]⟩, (b :: tl, true)) from by unfold rtext; simp only; rw [if_pos (by simp)])
        go_enter Try.func55, Try.ntmps55
        go_wp2
        go_quiet ((go_at_call 75; refine Calls.quiet_of (v := .tuple #[.string ⟨#[]⟩, .int .i64 0, .int .i64 3]) ((wire_GetText.calls 100 A c B (at_ : Int) ⟨#[]⟩ 0 3 _ (Kd.C_drewN HC.out _) Hc.out (by rw [GetText_eq B (b :: tl) at_ Hb.out Hl.out Ha.out Hd.out 100 (by omega)]; simp only; rw [if_pos hs])).mono ?_); rintro e w1 ⟨rfl, ⟨m, hm⟩⟩; exact ⟨rfl, m, hm⟩))
        have dr : Below w.heap.size w (w.drewN nq) := pw_below_drewN (Below.refl _ w) nq
        have HH1 := Aside0.mk (below_step HH.out dr)
        have Hv1 := Aside0.mk (blk_below Hv.out dr)
        have hk0 := KeepBut.of_below (row := none) dr g
        have HK1 := Aside0.mk hk0
        clear hk0 dr
        go_wp2
        go_ret
        rw [HS.out]
        exact ⟨rfl, IsR.bad (bad := true) ⟨HH1.out, Hg.out, Hb.out, Hl.out, A, c, at_, Hv1.out, HC0.out, Hc.out, Ha.out, Hd.out⟩, HK1.out.set_ 2 (.bool true)⟩
      · have HS := Aside0.mk (show rtext (b :: tl, false) = (⟨#[]⟩, (b :: tl, true)) from by unfold rtext; simp only; rw [if_pos (.inr hs)])
        go_enter Try.func55, Try.ntmps55
        go_wp2
        go_quiet ((go_at_call 75; refine Calls.quiet_of (v := .tuple #[.string ⟨#[]⟩, .int .i64 0, .int .i64 3]) ((wire_GetText.calls 100 A c B (at_ : Int) ⟨#[]⟩ 0 3 _ (Kd.C_drewN HC.out _) Hc.out (by rw [GetText_eq B (b :: tl) at_ Hb.out Hl.out Ha.out Hd.out 100 (by omega)]; simp only; rw [if_pos hs])).mono ?_); rintro e w1 ⟨rfl, ⟨m, hm⟩⟩; exact ⟨rfl, m, hm⟩))
        have dr : Below w.heap.size w (w.drewN nq) := pw_below_drewN (Below.refl _ w) nq
        have HH1 := Aside0.mk (below_step HH.out dr)
        have Hv1 := Aside0.mk (blk_below Hv.out dr)
        have hk0 := KeepBut.of_below (row := none) dr g
        have HK1 := Aside0.mk hk0
        clear hk0 dr
        go_wp2
        go_ret
        rw [HS.out]
        exact ⟨rfl, IsR.bad (bad := false) ⟨HH1.out, Hg.out, Hb.out, Hl.out, A, c, at_, Hv1.out, HC0.out, Hc.out, Ha.out, Hd.out⟩, HK1.out.set_ 2 (.bool true)⟩
    · rcases bad_cases bad with rfl | rfl
      · have HS := Aside0.mk (show rtext (b :: tl, true) = (⟨#[]⟩, (b :: tl, true)) from by unfold rtext; simp only; rw [if_pos (by simp)])
        have hbb : Byte b := Hb.out b (by have : b ∈ B.drop at_ := by { rw [Hd.out]; simp }; exact List.mem_of_mem_drop this)
        unfold Byte at hbb
        have h5 : tl.length + 1 = B.length - at_ := by have := congrArg List.length Hd.out; simp at this; omega
        have h8 : B.drop (at_ + 1) = tl := by rw [← List.drop_drop, Hd.out]; rfl
        obtain ⟨at1, hat1⟩ : ∃ at1 : Nat, (at_ : Int) + 1 + b = (at1 : Int) := ⟨at_ + 1 + b.toNat, by omega⟩
        have HE := Aside0.mk (show at1 ≤ B.length ∧ B.drop at1 = tl.drop b.toNat from ⟨by have := Ha.out; omega, by rw [show at1 = at_ + 1 + b.toNat from by omega, ← List.drop_drop, h8]⟩)
        have HG := Aside0.mk (show wire_GetText.f 100 B (at_ : Int) = some (strOfNums (tl.take b.toNat), (at1 : Int), 0) from by rw [GetText_eq B (b :: tl) at_ Hb.out Hl.out Ha.out Hd.out 100 (by omega)]; simp only; rw [if_neg hs, hat1])
        clear hbb h5 h8 hat1 hs
        go_enter Try.func55, Try.ntmps55
        go_wp2
        go_quiet ((go_at_call 75; refine Calls.quiet_of (v := .tuple #[.string (strOfNums (tl.take b.toNat)), .int .i64 (at1 : Int), .int .i64 0]) ((wire_GetText.calls 100 A c B (at_ : Int) (strOfNums (tl.take b.toNat)) (at1 : Int) 0 _ (Kd.C_drewN HC.out _) Hc.out HG.out).mono ?_); rintro e w1 ⟨rfl, ⟨m, hm⟩⟩; exact ⟨rfl, m, hm⟩))
        have dr : Below w.heap.size w (w.drewN nq) := pw_below_drewN (Below.refl _ w) nq
        have HH1 := Aside0.mk (below_step HH.out dr)
        have Hv1 := Aside0.mk (blk_below Hv.out dr)
        have hk0 := KeepBut.of_below (row := none) dr g
        have HK1 := Aside0.mk hk0
        clear hk0 dr
        go_wp2
        go_ret
        rw [HS.out]
        exact ⟨rfl, IsR.bad (bad := true) ⟨HH1.out, Hg.out, Hb.out, Hl.out, A, c, at_, Hv1.out, HC0.out, Hc.out, Ha.out, Hd.out⟩, HK1.out.set_ 2 (.bool true)⟩
      · have HS := Aside0.mk (show rtext (b :: tl, false) = (strOfNums (tl.take b.toNat), (tl.drop b.toNat, false)) from by unfold rtext; simp only; rw [if_neg (by rintro (h | h); cases h; exact hs h)])
        have hbb : Byte b := Hb.out b (by have : b ∈ B.drop at_ := by { rw [Hd.out]; simp }; exact List.mem_of_mem_drop this)
        unfold Byte at hbb
        have h5 : tl.length + 1 = B.length - at_ := by have := congrArg List.length Hd.out; simp at this; omega
        have h8 : B.drop (at_ + 1) = tl := by rw [← List.drop_drop, Hd.out]; rfl
        obtain ⟨at1, hat1⟩ : ∃ at1 : Nat, (at_ : Int) + 1 + b = (at1 : Int) := ⟨at_ + 1 + b.toNat, by omega⟩
        have HE := Aside0.mk (show at1 ≤ B.length ∧ B.drop at1 = tl.drop b.toNat from ⟨by have := Ha.out; omega, by rw [show at1 = at_ + 1 + b.toNat from by omega, ← List.drop_drop, h8]⟩)
        have HG := Aside0.mk (show wire_GetText.f 100 B (at_ : Int) = some (strOfNums (tl.take b.toNat), (at1 : Int), 0) from by rw [GetText_eq B (b :: tl) at_ Hb.out Hl.out Ha.out Hd.out 100 (by omega)]; simp only; rw [if_neg hs, hat1])
        clear hbb h5 h8 hat1 hs
        go_enter Try.func55, Try.ntmps55
        go_wp2
        go_quiet ((go_at_call 75; refine Calls.quiet_of (v := .tuple #[.string (strOfNums (tl.take b.toNat)), .int .i64 (at1 : Int), .int .i64 0]) ((wire_GetText.calls 100 A c B (at_ : Int) (strOfNums (tl.take b.toNat)) (at1 : Int) 0 _ (Kd.C_drewN HC.out _) Hc.out HG.out).mono ?_); rintro e w1 ⟨rfl, ⟨m, hm⟩⟩; exact ⟨rfl, m, hm⟩))
        have dr : Below w.heap.size w (w.drewN nq) := pw_below_drewN (Below.refl _ w) nq
        have HH1 := Aside0.mk (below_step HH.out dr)
        have Hv1 := Aside0.mk (blk_below Hv.out dr)
        have hk0 := KeepBut.of_below (row := none) dr g
        have HK1 := Aside0.mk hk0
        clear hk0 dr
        go_wp2
        go_ret
        rw [HS.out]
        exact ⟨rfl, IsR.go (bad := false) HH1.out Hg.out Hb.out Hl.out Hv1.out HC0.out Hc.out HE.out.1 HE.out.2, HK1.out.set_ 1 _⟩
def rmany (s : Nat) (m : Int) (st : List Int × Bool) : Int × (List Int × Bool) := if (rnum s st).1 > m then (0, ((rnum s st).2.1, true)) else rnum s st
def rdot (st : List Int × Bool) : Dt × (List Int × Bool) := (⟨(rnum 1 st).1, (rnum 4 (rnum 1 st).2).1⟩, (rnum 4 (rnum 1 st).2).2)
def rstamp (st : List Int × Bool) : S51 × (List Int × Bool) := (⟨(rnum 6 st).1, (rnum 3 (rnum 6 st).2).1, (rnum 1 (rnum 3 (rnum 6 st).2).2).1⟩, (rnum 1 (rnum 3 (rnum 6 st).2).2).2)
theorem keep_then {w w1 w2 : World} {g : Nat} (h : KeepBut w w1 g none) (k : KeepBut w1 w2 g none) : KeepBut w w2 g none := h.trans k (.inl rfl)
set_option maxHeartbeats 4000000 in
set_option maxRecDepth 100000 in
theorem R_many (w0 w : World) (g : Nat) (B rest : List Int) (bad : Bool) (h : IsR w0 w g B rest bad) (z m : Int) (s : Nat) (hz : z = (s : Int)) (h1 : 1 ≤ s) (h7 : s ≤ 7) :
    Calls Try.prog 52 #[.pointer (some ⟨g, 0, none⟩), .int .i64 z, .int .i64 m] w fun en w' => en = .returned (.int .i64 (rmany s m (rest, bad)).1) ∧ IsR w0 w' g B (rmany s m (rest, bad)).2.1 (rmany s m (rest, bad)).2.2 ∧ KeepBut w w' g none := by
  have H := Aside0.mk h
  have Hz := Aside0.mk hz
  have H1 := Aside0.mk h1
  have H7 := Aside0.mk h7
  clear h hz h1 h7
  obtain ⟨q, hq⟩ : ∃ q, q = rnum s (rest, bad) := ⟨_, rfl⟩
  have HQ := Aside0.mk hq
  clear hq
  by_cases hm : q.1 > m
  · have HS := Aside0.mk (show rmany s m (rest, bad) = (0, (q.2.1, true)) from by unfold rmany; rw [← HQ.out, if_pos hm])
    go_enter Try.func52, Try.ntmps52
    go_wp2_with fail
    refine (R_num w0 _ g B rest bad H.out z s Hz.out H1.out H7.out).mono ?_
    rintro e w1 ⟨rfl, hi, hk⟩
    rw [← HQ.out] at hi
    rw [← HQ.out]
    have HI := Aside0.mk hi
    have HK := Aside0.mk hk
    obtain ⟨-, -, -, -, A, c, at_, hv, -⟩ := hi
    have hc2 : w1.cell? ⟨g, 2, none⟩ = some (.bool q.2.2) := (blk_cell hv 2).trans rfl
    have hf2 := blk_frozen hv 2
    clear hk hv
    go_wp2
    go_ret
    rw [HS.out]
    exact ⟨rfl, HI.out.bad, HK.out.set_ 2 (.bool true)⟩
  · have HS := Aside0.mk (show rmany s m (rest, bad) = q from by unfold rmany; rw [← HQ.out, if_neg hm])
    have hm2 := decide_eq_false (show ¬ m < q.1 by omega)
    go_enter Try.func52, Try.ntmps52
    go_wp2_with fail
    refine (R_num w0 _ g B rest bad H.out z s Hz.out H1.out H7.out).mono ?_
    rintro e w1 ⟨rfl, hi, hk⟩
    rw [← HQ.out] at hi
    rw [← HQ.out]
    have HI := Aside0.mk hi
    have HK := Aside0.mk hk
    clear hi hk
    go_wp2
    go_ret
    rw [HS.out]
    exact ⟨rfl, HI.out, HK.out⟩
set_option maxHeartbeats 4000000 in
set_option maxRecDepth 100000 in
theorem R_dot (w0 w : World) (g : Nat) (B rest : List Int) (bad : Bool) (h : IsR w0 w g B rest bad) :
    Calls Try.prog 53 #[.pointer (some ⟨g, 0, none⟩)] w fun en w' => en = .returned (.agg #[.int .i64 (rdot (rest, bad)).1.f0, .int .i64 (rdot (rest, bad)).1.f1]) ∧ IsR w0 w' g B (rdot (rest, bad)).2.1 (rdot (rest, bad)).2.2 ∧ KeepBut w w' g none := by
  have hgl : g < w.heap.size := h.lt
  have hne : w.heap.size ≠ g := by omega
  have H0 := Aside0.mk (h.alloc (.cells #[.int .i64 0, .int .i64 0] 49))
  have K0 := Aside0.mk (keep_alloc (KeepBut.refl w g none) (.cells #[.int .i64 0, .int .i64 0] 49))
  have D0 := Aside0.mk (heap_alloc_new w (.cells #[.int .i64 0, .int .i64 0] 49))
  have HZ := Aside0.mk (below_size h.1)
  have HNE := Aside0.mk hne
  clear h hgl hne
  go_enter Try.func53, Try.ntmps53
  go_wp2_with fail
  refine (R_num w0 _ g B rest bad H0.out 1 1 rfl (by omega) (by omega)).mono ?_
  rintro e w1 ⟨rfl, hi, hk⟩
  have D1 := Aside0.mk (hk.blk D0.out HNE.out (by simp))
  have H1 := Aside0.mk hi
  have K1 := Aside0.mk (keep_then K0.out hk)
  clear hi hk
  go_wp2_with fail
  refine (R_num w0 _ g B (rnum 1 (rest, bad)).2.1 (rnum 1 (rest, bad)).2.2 H1.out 4 4 rfl (by omega) (by omega)).mono ?_
  rintro e w2 ⟨rfl, hi, hk⟩
  have D2 := Aside0.mk (hk.blk D1.out HNE.out (by simp))
  have H2 := Aside0.mk hi
  have K2 := Aside0.mk (keep_then K1.out hk)
  clear hi hk
  have hcx := fun i => blk_cell D2.out i
  have hfx := fun i => blk_frozen D2.out i
  go_wp2
  refine bodyPost_ret (v := .agg #[.int .i64 (rnum 1 (rest, bad)).1, .int .i64 (rnum 4 (rnum 1 (rest, bad)).2).1]) ?_ rfl ⟨rfl, ((((H2.out).far HNE.out HZ.out 0 (.int .i64 (rnum 1 (rest, bad)).1))).far HNE.out HZ.out 1 (.int .i64 (rnum 4 (rnum 1 (rest, bad)).2).1)), (keep_far ((keep_far (K2.out) (p := ⟨w.heap.size, 0, none⟩) (Nat.le_refl _) (.int .i64 (rnum 1 (rest, bad)).1))) (p := ⟨w.heap.size, 1, none⟩) (Nat.le_refl _) (.int .i64 (rnum 4 (rnum 1 (rest, bad)).2).1))⟩
  exact results_cell_row (p := 2) (ty := 49) rfl _ _ w.heap.size 49 #[.int .i64 (rnum 1 (rest, bad)).1, .int .i64 (rnum 4 (rnum 1 (rest, bad)).2).1] (0, 0) _ rfl (blk_set (blk_set D2.out 0 (.int .i64 (rnum 1 (rest, bad)).1)) 1 (.int .i64 (rnum 4 (rnum 1 (rest, bad)).2).1)) Try.underlying49 rfl (by kernel_rfl)
set_option maxHeartbeats 4000000 in
set_option maxRecDepth 100000 in
theorem R_stamp (w0 w : World) (g : Nat) (B rest : List Int) (bad : Bool) (h : IsR w0 w g B rest bad) :
    Calls Try.prog 54 #[.pointer (some ⟨g, 0, none⟩)] w fun en w' => en = .returned (.agg #[.int .i64 (rstamp (rest, bad)).1.f0, .int .i64 (rstamp (rest, bad)).1.f1, .int .i64 (rstamp (rest, bad)).1.f2]) ∧ IsR w0 w' g B (rstamp (rest, bad)).2.1 (rstamp (rest, bad)).2.2 ∧ KeepBut w w' g none := by
  have hgl : g < w.heap.size := h.lt
  have hne : w.heap.size ≠ g := by omega
  have H0 := Aside0.mk (h.alloc (.cells #[.int .i64 0, .int .i64 0, .int .i64 0] 51))
  have K0 := Aside0.mk (keep_alloc (KeepBut.refl w g none) (.cells #[.int .i64 0, .int .i64 0, .int .i64 0] 51))
  have D0 := Aside0.mk (heap_alloc_new w (.cells #[.int .i64 0, .int .i64 0, .int .i64 0] 51))
  have HZ := Aside0.mk (below_size h.1)
  have HNE := Aside0.mk hne
  clear h hgl hne
  go_enter Try.func54, Try.ntmps54
  go_wp2_with fail
  refine (R_num w0 _ g B rest bad H0.out 6 6 rfl (by omega) (by omega)).mono ?_
  rintro e w1 ⟨rfl, hi, hk⟩
  have D1 := Aside0.mk (hk.blk D0.out HNE.out (by simp))
  have H1 := Aside0.mk hi
  have K1 := Aside0.mk (keep_then K0.out hk)
  clear hi hk
  go_wp2_with fail
  refine (R_num w0 _ g B (rnum 6 (rest, bad)).2.1 (rnum 6 (rest, bad)).2.2 H1.out 3 3 rfl (by omega) (by omega)).mono ?_
  rintro e w2 ⟨rfl, hi, hk⟩
  have D2 := Aside0.mk (hk.blk D1.out HNE.out (by simp))
  have H2 := Aside0.mk hi
  have K2 := Aside0.mk (keep_then K1.out hk)
  clear hi hk
  go_wp2_with fail
  refine (R_num w0 _ g B (rnum 3 (rnum 6 (rest, bad)).2).2.1 (rnum 3 (rnum 6 (rest, bad)).2).2.2 H2.out 1 1 rfl (by omega) (by omega)).mono ?_
  rintro e w3 ⟨rfl, hi, hk⟩
  have D3 := Aside0.mk (hk.blk D2.out HNE.out (by simp))
  have H3 := Aside0.mk hi
  have K3 := Aside0.mk (keep_then K2.out hk)
  clear hi hk
  have hcx := fun i => blk_cell D3.out i
  have hfx := fun i => blk_frozen D3.out i
  go_wp2
  refine bodyPost_ret (v := .agg #[.int .i64 (rnum 6 (rest, bad)).1, .int .i64 (rnum 3 (rnum 6 (rest, bad)).2).1, .int .i64 (rnum 1 (rnum 3 (rnum 6 (rest, bad)).2).2).1]) ?_ rfl ⟨rfl, ((((((H3.out).far HNE.out HZ.out 0 (.int .i64 (rnum 6 (rest, bad)).1))).far HNE.out HZ.out 1 (.int .i64 (rnum 3 (rnum 6 (rest, bad)).2).1))).far HNE.out HZ.out 2 (.int .i64 (rnum 1 (rnum 3 (rnum 6 (rest, bad)).2).2).1)), (keep_far ((keep_far ((keep_far (K3.out) (p := ⟨w.heap.size, 0, none⟩) (Nat.le_refl _) (.int .i64 (rnum 6 (rest, bad)).1))) (p := ⟨w.heap.size, 1, none⟩) (Nat.le_refl _) (.int .i64 (rnum 3 (rnum 6 (rest, bad)).2).1))) (p := ⟨w.heap.size, 2, none⟩) (Nat.le_refl _) (.int .i64 (rnum 1 (rnum 3 (rnum 6 (rest, bad)).2).2).1))⟩
  exact results_cell_row (p := 2) (ty := 51) rfl _ _ w.heap.size 51 #[.int .i64 (rnum 6 (rest, bad)).1, .int .i64 (rnum 3 (rnum 6 (rest, bad)).2).1, .int .i64 (rnum 1 (rnum 3 (rnum 6 (rest, bad)).2).2).1] (0, 0) _ rfl (blk_set (blk_set (blk_set D3.out 0 (.int .i64 (rnum 6 (rest, bad)).1)) 1 (.int .i64 (rnum 3 (rnum 6 (rest, bad)).2).1)) 2 (.int .i64 (rnum 1 (rnum 3 (rnum 6 (rest, bad)).2).2).1)) Try.underlying51 rfl (by kernel_rfl)
end Go.Proofs.Ytnbjflcfdncocaa.M

/- The reader's contract for numbers (Nums), walked by hand. -/
namespace Go.Proofs.Ytnbjflcfdncocaa.M
open Go.RowKit Go.Proofs.YtnbjflcfdncocaaW.PrintWords Go.Proofs.YtnbjflcfdncocaaW.PrintLast Go.Proofs.YtnbjflcfdncocaaW.PrintMore

def rints : Nat → List Int × Bool → List Int × (List Int × Bool)
  | 0, st => ([], st)
  | k + 1, st => ((rints k st).1 ++ [(rnum 4 (rints k st).2).1], (rnum 4 (rints k st).2).2)
theorem rints_length (st : List Int × Bool) : ∀ k, (rints k st).1.length = k
  | 0 => rfl
  | k + 1 => by simp [rints, rints_length st k]
def rnums (st : List Int × Bool) : List Int × (List Int × Bool) := rints (rmany 1 5 st).1.toNat (rmany 1 5 st).2
theorem rmany_le (s : Nat) (m : Int) (h0 : 0 ≤ m) (st : List Int × Bool) : (rmany s m st).1 ≤ m := by
  unfold rmany; split
  · exact h0
  · omega
theorem IsR.grown {w0 W W1 : World} {g : Nat} {B rest : List Int} {bad : Bool} {row : Option Nat} (h : IsR w0 W g B rest bad) (hw : W.grownBy W1 row) (hr : row ≠ some g) (hb : ∀ k, row = some k → w0.heap.size ≤ k) : IsR w0 W1 g B rest bad := by
  obtain ⟨h0, hg, h2, h3, A, c, at_, hv, h4⟩ := h
  exact ⟨h0.grown hw (below_size h0) hb, hg, h2, h3, A, c, at_, blk_grown hv hw (fun e => hr e.symm), h4⟩
theorem keep_grown {w W W1 : World} {g : Nat} {row : Option Nat} (h : KeepBut w W g none) (hw : W.grownBy W1 row) (hb : ∀ k, row = some k → w.heap.size ≤ k) : KeepBut w W1 g none := by
  refine h.trans (KeepBut.of_grown hw g) ?_
  cases row with
  | none => exact .inl rfl
  | some b => exact .inr ⟨b, rfl, hb b rfl⟩
set_option maxHeartbeats 4000000 in
set_option maxRecDepth 100000 in
theorem R_nums (w0 w : World) (g : Nat) (B rest : List Int) (bad : Bool) (h : IsR w0 w g B rest bad) :
    Calls Try.prog 39 #[.pointer (some ⟨g, 0, none⟩)] w fun en w' => ∃ v, en = .returned v ∧ Kd.R (Kd.int .i64) 3 w' w.heap.size (fun k => k ≠ g) v (rnums (rest, bad)).1 ∧
      IsR w0 w' g B (rnums (rest, bad)).2.1 (rnums (rest, bad)).2.2 ∧ KeepBut w w' g none := by
  have hgl : g < w.heap.size := h.lt
  have HGL := Aside0.mk hgl
  have H0 := Aside0.mk h
  have HM := Aside0.mk (rmany_le 1 5 (by omega) (rest, bad))
  obtain ⟨q, hq⟩ : ∃ q, q = rmany 1 5 (rest, bad) := ⟨_, rfl⟩
  rw [← hq] at HM
  have HQ := Aside0.mk hq
  have HS := Aside0.mk (show rnums (rest, bad) = rints q.1.toNat q.2 from by rw [hq]; rfl)
  clear h hgl hq
  go_enter Try.func39, Try.ntmps39
  go_wp2_with fail
  refine (R_many w0 _ g B rest bad H0.out 1 5 1 rfl (by omega) (by omega)).mono ?_
  rintro e w1 ⟨rfl, hi, hk⟩
  rw [← HQ.out] at hi
  rw [← HQ.out]
  have H1 := Aside0.mk hi
  have K1 := Aside0.mk hk
  clear hi hk HQ
  go_wp2
  have HB0 := Aside0.mk (below_size H0.out.1)
  go_loopw [3, 6] (fun v3 v6 wr => ∃ k : Nat, k ≤ q.1.toNat ∧ v6 = .int .i64 k ∧ Aside0 (Kd.R (Kd.int .i64) 3 wr w.heap.size (fun k => k ≠ g) v3 (rints k q.2).1) ∧ Aside0 (IsR w0 wr g B (rints k q.2).2.1 (rints k q.2).2.2) ∧ Aside0 (KeepBut w wr g none)) (fun _ v6 _ => q.1.toNat - (intOf v6).toNat)
  case atStart => exact ⟨0, by omega, rfl, ⟨Kd.R_nil _ _ _ _ _⟩, H1, K1⟩
  case round =>
    obtain ⟨k, hk, rfl, HO, HI, HK⟩ := hrel
    have hkm : (k : Int) ≤ 5 := by have := HM.out; omega
    by_cases hlt : (k : Int) < q.1
    · go_wp2_with fail
      refine (R_num w0 _ g B _ _ HI.out 4 4 rfl (by omega) (by omega)).mono ?_
      rintro e w2 ⟨rfl, hi, hk2⟩
      have H2 := Aside0.mk hi
      have K2 := Aside0.mk (keep_then HK.out hk2)
      have O2 := Aside0.mk (Kd.R_keep HO.out hk2 (fun _ h => h))
      clear hi hk2
      obtain ⟨x, hx⟩ : ∃ x, x = (rnum 4 ((rints k q.2).2.1, (rints k q.2).2.2)).1 := ⟨_, rfl⟩
      obtain ⟨L, hL⟩ : ∃ L, L = (rints k q.2).1 := ⟨_, rfl⟩
      have HLn := Aside0.mk (show L.length = k by rw [hL, rints_length])
      have HT := Aside0.mk (show rints (k + 1) q.2 = (L ++ [x], (rnum 4 (rints k q.2).2).2) from by rw [hL, hx]; rfl)
      rw [← hL] at O2
      rw [← hx]
      clear hx hL
      go_wp2_with (first | ((with_reducible refine gate_builtin (b := .append) (xs := #[.tmp 8, .tmp 11]) rfl ?_); at_builtin; refine Kd.R_append (Kd.int .i64) (w0 := w2) w.heap.size rfl (.tmp 8) (.tmp 11) 37 3 (.int .i64 0) 8 rfl Try.underlying37 info3 rfl (by decide) (by omega) u3 L x [.int .i64 x] (fun k => k ≠ g) (fun _ => False) rfl rfl rfl (fun _ hk => hk.elim) (fun k hk e_ => by have := H2.out.lt; omega) O2.out (Below.refl _ _) K2.out.1 (by have := HLn.out; omega) ?_; intro v3 w3 ho hb hgw hat; have O3 := Aside0.mk ho; have H3 := Aside0.mk (H2.out.grown hgw (fun e_ => O2.out.1 g e_ rfl) (fun k hk => by have := Kd.R_base O2.out k hk; have := HB0.out; omega)); have K3 := Aside0.mk (keep_grown K2.out hgw (fun k hk => Kd.R_base O2.out k hk)); clear ho hb hgw hat))
      go_roundw
      case rel => exact ⟨k + 1, by omega, by go_num, by rw [HT.out]; exact O3, by rw [HT.out]; exact H3, K3⟩
      case measure => simp [intOf]; omega
    · obtain rfl : k = q.1.toNat := by omega
      have HE := Aside0.mk (show rnums (rest, bad) = rints q.1.toNat q.2 from HS.out)
      go_wp2
      go_ret
      rw [HE.out]
      exact ⟨_, rfl, HO.out, HI.out, HK.out⟩
end Go.Proofs.Ytnbjflcfdncocaa.M

namespace Go.Proofs.Ytnbjflcfdncocaa.M
open Go.RowKit Go.Proofs.YtnbjflcfdncocaaW.PrintWords Go.Proofs.YtnbjflcfdncocaaW.PrintLast Go.Proofs.YtnbjflcfdncocaaW.PrintMore
attribute [local go_sem] max2_int min2_int max_two min_two max_three min_three max_four min_four   -- for this text's walks alone
set_option linter.unusedVariables false
set_option linter.unusedSimpArgs false

/-! ### wire_GetInt: function 88 -/
mutual
def wire_GetInt.j0 : Nat → List Int → Int → Bool → Option (Int × Int × Int)
 | 0, _, _, _ => none
 | k + 1, x0, x1, x15 => if x15 = true then (some (0, 0, 1)) else (if (wrap64 ((x0.length : Int) - x1)) < 9 then (wire_GetInt.j1 k x0 x1 true) else (if 0 ≤ x1 then (if x1 < (x0.length : Int) then (wire_GetInt.j1 k x0 x1 (decide ((rd x0 x1) > 1))) else (none)) else (none)))
def wire_GetInt.j1 : Nat → List Int → Int → Bool → Option (Int × Int × Int)
 | 0, _, _, _ => none
 | k + 1, x0, x1, x27 => if x27 = true then (some (0, 0, 3)) else (if 0 ≤ (wrap64 (x1 + 1)) then (if (wrap64 (x1 + 1)) ≤ (wrap64 (x1 + 9)) then (if (wrap64 (x1 + 9)) ≤ (x0.length : Int) then ((wire_num.f k ((x0.take ((wrap64 (x1 + 9)) : Int).toNat).drop ((wrap64 (x1 + 1)) : Int).toNat)).bind fun t318 => (if t318 > 1152921504606846976 then (wire_GetInt.j2 k x0 x1 t318 true) else (if 0 ≤ x1 then (if x1 < (x0.length : Int) then (if (rd x0 x1) = 1 then (wire_GetInt.j2 k x0 x1 t318 (t318 == 0)) else (wire_GetInt.j2 k x0 x1 t318 false)) else (none)) else (none)))) else (none)) else (none)) else (none))
def wire_GetInt.j2 : Nat → List Int → Int → Int → Bool → Option (Int × Int × Int)
 | 0, _, _, _, _ => none
 | k + 1, x0, x1, x7, x35 => if x35 = true then (some (0, 0, 3)) else (if 0 ≤ x1 then (if x1 < (x0.length : Int) then (if (rd x0 x1) = 1 then (some (wrap64 (-(wrap64 (x7))), wrap64 (x1 + 9), 0)) else (some (wrap64 (x7), wrap64 (x1 + 9), 0))) else (none)) else (none))
end
def wire_GetInt.f (k : Nat) (l0 : List Int) (a1 : Int) : Option (Int × Int × Int) := if a1 < 0 then (wire_GetInt.j0 k l0 a1 true) else (wire_GetInt.j0 k l0 a1 (decide (a1 > (l0.length : Int))))
set_option maxHeartbeats 8000000 in
set_option maxRecDepth 100000 in
theorem wire_GetInt.calls (k : Nat) (A0 : Option Addr) (c0 : Nat) (l0 : List Int) (a1 : Int) (r1 : Int) (r2 : Int) (r3 : Int) (w : World) (hr0 : Kd.C (Kd.int .u8) w A0 l0.length l0) (hc0 : l0.length ≤ c0) (h : wire_GetInt.f k l0 a1 = some (r1, r2, r3)) :
  Calls Try.prog 88 #[.slice A0 l0.length c0, .int .i64 a1] w fun e w' => e = .returned (.tuple #[.int .i64 r1, .int .i64 r2, .int .i64 r3]) ∧ Drawn0 w w' := by
 have HR0 := Aside0.mk hr0
 have HC0 := Aside0.mk hc0
 clear hr0 hc0
 have H : (if a1 < 0 then (wire_GetInt.j0 k l0 a1 true) else (wire_GetInt.j0 k l0 a1 (decide (a1 > (l0.length : Int))))) = some (r1, r2, r3) := h
 clear h
 have HC3 := Aside0.mk H
 clear H
 go_enter Try.func88, Try.ntmps88
 go_upto_region 1 with (fail)
 go_cut [15] (fun v15 wc => ∃ (kq : Nat) (x15_2 : Bool), v15 = .bool x15_2 ∧ Aside0 (wire_GetInt.j0 kq l0 a1 x15_2 = some (r1, r2, r3)) ∧ Aside0 (kq ≤ k) ∧ Drawn0 w wc)
 case first =>
  have H := HC3.out
  clear HC3
  by_cases c4 : a1 < 0
  ·rw [if_pos c4] at H
   have c4b0 : decide (a1 < 0) = true := decide_eq_true c4
   clear c4
   (first | rw [c4b0] | (simp only [i64_w, i32_w]; rw [c4b0]) | skip)
   have H' := Aside0.mk H
   clear H
   go_wp2
   go_meet
   case rel => exact ⟨_, (true), (by first | rfl | (simp; done) | (simp [*]; done)), H', ⟨by first | omega | exact Nat.le_refl _⟩, by repeat (first | exact Drawn0.refl _ | apply Drawn0.step)⟩
  ·rw [if_neg c4] at H
   have c4b0 : decide (a1 < 0) = false := decide_eq_false c4
   clear c4
   (first | rw [c4b0] | (simp only [i64_w, i32_w]; rw [c4b0]) | skip)
   have H' := Aside0.mk H
   clear H
   go_wp2
   go_meet
   case rel => exact ⟨_, (decide (a1 > (l0.length : Int))), (by first | rfl | (simp; done) | (simp [*]; done)), H', ⟨by first | omega | exact Nat.le_refl _⟩, by repeat (first | exact Drawn0.refl _ | apply Drawn0.step)⟩
 case rest =>
  clear HC3
  try clear p2
  try clear c4
  try clear c4b0
  obtain ⟨kq, x15_2, rfl, HA, HJ2, ⟨mc2, rfl⟩⟩ := hcut
  cases kq with
  | zero => exact absurd HA.out (by simp [wire_GetInt.j0])
  | succ kj2 =>
   have H := HA.out
   clear HA
   simp only [wire_GetInt.j0] at H
   by_cases c5 : x15_2 = true
   ·subst c5
    have H1 : (some (0, 0, 1)) = some (r1, r2, r3) := by rw [if_pos rfl] at H; exact H
    clear H
    have H := H1
    clear H1
    simp only [Option.some.injEq, Prod.mk.injEq] at H
    obtain ⟨rfl, rfl, rfl⟩ := H
    go_wp2
    go_ret3
    exact ⟨by first | rfl | (simp; done) | (simp [*]; done), by repeat (first | exact Drawn0.refl _ | apply Drawn0.step)⟩
   ·replace c5 := Bool.eq_false_iff.mpr c5
    subst c5
    have H1 : (if (wrap64 ((l0.length : Int) - a1)) < 9 then (wire_GetInt.j1 kj2 l0 a1 true) else (if 0 ≤ a1 then (if a1 < (l0.length : Int) then (wire_GetInt.j1 kj2 l0 a1 (decide ((rd l0 a1) > 1))) else (none)) else (none))) = some (r1, r2, r3) := by rw [if_neg (show ¬ (false = true) by decide)] at H; exact H
    clear H
    have H := H1
    clear H1
    have HC6 := Aside0.mk H
    clear H
    go_upto_region 3 with (fail)
    go_cut [27] (fun v27 wc => ∃ (kq : Nat) (x27_5 : Bool), v27 = .bool x27_5 ∧ Aside0 (wire_GetInt.j1 kq l0 a1 x27_5 = some (r1, r2, r3)) ∧ Aside0 (kq ≤ kj2) ∧ Drawn0 w wc)
    case first =>
     have H := HC6.out
     clear HC6
     by_cases c7 : (wrap64 ((l0.length : Int) - a1)) < 9
     ·rw [if_pos c7] at H
      have c7b0 : decide ((wrap64 ((l0.length : Int) - a1)) < 9) = true := decide_eq_true c7
      clear c7
      (first | rw [c7b0] | (simp only [i64_w, i32_w]; rw [c7b0]) | skip)
      have H' := Aside0.mk H
      clear H
      go_wp2
      go_meet
      case rel => exact ⟨_, (true), (by first | rfl | (simp; done) | (simp [*]; done)), H', ⟨by have := HJ2.out; first | omega | exact Nat.le_refl _⟩, by repeat (first | exact Drawn0.refl _ | apply Drawn0.step)⟩
     ·rw [if_neg c7] at H
      have c7b0 : decide ((wrap64 ((l0.length : Int) - a1)) < 9) = false := decide_eq_false c7
      clear c7
      (first | rw [c7b0] | (simp only [i64_w, i32_w]; rw [c7b0]) | skip)
      by_cases c8 : 0 ≤ a1
      ·rw [if_pos c8] at H
       have c8b0 : decide (0 ≤ a1) = true := decide_eq_true c8
       clear c8
       by_cases c9 : a1 < (l0.length : Int)
       ·rw [if_pos c9] at H
        have c9b0 : decide (a1 < (l0.length : Int)) = true := decide_eq_true c9
        clear c9
        have H' := Aside0.mk H
        clear H
        have p316 : 0 ≤ (a1 : Int) := of_decide_eq_true (by first | (with_reducible assumption) | assumption)
        have q316 : a1 < (l0.length : Int) := of_decide_eq_true (by first | (with_reducible assumption) | assumption)
        obtain ⟨ad316, e316, hx316_0⟩ := Kd.at_int HR0.out a1 p316 q316
        cases e316
        replace p316 := eq_true p316
        replace q316 := eq_true q316
        go_wp2
        go_meet
        case rel => exact ⟨_, (decide ((rd l0 a1) > 1)), (by first | rfl | (simp; done) | (simp [*]; done)), H', ⟨by have := HJ2.out; first | omega | exact Nat.le_refl _⟩, by repeat (first | exact Drawn0.refl _ | apply Drawn0.step)⟩
       ·rw [if_neg c9] at H
        exact absurd H (by simp)
      ·rw [if_neg c8] at H
       exact absurd H (by simp)
    case rest =>
     clear HC6
     try clear c2
     try clear p2
     try clear p3
     try clear q3
     try clear hx3
     try clear c4
     try clear c4b0
     try clear c5
     try clear p6
     try clear c7
     try clear c7b0
     try clear c8
     try clear c8b0
     try clear c9
     try clear c9b0
     try clear hx316_0
     try clear p2
     try clear p316
     try clear q316
     obtain ⟨kq, x27_5, rfl, HA, HJ5, ⟨mc5, rfl⟩⟩ := hcut
     cases kq with
     | zero => exact absurd HA.out (by simp [wire_GetInt.j1])
     | succ kj5 =>
      have H := HA.out
      clear HA
      simp only [wire_GetInt.j1] at H
      by_cases c10 : x27_5 = true
      ·subst c10
       have H1 : (some (0, 0, 3)) = some (r1, r2, r3) := by rw [if_pos rfl] at H; exact H
       clear H
       have H := H1
       clear H1
       simp only [Option.some.injEq, Prod.mk.injEq] at H
       obtain ⟨rfl, rfl, rfl⟩ := H
       go_wp2
       go_ret3
       exact ⟨by first | rfl | (simp; done) | (simp [*]; done), by repeat (first | exact Drawn0.refl _ | apply Drawn0.step)⟩
      ·replace c10 := Bool.eq_false_iff.mpr c10
       subst c10
       have H1 : (if 0 ≤ (wrap64 (a1 + 1)) then (if (wrap64 (a1 + 1)) ≤ (wrap64 (a1 + 9)) then (if (wrap64 (a1 + 9)) ≤ (l0.length : Int) then ((wire_num.f kj5 ((l0.take ((wrap64 (a1 + 9)) : Int).toNat).drop ((wrap64 (a1 + 1)) : Int).toNat)).bind fun t318 => (if t318 > 1152921504606846976 then (wire_GetInt.j2 kj5 l0 a1 t318 true) else (if 0 ≤ a1 then (if a1 < (l0.length : Int) then (if (rd l0 a1) = 1 then (wire_GetInt.j2 kj5 l0 a1 t318 (t318 == 0)) else (wire_GetInt.j2 kj5 l0 a1 t318 false)) else (none)) else (none)))) else (none)) else (none)) else (none)) = some (r1, r2, r3) := by rw [if_neg (show ¬ (false = true) by decide)] at H; exact H
       clear H
       have H := H1
       clear H1
       obtain ⟨ji11, hji11⟩ : ∃ j_ : Int, (wrap64 (a1 + 1)) = j_ := ⟨_, rfl⟩
       replace H : (if 0 ≤ (ji11) then (if (ji11) ≤ (wrap64 (a1 + 9)) then (if (wrap64 (a1 + 9)) ≤ (l0.length : Int) then ((wire_num.f kj5 ((l0.take ((wrap64 (a1 + 9)) : Int).toNat).drop ((ji11) : Int).toNat)).bind fun t318 => (if t318 > 1152921504606846976 then (wire_GetInt.j2 kj5 l0 a1 t318 true) else (if 0 ≤ a1 then (if a1 < (l0.length : Int) then (if (rd l0 a1) = 1 then (wire_GetInt.j2 kj5 l0 a1 t318 (t318 == 0)) else (wire_GetInt.j2 kj5 l0 a1 t318 false)) else (none)) else (none)))) else (none)) else (none)) else (none)) = some (r1, r2, r3) := by first | (rw [hji11] at H; exact H) | (simp only [hji11] at H ⊢; exact H)
       have hji11w : (IntKind.i64.wrap (a1 + 1)) = ji11 := (i64_w _).trans hji11
       by_cases c12 : 0 ≤ (ji11)
       ·rw [if_pos c12] at H
        have c12b0 := eq_true c12
        have c12b1 : decide (0 ≤ (ji11)) = true := decide_eq_true c12
        clear c12
        by_cases c13 : (ji11) ≤ (wrap64 (a1 + 9))
        ·rw [if_pos c13] at H
         have c13b0 := eq_true c13
         have c13b1 : decide ((ji11) ≤ (wrap64 (a1 + 9))) = true := decide_eq_true c13
         by_cases c14 : (wrap64 (a1 + 9)) ≤ (l0.length : Int)
         ·rw [if_pos c14] at H
          have c14b0 := eq_true c14
          have c14b1 : decide ((wrap64 (a1 + 9)) ≤ (l0.length : Int)) = true := decide_eq_true c14
          replace H := Option.bind_eq_some_iff.mp H
          obtain ⟨t318, A150, H⟩ := H
          replace H : (if t318 > 1152921504606846976 then (wire_GetInt.j2 kj5 l0 a1 t318 true) else (if 0 ≤ a1 then (if a1 < (l0.length : Int) then (if (rd l0 a1) = 1 then (wire_GetInt.j2 kj5 l0 a1 t318 (t318 == 0)) else (wire_GetInt.j2 kj5 l0 a1 t318 false)) else (none)) else (none))) = some (r1, r2, r3) := H
          have A15 := Aside0.mk A150
          clear A150
          have HC16 := Aside0.mk H
          clear H
          obtain ⟨i017, hi017, _, hsz17, _⟩ := info_parts info5
          obtain ⟨A17, hcut17, hA17, hC17⟩ := print_mid_of (P := Try.prog) (Value.int .u8) 0 22 5 .i64 .i64 Try.underlying22 hi017 hsz17 A0 c0 l0 (ji11) (wrap64 (a1 + 9)) (of_decide_eq_true (by first | (with_reducible assumption) | assumption)) (by first | omega | exact of_decide_eq_true (by first | (with_reducible assumption) | assumption)) (of_decide_eq_true (by first | (with_reducible assumption) | assumption)) HC0.out
          have HR317 := Aside0.mk (Kd.C_of_reads (h1 := fun _ => rfl) (hA17 _ (Kd.reads_of_C HR0.out)))
          have HC317 := Aside0.mk hC17
          clear hA17 hC17 hi017 hsz17
          go_upto_region 6 with (first | ((with_reducible refine gate_callee (f := 74) rfl ?_); refine goesL_ (some 34) rfl rfl Try.func74 (by kernel_rfl) rfl #[.slice A17 ((l0.take ((wrap64 (a1 + 9)) : Int).toNat).drop ((ji11) : Int).toNat).length (c0 - (ji11).toNat)] rfl (by (try simp only [List.map_toArray, List.map_cons, List.map_nil]); first | done | (rw [show ((l0.take ((wrap64 (a1 + 9)) : Int).toNat).drop ((ji11) : Int).toNat).length = ((wrap64 (a1 + 9)).toNat - (ji11).toNat) from (by rw [List.length_drop, List.length_take]; have h_ : ((wrap64 (a1 + 9)) : Int) ≤ (l0.length : Int) := of_decide_eq_true (by first | (with_reducible assumption) | assumption); omega)] <;> rfl) | (simp only [hji11]; rfl) | rfl | (simp only [List.length_drop, List.length_take]; rfl)) ?_; (with_reducible refine (wire_num.calls kj5 _ _ ((l0.take ((wrap64 (a1 + 9)) : Int).toNat).drop ((ji11) : Int).toNat) t318 _ ?side1 ?side2 A15.out).mono ?_); (case side1 => repeat (first | exact HR317.out | (with_reducible refine Kd.C_alloc ?_ _) | (with_reducible refine Kd.C_drewN ?_ _) | (with_reducible refine Kd.C_drew ?_))); (case side2 => exact HC317.out); rintro e w' ⟨rfl, ⟨nd, rfl⟩⟩; refine ⟨_, rfl, ?_⟩))
          (try simp only [Act.put, List.setIfInBounds_toArray, List.set_cons_zero, List.set_cons_succ])
          go_cut [35] (fun v35 wc => ∃ (kq : Nat) (x35_15 : Bool), v35 = .bool x35_15 ∧ Aside0 (wire_GetInt.j2 kq l0 a1 t318 x35_15 = some (r1, r2, r3)) ∧ Aside0 (kq ≤ kj5) ∧ Drawn0 w wc)
          case first =>
           have H := HC16.out
           clear HC16
           by_cases c18 : t318 > 1152921504606846976
           ·rw [if_pos c18] at H
            have c18b0 : decide (1152921504606846976 < t318) = true := decide_eq_true c18
            clear c18
            (first | rw [c18b0] | (simp only [i64_w, i32_w]; rw [c18b0]) | skip)
            have H' := Aside0.mk H
            clear H
            go_wp2
            go_meet
            case rel => exact ⟨_, (true), (by first | rfl | (simp; done) | (simp [*]; done)), H', ⟨by have := HJ2.out; have := HJ5.out; first | omega | exact Nat.le_refl _⟩, by repeat (first | exact Drawn0.refl _ | apply Drawn0.step)⟩
           ·rw [if_neg c18] at H
            have c18b0 : decide (1152921504606846976 < t318) = false := decide_eq_false c18
            clear c18
            (first | rw [c18b0] | (simp only [i64_w, i32_w]; rw [c18b0]) | skip)
            by_cases c19 : 0 ≤ a1
            ·rw [if_pos c19] at H
             have c19b0 : decide (0 ≤ a1) = true := decide_eq_true c19
             clear c19
             by_cases c20 : a1 < (l0.length : Int)
             ·rw [if_pos c20] at H
              have c20b0 : decide (a1 < (l0.length : Int)) = true := decide_eq_true c20
              clear c20
              by_cases c21 : (rd l0 a1) = 1
              ·rw [if_pos c21] at H
               have c21b0 : ((rd l0 a1) == 1) = true := beq_iff_eq.mpr c21
               have c21b1 : ((rd l0 a1) != 1) = false := bne_eq_false_iff_eq.mpr c21
               clear c21
               have H' := Aside0.mk H
               clear H
               have p319 : 0 ≤ (a1 : Int) := of_decide_eq_true (by first | (with_reducible assumption) | assumption)
               have q319 : a1 < (l0.length : Int) := of_decide_eq_true (by first | (with_reducible assumption) | assumption)
               obtain ⟨ad319, e319, hx319_0⟩ := Kd.at_int HR0.out a1 p319 q319
               cases e319
               replace p319 := eq_true p319
               replace q319 := eq_true q319
               go_wp2
               go_meet
               case rel => exact ⟨_, ((t318 == 0)), (by first | rfl | (simp; done) | (simp [*]; done)), H', ⟨by have := HJ2.out; have := HJ5.out; first | omega | exact Nat.le_refl _⟩, by repeat (first | exact Drawn0.refl _ | apply Drawn0.step)⟩
              ·rw [if_neg c21] at H
               have c21b0 : ((rd l0 a1) == 1) = false := beq_eq_false_iff_ne.mpr c21
               have c21b1 : ((rd l0 a1) != 1) = true := bne_iff_ne.mpr c21
               have H' := Aside0.mk H
               clear H
               have p319 : 0 ≤ (a1 : Int) := of_decide_eq_true (by first | (with_reducible assumption) | assumption)
               have q319 : a1 < (l0.length : Int) := of_decide_eq_true (by first | (with_reducible assumption) | assumption)
               obtain ⟨ad319, e319, hx319_0⟩ := Kd.at_int HR0.out a1 p319 q319
               cases e319
               replace p319 := eq_true p319
               replace q319 := eq_true q319
               go_wp2
               go_meet
               case rel => exact ⟨_, (false), (by first | rfl | (simp; done) | (simp [*]; done)), H', ⟨by have := HJ2.out; have := HJ5.out; first | omega | exact Nat.le_refl _⟩, by repeat (first | exact Drawn0.refl _ | apply Drawn0.step)⟩
             ·rw [if_neg c20] at H
              exact absurd H (by simp)
            ·rw [if_neg c19] at H
             exact absurd H (by simp)
          case rest =>
           clear HC16
           try clear c1
           try clear c2
           try clear p2
           try clear p3
           try clear q3
           try clear hx3
           try clear c4
           try clear c4b0
           try clear c5
           try clear p6
           try clear c7
           try clear c7b0
           try clear c8
           try clear c8b0
           try clear c9
           try clear c9b0
           try clear c10
           try clear c12
           try clear c12b0
           try clear c12b1
           try clear c13
           try clear c13b0
           try clear c13b1
           try clear c14
           try clear c14b0
           try clear c14b1
           try clear c18
           try clear c18b0
           try clear c19
           try clear c19b0
           try clear c20
           try clear c20b0
           try clear c21
           try clear c21b0
           try clear c21b1
           try clear hx316_0
           try clear hx319_0
           try clear p2
           try clear p3
           try clear p316
           try clear p319
           try clear p6
           try clear q3
           try clear q316
           try clear q319
           obtain ⟨kq, x35_15, rfl, HA, HJ15, ⟨mc15, rfl⟩⟩ := hcut
           cases kq with
           | zero => exact absurd HA.out (by simp [wire_GetInt.j2])
           | succ kj15 =>
            have H := HA.out
            clear HA
            simp only [wire_GetInt.j2] at H
            by_cases c22 : x35_15 = true
            ·subst c22
             have H1 : (some (0, 0, 3)) = some (r1, r2, r3) := by rw [if_pos rfl] at H; exact H
             clear H
             have H := H1
             clear H1
             simp only [Option.some.injEq, Prod.mk.injEq] at H
             obtain ⟨rfl, rfl, rfl⟩ := H
             go_wp2
             go_ret3
             exact ⟨by first | rfl | (simp; done) | (simp only [← hji11] <;> (first | rfl | simp)) | (simp [*]; done), by repeat (first | exact Drawn0.refl _ | apply Drawn0.step)⟩
            ·replace c22 := Bool.eq_false_iff.mpr c22
             subst c22
             have H1 : (if 0 ≤ a1 then (if a1 < (l0.length : Int) then (if (rd l0 a1) = 1 then (some (wrap64 (-(wrap64 (t318))), wrap64 (a1 + 9), 0)) else (some (wrap64 (t318), wrap64 (a1 + 9), 0))) else (none)) else (none)) = some (r1, r2, r3) := by rw [if_neg (show ¬ (false = true) by decide)] at H; exact H
             clear H
             have H := H1
             clear H1
             by_cases c23 : 0 ≤ a1
             ·rw [if_pos c23] at H
              have c23b0 : decide (0 ≤ a1) = true := decide_eq_true c23
              clear c23
              by_cases c24 : a1 < (l0.length : Int)
              ·rw [if_pos c24] at H
               have c24b0 : decide (a1 < (l0.length : Int)) = true := decide_eq_true c24
               clear c24
               by_cases c25 : (rd l0 a1) = 1
               ·rw [if_pos c25] at H
                have c25b0 : ((rd l0 a1) == 1) = true := beq_iff_eq.mpr c25
                have c25b1 : ((rd l0 a1) != 1) = false := bne_eq_false_iff_eq.mpr c25
                clear c25
                simp only [Option.some.injEq, Prod.mk.injEq] at H
                obtain ⟨rfl, rfl, rfl⟩ := H
                have p320 : 0 ≤ (a1 : Int) := of_decide_eq_true (by first | (with_reducible assumption) | assumption)
                have q320 : a1 < (l0.length : Int) := of_decide_eq_true (by first | (with_reducible assumption) | assumption)
                obtain ⟨ad320, e320, hx320_0⟩ := Kd.at_int HR0.out a1 p320 q320
                cases e320
                replace p320 := eq_true p320
                replace q320 := eq_true q320
                go_wp2
                go_ret3
                exact ⟨by first | rfl | (simp; done) | (simp only [← hji11] <;> (first | rfl | simp)) | (simp [*]; done), by repeat (first | exact Drawn0.refl _ | apply Drawn0.step)⟩
               ·rw [if_neg c25] at H
                have c25b0 : ((rd l0 a1) == 1) = false := beq_eq_false_iff_ne.mpr c25
                have c25b1 : ((rd l0 a1) != 1) = true := bne_iff_ne.mpr c25
                simp only [Option.some.injEq, Prod.mk.injEq] at H
                obtain ⟨rfl, rfl, rfl⟩ := H
                have p320 : 0 ≤ (a1 : Int) := of_decide_eq_true (by first | (with_reducible assumption) | assumption)
                have q320 : a1 < (l0.length : Int) := of_decide_eq_true (by first | (with_reducible assumption) | assumption)
                obtain ⟨ad320, e320, hx320_0⟩ := Kd.at_int HR0.out a1 p320 q320
                cases e320
                replace p320 := eq_true p320
                replace q320 := eq_true q320
                go_wp2
                go_ret3
                exact ⟨by first | rfl | (simp; done) | (simp only [← hji11] <;> (first | rfl | simp)) | (simp [*]; done), by repeat (first | exact Drawn0.refl _ | apply Drawn0.step)⟩
              ·rw [if_neg c24] at H
               exact absurd H (by simp)
             ·rw [if_neg c23] at H
              exact absurd H (by simp)
         ·rw [if_neg c14] at H
          exact absurd H (by simp)
        ·rw [if_neg c13] at H
         exact absurd H (by simp)
       ·rw [if_neg c12] at H
        exact absurd H (by simp)

/-! ### value_Read: function 76 -/
def value_Read.f (k : Nat) (l0 : List Int) (a1 : Int) : Option (Int × Int × ByteArray × Int × Int) := (wire_Get.f k l0 a1 1).bind fun bt322 => (if bt322.2.2 = 0 then (if bt322.1 = 2 then ((wire_Get.f k l0 bt322.2.1 1).bind fun bt325 => (if bt325.2.2 = 0 then ((value_Check.f bt322.1 bt325.1 (⟨#[]⟩ : ByteArray)).bind fun t328 => (if t328 = 0 then (some (bt322.1, bt325.1, (⟨#[]⟩ : ByteArray), bt325.2.1, 0)) else (some (0, 0, (⟨#[]⟩ : ByteArray), 0, 3)))) else (some (0, 0, (⟨#[]⟩ : ByteArray), 0, 3)))) else (if bt322.1 = 3 then ((wire_GetInt.f k l0 bt322.2.1).bind fun bt329 => (if bt329.2.2 = 0 then ((value_Check.f bt322.1 bt329.1 (⟨#[]⟩ : ByteArray)).bind fun t332 => (if t332 = 0 then (some (bt322.1, bt329.1, (⟨#[]⟩ : ByteArray), bt329.2.1, 0)) else (some (0, 0, (⟨#[]⟩ : ByteArray), 0, 3)))) else (some (0, 0, (⟨#[]⟩ : ByteArray), 0, 3)))) else (if bt322.1 = 4 then ((wire_GetText.f k l0 bt322.2.1).bind fun bt333 => (if bt333.2.2 = 0 then ((value_Check.f bt322.1 0 bt333.1).bind fun t336 => (if t336 = 0 then (some (bt322.1, 0, bt333.1, bt333.2.1, 0)) else (some (0, 0, (⟨#[]⟩ : ByteArray), 0, 3)))) else (some (0, 0, (⟨#[]⟩ : ByteArray), 0, 3)))) else ((value_Check.f bt322.1 0 (⟨#[]⟩ : ByteArray)).bind fun t337 => (if t337 = 0 then (some (bt322.1, 0, (⟨#[]⟩ : ByteArray), bt322.2.1, 0)) else (some (0, 0, (⟨#[]⟩ : ByteArray), 0, 3))))))) else (some (0, 0, (⟨#[]⟩ : ByteArray), 0, bt322.2.2)))
set_option maxHeartbeats 8000000 in
set_option maxRecDepth 100000 in
theorem value_Read.calls (k : Nat) (A0 : Option Addr) (c0 : Nat) (l0 : List Int) (a1 : Int) (r1 : Int) (r2 : Int) (r3 : ByteArray) (r4 : Int) (r5 : Int) (w : World) (hr0 : Kd.C (Kd.int .u8) w A0 l0.length l0) (hc0 : l0.length ≤ c0) (h : value_Read.f k l0 a1 = some (r1, r2, r3, r4, r5)) :
  Calls Try.prog 76 #[.slice A0 l0.length c0, .int .i64 a1] w fun e w' => e = .returned (.tuple #[.agg #[.int .i64 r1, .int .i64 r2, .string r3], .int .i64 r4, .int .i64 r5]) ∧ Below w.heap.size w w' := by
 have hu101 := Try.underlying101
 have HR0 := Aside0.mk hr0
 have HC0 := Aside0.mk hc0
 clear hr0 hc0
 have HB := Aside0.mk (Below.refl w.heap.size w)
 have H : ((wire_Get.f k l0 a1 1).bind fun bt322 => (if bt322.2.2 = 0 then (if bt322.1 = 2 then ((wire_Get.f k l0 bt322.2.1 1).bind fun bt325 => (if bt325.2.2 = 0 then ((value_Check.f bt322.1 bt325.1 (⟨#[]⟩ : ByteArray)).bind fun t328 => (if t328 = 0 then (some (bt322.1, bt325.1, (⟨#[]⟩ : ByteArray), bt325.2.1, 0)) else (some (0, 0, (⟨#[]⟩ : ByteArray), 0, 3)))) else (some (0, 0, (⟨#[]⟩ : ByteArray), 0, 3)))) else (if bt322.1 = 3 then ((wire_GetInt.f k l0 bt322.2.1).bind fun bt329 => (if bt329.2.2 = 0 then ((value_Check.f bt322.1 bt329.1 (⟨#[]⟩ : ByteArray)).bind fun t332 => (if t332 = 0 then (some (bt322.1, bt329.1, (⟨#[]⟩ : ByteArray), bt329.2.1, 0)) else (some (0, 0, (⟨#[]⟩ : ByteArray), 0, 3)))) else (some (0, 0, (⟨#[]⟩ : ByteArray), 0, 3)))) else (if bt322.1 = 4 then ((wire_GetText.f k l0 bt322.2.1).bind fun bt333 => (if bt333.2.2 = 0 then ((value_Check.f bt322.1 0 bt333.1).bind fun t336 => (if t336 = 0 then (some (bt322.1, 0, bt333.1, bt333.2.1, 0)) else (some (0, 0, (⟨#[]⟩ : ByteArray), 0, 3)))) else (some (0, 0, (⟨#[]⟩ : ByteArray), 0, 3)))) else ((value_Check.f bt322.1 0 (⟨#[]⟩ : ByteArray)).bind fun t337 => (if t337 = 0 then (some (bt322.1, 0, (⟨#[]⟩ : ByteArray), bt322.2.1, 0)) else (some (0, 0, (⟨#[]⟩ : ByteArray), 0, 3))))))) else (some (0, 0, (⟨#[]⟩ : ByteArray), 0, bt322.2.2)))) = some (r1, r2, r3, r4, r5) := h
 clear h
 replace H := Option.bind_eq_some_iff.mp H
 obtain ⟨⟨t322, t323, t324⟩, A30, H⟩ := H
 replace H : (if t324 = 0 then (if t322 = 2 then ((wire_Get.f k l0 t323 1).bind fun bt325 => (if bt325.2.2 = 0 then ((value_Check.f t322 bt325.1 (⟨#[]⟩ : ByteArray)).bind fun t328 => (if t328 = 0 then (some (t322, bt325.1, (⟨#[]⟩ : ByteArray), bt325.2.1, 0)) else (some (0, 0, (⟨#[]⟩ : ByteArray), 0, 3)))) else (some (0, 0, (⟨#[]⟩ : ByteArray), 0, 3)))) else (if t322 = 3 then ((wire_GetInt.f k l0 t323).bind fun bt329 => (if bt329.2.2 = 0 then ((value_Check.f t322 bt329.1 (⟨#[]⟩ : ByteArray)).bind fun t332 => (if t332 = 0 then (some (t322, bt329.1, (⟨#[]⟩ : ByteArray), bt329.2.1, 0)) else (some (0, 0, (⟨#[]⟩ : ByteArray), 0, 3)))) else (some (0, 0, (⟨#[]⟩ : ByteArray), 0, 3)))) else (if t322 = 4 then ((wire_GetText.f k l0 t323).bind fun bt333 => (if bt333.2.2 = 0 then ((value_Check.f t322 0 bt333.1).bind fun t336 => (if t336 = 0 then (some (t322, 0, bt333.1, bt333.2.1, 0)) else (some (0, 0, (⟨#[]⟩ : ByteArray), 0, 3)))) else (some (0, 0, (⟨#[]⟩ : ByteArray), 0, 3)))) else ((value_Check.f t322 0 (⟨#[]⟩ : ByteArray)).bind fun t337 => (if t337 = 0 then (some (t322, 0, (⟨#[]⟩ : ByteArray), t323, 0)) else (some (0, 0, (⟨#[]⟩ : ByteArray), 0, 3))))))) else (some (0, 0, (⟨#[]⟩ : ByteArray), 0, t324))) = some (r1, r2, r3, r4, r5) := H
 have A3 := Aside0.mk A30
 clear A30
 by_cases c4 : t324 = 0
 ·rw [if_pos c4] at H
  have c4b0 : (t324 == 0) = true := beq_iff_eq.mpr c4
  have c4b1 : (t324 != 0) = false := bne_eq_false_iff_eq.mpr c4
  clear c4
  by_cases c5 : t322 = 2
  ·rw [if_pos c5] at H
   have c5b0 : (t322 == 2) = true := beq_iff_eq.mpr c5
   have c5b1 : (t322 != 2) = false := bne_eq_false_iff_eq.mpr c5
   clear c5
   replace H := Option.bind_eq_some_iff.mp H
   obtain ⟨⟨t325, t326, t327⟩, A60, H⟩ := H
   replace H : (if t327 = 0 then ((value_Check.f t322 t325 (⟨#[]⟩ : ByteArray)).bind fun t328 => (if t328 = 0 then (some (t322, t325, (⟨#[]⟩ : ByteArray), t326, 0)) else (some (0, 0, (⟨#[]⟩ : ByteArray), 0, 3)))) else (some (0, 0, (⟨#[]⟩ : ByteArray), 0, 3))) = some (r1, r2, r3, r4, r5) := H
   have A6 := Aside0.mk A60
   clear A60
   by_cases c7 : t327 = 0
   ·rw [if_pos c7] at H
    have c7b0 : (t327 == 0) = true := beq_iff_eq.mpr c7
    have c7b1 : (t327 != 0) = false := bne_eq_false_iff_eq.mpr c7
    clear c7
    replace H := Option.bind_eq_some_iff.mp H
    obtain ⟨t328, A80, H⟩ := H
    replace H : (if t328 = 0 then (some (t322, t325, (⟨#[]⟩ : ByteArray), t326, 0)) else (some (0, 0, (⟨#[]⟩ : ByteArray), 0, 3))) = some (r1, r2, r3, r4, r5) := H
    have A8 := Aside0.mk A80
    clear A80
    by_cases c9 : t328 = 0
    ·rw [if_pos c9] at H
     have c9b0 : (t328 == 0) = true := beq_iff_eq.mpr c9
     have c9b1 : (t328 != 0) = false := bne_eq_false_iff_eq.mpr c9
     clear c9
     simp only [Option.some.injEq, Prod.mk.injEq] at H
     obtain ⟨rfl, rfl, rfl, rfl, rfl⟩ := H
     go_enter Try.func76, Try.ntmps76
     go_wp2_with (first | ((with_reducible refine gate_dst (N := 4) rfl ?_); refine box_event ?hg (N := 4) ?hd (cs := #[.int .i64 0, .int .i64 0, .string (⟨#[]⟩ : ByteArray)]) (t := 101) ?hr ?_; (case hd => rfl); (case hg => rfl); (case hr => first | (go_simp; done) | (go_simp; rfl)); intro gb321 hg w10 hbox hb; have n0_ := Aside0.mk (below_step (by repeat (first | (with_reducible first | exact HB.out | apply below_alloc | apply pw_below_drewN | apply below_drew1) | exact HB.out)) hb); have n1_ := Aside0.mk (hbox); have n2_ := Aside0.mk ((by rw [hg]; exact (below_size (by repeat (first | (with_reducible first | exact HB.out | apply below_alloc | apply pw_below_drewN | apply below_drew1) | exact HB.out))) : w.heap.size ≤ gb321)); have n3_ := Aside0.mk ((by rw [hg]; exact (below_size (by repeat (first | (with_reducible first | exact HB.out | apply below_alloc | apply pw_below_drewN | apply below_drew1) | exact HB.out))) : w.heap.size ≤ gb321)); clear HB; have HB := n0_; have BK321 := n1_; have GW321 := n2_; have GE321 := n3_; clear n0_ n1_ n2_ n3_; clear hb hbox hg) | ((with_reducible refine gate_callee (f := 51) rfl ?_); refine goesL_ (some 11) rfl rfl Try.func51 (by kernel_rfl) rfl #[.slice A0 l0.length c0, .int .i64 a1, .int .i64 1] rfl (by (try simp only [List.map_toArray, List.map_cons, List.map_nil]); first | done | rfl | (simp only [List.length_drop, List.length_take]; rfl)) ?_; (with_reducible refine (wire_Get.calls k _ _ l0 a1 1 t322 t323 t324 _ ?side1 ?side2 A3.out).mono ?_); (case side1 => repeat (first | exact (Kd.C_below HR0.out HB.out) | (with_reducible refine Kd.C_alloc ?_ _) | (with_reducible refine Kd.C_drewN ?_ _) | (with_reducible refine Kd.C_drew ?_))); (case side2 => exact HC0.out); rintro e w' ⟨rfl, ⟨nd, rfl⟩⟩; refine ⟨_, rfl, ?_⟩; (try (rw [drewN_self w10]; generalize hq_ : World.drewN w10 _ = w10; have n0_ : Aside0 (w10.heap[gb321]? = some (.cells #[.int .i64 0, .int .i64 0, .string (⟨#[]⟩ : ByteArray)] 101 (0, 0))) := ⟨by rw [← hq_]; exact (by (with_reducible repeat (first | refine blk_drewN ?_ _ | refine blk_drew ?_ | refine blk_alloc ?_ _)); exact BK321.out)⟩; have n1_ : Aside0 (Below w.heap.size w w10) := ⟨by rw [← hq_]; exact (by repeat (first | (with_reducible first | exact HB.out | apply below_alloc | apply pw_below_drewN | apply below_drew1 | refine below_set ?_ GE321.out) | exact HB.out))⟩; clear BK321 HB hq_; have BK321 := n0_; have HB := n1_; clear n0_ n1_)); have hcz11 := fun i_ => blk_cell BK321.out i_; have hfz11 := fun i_ => blk_frozen BK321.out i_) | ((with_reducible refine gate_callee (f := 51) rfl ?_); refine goesL_ (some 27) rfl rfl Try.func51 (by kernel_rfl) rfl #[.slice A0 l0.length c0, .int .i64 t323, .int .i64 1] rfl (by (try simp only [List.map_toArray, List.map_cons, List.map_nil]); first | done | rfl | (simp only [List.length_drop, List.length_take]; rfl)) ?_; (with_reducible refine (wire_Get.calls k _ _ l0 t323 1 t325 t326 t327 _ ?side1 ?side2 A6.out).mono ?_); (case side1 => exact Kd.C_below HR0.out (by repeat (first | (with_reducible first | exact HB.out | apply below_alloc | apply pw_below_drewN | apply below_drew1 | refine below_set ?_ GE321.out) | exact HB.out))); (case side2 => exact HC0.out); rintro e w' ⟨rfl, ⟨nd, rfl⟩⟩; refine ⟨_, rfl, ?_⟩) | (go_at_call 79; (with_reducible refine (value_Check.calls t322 t325 (⟨#[]⟩ : ByteArray) t328 _ A8.out).mono ?_); rintro e w12 ⟨rfl, hb⟩; have n0_ := Aside0.mk (blk_below (g := gb321) (o := .cells #[.int .i64 t322, .int .i64 t325, .string (⟨#[]⟩ : ByteArray)] 101 (0, 0)) (by (with_reducible repeat (first | refine blk_drewN ?_ _ | refine blk_drew ?_ | refine blk_alloc ?_ _)); refine blk_put (cs := #[.int .i64 t322, .int .i64 0, .string (⟨#[]⟩ : ByteArray)]) ?_ 1 _ rfl; (with_reducible repeat (first | refine blk_drewN ?_ _ | refine blk_drew ?_ | refine blk_alloc ?_ _)); refine blk_put (cs := #[.int .i64 0, .int .i64 0, .string (⟨#[]⟩ : ByteArray)]) ?_ 0 _ rfl; (with_reducible repeat (first | refine blk_drewN ?_ _ | refine blk_drew ?_ | refine blk_alloc ?_ _)); exact BK321.out) hb); have n1_ := Aside0.mk (below_step (by repeat (first | (with_reducible first | exact HB.out | apply below_alloc | apply pw_below_drewN | apply below_drew1 | refine below_set ?_ GE321.out) | exact HB.out)) hb); clear BK321; clear HB; have BK321 := n0_; have HB := n1_; clear n0_ n1_; (try clear hb); (try clear hb2); (try clear hk); (try clear hi); have hcz13 := fun i_ => blk_cell BK321.out i_; have hfz13 := fun i_ => blk_frozen BK321.out i_))
     refine bodyPost_ret (results_ctt rfl _ _ gb321 101 #[.int .i64 t322, .int .i64 t325, .string (⟨#[]⟩ : ByteArray)] (0, 0) _ rfl (by (with_reducible repeat (first | refine blk_drewN ?_ _ | refine blk_drew ?_ | refine blk_alloc ?_ _)); refine blk_put (cs := #[.int .i64 t322, .int .i64 t325, .string (⟨#[]⟩ : ByteArray)]) ?_ 2 _ rfl; (with_reducible repeat (first | refine blk_drewN ?_ _ | refine blk_drew ?_ | refine blk_alloc ?_ _)); refine blk_put (cs := #[.int .i64 t322, .int .i64 t325, .string (⟨#[]⟩ : ByteArray)]) ?_ 1 _ rfl; (with_reducible repeat (first | refine blk_drewN ?_ _ | refine blk_drew ?_ | refine blk_alloc ?_ _)); refine blk_put (cs := #[.int .i64 t322, .int .i64 t325, .string (⟨#[]⟩ : ByteArray)]) ?_ 0 _ rfl; (with_reducible repeat (first | refine blk_drewN ?_ _ | refine blk_drew ?_ | refine blk_alloc ?_ _)); exact BK321.out) Try.underlying101 rfl (by kernel_rfl)) rfl ?_
     exact ⟨by first | rfl | (simp [errW_none, errW_some] <;> rfl) | (simp [*, errW_none, errW_some] <;> rfl), by repeat (first | (with_reducible first | exact HB.out | apply below_alloc | apply pw_below_drewN | apply below_drew1 | refine below_set ?_ GE321.out) | exact HB.out)⟩
    ·rw [if_neg c9] at H
     have c9b0 : (t328 == 0) = false := beq_eq_false_iff_ne.mpr c9
     have c9b1 : (t328 != 0) = true := bne_iff_ne.mpr c9
     simp only [Option.some.injEq, Prod.mk.injEq] at H
     obtain ⟨rfl, rfl, rfl, rfl, rfl⟩ := H
     go_enter Try.func76, Try.ntmps76
     go_wp2_with (first | ((with_reducible refine gate_dst (N := 4) rfl ?_); refine box_event ?hg (N := 4) ?hd (cs := #[.int .i64 0, .int .i64 0, .string (⟨#[]⟩ : ByteArray)]) (t := 101) ?hr ?_; (case hd => rfl); (case hg => rfl); (case hr => first | (go_simp; done) | (go_simp; rfl)); intro gb321 hg w14 hbox hb; have n0_ := Aside0.mk (below_step (by repeat (first | (with_reducible first | exact HB.out | apply below_alloc | apply pw_below_drewN | apply below_drew1) | exact HB.out)) hb); have n1_ := Aside0.mk (hbox); have n2_ := Aside0.mk ((by rw [hg]; exact (below_size (by repeat (first | (with_reducible first | exact HB.out | apply below_alloc | apply pw_below_drewN | apply below_drew1) | exact HB.out))) : w.heap.size ≤ gb321)); have n3_ := Aside0.mk ((by rw [hg]; exact (below_size (by repeat (first | (with_reducible first | exact HB.out | apply below_alloc | apply pw_below_drewN | apply below_drew1) | exact HB.out))) : w.heap.size ≤ gb321)); clear HB; have HB := n0_; have BK321 := n1_; have GW321 := n2_; have GE321 := n3_; clear n0_ n1_ n2_ n3_; clear hb hbox hg) | ((with_reducible refine gate_callee (f := 51) rfl ?_); refine goesL_ (some 11) rfl rfl Try.func51 (by kernel_rfl) rfl #[.slice A0 l0.length c0, .int .i64 a1, .int .i64 1] rfl (by (try simp only [List.map_toArray, List.map_cons, List.map_nil]); first | done | rfl | (simp only [List.length_drop, List.length_take]; rfl)) ?_; (with_reducible refine (wire_Get.calls k _ _ l0 a1 1 t322 t323 t324 _ ?side1 ?side2 A3.out).mono ?_); (case side1 => repeat (first | exact (Kd.C_below HR0.out HB.out) | (with_reducible refine Kd.C_alloc ?_ _) | (with_reducible refine Kd.C_drewN ?_ _) | (with_reducible refine Kd.C_drew ?_))); (case side2 => exact HC0.out); rintro e w' ⟨rfl, ⟨nd, rfl⟩⟩; refine ⟨_, rfl, ?_⟩; (try (rw [drewN_self w14]; generalize hq_ : World.drewN w14 _ = w14; have n0_ : Aside0 (w14.heap[gb321]? = some (.cells #[.int .i64 0, .int .i64 0, .string (⟨#[]⟩ : ByteArray)] 101 (0, 0))) := ⟨by rw [← hq_]; exact (by (with_reducible repeat (first | refine blk_drewN ?_ _ | refine blk_drew ?_ | refine blk_alloc ?_ _)); exact BK321.out)⟩; have n1_ : Aside0 (Below w.heap.size w w14) := ⟨by rw [← hq_]; exact (by repeat (first | (with_reducible first | exact HB.out | apply below_alloc | apply pw_below_drewN | apply below_drew1 | refine below_set ?_ GE321.out) | exact HB.out))⟩; clear BK321 HB hq_; have BK321 := n0_; have HB := n1_; clear n0_ n1_)); have hcz15 := fun i_ => blk_cell BK321.out i_; have hfz15 := fun i_ => blk_frozen BK321.out i_) | ((with_reducible refine gate_callee (f := 51) rfl ?_); refine goesL_ (some 27) rfl rfl Try.func51 (by kernel_rfl) rfl #[.slice A0 l0.length c0, .int .i64 t323, .int .i64 1] rfl (by (try simp only [List.map_toArray, List.map_cons, List.map_nil]); first | done | rfl | (simp only [List.length_drop, List.length_take]; rfl)) ?_; (with_reducible refine (wire_Get.calls k _ _ l0 t323 1 t325 t326 t327 _ ?side1 ?side2 A6.out).mono ?_); (case side1 => exact Kd.C_below HR0.out (by repeat (first | (with_reducible first | exact HB.out | apply below_alloc | apply pw_below_drewN | apply below_drew1 | refine below_set ?_ GE321.out) | exact HB.out))); (case side2 => exact HC0.out); rintro e w' ⟨rfl, ⟨nd, rfl⟩⟩; refine ⟨_, rfl, ?_⟩) | (go_at_call 79; (with_reducible refine (value_Check.calls t322 t325 (⟨#[]⟩ : ByteArray) t328 _ A8.out).mono ?_); rintro e w16 ⟨rfl, hb⟩; have n0_ := Aside0.mk (blk_below (g := gb321) (o := .cells #[.int .i64 t322, .int .i64 t325, .string (⟨#[]⟩ : ByteArray)] 101 (0, 0)) (by (with_reducible repeat (first | refine blk_drewN ?_ _ | refine blk_drew ?_ | refine blk_alloc ?_ _)); refine blk_put (cs := #[.int .i64 t322, .int .i64 0, .string (⟨#[]⟩ : ByteArray)]) ?_ 1 _ rfl; (with_reducible repeat (first | refine blk_drewN ?_ _ | refine blk_drew ?_ | refine blk_alloc ?_ _)); refine blk_put (cs := #[.int .i64 0, .int .i64 0, .string (⟨#[]⟩ : ByteArray)]) ?_ 0 _ rfl; (with_reducible repeat (first | refine blk_drewN ?_ _ | refine blk_drew ?_ | refine blk_alloc ?_ _)); exact BK321.out) hb); have n1_ := Aside0.mk (below_step (by repeat (first | (with_reducible first | exact HB.out | apply below_alloc | apply pw_below_drewN | apply below_drew1 | refine below_set ?_ GE321.out) | exact HB.out)) hb); clear BK321; clear HB; have BK321 := n0_; have HB := n1_; clear n0_ n1_; (try clear hb); (try clear hb2); (try clear hk); (try clear hi); have hcz17 := fun i_ => blk_cell BK321.out i_; have hfz17 := fun i_ => blk_frozen BK321.out i_))
     refine bodyPost_ret (results_ctt rfl _ _ gb321 101 #[.int .i64 0, .int .i64 0, .string (⟨#[]⟩ : ByteArray)] (0, 0) _ rfl (by (with_reducible repeat (first | refine blk_drewN ?_ _ | refine blk_drew ?_ | refine blk_alloc ?_ _)); refine blk_put (cs := #[.int .i64 0, .int .i64 0, .string (⟨#[]⟩ : ByteArray)]) ?_ 2 _ rfl; (with_reducible repeat (first | refine blk_drewN ?_ _ | refine blk_drew ?_ | refine blk_alloc ?_ _)); refine blk_put (cs := #[.int .i64 0, .int .i64 t325, .string (⟨#[]⟩ : ByteArray)]) ?_ 1 _ rfl; (with_reducible repeat (first | refine blk_drewN ?_ _ | refine blk_drew ?_ | refine blk_alloc ?_ _)); refine blk_put (cs := #[.int .i64 t322, .int .i64 t325, .string (⟨#[]⟩ : ByteArray)]) ?_ 0 _ rfl; (with_reducible repeat (first | refine blk_drewN ?_ _ | refine blk_drew ?_ | refine blk_alloc ?_ _)); exact BK321.out) Try.underlying101 rfl (by kernel_rfl)) rfl ?_
     exact ⟨by first | rfl | (simp [errW_none, errW_some] <;> rfl) | (simp [*, errW_none, errW_some] <;> rfl), by repeat (first | (with_reducible first | exact HB.out | apply below_alloc | apply pw_below_drewN | apply below_drew1 | refine below_set ?_ GE321.out) | exact HB.out)⟩
   ·rw [if_neg c7] at H
    have c7b0 : (t327 == 0) = false := beq_eq_false_iff_ne.mpr c7
    have c7b1 : (t327 != 0) = true := bne_iff_ne.mpr c7
    simp only [Option.some.injEq, Prod.mk.injEq] at H
    obtain ⟨rfl, rfl, rfl, rfl, rfl⟩ := H
    go_enter Try.func76, Try.ntmps76
    go_wp2_with (first | ((with_reducible refine gate_dst (N := 4) rfl ?_); refine box_event ?hg (N := 4) ?hd (cs := #[.int .i64 0, .int .i64 0, .string (⟨#[]⟩ : ByteArray)]) (t := 101) ?hr ?_; (case hd => rfl); (case hg => rfl); (case hr => first | (go_simp; done) | (go_simp; rfl)); intro gb321 hg w18 hbox hb; have n0_ := Aside0.mk (below_step (by repeat (first | (with_reducible first | exact HB.out | apply below_alloc | apply pw_below_drewN | apply below_drew1) | exact HB.out)) hb); have n1_ := Aside0.mk (hbox); have n2_ := Aside0.mk ((by rw [hg]; exact (below_size (by repeat (first | (with_reducible first | exact HB.out | apply below_alloc | apply pw_below_drewN | apply below_drew1) | exact HB.out))) : w.heap.size ≤ gb321)); have n3_ := Aside0.mk ((by rw [hg]; exact (below_size (by repeat (first | (with_reducible first | exact HB.out | apply below_alloc | apply pw_below_drewN | apply below_drew1) | exact HB.out))) : w.heap.size ≤ gb321)); clear HB; have HB := n0_; have BK321 := n1_; have GW321 := n2_; have GE321 := n3_; clear n0_ n1_ n2_ n3_; clear hb hbox hg) | ((with_reducible refine gate_callee (f := 51) rfl ?_); refine goesL_ (some 11) rfl rfl Try.func51 (by kernel_rfl) rfl #[.slice A0 l0.length c0, .int .i64 a1, .int .i64 1] rfl (by (try simp only [List.map_toArray, List.map_cons, List.map_nil]); first | done | rfl | (simp only [List.length_drop, List.length_take]; rfl)) ?_; (with_reducible refine (wire_Get.calls k _ _ l0 a1 1 t322 t323 t324 _ ?side1 ?side2 A3.out).mono ?_); (case side1 => repeat (first | exact (Kd.C_below HR0.out HB.out) | (with_reducible refine Kd.C_alloc ?_ _) | (with_reducible refine Kd.C_drewN ?_ _) | (with_reducible refine Kd.C_drew ?_))); (case side2 => exact HC0.out); rintro e w' ⟨rfl, ⟨nd, rfl⟩⟩; refine ⟨_, rfl, ?_⟩; (try (rw [drewN_self w18]; generalize hq_ : World.drewN w18 _ = w18; have n0_ : Aside0 (w18.heap[gb321]? = some (.cells #[.int .i64 0, .int .i64 0, .string (⟨#[]⟩ : ByteArray)] 101 (0, 0))) := ⟨by rw [← hq_]; exact (by (with_reducible repeat (first | refine blk_drewN ?_ _ | refine blk_drew ?_ | refine blk_alloc ?_ _)); exact BK321.out)⟩; have n1_ : Aside0 (Below w.heap.size w w18) := ⟨by rw [← hq_]; exact (by repeat (first | (with_reducible first | exact HB.out | apply below_alloc | apply pw_below_drewN | apply below_drew1 | refine below_set ?_ GE321.out) | exact HB.out))⟩; clear BK321 HB hq_; have BK321 := n0_; have HB := n1_; clear n0_ n1_)); have hcz19 := fun i_ => blk_cell BK321.out i_; have hfz19 := fun i_ => blk_frozen BK321.out i_) | ((with_reducible refine gate_callee (f := 51) rfl ?_); refine goesL_ (some 27) rfl rfl Try.func51 (by kernel_rfl) rfl #[.slice A0 l0.length c0, .int .i64 t323, .int .i64 1] rfl (by (try simp only [List.map_toArray, List.map_cons, List.map_nil]); first | done | rfl | (simp only [List.length_drop, List.length_take]; rfl)) ?_; (with_reducible refine (wire_Get.calls k _ _ l0 t323 1 t325 t326 t327 _ ?side1 ?side2 A6.out).mono ?_); (case side1 => exact Kd.C_below HR0.out (by repeat (first | (with_reducible first | exact HB.out | apply below_alloc | apply pw_below_drewN | apply below_drew1 | refine below_set ?_ GE321.out) | exact HB.out))); (case side2 => exact HC0.out); rintro e w' ⟨rfl, ⟨nd, rfl⟩⟩; refine ⟨_, rfl, ?_⟩))
    refine bodyPost_ret (results_ctt rfl _ _ gb321 101 #[.int .i64 0, .int .i64 0, .string (⟨#[]⟩ : ByteArray)] (0, 0) _ rfl (by (with_reducible repeat (first | refine blk_drewN ?_ _ | refine blk_drew ?_ | refine blk_alloc ?_ _)); refine blk_put (cs := #[.int .i64 0, .int .i64 0, .string (⟨#[]⟩ : ByteArray)]) ?_ 2 _ rfl; (with_reducible repeat (first | refine blk_drewN ?_ _ | refine blk_drew ?_ | refine blk_alloc ?_ _)); refine blk_put (cs := #[.int .i64 0, .int .i64 t325, .string (⟨#[]⟩ : ByteArray)]) ?_ 1 _ rfl; (with_reducible repeat (first | refine blk_drewN ?_ _ | refine blk_drew ?_ | refine blk_alloc ?_ _)); refine blk_put (cs := #[.int .i64 t322, .int .i64 t325, .string (⟨#[]⟩ : ByteArray)]) ?_ 0 _ rfl; (with_reducible repeat (first | refine blk_drewN ?_ _ | refine blk_drew ?_ | refine blk_alloc ?_ _)); refine blk_put (cs := #[.int .i64 t322, .int .i64 0, .string (⟨#[]⟩ : ByteArray)]) ?_ 1 _ rfl; (with_reducible repeat (first | refine blk_drewN ?_ _ | refine blk_drew ?_ | refine blk_alloc ?_ _)); refine blk_put (cs := #[.int .i64 0, .int .i64 0, .string (⟨#[]⟩ : ByteArray)]) ?_ 0 _ rfl; (with_reducible repeat (first | refine blk_drewN ?_ _ | refine blk_drew ?_ | refine blk_alloc ?_ _)); exact BK321.out) Try.underlying101 rfl (by kernel_rfl)) rfl ?_
    exact ⟨by first | rfl | (simp [errW_none, errW_some] <;> rfl) | (simp [*, errW_none, errW_some] <;> rfl), by repeat (first | (with_reducible first | exact HB.out | apply below_alloc | apply pw_below_drewN | apply below_drew1 | refine below_set ?_ GE321.out) | exact HB.out)⟩
  ·rw [if_neg c5] at H
   have c5b0 : (t322 == 2) = false := beq_eq_false_iff_ne.mpr c5
   have c5b1 : (t322 != 2) = true := bne_iff_ne.mpr c5
   by_cases c20 : t322 = 3
   ·rw [if_pos c20] at H
    have c20b0 : (t322 == 3) = true := beq_iff_eq.mpr c20
    have c20b1 : (t322 != 3) = false := bne_eq_false_iff_eq.mpr c20
    clear c20
    replace H := Option.bind_eq_some_iff.mp H
    obtain ⟨⟨t329, t330, t331⟩, A210, H⟩ := H
    replace H : (if t331 = 0 then ((value_Check.f t322 t329 (⟨#[]⟩ : ByteArray)).bind fun t332 => (if t332 = 0 then (some (t322, t329, (⟨#[]⟩ : ByteArray), t330, 0)) else (some (0, 0, (⟨#[]⟩ : ByteArray), 0, 3)))) else (some (0, 0, (⟨#[]⟩ : ByteArray), 0, 3))) = some (r1, r2, r3, r4, r5) := H
    have A21 := Aside0.mk A210
    clear A210
    by_cases c22 : t331 = 0
    ·rw [if_pos c22] at H
     have c22b0 : (t331 == 0) = true := beq_iff_eq.mpr c22
     have c22b1 : (t331 != 0) = false := bne_eq_false_iff_eq.mpr c22
     clear c22
     replace H := Option.bind_eq_some_iff.mp H
     obtain ⟨t332, A230, H⟩ := H
     replace H : (if t332 = 0 then (some (t322, t329, (⟨#[]⟩ : ByteArray), t330, 0)) else (some (0, 0, (⟨#[]⟩ : ByteArray), 0, 3))) = some (r1, r2, r3, r4, r5) := H
     have A23 := Aside0.mk A230
     clear A230
     by_cases c24 : t332 = 0
     ·rw [if_pos c24] at H
      have c24b0 : (t332 == 0) = true := beq_iff_eq.mpr c24
      have c24b1 : (t332 != 0) = false := bne_eq_false_iff_eq.mpr c24
      clear c24
      simp only [Option.some.injEq, Prod.mk.injEq] at H
      obtain ⟨rfl, rfl, rfl, rfl, rfl⟩ := H
      go_enter Try.func76, Try.ntmps76
      go_wp2_with (first | ((with_reducible refine gate_dst (N := 4) rfl ?_); refine box_event ?hg (N := 4) ?hd (cs := #[.int .i64 0, .int .i64 0, .string (⟨#[]⟩ : ByteArray)]) (t := 101) ?hr ?_; (case hd => rfl); (case hg => rfl); (case hr => first | (go_simp; done) | (go_simp; rfl)); intro gb321 hg w25 hbox hb; have n0_ := Aside0.mk (below_step (by repeat (first | (with_reducible first | exact HB.out | apply below_alloc | apply pw_below_drewN | apply below_drew1) | exact HB.out)) hb); have n1_ := Aside0.mk (hbox); have n2_ := Aside0.mk ((by rw [hg]; exact (below_size (by repeat (first | (with_reducible first | exact HB.out | apply below_alloc | apply pw_below_drewN | apply below_drew1) | exact HB.out))) : w.heap.size ≤ gb321)); have n3_ := Aside0.mk ((by rw [hg]; exact (below_size (by repeat (first | (with_reducible first | exact HB.out | apply below_alloc | apply pw_below_drewN | apply below_drew1) | exact HB.out))) : w.heap.size ≤ gb321)); clear HB; have HB := n0_; have BK321 := n1_; have GW321 := n2_; have GE321 := n3_; clear n0_ n1_ n2_ n3_; clear hb hbox hg) | ((with_reducible refine gate_callee (f := 51) rfl ?_); refine goesL_ (some 11) rfl rfl Try.func51 (by kernel_rfl) rfl #[.slice A0 l0.length c0, .int .i64 a1, .int .i64 1] rfl (by (try simp only [List.map_toArray, List.map_cons, List.map_nil]); first | done | rfl | (simp only [List.length_drop, List.length_take]; rfl)) ?_; (with_reducible refine (wire_Get.calls k _ _ l0 a1 1 t322 t323 t324 _ ?side1 ?side2 A3.out).mono ?_); (case side1 => repeat (first | exact (Kd.C_below HR0.out HB.out) | (with_reducible refine Kd.C_alloc ?_ _) | (with_reducible refine Kd.C_drewN ?_ _) | (with_reducible refine Kd.C_drew ?_))); (case side2 => exact HC0.out); rintro e w' ⟨rfl, ⟨nd, rfl⟩⟩; refine ⟨_, rfl, ?_⟩; (try (rw [drewN_self w25]; generalize hq_ : World.drewN w25 _ = w25; have n0_ : Aside0 (w25.heap[gb321]? = some (.cells #[.int .i64 0, .int .i64 0, .string (⟨#[]⟩ : ByteArray)] 101 (0, 0))) := ⟨by rw [← hq_]; exact (by (with_reducible repeat (first | refine blk_drewN ?_ _ | refine blk_drew ?_ | refine blk_alloc ?_ _)); exact BK321.out)⟩; have n1_ : Aside0 (Below w.heap.size w w25) := ⟨by rw [← hq_]; exact (by repeat (first | (with_reducible first | exact HB.out | apply below_alloc | apply pw_below_drewN | apply below_drew1 | refine below_set ?_ GE321.out) | exact HB.out))⟩; clear BK321 HB hq_; have BK321 := n0_; have HB := n1_; clear n0_ n1_)); have hcz26 := fun i_ => blk_cell BK321.out i_; have hfz26 := fun i_ => blk_frozen BK321.out i_) | ((with_reducible refine gate_callee (f := 88) rfl ?_); refine goesL_ (some 37) rfl rfl Try.func88 (by kernel_rfl) rfl #[.slice A0 l0.length c0, .int .i64 t323] rfl (by (try simp only [List.map_toArray, List.map_cons, List.map_nil]); first | done | rfl | (simp only [List.length_drop, List.length_take]; rfl)) ?_; (with_reducible refine (wire_GetInt.calls k _ _ l0 t323 t329 t330 t331 _ ?side1 ?side2 A21.out).mono ?_); (case side1 => exact Kd.C_below HR0.out (by repeat (first | (with_reducible first | exact HB.out | apply below_alloc | apply pw_below_drewN | apply below_drew1 | refine below_set ?_ GE321.out) | exact HB.out))); (case side2 => exact HC0.out); rintro e w' ⟨rfl, ⟨nd, rfl⟩⟩; refine ⟨_, rfl, ?_⟩) | (go_at_call 79; (with_reducible refine (value_Check.calls t322 t329 (⟨#[]⟩ : ByteArray) t332 _ A23.out).mono ?_); rintro e w27 ⟨rfl, hb⟩; have n0_ := Aside0.mk (blk_below (g := gb321) (o := .cells #[.int .i64 t322, .int .i64 t329, .string (⟨#[]⟩ : ByteArray)] 101 (0, 0)) (by (with_reducible repeat (first | refine blk_drewN ?_ _ | refine blk_drew ?_ | refine blk_alloc ?_ _)); refine blk_put (cs := #[.int .i64 t322, .int .i64 0, .string (⟨#[]⟩ : ByteArray)]) ?_ 1 _ rfl; (with_reducible repeat (first | refine blk_drewN ?_ _ | refine blk_drew ?_ | refine blk_alloc ?_ _)); refine blk_put (cs := #[.int .i64 0, .int .i64 0, .string (⟨#[]⟩ : ByteArray)]) ?_ 0 _ rfl; (with_reducible repeat (first | refine blk_drewN ?_ _ | refine blk_drew ?_ | refine blk_alloc ?_ _)); exact BK321.out) hb); have n1_ := Aside0.mk (below_step (by repeat (first | (with_reducible first | exact HB.out | apply below_alloc | apply pw_below_drewN | apply below_drew1 | refine below_set ?_ GE321.out) | exact HB.out)) hb); clear BK321; clear HB; have BK321 := n0_; have HB := n1_; clear n0_ n1_; (try clear hb); (try clear hb2); (try clear hk); (try clear hi); have hcz28 := fun i_ => blk_cell BK321.out i_; have hfz28 := fun i_ => blk_frozen BK321.out i_))
      refine bodyPost_ret (results_ctt rfl _ _ gb321 101 #[.int .i64 t322, .int .i64 t329, .string (⟨#[]⟩ : ByteArray)] (0, 0) _ rfl (by (with_reducible repeat (first | refine blk_drewN ?_ _ | refine blk_drew ?_ | refine blk_alloc ?_ _)); refine blk_put (cs := #[.int .i64 t322, .int .i64 t329, .string (⟨#[]⟩ : ByteArray)]) ?_ 2 _ rfl; (with_reducible repeat (first | refine blk_drewN ?_ _ | refine blk_drew ?_ | refine blk_alloc ?_ _)); refine blk_put (cs := #[.int .i64 t322, .int .i64 t329, .string (⟨#[]⟩ : ByteArray)]) ?_ 1 _ rfl; (with_reducible repeat (first | refine blk_drewN ?_ _ | refine blk_drew ?_ | refine blk_alloc ?_ _)); refine blk_put (cs := #[.int .i64 t322, .int .i64 t329, .string (⟨#[]⟩ : ByteArray)]) ?_ 0 _ rfl; (with_reducible repeat (first | refine blk_drewN ?_ _ | refine blk_drew ?_ | refine blk_alloc ?_ _)); exact BK321.out) Try.underlying101 rfl (by kernel_rfl)) rfl ?_
      exact ⟨by first | rfl | (simp [errW_none, errW_some] <;> rfl) | (simp [*, errW_none, errW_some] <;> rfl), by repeat (first | (with_reducible first | exact HB.out | apply below_alloc | apply pw_below_drewN | apply below_drew1 | refine below_set ?_ GE321.out) | exact HB.out)⟩
     ·rw [if_neg c24] at H
      have c24b0 : (t332 == 0) = false := beq_eq_false_iff_ne.mpr c24
      have c24b1 : (t332 != 0) = true := bne_iff_ne.mpr c24
      simp only [Option.some.injEq, Prod.mk.injEq] at H
      obtain ⟨rfl, rfl, rfl, rfl, rfl⟩ := H
      go_enter Try.func76, Try.ntmps76
      go_wp2_with (first | ((with_reducible refine gate_dst (N := 4) rfl ?_); refine box_event ?hg (N := 4) ?hd (cs := #[.int .i64 0, .int .i64 0, .string (⟨#[]⟩ : ByteArray)]) (t := 101) ?hr ?_; (case hd => rfl); (case hg => rfl); (case hr => first | (go_simp; done) | (go_simp; rfl)); intro gb321 hg w29 hbox hb; have n0_ := Aside0.mk (below_step (by repeat (first | (with_reducible first | exact HB.out | apply below_alloc | apply pw_below_drewN | apply below_drew1) | exact HB.out)) hb); have n1_ := Aside0.mk (hbox); have n2_ := Aside0.mk ((by rw [hg]; exact (below_size (by repeat (first | (with_reducible first | exact HB.out | apply below_alloc | apply pw_below_drewN | apply below_drew1) | exact HB.out))) : w.heap.size ≤ gb321)); have n3_ := Aside0.mk ((by rw [hg]; exact (below_size (by repeat (first | (with_reducible first | exact HB.out | apply below_alloc | apply pw_below_drewN | apply below_drew1) | exact HB.out))) : w.heap.size ≤ gb321)); clear HB; have HB := n0_; have BK321 := n1_; have GW321 := n2_; have GE321 := n3_; clear n0_ n1_ n2_ n3_; clear hb hbox hg) | ((with_reducible refine gate_callee (f := 51) rfl ?_); refine goesL_ (some 11) rfl rfl Try.func51 (by kernel_rfl) rfl #[.slice A0 l0.length c0, .int .i64 a1, .int .i64 1] rfl (by (try simp only [List.map_toArray, List.map_cons, List.map_nil]); first | done | rfl | (simp only [List.length_drop, List.length_take]; rfl)) ?_; (with_reducible refine (wire_Get.calls k _ _ l0 a1 1 t322 t323 t324 _ ?side1 ?side2 A3.out).mono ?_); (case side1 => repeat (first | exact (Kd.C_below HR0.out HB.out) | (with_reducible refine Kd.C_alloc ?_ _) | (with_reducible refine Kd.C_drewN ?_ _) | (with_reducible refine Kd.C_drew ?_))); (case side2 => exact HC0.out); rintro e w' ⟨rfl, ⟨nd, rfl⟩⟩; refine ⟨_, rfl, ?_⟩; (try (rw [drewN_self w29]; generalize hq_ : World.drewN w29 _ = w29; have n0_ : Aside0 (w29.heap[gb321]? = some (.cells #[.int .i64 0, .int .i64 0, .string (⟨#[]⟩ : ByteArray)] 101 (0, 0))) := ⟨by rw [← hq_]; exact (by (with_reducible repeat (first | refine blk_drewN ?_ _ | refine blk_drew ?_ | refine blk_alloc ?_ _)); exact BK321.out)⟩; have n1_ : Aside0 (Below w.heap.size w w29) := ⟨by rw [← hq_]; exact (by repeat (first | (with_reducible first | exact HB.out | apply below_alloc | apply pw_below_drewN | apply below_drew1 | refine below_set ?_ GE321.out) | exact HB.out))⟩; clear BK321 HB hq_; have BK321 := n0_; have HB := n1_; clear n0_ n1_)); have hcz30 := fun i_ => blk_cell BK321.out i_; have hfz30 := fun i_ => blk_frozen BK321.out i_) | ((with_reducible refine gate_callee (f := 88) rfl ?_); refine goesL_ (some 37) rfl rfl Try.func88 (by kernel_rfl) rfl #[.slice A0 l0.length c0, .int .i64 t323] rfl (by (try simp only [List.map_toArray, List.map_cons, List.map_nil]); first | done | rfl | (simp only [List.length_drop, List.length_take]; rfl)) ?_; (with_reducible refine (wire_GetInt.calls k _ _ l0 t323 t329 t330 t331 _ ?side1 ?side2 A21.out).mono ?_); (case side1 => exact Kd.C_below HR0.out (by repeat (first | (with_reducible first | exact HB.out | apply below_alloc | apply pw_below_drewN | apply below_drew1 | refine below_set ?_ GE321.out) | exact HB.out))); (case side2 => exact HC0.out); rintro e w' ⟨rfl, ⟨nd, rfl⟩⟩; refine ⟨_, rfl, ?_⟩) | (go_at_call 79; (with_reducible refine (value_Check.calls t322 t329 (⟨#[]⟩ : ByteArray) t332 _ A23.out).mono ?_); rintro e w31 ⟨rfl, hb⟩; have n0_ := Aside0.mk (blk_below (g := gb321) (o := .cells #[.int .i64 t322, .int .i64 t329, .string (⟨#[]⟩ : ByteArray)] 101 (0, 0)) (by (with_reducible repeat (first | refine blk_drewN ?_ _ | refine blk_drew ?_ | refine blk_alloc ?_ _)); refine blk_put (cs := #[.int .i64 t322, .int .i64 0, .string (⟨#[]⟩ : ByteArray)]) ?_ 1 _ rfl; (with_reducible repeat (first | refine blk_drewN ?_ _ | refine blk_drew ?_ | refine blk_alloc ?_ _)); refine blk_put (cs := #[.int .i64 0, .int .i64 0, .string (⟨#[]⟩ : ByteArray)]) ?_ 0 _ rfl; (with_reducible repeat (first | refine blk_drewN ?_ _ | refine blk_drew ?_ | refine blk_alloc ?_ _)); exact BK321.out) hb); have n1_ := Aside0.mk (below_step (by repeat (first | (with_reducible first | exact HB.out | apply below_alloc | apply pw_below_drewN | apply below_drew1 | refine below_set ?_ GE321.out) | exact HB.out)) hb); clear BK321; clear HB; have BK321 := n0_; have HB := n1_; clear n0_ n1_; (try clear hb); (try clear hb2); (try clear hk); (try clear hi); have hcz32 := fun i_ => blk_cell BK321.out i_; have hfz32 := fun i_ => blk_frozen BK321.out i_))
      refine bodyPost_ret (results_ctt rfl _ _ gb321 101 #[.int .i64 0, .int .i64 0, .string (⟨#[]⟩ : ByteArray)] (0, 0) _ rfl (by (with_reducible repeat (first | refine blk_drewN ?_ _ | refine blk_drew ?_ | refine blk_alloc ?_ _)); refine blk_put (cs := #[.int .i64 0, .int .i64 0, .string (⟨#[]⟩ : ByteArray)]) ?_ 2 _ rfl; (with_reducible repeat (first | refine blk_drewN ?_ _ | refine blk_drew ?_ | refine blk_alloc ?_ _)); refine blk_put (cs := #[.int .i64 0, .int .i64 t329, .string (⟨#[]⟩ : ByteArray)]) ?_ 1 _ rfl; (with_reducible repeat (first | refine blk_drewN ?_ _ | refine blk_drew ?_ | refine blk_alloc ?_ _)); refine blk_put (cs := #[.int .i64 t322, .int .i64 t329, .string (⟨#[]⟩ : ByteArray)]) ?_ 0 _ rfl; (with_reducible repeat (first | refine blk_drewN ?_ _ | refine blk_drew ?_ | refine blk_alloc ?_ _)); exact BK321.out) Try.underlying101 rfl (by kernel_rfl)) rfl ?_
      exact ⟨by first | rfl | (simp [errW_none, errW_some] <;> rfl) | (simp [*, errW_none, errW_some] <;> rfl), by repeat (first | (with_reducible first | exact HB.out | apply below_alloc | apply pw_below_drewN | apply below_drew1 | refine below_set ?_ GE321.out) | exact HB.out)⟩
    ·rw [if_neg c22] at H
     have c22b0 : (t331 == 0) = false := beq_eq_false_iff_ne.mpr c22
     have c22b1 : (t331 != 0) = true := bne_iff_ne.mpr c22
     simp only [Option.some.injEq, Prod.mk.injEq] at H
     obtain ⟨rfl, rfl, rfl, rfl, rfl⟩ := H
     go_enter Try.func76, Try.ntmps76
     go_wp2_with (first | ((with_reducible refine gate_dst (N := 4) rfl ?_); refine box_event ?hg (N := 4) ?hd (cs := #[.int .i64 0, .int .i64 0, .string (⟨#[]⟩ : ByteArray)]) (t := 101) ?hr ?_; (case hd => rfl); (case hg => rfl); (case hr => first | (go_simp; done) | (go_simp; rfl)); intro gb321 hg w33 hbox hb; have n0_ := Aside0.mk (below_step (by repeat (first | (with_reducible first | exact HB.out | apply below_alloc | apply pw_below_drewN | apply below_drew1) | exact HB.out)) hb); have n1_ := Aside0.mk (hbox); have n2_ := Aside0.mk ((by rw [hg]; exact (below_size (by repeat (first | (with_reducible first | exact HB.out | apply below_alloc | apply pw_below_drewN | apply below_drew1) | exact HB.out))) : w.heap.size ≤ gb321)); have n3_ := Aside0.mk ((by rw [hg]; exact (below_size (by repeat (first | (with_reducible first | exact HB.out | apply below_alloc | apply pw_below_drewN | apply below_drew1) | exact HB.out))) : w.heap.size ≤ gb321)); clear HB; have HB := n0_; have BK321 := n1_; have GW321 := n2_; have GE321 := n3_; clear n0_ n1_ n2_ n3_; clear hb hbox hg) | ((with_reducible refine gate_callee (f := 51) rfl ?_); refine goesL_ (some 11) rfl rfl Try.func51 (by kernel_rfl) rfl #[.slice A0 l0.length c0, .int .i64 a1, .int .i64 1] rfl (by (try simp only [List.map_toArray, List.map_cons, List.map_nil]); first | done | rfl | (simp only [List.length_drop, List.length_take]; rfl)) ?_; (with_reducible refine (wire_Get.calls k _ _ l0 a1 1 t322 t323 t324 _ ?side1 ?side2 A3.out).mono ?_); (case side1 => repeat (first | exact (Kd.C_below HR0.out HB.out) | (with_reducible refine Kd.C_alloc ?_ _) | (with_reducible refine Kd.C_drewN ?_ _) | (with_reducible refine Kd.C_drew ?_))); (case side2 => exact HC0.out); rintro e w' ⟨rfl, ⟨nd, rfl⟩⟩; refine ⟨_, rfl, ?_⟩; (try (rw [drewN_self w33]; generalize hq_ : World.drewN w33 _ = w33; have n0_ : Aside0 (w33.heap[gb321]? = some (.cells #[.int .i64 0, .int .i64 0, .string (⟨#[]⟩ : ByteArray)] 101 (0, 0))) := ⟨by rw [← hq_]; exact (by (with_reducible repeat (first | refine blk_drewN ?_ _ | refine blk_drew ?_ | refine blk_alloc ?_ _)); exact BK321.out)⟩; have n1_ : Aside0 (Below w.heap.size w w33) := ⟨by rw [← hq_]; exact (by repeat (first | (with_reducible first | exact HB.out | apply below_alloc | apply pw_below_drewN | apply below_drew1 | refine below_set ?_ GE321.out) | exact HB.out))⟩; clear BK321 HB hq_; have BK321 := n0_; have HB := n1_; clear n0_ n1_)); have hcz34 := fun i_ => blk_cell BK321.out i_; have hfz34 := fun i_ => blk_frozen BK321.out i_) | ((with_reducible refine gate_callee (f := 88) rfl ?_); refine goesL_ (some 37) rfl rfl Try.func88 (by kernel_rfl) rfl #[.slice A0 l0.length c0, .int .i64 t323] rfl (by (try simp only [List.map_toArray, List.map_cons, List.map_nil]); first | done | rfl | (simp only [List.length_drop, List.length_take]; rfl)) ?_; (with_reducible refine (wire_GetInt.calls k _ _ l0 t323 t329 t330 t331 _ ?side1 ?side2 A21.out).mono ?_); (case side1 => exact Kd.C_below HR0.out (by repeat (first | (with_reducible first | exact HB.out | apply below_alloc | apply pw_below_drewN | apply below_drew1 | refine below_set ?_ GE321.out) | exact HB.out))); (case side2 => exact HC0.out); rintro e w' ⟨rfl, ⟨nd, rfl⟩⟩; refine ⟨_, rfl, ?_⟩))
     refine bodyPost_ret (results_ctt rfl _ _ gb321 101 #[.int .i64 0, .int .i64 0, .string (⟨#[]⟩ : ByteArray)] (0, 0) _ rfl (by (with_reducible repeat (first | refine blk_drewN ?_ _ | refine blk_drew ?_ | refine blk_alloc ?_ _)); refine blk_put (cs := #[.int .i64 0, .int .i64 0, .string (⟨#[]⟩ : ByteArray)]) ?_ 2 _ rfl; (with_reducible repeat (first | refine blk_drewN ?_ _ | refine blk_drew ?_ | refine blk_alloc ?_ _)); refine blk_put (cs := #[.int .i64 0, .int .i64 t329, .string (⟨#[]⟩ : ByteArray)]) ?_ 1 _ rfl; (with_reducible repeat (first | refine blk_drewN ?_ _ | refine blk_drew ?_ | refine blk_alloc ?_ _)); refine blk_put (cs := #[.int .i64 t322, .int .i64 t329, .string (⟨#[]⟩ : ByteArray)]) ?_ 0 _ rfl; (with_reducible repeat (first | refine blk_drewN ?_ _ | refine blk_drew ?_ | refine blk_alloc ?_ _)); refine blk_put (cs := #[.int .i64 t322, .int .i64 0, .string (⟨#[]⟩ : ByteArray)]) ?_ 1 _ rfl; (with_reducible repeat (first | refine blk_drewN ?_ _ | refine blk_drew ?_ | refine blk_alloc ?_ _)); refine blk_put (cs := #[.int .i64 0, .int .i64 0, .string (⟨#[]⟩ : ByteArray)]) ?_ 0 _ rfl; (with_reducible repeat (first | refine blk_drewN ?_ _ | refine blk_drew ?_ | refine blk_alloc ?_ _)); exact BK321.out) Try.underlying101 rfl (by kernel_rfl)) rfl ?_
     exact ⟨by first | rfl | (simp [errW_none, errW_some] <;> rfl) | (simp [*, errW_none, errW_some] <;> rfl), by repeat (first | (with_reducible first | exact HB.out | apply below_alloc | apply pw_below_drewN | apply below_drew1 | refine below_set ?_ GE321.out) | exact HB.out)⟩
   ·rw [if_neg c20] at H
    have c20b0 : (t322 == 3) = false := beq_eq_false_iff_ne.mpr c20
    have c20b1 : (t322 != 3) = true := bne_iff_ne.mpr c20
    by_cases c35 : t322 = 4
    ·rw [if_pos c35] at H
     have c35b0 : (t322 == 4) = true := beq_iff_eq.mpr c35
     have c35b1 : (t322 != 4) = false := bne_eq_false_iff_eq.mpr c35
     clear c35
     replace H := Option.bind_eq_some_iff.mp H
     obtain ⟨⟨t333, t334, t335⟩, A360, H⟩ := H
     replace H : (if t335 = 0 then ((value_Check.f t322 0 t333).bind fun t336 => (if t336 = 0 then (some (t322, 0, t333, t334, 0)) else (some (0, 0, (⟨#[]⟩ : ByteArray), 0, 3)))) else (some (0, 0, (⟨#[]⟩ : ByteArray), 0, 3))) = some (r1, r2, r3, r4, r5) := H
     have A36 := Aside0.mk A360
     clear A360
     by_cases c37 : t335 = 0
     ·rw [if_pos c37] at H
      have c37b0 : (t335 == 0) = true := beq_iff_eq.mpr c37
      have c37b1 : (t335 != 0) = false := bne_eq_false_iff_eq.mpr c37
      clear c37
      replace H := Option.bind_eq_some_iff.mp H
      obtain ⟨t336, A380, H⟩ := H
      replace H : (if t336 = 0 then (some (t322, 0, t333, t334, 0)) else (some (0, 0, (⟨#[]⟩ : ByteArray), 0, 3))) = some (r1, r2, r3, r4, r5) := H
      have A38 := Aside0.mk A380
      clear A380
      by_cases c39 : t336 = 0
      ·rw [if_pos c39] at H
       have c39b0 : (t336 == 0) = true := beq_iff_eq.mpr c39
       have c39b1 : (t336 != 0) = false := bne_eq_false_iff_eq.mpr c39
       clear c39
       simp only [Option.some.injEq, Prod.mk.injEq] at H
       obtain ⟨rfl, rfl, rfl, rfl, rfl⟩ := H
       go_enter Try.func76, Try.ntmps76
       go_wp2_with (first | ((with_reducible refine gate_dst (N := 4) rfl ?_); refine box_event ?hg (N := 4) ?hd (cs := #[.int .i64 0, .int .i64 0, .string (⟨#[]⟩ : ByteArray)]) (t := 101) ?hr ?_; (case hd => rfl); (case hg => rfl); (case hr => first | (go_simp; done) | (go_simp; rfl)); intro gb321 hg w40 hbox hb; have n0_ := Aside0.mk (below_step (by repeat (first | (with_reducible first | exact HB.out | apply below_alloc | apply pw_below_drewN | apply below_drew1) | exact HB.out)) hb); have n1_ := Aside0.mk (hbox); have n2_ := Aside0.mk ((by rw [hg]; exact (below_size (by repeat (first | (with_reducible first | exact HB.out | apply below_alloc | apply pw_below_drewN | apply below_drew1) | exact HB.out))) : w.heap.size ≤ gb321)); have n3_ := Aside0.mk ((by rw [hg]; exact (below_size (by repeat (first | (with_reducible first | exact HB.out | apply below_alloc | apply pw_below_drewN | apply below_drew1) | exact HB.out))) : w.heap.size ≤ gb321)); clear HB; have HB := n0_; have BK321 := n1_; have GW321 := n2_; have GE321 := n3_; clear n0_ n1_ n2_ n3_; clear hb hbox hg) | ((with_reducible refine gate_callee (f := 51) rfl ?_); refine goesL_ (some 11) rfl rfl Try.func51 (by kernel_rfl) rfl #[.slice A0 l0.length c0, .int .i64 a1, .int .i64 1] rfl (by (try simp only [List.map_toArray, List.map_cons, List.map_nil]); first | done | rfl | (simp only [List.length_drop, List.length_take]; rfl)) ?_; (with_reducible refine (wire_Get.calls k _ _ l0 a1 1 t322 t323 t324 _ ?side1 ?side2 A3.out).mono ?_); (case side1 => repeat (first | exact (Kd.C_below HR0.out HB.out) | (with_reducible refine Kd.C_alloc ?_ _) | (with_reducible refine Kd.C_drewN ?_ _) | (with_reducible refine Kd.C_drew ?_))); (case side2 => exact HC0.out); rintro e w' ⟨rfl, ⟨nd, rfl⟩⟩; refine ⟨_, rfl, ?_⟩; (try (rw [drewN_self w40]; generalize hq_ : World.drewN w40 _ = w40; have n0_ : Aside0 (w40.heap[gb321]? = some (.cells #[.int .i64 0, .int .i64 0, .string (⟨#[]⟩ : ByteArray)] 101 (0, 0))) := ⟨by rw [← hq_]; exact (by (with_reducible repeat (first | refine blk_drewN ?_ _ | refine blk_drew ?_ | refine blk_alloc ?_ _)); exact BK321.out)⟩; have n1_ : Aside0 (Below w.heap.size w w40) := ⟨by rw [← hq_]; exact (by repeat (first | (with_reducible first | exact HB.out | apply below_alloc | apply pw_below_drewN | apply below_drew1 | refine below_set ?_ GE321.out) | exact HB.out))⟩; clear BK321 HB hq_; have BK321 := n0_; have HB := n1_; clear n0_ n1_)); have hcz41 := fun i_ => blk_cell BK321.out i_; have hfz41 := fun i_ => blk_frozen BK321.out i_) | ((with_reducible refine gate_callee (f := 75) rfl ?_); refine goesL_ (some 47) rfl rfl Try.func75 (by kernel_rfl) rfl #[.slice A0 l0.length c0, .int .i64 t323] rfl (by (try simp only [List.map_toArray, List.map_cons, List.map_nil]); first | done | rfl | (simp only [List.length_drop, List.length_take]; rfl)) ?_; (with_reducible refine (wire_GetText.calls k _ _ l0 t323 t333 t334 t335 _ ?side1 ?side2 A36.out).mono ?_); (case side1 => exact Kd.C_below HR0.out (by repeat (first | (with_reducible first | exact HB.out | apply below_alloc | apply pw_below_drewN | apply below_drew1 | refine below_set ?_ GE321.out) | exact HB.out))); (case side2 => exact HC0.out); rintro e w' ⟨rfl, ⟨nd, rfl⟩⟩; refine ⟨_, rfl, ?_⟩) | (go_at_call 79; (with_reducible refine (value_Check.calls t322 0 t333 t336 _ A38.out).mono ?_); rintro e w42 ⟨rfl, hb⟩; have n0_ := Aside0.mk (blk_below (g := gb321) (o := .cells #[.int .i64 t322, .int .i64 0, .string t333] 101 (0, 0)) (by (with_reducible repeat (first | refine blk_drewN ?_ _ | refine blk_drew ?_ | refine blk_alloc ?_ _)); refine blk_put (cs := #[.int .i64 t322, .int .i64 0, .string (⟨#[]⟩ : ByteArray)]) ?_ 2 _ rfl; (with_reducible repeat (first | refine blk_drewN ?_ _ | refine blk_drew ?_ | refine blk_alloc ?_ _)); refine blk_put (cs := #[.int .i64 0, .int .i64 0, .string (⟨#[]⟩ : ByteArray)]) ?_ 0 _ rfl; (with_reducible repeat (first | refine blk_drewN ?_ _ | refine blk_drew ?_ | refine blk_alloc ?_ _)); exact BK321.out) hb); have n1_ := Aside0.mk (below_step (by repeat (first | (with_reducible first | exact HB.out | apply below_alloc | apply pw_below_drewN | apply below_drew1 | refine below_set ?_ GE321.out) | exact HB.out)) hb); clear BK321; clear HB; have BK321 := n0_; have HB := n1_; clear n0_ n1_; (try clear hb); (try clear hb2); (try clear hk); (try clear hi); have hcz43 := fun i_ => blk_cell BK321.out i_; have hfz43 := fun i_ => blk_frozen BK321.out i_))
       refine bodyPost_ret (results_ctt rfl _ _ gb321 101 #[.int .i64 t322, .int .i64 0, .string t333] (0, 0) _ rfl (by (with_reducible repeat (first | refine blk_drewN ?_ _ | refine blk_drew ?_ | refine blk_alloc ?_ _)); refine blk_put (cs := #[.int .i64 t322, .int .i64 0, .string t333]) ?_ 2 _ rfl; (with_reducible repeat (first | refine blk_drewN ?_ _ | refine blk_drew ?_ | refine blk_alloc ?_ _)); refine blk_put (cs := #[.int .i64 t322, .int .i64 0, .string t333]) ?_ 1 _ rfl; (with_reducible repeat (first | refine blk_drewN ?_ _ | refine blk_drew ?_ | refine blk_alloc ?_ _)); refine blk_put (cs := #[.int .i64 t322, .int .i64 0, .string t333]) ?_ 0 _ rfl; (with_reducible repeat (first | refine blk_drewN ?_ _ | refine blk_drew ?_ | refine blk_alloc ?_ _)); exact BK321.out) Try.underlying101 rfl (by kernel_rfl)) rfl ?_
       exact ⟨by first | rfl | (simp [errW_none, errW_some] <;> rfl) | (simp [*, errW_none, errW_some] <;> rfl), by repeat (first | (with_reducible first | exact HB.out | apply below_alloc | apply pw_below_drewN | apply below_drew1 | refine below_set ?_ GE321.out) | exact HB.out)⟩
      ·rw [if_neg c39] at H
       have c39b0 : (t336 == 0) = false := beq_eq_false_iff_ne.mpr c39
       have c39b1 : (t336 != 0) = true := bne_iff_ne.mpr c39
       simp only [Option.some.injEq, Prod.mk.injEq] at H
       obtain ⟨rfl, rfl, rfl, rfl, rfl⟩ := H
       go_enter Try.func76, Try.ntmps76
       go_wp2_with (first | ((with_reducible refine gate_dst (N := 4) rfl ?_); refine box_event ?hg (N := 4) ?hd (cs := #[.int .i64 0, .int .i64 0, .string (⟨#[]⟩ : ByteArray)]) (t := 101) ?hr ?_; (case hd => rfl); (case hg => rfl); (case hr => first | (go_simp; done) | (go_simp; rfl)); intro gb321 hg w44 hbox hb; have n0_ := Aside0.mk (below_step (by repeat (first | (with_reducible first | exact HB.out | apply below_alloc | apply pw_below_drewN | apply below_drew1) | exact HB.out)) hb); have n1_ := Aside0.mk (hbox); have n2_ := Aside0.mk ((by rw [hg]; exact (below_size (by repeat (first | (with_reducible first | exact HB.out | apply below_alloc | apply pw_below_drewN | apply below_drew1) | exact HB.out))) : w.heap.size ≤ gb321)); have n3_ := Aside0.mk ((by rw [hg]; exact (below_size (by repeat (first | (with_reducible first | exact HB.out | apply below_alloc | apply pw_below_drewN | apply below_drew1) | exact HB.out))) : w.heap.size ≤ gb321)); clear HB; have HB := n0_; have BK321 := n1_; have GW321 := n2_; have GE321 := n3_; clear n0_ n1_ n2_ n3_; clear hb hbox hg) | ((with_reducible refine gate_callee (f := 51) rfl ?_); refine goesL_ (some 11) rfl rfl Try.func51 (by kernel_rfl) rfl #[.slice A0 l0.length c0, .int .i64 a1, .int .i64 1] rfl (by (try simp only [List.map_toArray, List.map_cons, List.map_nil]); first | done | rfl | (simp only [List.length_drop, List.length_take]; rfl)) ?_; (with_reducible refine (wire_Get.calls k _ _ l0 a1 1 t322 t323 t324 _ ?side1 ?side2 A3.out).mono ?_); (case side1 => repeat (first | exact (Kd.C_below HR0.out HB.out) | (with_reducible refine Kd.C_alloc ?_ _) | (with_reducible refine Kd.C_drewN ?_ _) | (with_reducible refine Kd.C_drew ?_))); (case side2 => exact HC0.out); rintro e w' ⟨rfl, ⟨nd, rfl⟩⟩; refine ⟨_, rfl, ?_⟩; (try (rw [drewN_self w44]; generalize hq_ : World.drewN w44 _ = w44; have n0_ : Aside0 (w44.heap[gb321]? = some (.cells #[.int .i64 0, .int .i64 0, .string (⟨#[]⟩ : ByteArray)] 101 (0, 0))) := ⟨by rw [← hq_]; exact (by (with_reducible repeat (first | refine blk_drewN ?_ _ | refine blk_drew ?_ | refine blk_alloc ?_ _)); exact BK321.out)⟩; have n1_ : Aside0 (Below w.heap.size w w44) := ⟨by rw [← hq_]; exact (by repeat (first | (with_reducible first | exact HB.out | apply below_alloc | apply pw_below_drewN | apply below_drew1 | refine below_set ?_ GE321.out) | exact HB.out))⟩; clear BK321 HB hq_; have BK321 := n0_; have HB := n1_; clear n0_ n1_)); have hcz45 := fun i_ => blk_cell BK321.out i_; have hfz45 := fun i_ => blk_frozen BK321.out i_) | ((with_reducible refine gate_callee (f := 75) rfl ?_); refine goesL_ (some 47) rfl rfl Try.func75 (by kernel_rfl) rfl #[.slice A0 l0.length c0, .int .i64 t323] rfl (by (try simp only [List.map_toArray, List.map_cons, List.map_nil]); first | done | rfl | (simp only [List.length_drop, List.length_take]; rfl)) ?_; (with_reducible refine (wire_GetText.calls k _ _ l0 t323 t333 t334 t335 _ ?side1 ?side2 A36.out).mono ?_); (case side1 => exact Kd.C_below HR0.out (by repeat (first | (with_reducible first | exact HB.out | apply below_alloc | apply pw_below_drewN | apply below_drew1 | refine below_set ?_ GE321.out) | exact HB.out))); (case side2 => exact HC0.out); rintro e w' ⟨rfl, ⟨nd, rfl⟩⟩; refine ⟨_, rfl, ?_⟩) | (go_at_call 79; (with_reducible refine (value_Check.calls t322 0 t333 t336 _ A38.out).mono ?_); rintro e w46 ⟨rfl, hb⟩; have n0_ := Aside0.mk (blk_below (g := gb321) (o := .cells #[.int .i64 t322, .int .i64 0, .string t333] 101 (0, 0)) (by (with_reducible repeat (first | refine blk_drewN ?_ _ | refine blk_drew ?_ | refine blk_alloc ?_ _)); refine blk_put (cs := #[.int .i64 t322, .int .i64 0, .string (⟨#[]⟩ : ByteArray)]) ?_ 2 _ rfl; (with_reducible repeat (first | refine blk_drewN ?_ _ | refine blk_drew ?_ | refine blk_alloc ?_ _)); refine blk_put (cs := #[.int .i64 0, .int .i64 0, .string (⟨#[]⟩ : ByteArray)]) ?_ 0 _ rfl; (with_reducible repeat (first | refine blk_drewN ?_ _ | refine blk_drew ?_ | refine blk_alloc ?_ _)); exact BK321.out) hb); have n1_ := Aside0.mk (below_step (by repeat (first | (with_reducible first | exact HB.out | apply below_alloc | apply pw_below_drewN | apply below_drew1 | refine below_set ?_ GE321.out) | exact HB.out)) hb); clear BK321; clear HB; have BK321 := n0_; have HB := n1_; clear n0_ n1_; (try clear hb); (try clear hb2); (try clear hk); (try clear hi); have hcz47 := fun i_ => blk_cell BK321.out i_; have hfz47 := fun i_ => blk_frozen BK321.out i_))
       refine bodyPost_ret (results_ctt rfl _ _ gb321 101 #[.int .i64 0, .int .i64 0, .string (⟨#[]⟩ : ByteArray)] (0, 0) _ rfl (by (with_reducible repeat (first | refine blk_drewN ?_ _ | refine blk_drew ?_ | refine blk_alloc ?_ _)); refine blk_put (cs := #[.int .i64 0, .int .i64 0, .string t333]) ?_ 2 _ rfl; (with_reducible repeat (first | refine blk_drewN ?_ _ | refine blk_drew ?_ | refine blk_alloc ?_ _)); refine blk_put (cs := #[.int .i64 0, .int .i64 0, .string t333]) ?_ 1 _ rfl; (with_reducible repeat (first | refine blk_drewN ?_ _ | refine blk_drew ?_ | refine blk_alloc ?_ _)); refine blk_put (cs := #[.int .i64 t322, .int .i64 0, .string t333]) ?_ 0 _ rfl; (with_reducible repeat (first | refine blk_drewN ?_ _ | refine blk_drew ?_ | refine blk_alloc ?_ _)); exact BK321.out) Try.underlying101 rfl (by kernel_rfl)) rfl ?_
       exact ⟨by first | rfl | (simp [errW_none, errW_some] <;> rfl) | (simp [*, errW_none, errW_some] <;> rfl), by repeat (first | (with_reducible first | exact HB.out | apply below_alloc | apply pw_below_drewN | apply below_drew1 | refine below_set ?_ GE321.out) | exact HB.out)⟩
     ·rw [if_neg c37] at H
      have c37b0 : (t335 == 0) = false := beq_eq_false_iff_ne.mpr c37
      have c37b1 : (t335 != 0) = true := bne_iff_ne.mpr c37
      simp only [Option.some.injEq, Prod.mk.injEq] at H
      obtain ⟨rfl, rfl, rfl, rfl, rfl⟩ := H
      go_enter Try.func76, Try.ntmps76
      go_wp2_with (first | ((with_reducible refine gate_dst (N := 4) rfl ?_); refine box_event ?hg (N := 4) ?hd (cs := #[.int .i64 0, .int .i64 0, .string (⟨#[]⟩ : ByteArray)]) (t := 101) ?hr ?_; (case hd => rfl); (case hg => rfl); (case hr => first | (go_simp; done) | (go_simp; rfl)); intro gb321 hg w48 hbox hb; have n0_ := Aside0.mk (below_step (by repeat (first | (with_reducible first | exact HB.out | apply below_alloc | apply pw_below_drewN | apply below_drew1) | exact HB.out)) hb); have n1_ := Aside0.mk (hbox); have n2_ := Aside0.mk ((by rw [hg]; exact (below_size (by repeat (first | (with_reducible first | exact HB.out | apply below_alloc | apply pw_below_drewN | apply below_drew1) | exact HB.out))) : w.heap.size ≤ gb321)); have n3_ := Aside0.mk ((by rw [hg]; exact (below_size (by repeat (first | (with_reducible first | exact HB.out | apply below_alloc | apply pw_below_drewN | apply below_drew1) | exact HB.out))) : w.heap.size ≤ gb321)); clear HB; have HB := n0_; have BK321 := n1_; have GW321 := n2_; have GE321 := n3_; clear n0_ n1_ n2_ n3_; clear hb hbox hg) | ((with_reducible refine gate_callee (f := 51) rfl ?_); refine goesL_ (some 11) rfl rfl Try.func51 (by kernel_rfl) rfl #[.slice A0 l0.length c0, .int .i64 a1, .int .i64 1] rfl (by (try simp only [List.map_toArray, List.map_cons, List.map_nil]); first | done | rfl | (simp only [List.length_drop, List.length_take]; rfl)) ?_; (with_reducible refine (wire_Get.calls k _ _ l0 a1 1 t322 t323 t324 _ ?side1 ?side2 A3.out).mono ?_); (case side1 => repeat (first | exact (Kd.C_below HR0.out HB.out) | (with_reducible refine Kd.C_alloc ?_ _) | (with_reducible refine Kd.C_drewN ?_ _) | (with_reducible refine Kd.C_drew ?_))); (case side2 => exact HC0.out); rintro e w' ⟨rfl, ⟨nd, rfl⟩⟩; refine ⟨_, rfl, ?_⟩; (try (rw [drewN_self w48]; generalize hq_ : World.drewN w48 _ = w48; have n0_ : Aside0 (w48.heap[gb321]? = some (.cells #[.int .i64 0, .int .i64 0, .string (⟨#[]⟩ : ByteArray)] 101 (0, 0))) := ⟨by rw [← hq_]; exact (by (with_reducible repeat (first | refine blk_drewN ?_ _ | refine blk_drew ?_ | refine blk_alloc ?_ _)); exact BK321.out)⟩; have n1_ : Aside0 (Below w.heap.size w w48) := ⟨by rw [← hq_]; exact (by repeat (first | (with_reducible first | exact HB.out | apply below_alloc | apply pw_below_drewN | apply below_drew1 | refine below_set ?_ GE321.out) | exact HB.out))⟩; clear BK321 HB hq_; have BK321 := n0_; have HB := n1_; clear n0_ n1_)); have hcz49 := fun i_ => blk_cell BK321.out i_; have hfz49 := fun i_ => blk_frozen BK321.out i_) | ((with_reducible refine gate_callee (f := 75) rfl ?_); refine goesL_ (some 47) rfl rfl Try.func75 (by kernel_rfl) rfl #[.slice A0 l0.length c0, .int .i64 t323] rfl (by (try simp only [List.map_toArray, List.map_cons, List.map_nil]); first | done | rfl | (simp only [List.length_drop, List.length_take]; rfl)) ?_; (with_reducible refine (wire_GetText.calls k _ _ l0 t323 t333 t334 t335 _ ?side1 ?side2 A36.out).mono ?_); (case side1 => exact Kd.C_below HR0.out (by repeat (first | (with_reducible first | exact HB.out | apply below_alloc | apply pw_below_drewN | apply below_drew1 | refine below_set ?_ GE321.out) | exact HB.out))); (case side2 => exact HC0.out); rintro e w' ⟨rfl, ⟨nd, rfl⟩⟩; refine ⟨_, rfl, ?_⟩))
      refine bodyPost_ret (results_ctt rfl _ _ gb321 101 #[.int .i64 0, .int .i64 0, .string (⟨#[]⟩ : ByteArray)] (0, 0) _ rfl (by (with_reducible repeat (first | refine blk_drewN ?_ _ | refine blk_drew ?_ | refine blk_alloc ?_ _)); refine blk_put (cs := #[.int .i64 0, .int .i64 0, .string t333]) ?_ 2 _ rfl; (with_reducible repeat (first | refine blk_drewN ?_ _ | refine blk_drew ?_ | refine blk_alloc ?_ _)); refine blk_put (cs := #[.int .i64 0, .int .i64 0, .string t333]) ?_ 1 _ rfl; (with_reducible repeat (first | refine blk_drewN ?_ _ | refine blk_drew ?_ | refine blk_alloc ?_ _)); refine blk_put (cs := #[.int .i64 t322, .int .i64 0, .string t333]) ?_ 0 _ rfl; (with_reducible repeat (first | refine blk_drewN ?_ _ | refine blk_drew ?_ | refine blk_alloc ?_ _)); refine blk_put (cs := #[.int .i64 t322, .int .i64 0, .string (⟨#[]⟩ : ByteArray)]) ?_ 2 _ rfl; (with_reducible repeat (first | refine blk_drewN ?_ _ | refine blk_drew ?_ | refine blk_alloc ?_ _)); refine blk_put (cs := #[.int .i64 0, .int .i64 0, .string (⟨#[]⟩ : ByteArray)]) ?_ 0 _ rfl; (with_reducible repeat (first | refine blk_drewN ?_ _ | refine blk_drew ?_ | refine blk_alloc ?_ _)); exact BK321.out) Try.underlying101 rfl (by kernel_rfl)) rfl ?_
      exact ⟨by first | rfl | (simp [errW_none, errW_some] <;> rfl) | (simp [*, errW_none, errW_some] <;> rfl), by repeat (first | (with_reducible first | exact HB.out | apply below_alloc | apply pw_below_drewN | apply below_drew1 | refine below_set ?_ GE321.out) | exact HB.out)⟩
    ·rw [if_neg c35] at H
     have c35b0 : (t322 == 4) = false := beq_eq_false_iff_ne.mpr c35
     have c35b1 : (t322 != 4) = true := bne_iff_ne.mpr c35
     replace H := Option.bind_eq_some_iff.mp H
     obtain ⟨t337, A500, H⟩ := H
     replace H : (if t337 = 0 then (some (t322, 0, (⟨#[]⟩ : ByteArray), t323, 0)) else (some (0, 0, (⟨#[]⟩ : ByteArray), 0, 3))) = some (r1, r2, r3, r4, r5) := H
     have A50 := Aside0.mk A500
     clear A500
     by_cases c51 : t337 = 0
     ·rw [if_pos c51] at H
      have c51b0 : (t337 == 0) = true := beq_iff_eq.mpr c51
      have c51b1 : (t337 != 0) = false := bne_eq_false_iff_eq.mpr c51
      clear c51
      simp only [Option.some.injEq, Prod.mk.injEq] at H
      obtain ⟨rfl, rfl, rfl, rfl, rfl⟩ := H
      go_enter Try.func76, Try.ntmps76
      go_wp2_with (first | ((with_reducible refine gate_dst (N := 4) rfl ?_); refine box_event ?hg (N := 4) ?hd (cs := #[.int .i64 0, .int .i64 0, .string (⟨#[]⟩ : ByteArray)]) (t := 101) ?hr ?_; (case hd => rfl); (case hg => rfl); (case hr => first | (go_simp; done) | (go_simp; rfl)); intro gb321 hg w52 hbox hb; have n0_ := Aside0.mk (below_step (by repeat (first | (with_reducible first | exact HB.out | apply below_alloc | apply pw_below_drewN | apply below_drew1) | exact HB.out)) hb); have n1_ := Aside0.mk (hbox); have n2_ := Aside0.mk ((by rw [hg]; exact (below_size (by repeat (first | (with_reducible first | exact HB.out | apply below_alloc | apply pw_below_drewN | apply below_drew1) | exact HB.out))) : w.heap.size ≤ gb321)); have n3_ := Aside0.mk ((by rw [hg]; exact (below_size (by repeat (first | (with_reducible first | exact HB.out | apply below_alloc | apply pw_below_drewN | apply below_drew1) | exact HB.out))) : w.heap.size ≤ gb321)); clear HB; have HB := n0_; have BK321 := n1_; have GW321 := n2_; have GE321 := n3_; clear n0_ n1_ n2_ n3_; clear hb hbox hg) | ((with_reducible refine gate_callee (f := 51) rfl ?_); refine goesL_ (some 11) rfl rfl Try.func51 (by kernel_rfl) rfl #[.slice A0 l0.length c0, .int .i64 a1, .int .i64 1] rfl (by (try simp only [List.map_toArray, List.map_cons, List.map_nil]); first | done | rfl | (simp only [List.length_drop, List.length_take]; rfl)) ?_; (with_reducible refine (wire_Get.calls k _ _ l0 a1 1 t322 t323 t324 _ ?side1 ?side2 A3.out).mono ?_); (case side1 => repeat (first | exact (Kd.C_below HR0.out HB.out) | (with_reducible refine Kd.C_alloc ?_ _) | (with_reducible refine Kd.C_drewN ?_ _) | (with_reducible refine Kd.C_drew ?_))); (case side2 => exact HC0.out); rintro e w' ⟨rfl, ⟨nd, rfl⟩⟩; refine ⟨_, rfl, ?_⟩; (try (rw [drewN_self w52]; generalize hq_ : World.drewN w52 _ = w52; have n0_ : Aside0 (w52.heap[gb321]? = some (.cells #[.int .i64 0, .int .i64 0, .string (⟨#[]⟩ : ByteArray)] 101 (0, 0))) := ⟨by rw [← hq_]; exact (by (with_reducible repeat (first | refine blk_drewN ?_ _ | refine blk_drew ?_ | refine blk_alloc ?_ _)); exact BK321.out)⟩; have n1_ : Aside0 (Below w.heap.size w w52) := ⟨by rw [← hq_]; exact (by repeat (first | (with_reducible first | exact HB.out | apply below_alloc | apply pw_below_drewN | apply below_drew1 | refine below_set ?_ GE321.out) | exact HB.out))⟩; clear BK321 HB hq_; have BK321 := n0_; have HB := n1_; clear n0_ n1_)); have hcz53 := fun i_ => blk_cell BK321.out i_; have hfz53 := fun i_ => blk_frozen BK321.out i_) | (go_at_call 79; (with_reducible refine (value_Check.calls t322 0 (⟨#[]⟩ : ByteArray) t337 _ A50.out).mono ?_); rintro e w54 ⟨rfl, hb⟩; have n0_ := Aside0.mk (blk_below (g := gb321) (o := .cells #[.int .i64 t322, .int .i64 0, .string (⟨#[]⟩ : ByteArray)] 101 (0, 0)) (by (with_reducible repeat (first | refine blk_drewN ?_ _ | refine blk_drew ?_ | refine blk_alloc ?_ _)); refine blk_put (cs := #[.int .i64 0, .int .i64 0, .string (⟨#[]⟩ : ByteArray)]) ?_ 0 _ rfl; (with_reducible repeat (first | refine blk_drewN ?_ _ | refine blk_drew ?_ | refine blk_alloc ?_ _)); exact BK321.out) hb); have n1_ := Aside0.mk (below_step (by repeat (first | (with_reducible first | exact HB.out | apply below_alloc | apply pw_below_drewN | apply below_drew1 | refine below_set ?_ GE321.out) | exact HB.out)) hb); clear BK321; clear HB; have BK321 := n0_; have HB := n1_; clear n0_ n1_; (try clear hb); (try clear hb2); (try clear hk); (try clear hi); have hcz55 := fun i_ => blk_cell BK321.out i_; have hfz55 := fun i_ => blk_frozen BK321.out i_))
      refine bodyPost_ret (results_ctt rfl _ _ gb321 101 #[.int .i64 t322, .int .i64 0, .string (⟨#[]⟩ : ByteArray)] (0, 0) _ rfl (by (with_reducible repeat (first | refine blk_drewN ?_ _ | refine blk_drew ?_ | refine blk_alloc ?_ _)); refine blk_put (cs := #[.int .i64 t322, .int .i64 0, .string (⟨#[]⟩ : ByteArray)]) ?_ 2 _ rfl; (with_reducible repeat (first | refine blk_drewN ?_ _ | refine blk_drew ?_ | refine blk_alloc ?_ _)); refine blk_put (cs := #[.int .i64 t322, .int .i64 0, .string (⟨#[]⟩ : ByteArray)]) ?_ 1 _ rfl; (with_reducible repeat (first | refine blk_drewN ?_ _ | refine blk_drew ?_ | refine blk_alloc ?_ _)); refine blk_put (cs := #[.int .i64 t322, .int .i64 0, .string (⟨#[]⟩ : ByteArray)]) ?_ 0 _ rfl; (with_reducible repeat (first | refine blk_drewN ?_ _ | refine blk_drew ?_ | refine blk_alloc ?_ _)); exact BK321.out) Try.underlying101 rfl (by kernel_rfl)) rfl ?_
      exact ⟨by first | rfl | (simp [errW_none, errW_some] <;> rfl) | (simp [*, errW_none, errW_some] <;> rfl), by repeat (first | (with_reducible first | exact HB.out | apply below_alloc | apply pw_below_drewN | apply below_drew1 | refine below_set ?_ GE321.out) | exact HB.out)⟩
     ·rw [if_neg c51] at H
      have c51b0 : (t337 == 0) = false := beq_eq_false_iff_ne.mpr c51
      have c51b1 : (t337 != 0) = true := bne_iff_ne.mpr c51
      simp only [Option.some.injEq, Prod.mk.injEq] at H
      obtain ⟨rfl, rfl, rfl, rfl, rfl⟩ := H
      go_enter Try.func76, Try.ntmps76
      go_wp2_with (first | ((with_reducible refine gate_dst (N := 4) rfl ?_); refine box_event ?hg (N := 4) ?hd (cs := #[.int .i64 0, .int .i64 0, .string (⟨#[]⟩ : ByteArray)]) (t := 101) ?hr ?_; (case hd => rfl); (case hg => rfl); (case hr => first | (go_simp; done) | (go_simp; rfl)); intro gb321 hg w56 hbox hb; have n0_ := Aside0.mk (below_step (by repeat (first | (with_reducible first | exact HB.out | apply below_alloc | apply pw_below_drewN | apply below_drew1) | exact HB.out)) hb); have n1_ := Aside0.mk (hbox); have n2_ := Aside0.mk ((by rw [hg]; exact (below_size (by repeat (first | (with_reducible first | exact HB.out | apply below_alloc | apply pw_below_drewN | apply below_drew1) | exact HB.out))) : w.heap.size ≤ gb321)); have n3_ := Aside0.mk ((by rw [hg]; exact (below_size (by repeat (first | (with_reducible first | exact HB.out | apply below_alloc | apply pw_below_drewN | apply below_drew1) | exact HB.out))) : w.heap.size ≤ gb321)); clear HB; have HB := n0_; have BK321 := n1_; have GW321 := n2_; have GE321 := n3_; clear n0_ n1_ n2_ n3_; clear hb hbox hg) | ((with_reducible refine gate_callee (f := 51) rfl ?_); refine goesL_ (some 11) rfl rfl Try.func51 (by kernel_rfl) rfl #[.slice A0 l0.length c0, .int .i64 a1, .int .i64 1] rfl (by (try simp only [List.map_toArray, List.map_cons, List.map_nil]); first | done | rfl | (simp only [List.length_drop, List.length_take]; rfl)) ?_; (with_reducible refine (wire_Get.calls k _ _ l0 a1 1 t322 t323 t324 _ ?side1 ?side2 A3.out).mono ?_); (case side1 => repeat (first | exact (Kd.C_below HR0.out HB.out) | (with_reducible refine Kd.C_alloc ?_ _) | (with_reducible refine Kd.C_drewN ?_ _) | (with_reducible refine Kd.C_drew ?_))); (case side2 => exact HC0.out); rintro e w' ⟨rfl, ⟨nd, rfl⟩⟩; refine ⟨_, rfl, ?_⟩; (try (rw [drewN_self w56]; generalize hq_ : World.drewN w56 _ = w56; have n0_ : Aside0 (w56.heap[gb321]? = some (.cells #[.int .i64 0, .int .i64 0, .string (⟨#[]⟩ : ByteArray)] 101 (0, 0))) := ⟨by rw [← hq_]; exact (by (with_reducible repeat (first | refine blk_drewN ?_ _ | refine blk_drew ?_ | refine blk_alloc ?_ _)); exact BK321.out)⟩; have n1_ : Aside0 (Below w.heap.size w w56) := ⟨by rw [← hq_]; exact (by repeat (first | (with_reducible first | exact HB.out | apply below_alloc | apply pw_below_drewN | apply below_drew1 | refine below_set ?_ GE321.out) | exact HB.out))⟩; clear BK321 HB hq_; have BK321 := n0_; have HB := n1_; clear n0_ n1_)); have hcz57 := fun i_ => blk_cell BK321.out i_; have hfz57 := fun i_ => blk_frozen BK321.out i_) | (go_at_call 79; (with_reducible refine (value_Check.calls t322 0 (⟨#[]⟩ : ByteArray) t337 _ A50.out).mono ?_); rintro e w58 ⟨rfl, hb⟩; have n0_ := Aside0.mk (blk_below (g := gb321) (o := .cells #[.int .i64 t322, .int .i64 0, .string (⟨#[]⟩ : ByteArray)] 101 (0, 0)) (by (with_reducible repeat (first | refine blk_drewN ?_ _ | refine blk_drew ?_ | refine blk_alloc ?_ _)); refine blk_put (cs := #[.int .i64 0, .int .i64 0, .string (⟨#[]⟩ : ByteArray)]) ?_ 0 _ rfl; (with_reducible repeat (first | refine blk_drewN ?_ _ | refine blk_drew ?_ | refine blk_alloc ?_ _)); exact BK321.out) hb); have n1_ := Aside0.mk (below_step (by repeat (first | (with_reducible first | exact HB.out | apply below_alloc | apply pw_below_drewN | apply below_drew1 | refine below_set ?_ GE321.out) | exact HB.out)) hb); clear BK321; clear HB; have BK321 := n0_; have HB := n1_; clear n0_ n1_; (try clear hb); (try clear hb2); (try clear hk); (try clear hi); have hcz59 := fun i_ => blk_cell BK321.out i_; have hfz59 := fun i_ => blk_frozen BK321.out i_))
      refine bodyPost_ret (results_ctt rfl _ _ gb321 101 #[.int .i64 0, .int .i64 0, .string (⟨#[]⟩ : ByteArray)] (0, 0) _ rfl (by (with_reducible repeat (first | refine blk_drewN ?_ _ | refine blk_drew ?_ | refine blk_alloc ?_ _)); refine blk_put (cs := #[.int .i64 0, .int .i64 0, .string (⟨#[]⟩ : ByteArray)]) ?_ 2 _ rfl; (with_reducible repeat (first | refine blk_drewN ?_ _ | refine blk_drew ?_ | refine blk_alloc ?_ _)); refine blk_put (cs := #[.int .i64 0, .int .i64 0, .string (⟨#[]⟩ : ByteArray)]) ?_ 1 _ rfl; (with_reducible repeat (first | refine blk_drewN ?_ _ | refine blk_drew ?_ | refine blk_alloc ?_ _)); refine blk_put (cs := #[.int .i64 t322, .int .i64 0, .string (⟨#[]⟩ : ByteArray)]) ?_ 0 _ rfl; (with_reducible repeat (first | refine blk_drewN ?_ _ | refine blk_drew ?_ | refine blk_alloc ?_ _)); exact BK321.out) Try.underlying101 rfl (by kernel_rfl)) rfl ?_
      exact ⟨by first | rfl | (simp [errW_none, errW_some] <;> rfl) | (simp [*, errW_none, errW_some] <;> rfl), by repeat (first | (with_reducible first | exact HB.out | apply below_alloc | apply pw_below_drewN | apply below_drew1 | refine below_set ?_ GE321.out) | exact HB.out)⟩
 ·rw [if_neg c4] at H
  have c4b0 : (t324 == 0) = false := beq_eq_false_iff_ne.mpr c4
  have c4b1 : (t324 != 0) = true := bne_iff_ne.mpr c4
  simp only [Option.some.injEq, Prod.mk.injEq] at H
  obtain ⟨rfl, rfl, rfl, rfl, rfl⟩ := H
  go_enter Try.func76, Try.ntmps76
  go_wp2_with (first | ((with_reducible refine gate_dst (N := 4) rfl ?_); refine box_event ?hg (N := 4) ?hd (cs := #[.int .i64 0, .int .i64 0, .string (⟨#[]⟩ : ByteArray)]) (t := 101) ?hr ?_; (case hd => rfl); (case hg => rfl); (case hr => first | (go_simp; done) | (go_simp; rfl)); intro gb321 hg w60 hbox hb; have n0_ := Aside0.mk (below_step (by repeat (first | (with_reducible first | exact HB.out | apply below_alloc | apply pw_below_drewN | apply below_drew1) | exact HB.out)) hb); have n1_ := Aside0.mk (hbox); have n2_ := Aside0.mk ((by rw [hg]; exact (below_size (by repeat (first | (with_reducible first | exact HB.out | apply below_alloc | apply pw_below_drewN | apply below_drew1) | exact HB.out))) : w.heap.size ≤ gb321)); have n3_ := Aside0.mk ((by rw [hg]; exact (below_size (by repeat (first | (with_reducible first | exact HB.out | apply below_alloc | apply pw_below_drewN | apply below_drew1) | exact HB.out))) : w.heap.size ≤ gb321)); clear HB; have HB := n0_; have BK321 := n1_; have GW321 := n2_; have GE321 := n3_; clear n0_ n1_ n2_ n3_; clear hb hbox hg) | ((with_reducible refine gate_callee (f := 51) rfl ?_); refine goesL_ (some 11) rfl rfl Try.func51 (by kernel_rfl) rfl #[.slice A0 l0.length c0, .int .i64 a1, .int .i64 1] rfl (by (try simp only [List.map_toArray, List.map_cons, List.map_nil]); first | done | rfl | (simp only [List.length_drop, List.length_take]; rfl)) ?_; (with_reducible refine (wire_Get.calls k _ _ l0 a1 1 t322 t323 t324 _ ?side1 ?side2 A3.out).mono ?_); (case side1 => repeat (first | exact (Kd.C_below HR0.out HB.out) | (with_reducible refine Kd.C_alloc ?_ _) | (with_reducible refine Kd.C_drewN ?_ _) | (with_reducible refine Kd.C_drew ?_))); (case side2 => exact HC0.out); rintro e w' ⟨rfl, ⟨nd, rfl⟩⟩; refine ⟨_, rfl, ?_⟩; (try (rw [drewN_self w60]; generalize hq_ : World.drewN w60 _ = w60; have n0_ : Aside0 (w60.heap[gb321]? = some (.cells #[.int .i64 0, .int .i64 0, .string (⟨#[]⟩ : ByteArray)] 101 (0, 0))) := ⟨by rw [← hq_]; exact (by (with_reducible repeat (first | refine blk_drewN ?_ _ | refine blk_drew ?_ | refine blk_alloc ?_ _)); exact BK321.out)⟩; have n1_ : Aside0 (Below w.heap.size w w60) := ⟨by rw [← hq_]; exact (by repeat (first | (with_reducible first | exact HB.out | apply below_alloc | apply pw_below_drewN | apply below_drew1 | refine below_set ?_ GE321.out) | exact HB.out))⟩; clear BK321 HB hq_; have BK321 := n0_; have HB := n1_; clear n0_ n1_)); have hcz61 := fun i_ => blk_cell BK321.out i_; have hfz61 := fun i_ => blk_frozen BK321.out i_))
  refine bodyPost_ret (results_ctt rfl _ _ gb321 101 #[.int .i64 0, .int .i64 0, .string (⟨#[]⟩ : ByteArray)] (0, 0) _ rfl (by (with_reducible repeat (first | refine blk_drewN ?_ _ | refine blk_drew ?_ | refine blk_alloc ?_ _)); refine blk_put (cs := #[.int .i64 0, .int .i64 0, .string (⟨#[]⟩ : ByteArray)]) ?_ 2 _ rfl; (with_reducible repeat (first | refine blk_drewN ?_ _ | refine blk_drew ?_ | refine blk_alloc ?_ _)); refine blk_put (cs := #[.int .i64 0, .int .i64 0, .string (⟨#[]⟩ : ByteArray)]) ?_ 1 _ rfl; (with_reducible repeat (first | refine blk_drewN ?_ _ | refine blk_drew ?_ | refine blk_alloc ?_ _)); refine blk_put (cs := #[.int .i64 0, .int .i64 0, .string (⟨#[]⟩ : ByteArray)]) ?_ 0 _ rfl; (with_reducible repeat (first | refine blk_drewN ?_ _ | refine blk_drew ?_ | refine blk_alloc ?_ _)); exact BK321.out) Try.underlying101 rfl (by kernel_rfl)) rfl ?_
  exact ⟨by first | rfl | (simp [errW_none, errW_some] <;> rfl) | (simp [*, errW_none, errW_some] <;> rfl), by repeat (first | (with_reducible first | exact HB.out | apply below_alloc | apply pw_below_drewN | apply below_drew1 | refine below_set ?_ GE321.out) | exact HB.out)⟩

/-! ### row_Read: function 56 -/
def row_Read.l0 : Nat → List Int → List (S101) → Int → Int → Int → Option ((List (S101)) × Int × Int)
 | 0, _, _, _, _, _ => none
 | k + 1, x0, x4, x5, x23, x24 => if x24 < x23 then ((value_Read.f k x0 x5).bind fun bt341 => (if bt341.2.2.2.2 = 0 then (if x4.length < 4398046511104 then (row_Read.l0 k x0 (x4 ++ [(⟨bt341.1, bt341.2.1, bt341.2.2.1⟩ : S101)]) bt341.2.2.2.1 x23 (wrap64 (x24 + 1))) else (none)) else (some (([] : List (S101)), 0, 3)))) else (some (x4, x5, 0))
def row_Read.f (k : Nat) (l0 : List Int) (a1 : Int) : Option ((List (S101)) × Int × Int) := (wire_Get.f k l0 a1 1).bind fun bt338 => (if bt338.2.2 = 0 then (if bt338.1 > 12 then (some (([] : List (S101)), 0, 3)) else (row_Read.l0 k l0 ([] : List (S101)) bt338.2.1 bt338.1 0)) else (some (([] : List (S101)), 0, bt338.2.2)))
set_option maxHeartbeats 8000000 in
set_option maxRecDepth 100000 in
theorem row_Read.calls (k : Nat) (A0 : Option Addr) (c0 : Nat) (l0 : List Int) (a1 : Int) (r1 : List (S101)) (r2 : Int) (r3 : Int) (w : World) (hr0 : Kd.C (Kd.int .u8) w A0 l0.length l0) (hc0 : l0.length ≤ c0) (h : row_Read.f k l0 a1 = some (r1, r2, r3)) :
  Calls Try.prog 56 #[.slice A0 l0.length c0, .int .i64 a1] w fun e w' => ∃ v0_ : Value, e = .returned (.tuple #[v0_, .int .i64 r2, .int .i64 r3]) ∧ Kd.R k101 101 w' w.heap.size (fun _ => True) v0_ r1 ∧ Below w.heap.size w w' := by
 have hu101 := Try.underlying101
 have HR0 := Aside0.mk hr0
 have HC0 := Aside0.mk hc0
 clear hr0 hc0
 have HB := Aside0.mk (Below.refl w.heap.size w)
 have H : ((wire_Get.f k l0 a1 1).bind fun bt338 => (if bt338.2.2 = 0 then (if bt338.1 > 12 then (some (([] : List (S101)), 0, 3)) else (row_Read.l0 k l0 ([] : List (S101)) bt338.2.1 bt338.1 0)) else (some (([] : List (S101)), 0, bt338.2.2)))) = some (r1, r2, r3) := h
 clear h
 replace H := Option.bind_eq_some_iff.mp H
 obtain ⟨⟨t338, t339, t340⟩, A30, H⟩ := H
 replace H : (if t340 = 0 then (if t338 > 12 then (some (([] : List (S101)), 0, 3)) else (row_Read.l0 k l0 ([] : List (S101)) t339 t338 0)) else (some (([] : List (S101)), 0, t340))) = some (r1, r2, r3) := H
 have A3 := Aside0.mk A30
 clear A30
 by_cases c4 : t340 = 0
 ·rw [if_pos c4] at H
  have c4b0 : (t340 == 0) = true := beq_iff_eq.mpr c4
  have c4b1 : (t340 != 0) = false := bne_eq_false_iff_eq.mpr c4
  clear c4
  by_cases c5 : t338 > 12
  ·rw [if_pos c5] at H
   have c5b0 : decide (12 < t338) = true := decide_eq_true c5
   clear c5
   simp only [Option.some.injEq, Prod.mk.injEq] at H
   obtain ⟨rfl, rfl, rfl⟩ := H
   go_enter Try.func56, Try.ntmps56
   go_wp2_with (first | ((with_reducible refine gate_callee (f := 51) rfl ?_); refine goesL_ (some 14) rfl rfl Try.func51 (by kernel_rfl) rfl #[.slice A0 l0.length c0, .int .i64 a1, .int .i64 1] rfl (by (try simp only [List.map_toArray, List.map_cons, List.map_nil]); first | done | rfl | (simp only [List.length_drop, List.length_take]; rfl)) ?_; (with_reducible refine (wire_Get.calls k _ _ l0 a1 1 t338 t339 t340 _ ?side1 ?side2 A3.out).mono ?_); (case side1 => repeat (first | exact HR0.out | (with_reducible refine Kd.C_alloc ?_ _) | (with_reducible refine Kd.C_drewN ?_ _) | (with_reducible refine Kd.C_drew ?_))); (case side2 => exact HC0.out); rintro e w' ⟨rfl, ⟨nd, rfl⟩⟩; refine ⟨_, rfl, ?_⟩))
   go_ret3
   exact ⟨_, by first | rfl | (simp [errW_none, errW_some] <;> rfl) | (simp [*, errW_none, errW_some] <;> rfl), by first | exact Kd.R_nil _ _ _ _ _ | exact Kd.N_nil _ _ _ _ _ | exact Kd.V_nil _ _ _ _ _ | exact Kd.Q_nil _ _ _ _ _ | exact Kd.S_nil _ _ _ _ _, by repeat (first | (with_reducible first | exact HB.out | apply below_alloc | apply pw_below_drewN | apply below_drew1) | exact HB.out)⟩
  ·rw [if_neg c5] at H
   have c5b0 : decide (12 < t338) = false := decide_eq_false c5
   clear c5
   have H' := Aside0.mk H
   clear H
   go_enter Try.func56, Try.ntmps56
   go_wp2_with (first | ((with_reducible refine gate_callee (f := 51) rfl ?_); refine goesL_ (some 14) rfl rfl Try.func51 (by kernel_rfl) rfl #[.slice A0 l0.length c0, .int .i64 a1, .int .i64 1] rfl (by (try simp only [List.map_toArray, List.map_cons, List.map_nil]); first | done | rfl | (simp only [List.length_drop, List.length_take]; rfl)) ?_; (with_reducible refine (wire_Get.calls k _ _ l0 a1 1 t338 t339 t340 _ ?side1 ?side2 A3.out).mono ?_); (case side1 => repeat (first | exact HR0.out | (with_reducible refine Kd.C_alloc ?_ _) | (with_reducible refine Kd.C_drewN ?_ _) | (with_reducible refine Kd.C_drew ?_))); (case side2 => exact HC0.out); rintro e w' ⟨rfl, ⟨nd, rfl⟩⟩; refine ⟨_, rfl, ?_⟩))
   go_loopg [4, 5, 24] k (fun kq v4 v5 v24 w' => ∃ (x4_1 : List (S101)) (x5_1 : Int) (x24_1 : Int), v5 = .int .i64 x5_1 ∧ v24 = .int .i64 x24_1 ∧ Aside0 (row_Read.l0 kq l0 x4_1 x5_1 t338 x24_1 = some (r1, r2, r3)) ∧ Aside0 (kq ≤ k) ∧ Aside0 (Kd.R k101 101 w' w.heap.size (fun _ => True) v4 x4_1) ∧ Aside0 (Below w.heap.size w w'))
   case atStart => exact ⟨(([] : List (S101))), (t339), (0), (by first | rfl | (simp; done) | (simp [*]; done)), (by first | rfl | (simp; done) | (simp [*]; done)), H', ⟨Nat.le_refl _⟩, ⟨by first | exact Kd.R_nil _ _ _ _ _ | exact Kd.N_nil _ _ _ _ _ | exact Kd.V_nil _ _ _ _ _ | exact Kd.Q_nil _ _ _ _ _ | exact Kd.S_nil _ _ _ _ _⟩, ⟨by repeat (first | (with_reducible first | exact HB.out | apply below_alloc | apply pw_below_drewN | apply below_drew1) | exact HB.out)⟩⟩
   case round =>
    clear H'
    try clear p2
    try clear c4
    try clear c4b0
    try clear c4b1
    try clear c5
    try clear c5b0
    obtain ⟨x4_1, x5_1, x24_1, rfl, rfl, HA, HK1, HO_4, HB⟩ := hrel
    cases gk with
    | zero => exact absurd HA.out (by simp [row_Read.l0])
    | succ k1 =>
     have H := HA.out
     clear HA
     simp only [row_Read.l0] at H
     by_cases c6 : x24_1 < t338
     ·rw [if_pos c6] at H
      have c6b0 : decide (x24_1 < t338) = true := decide_eq_true c6
      clear c6
      replace H := Option.bind_eq_some_iff.mp H
      obtain ⟨⟨t341, t342, t343, t344, t345⟩, A70, H⟩ := H
      replace H : (if t345 = 0 then (if x4_1.length < 4398046511104 then (row_Read.l0 k1 l0 (x4_1 ++ [(⟨t341, t342, t343⟩ : S101)]) t344 t338 (wrap64 (x24_1 + 1))) else (none)) else (some (([] : List (S101)), 0, 3))) = some (r1, r2, r3) := H
      have A7 := Aside0.mk A70
      clear A70
      by_cases c8 : t345 = 0
      ·rw [if_pos c8] at H
       have c8b0 : (t345 == 0) = true := beq_iff_eq.mpr c8
       have c8b1 : (t345 != 0) = false := bne_eq_false_iff_eq.mpr c8
       clear c8
       by_cases c9 : x4_1.length < 4398046511104
       ·rw [if_pos c9] at H
        have LMc9 := Aside0.mk c9
        clear c9
        obtain ⟨y347, hy347⟩ : ∃ y_ : List (S101), y_ = (x4_1 ++ [(⟨t341, t342, t343⟩ : S101)]) := ⟨_, rfl⟩
        replace H : (row_Read.l0 k1 l0 y347 t344 t338 (wrap64 (x24_1 + 1))) = some (r1, r2, r3) := by first | (rw [hy347]; with_reducible exact H) | (have H2_ := (Option.bind_some _ _).symm.trans H; rw [hy347]; with_reducible exact H2_) | (have H2_ := (Option.bind_some _ _).symm.trans H; with_reducible exact H2_) | with_reducible exact H | (rw [hy347]; exact H) | exact H
        have Ny347 := Aside0.mk hy347
        clear hy347
        have H' := Aside0.mk H
        clear H
        go_wp2_with (first | ((with_reducible refine gate_callee (f := 76) rfl ?_); refine goesL_ (some 29) rfl rfl Try.func76 (by kernel_rfl) rfl #[.slice A0 l0.length c0, .int .i64 x5_1] rfl (by (try simp only [List.map_toArray, List.map_cons, List.map_nil]); first | done | rfl | (simp only [List.length_drop, List.length_take]; rfl)) ?_; (with_reducible refine (value_Read.calls k1 _ _ l0 x5_1 t341 t342 t343 t344 t345 _ ?side1 ?side2 A7.out).mono ?_); (case side1 => repeat (first | exact (Kd.C_below HR0.out HB.out) | (with_reducible refine Kd.C_alloc ?_ _) | (with_reducible refine Kd.C_drewN ?_ _) | (with_reducible refine Kd.C_drew ?_))); (case side2 => exact HC0.out); rintro e w10 ⟨rfl, hb⟩; refine ⟨_, rfl, ?_⟩; have n0_ := Aside0.mk (Kd.R_below (by (with_reducible repeat (first | apply Kd.R_alloc | apply Kd.R_drewN | apply Kd.R_drew)); exact HO_4.out) hb); have n1_ := Aside0.mk (below_step (by repeat (first | (with_reducible first | exact HB.out | apply below_alloc | apply pw_below_drewN | apply below_drew1) | exact HB.out)) hb); clear HO_4; clear HB; have HO_4 := n0_; have HB := n1_; clear n0_ n1_; (try clear hb); (try clear hb2); (try clear hk); (try clear hi)) | ((with_reducible refine gate_dst (N := 8) rfl ?_); refine box_event ?hg (N := 8) ?hd (cs := #[.int .i64 0, .int .i64 0, .string (⟨#[]⟩ : ByteArray)]) (t := 101) ?hr ?_; (case hd => rfl); (case hg => rfl); (case hr => first | (go_simp; done) | (go_simp; rfl)); intro gb346 hg w11 hbox hb; have n0_ := Aside0.mk (Kd.R_below (Kd.R_elderB (by (with_reducible repeat (first | apply Kd.R_alloc | apply Kd.R_drewN | apply Kd.R_drew)); exact HO_4.out) gb346 (Nat.le_of_eq hg.symm)) hb); have n1_ := Aside0.mk (below_step (by repeat (first | (with_reducible first | exact HB.out | apply below_alloc | apply pw_below_drewN | apply below_drew1) | exact HB.out)) hb); have n2_ := Aside0.mk (hbox); have n3_ := Aside0.mk ((by rw [hg]; exact (below_size (by repeat (first | (with_reducible first | exact HB.out | apply below_alloc | apply pw_below_drewN | apply below_drew1) | exact HB.out))) : w.heap.size ≤ gb346)); have n4_ := Aside0.mk ((by rw [hg]; exact (below_size (by repeat (first | (with_reducible first | exact HB.out | apply below_alloc | apply pw_below_drewN | apply below_drew1) | exact HB.out))) : w.heap.size ≤ gb346)); clear HO_4; clear HB; have HO_4 := n0_; have HB := n1_; have BK346 := n2_; have GW346 := n3_; have GE346 := n4_; clear n0_ n1_ n2_ n3_ n4_; clear hb hbox hg; have hcz12 := fun i_ => blk_cell BK346.out i_; have hfz12 := fun i_ => blk_frozen BK346.out i_) | ((with_reducible refine gate_builtin (b := .append) (xs := #[.tmp 35, .tmp 37]) rfl ?_); at_builtin; refine Kd.R_append k101 (w0 := w) w.heap.size rfl (.tmp 35) (.tmp 37) 52 101 (.agg #[(.int .i64 0), (.int .i64 0), (.string ⟨#[]⟩)]) 32 rfl Try.underlying52 info101 rfl (by decide) (by omega) u4 x4_1 (⟨t341, t342, t343⟩ : S101) [.int .i64 t341, .int .i64 t342, .string t343] (fun k_ => k_ ≠ gb346) (fun _ => False) rfl (by first | (go_simp; done) | (go_simp; rfl)) ?aP (fun _ hk => hk.elim) ?aF ?aO ?aB ?aS ?aL ?_; (case aP => exact k101_mkM _ _ _ (⟨t341, t342, t343⟩ : S101)); (case aB => exact (by repeat (first | (with_reducible first | exact HB.out | apply below_alloc | apply pw_below_drewN | apply below_drew1 | refine below_set ?_ GE346.out) | exact HB.out))); (case aF => exact (fun k_ hk => Kd.freshB (g := gb346) (o := .cells #[.int .i64 t341, .int .i64 t342, .string t343] 101 (0, 0)) (by (with_reducible repeat (first | refine blk_drewN ?_ _ | refine blk_drew ?_ | refine blk_alloc ?_ _)); refine blk_put (cs := #[.int .i64 t341, .int .i64 t342, .string (⟨#[]⟩ : ByteArray)]) ?_ 2 _ rfl; (with_reducible repeat (first | refine blk_drewN ?_ _ | refine blk_drew ?_ | refine blk_alloc ?_ _)); refine blk_put (cs := #[.int .i64 t341, .int .i64 0, .string (⟨#[]⟩ : ByteArray)]) ?_ 1 _ rfl; (with_reducible repeat (first | refine blk_drewN ?_ _ | refine blk_drew ?_ | refine blk_alloc ?_ _)); refine blk_put (cs := #[.int .i64 0, .int .i64 0, .string (⟨#[]⟩ : ByteArray)]) ?_ 0 _ rfl; (with_reducible repeat (first | refine blk_drewN ?_ _ | refine blk_drew ?_ | refine blk_alloc ?_ _)); exact BK346.out) k_ hk)); (case aO => exact (by (with_reducible repeat (first | apply Kd.R_alloc | apply Kd.R_drewN | apply Kd.R_drew)); exact Kd.R_mono (Kd.R_far (p := ⟨gb346, 2, none⟩) (Kd.R_far (p := ⟨gb346, 1, none⟩) (Kd.R_far (p := ⟨gb346, 0, none⟩) (Kd.R_mono HO_4.out (fun k_ hk => (⟨hk, hk.2⟩ : _ ∧ k_ ≠ gb346))) (fun _ hk => hk.2) (.int .i64 t341)) (fun _ hk => hk.2) (.int .i64 t342)) (fun _ hk => hk.2) (.string t343)) (fun _ hk => hk.1.2))); (case aS => exact (below_size (by repeat (first | (with_reducible first | exact HB.out | apply below_alloc | apply pw_below_drewN | apply below_drew1 | refine below_set ?_ GE346.out) | exact HB.out)))); (case aL => have := LMc9.out; omega); intro v348 w13 ho hb hg hat; rw [← Ny347.out] at ho; have n0_ := Aside0.mk (blk_grown (g := gb346) (o := .cells #[.int .i64 t341, .int .i64 t342, .string t343] 101 (0, 0)) (by (with_reducible repeat (first | refine blk_drewN ?_ _ | refine blk_drew ?_ | refine blk_alloc ?_ _)); refine blk_put (cs := #[.int .i64 t341, .int .i64 t342, .string (⟨#[]⟩ : ByteArray)]) ?_ 2 _ rfl; (with_reducible repeat (first | refine blk_drewN ?_ _ | refine blk_drew ?_ | refine blk_alloc ?_ _)); refine blk_put (cs := #[.int .i64 t341, .int .i64 0, .string (⟨#[]⟩ : ByteArray)]) ?_ 1 _ rfl; (with_reducible repeat (first | refine blk_drewN ?_ _ | refine blk_drew ?_ | refine blk_alloc ?_ _)); refine blk_put (cs := #[.int .i64 0, .int .i64 0, .string (⟨#[]⟩ : ByteArray)]) ?_ 0 _ rfl; (with_reducible repeat (first | refine blk_drewN ?_ _ | refine blk_drew ?_ | refine blk_alloc ?_ _)); exact BK346.out) hg (Kd.R_away HO_4.out (fun _ hk => hk.2))); have n1_ := Aside0.mk (hb); have n2_ := Aside0.mk (ho); clear BK346; clear HB; clear HO_4; have BK346 := n0_; have HB := n1_; have HO349 := n2_; clear n0_ n1_ n2_; clear ho hb hg hat))
        go_roundg k1
        case measure => have := HK1.out; omega
        case rel => exact ⟨(y347), (t344), (wrap64 (x24_1 + 1)), (by first | rfl | (simp; done) | (simp [*]; done)), (by first | rfl | (simp; done) | (simp [*]; done)), H', ⟨by have := HK1.out; omega⟩, ⟨by (with_reducible repeat (first | apply Kd.R_alloc | apply Kd.R_drewN | apply Kd.R_drew)); exact Kd.R_mono HO349.out (fun _ hk => trivial)⟩, ⟨by repeat (first | (with_reducible first | exact HB.out | apply below_alloc | apply pw_below_drewN | apply below_drew1 | refine below_set ?_ GE346.out) | exact HB.out)⟩⟩
       ·rw [if_neg c9] at H
        exact absurd H (by simp)
      ·rw [if_neg c8] at H
       have c8b0 : (t345 == 0) = false := beq_eq_false_iff_ne.mpr c8
       have c8b1 : (t345 != 0) = true := bne_iff_ne.mpr c8
       simp only [Option.some.injEq, Prod.mk.injEq] at H
       obtain ⟨rfl, rfl, rfl⟩ := H
       go_wp2_with (first | ((with_reducible refine gate_callee (f := 76) rfl ?_); refine goesL_ (some 29) rfl rfl Try.func76 (by kernel_rfl) rfl #[.slice A0 l0.length c0, .int .i64 x5_1] rfl (by (try simp only [List.map_toArray, List.map_cons, List.map_nil]); first | done | rfl | (simp only [List.length_drop, List.length_take]; rfl)) ?_; (with_reducible refine (value_Read.calls k1 _ _ l0 x5_1 t341 t342 t343 t344 t345 _ ?side1 ?side2 A7.out).mono ?_); (case side1 => repeat (first | exact (Kd.C_below HR0.out HB.out) | (with_reducible refine Kd.C_alloc ?_ _) | (with_reducible refine Kd.C_drewN ?_ _) | (with_reducible refine Kd.C_drew ?_))); (case side2 => exact HC0.out); rintro e w14 ⟨rfl, hb⟩; refine ⟨_, rfl, ?_⟩; have n0_ := Aside0.mk (Kd.R_below (by (with_reducible repeat (first | apply Kd.R_alloc | apply Kd.R_drewN | apply Kd.R_drew)); exact HO_4.out) hb); have n1_ := Aside0.mk (below_step (by repeat (first | (with_reducible first | exact HB.out | apply below_alloc | apply pw_below_drewN | apply below_drew1) | exact HB.out)) hb); clear HO_4; clear HB; have HO_4 := n0_; have HB := n1_; clear n0_ n1_; (try clear hb); (try clear hb2); (try clear hk); (try clear hi)) | ((with_reducible refine gate_dst (N := 8) rfl ?_); refine box_event ?hg (N := 8) ?hd (cs := #[.int .i64 0, .int .i64 0, .string (⟨#[]⟩ : ByteArray)]) (t := 101) ?hr ?_; (case hd => rfl); (case hg => rfl); (case hr => first | (go_simp; done) | (go_simp; rfl)); intro gb346 hg w15 hbox hb; have n0_ := Aside0.mk (Kd.R_below (Kd.R_elderB (by (with_reducible repeat (first | apply Kd.R_alloc | apply Kd.R_drewN | apply Kd.R_drew)); exact HO_4.out) gb346 (Nat.le_of_eq hg.symm)) hb); have n1_ := Aside0.mk (below_step (by repeat (first | (with_reducible first | exact HB.out | apply below_alloc | apply pw_below_drewN | apply below_drew1) | exact HB.out)) hb); have n2_ := Aside0.mk (hbox); have n3_ := Aside0.mk ((by rw [hg]; exact (below_size (by repeat (first | (with_reducible first | exact HB.out | apply below_alloc | apply pw_below_drewN | apply below_drew1) | exact HB.out))) : w.heap.size ≤ gb346)); have n4_ := Aside0.mk ((by rw [hg]; exact (below_size (by repeat (first | (with_reducible first | exact HB.out | apply below_alloc | apply pw_below_drewN | apply below_drew1) | exact HB.out))) : w.heap.size ≤ gb346)); clear HO_4; clear HB; have HO_4 := n0_; have HB := n1_; have BK346 := n2_; have GW346 := n3_; have GE346 := n4_; clear n0_ n1_ n2_ n3_ n4_; clear hb hbox hg; have hcz16 := fun i_ => blk_cell BK346.out i_; have hfz16 := fun i_ => blk_frozen BK346.out i_))
       go_ret3
       exact ⟨_, by first | rfl | (simp [errW_none, errW_some] <;> rfl) | (simp [*, errW_none, errW_some] <;> rfl), by first | exact Kd.R_nil _ _ _ _ _ | exact Kd.N_nil _ _ _ _ _ | exact Kd.V_nil _ _ _ _ _ | exact Kd.Q_nil _ _ _ _ _ | exact Kd.S_nil _ _ _ _ _, by repeat (first | (with_reducible first | exact HB.out | apply below_alloc | apply pw_below_drewN | apply below_drew1 | refine below_set ?_ GE346.out) | exact HB.out)⟩
     ·rw [if_neg c6] at H
      have c6b0 : decide (x24_1 < t338) = false := decide_eq_false c6
      clear c6
      simp only [Option.some.injEq, Prod.mk.injEq] at H
      obtain ⟨rfl, rfl, rfl⟩ := H
      go_wp2
      go_ret3
      exact ⟨_, by first | rfl | (simp [errW_none, errW_some] <;> rfl) | (simp [*, errW_none, errW_some] <;> rfl), by (with_reducible repeat (first | apply Kd.R_alloc | apply Kd.R_drewN | apply Kd.R_drew)); exact HO_4.out, by repeat (first | (with_reducible first | exact HB.out | apply below_alloc | apply pw_below_drewN | apply below_drew1) | exact HB.out)⟩
 ·rw [if_neg c4] at H
  have c4b0 : (t340 == 0) = false := beq_eq_false_iff_ne.mpr c4
  have c4b1 : (t340 != 0) = true := bne_iff_ne.mpr c4
  simp only [Option.some.injEq, Prod.mk.injEq] at H
  obtain ⟨rfl, rfl, rfl⟩ := H
  go_enter Try.func56, Try.ntmps56
  go_wp2_with (first | ((with_reducible refine gate_callee (f := 51) rfl ?_); refine goesL_ (some 14) rfl rfl Try.func51 (by kernel_rfl) rfl #[.slice A0 l0.length c0, .int .i64 a1, .int .i64 1] rfl (by (try simp only [List.map_toArray, List.map_cons, List.map_nil]); first | done | rfl | (simp only [List.length_drop, List.length_take]; rfl)) ?_; (with_reducible refine (wire_Get.calls k _ _ l0 a1 1 t338 t339 t340 _ ?side1 ?side2 A3.out).mono ?_); (case side1 => repeat (first | exact HR0.out | (with_reducible refine Kd.C_alloc ?_ _) | (with_reducible refine Kd.C_drewN ?_ _) | (with_reducible refine Kd.C_drew ?_))); (case side2 => exact HC0.out); rintro e w' ⟨rfl, ⟨nd, rfl⟩⟩; refine ⟨_, rfl, ?_⟩))
  go_ret3
  exact ⟨_, by first | rfl | (simp [errW_none, errW_some] <;> rfl) | (simp [*, errW_none, errW_some] <;> rfl), by first | exact Kd.R_nil _ _ _ _ _ | exact Kd.N_nil _ _ _ _ _ | exact Kd.V_nil _ _ _ _ _ | exact Kd.Q_nil _ _ _ _ _ | exact Kd.S_nil _ _ _ _ _, by repeat (first | (with_reducible first | exact HB.out | apply below_alloc | apply pw_below_drewN | apply below_drew1) | exact HB.out)⟩


end Go.Proofs.Ytnbjflcfdncocaa.M

