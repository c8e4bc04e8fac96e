/- The law MsgKinds of the program's messages holds for every input (its row stands in the last of these texts): part 4 of 6. -/
import Derived.Test.YtnbjflcfdncocaaGreatMsgKinds3
import Derived.Test.YtnbjflcfdncocaaGreatMsgKinds2
import Derived.Deep.QuietTactic
import Derived.BigQuiet
import Derived.Deep.RegionHeld3
import Derived.Deep.RegionLaw
namespace Go.Proofs.YtnbjflcfdncocaaGreat.M
open Go.RowKit Go.Proofs.YtnbjflcfdncocaaGreatW.PrintWords Go.Proofs.YtnbjflcfdncocaaGreatW.PrintLast Go.Proofs.YtnbjflcfdncocaaGreatW.PrintMore
abbrev Opr := S52
abbrev Dt := S46
def wdots (l : List Dt) (st : List Int × Bool) : List Int × Bool := l.foldl (fun s d => wdot d.f0 d.f1 s) st
theorem wdots_len : ∀ (l : List Dt) (st : List Int × Bool), (wdots l st).1.length ≤ st.1.length + 5 * l.length
  | [], st => by simp [wdots]
  | d :: l, st => by
    have h1 := wdots_len l (wdot d.f0 d.f1 st)
    have h2 := wdot_len d.f0 d.f1 st
    simp only [wdots, List.foldl_cons, List.length_cons] at h1 ⊢; omega
theorem wdots_take (l : List Dt) (k : Nat) (h : k < l.length) (st : List Int × Bool) : wdots (l.take (k + 1)) st = wdot (l.getD k z46).f0 (l.getD k z46).f1 (wdots (l.take k) st) := by
  unfold wdots
  rw [List.take_succ_eq_append_getElem h, List.foldl_append]
  simp [List.getD_eq_getElem?_getD, h]
def wrow (l : List Val) (st : List Int × Bool) : List Int × Bool := wadd (rowB l) st
theorem wrow_len (l : List Val) (st : List Int × Bool) : (wrow l st).1.length ≤ st.1.length + 320 := by
  have := rowB_length l
  simp only [wrow, wadd, List.length_append]; omega
def wop1 (x : Opr) (st : List Int × Bool) : List Int × Bool := wrow x.f7 (wnum 1 x.f6 (wtext x.f5 (wnum 1 x.f4 (wstamp x.f2.f0 x.f2.f1 x.f2.f2 (wnums x.f1 (wdot x.f0.f0 x.f0.f1 (wnum 1 x.f3 st)))))))
def wop2 (x : Opr) (st : List Int × Bool) : List Int × Bool := wnum 1 (x.f8.length : Int) (wbad (decide ((x.f8.length : Int) > 64)) (wop1 x st))
def wop (x : Opr) (st : List Int × Bool) : List Int × Bool := wdots x.f8 (wop2 x st)
theorem wop1_len (x : Opr) (st : List Int × Bool) : (wop1 x st).1.length ≤ st.1.length + 364 + 4 * x.f1.length := by
  have h1 := wrow_len x.f7 (wnum 1 x.f6 (wtext x.f5 (wnum 1 x.f4 (wstamp x.f2.f0 x.f2.f1 x.f2.f2 (wnums x.f1 (wdot x.f0.f0 x.f0.f1 (wnum 1 x.f3 st)))))))
  have h2 := wnum_len 1 x.f6 (wtext x.f5 (wnum 1 x.f4 (wstamp x.f2.f0 x.f2.f1 x.f2.f2 (wnums x.f1 (wdot x.f0.f0 x.f0.f1 (wnum 1 x.f3 st))))))
  have h3 := wtext_len x.f5 (wnum 1 x.f4 (wstamp x.f2.f0 x.f2.f1 x.f2.f2 (wnums x.f1 (wdot x.f0.f0 x.f0.f1 (wnum 1 x.f3 st)))))
  have h4 := wnum_len 1 x.f4 (wstamp x.f2.f0 x.f2.f1 x.f2.f2 (wnums x.f1 (wdot x.f0.f0 x.f0.f1 (wnum 1 x.f3 st))))
  have h5 := wstamp_len x.f2.f0 x.f2.f1 x.f2.f2 (wnums x.f1 (wdot x.f0.f0 x.f0.f1 (wnum 1 x.f3 st)))
  have h6 := wnums_len x.f1 (wdot x.f0.f0 x.f0.f1 (wnum 1 x.f3 st))
  have h7 := wdot_len x.f0.f0 x.f0.f1 (wnum 1 x.f3 st)
  have h8 := wnum_len 1 x.f3 st
  unfold wop1; omega
theorem wop2_len (x : Opr) (st : List Int × Bool) : (wop2 x st).1.length ≤ st.1.length + 365 + 4 * x.f1.length := by
  have h1 := wnum_len 1 (x.f8.length : Int) (wbad (decide ((x.f8.length : Int) > 64)) (wop1 x st))
  have h2 := wop1_len x st
  have h3 : (wbad (decide ((x.f8.length : Int) > 64)) (wop1 x st)).1 = (wop1 x st).1 := rfl
  rw [h3] at h1
  unfold wop2; omega
theorem wop_len (x : Opr) (st : List Int × Bool) : (wop x st).1.length ≤ st.1.length + 365 + 4 * x.f1.length + 5 * x.f8.length := by
  have h1 := wdots_len x.f8 (wop2 x st)
  have h2 := wop2_len x st
  unfold wop; omega
set_option maxHeartbeats 4000000 in
set_option maxRecDepth 100000 in
theorem W_op (w0 w : World) (g : Nat) (st : List Int × Bool) (h : IsW w0 w g st.1 st.2) (x : Opr) (A2 : Option Addr) (c2 : Nat) (A10 : Option Addr) (c10 : Nat) (A11 : Option Addr) (c11 : Nat)
    (h1 : Kd.C (Kd.int .i64) w0 A2 x.f1.length x.f1) (h2 : Kd.C k92 w0 A10 x.f7.length x.f7) (hc2 : x.f7.length ≤ c10) (h3 : Kd.C k46 w0 A11 x.f8.length x.f8) (hl : st.1.length < 400000000) (hn : x.f1.length < 10000000) (hm : x.f8.length < 10000000) :
    Calls Tryz.prog 30 #[.pointer (some ⟨g, 0, none⟩), .agg #[.int .i64 x.f0.f0, .int .i64 x.f0.f1, .slice A2 x.f1.length c2, .int .i64 x.f2.f0, .int .i64 x.f2.f1, .int .i64 x.f2.f2, .int .i64 x.f3, .int .i64 x.f4, .string x.f5, .int .i64 x.f6, .slice A10 x.f7.length c10, .slice A11 x.f8.length c11]] w fun en w' => en = .returned (.tuple #[]) ∧ IsW w0 w' g (wop x st).1 (wop x st).2 ∧ KeepW w w' := by
  have H := Aside0.mk (h.alloc (.cells #[.int .i64 x.f0.f0, .int .i64 x.f0.f1, .slice A2 x.f1.length c2, .int .i64 x.f2.f0, .int .i64 x.f2.f1, .int .i64 x.f2.f2, .int .i64 x.f3, .int .i64 x.f4, .string x.f5, .int .i64 x.f6, .slice A10 x.f7.length c10, .slice A11 x.f8.length c11] 52))
  have HL := Aside0.mk hl
  have HN := Aside0.mk hn
  have HM := Aside0.mk hm
  have R1 := Aside0.mk h1
  have R2 := Aside0.mk h2
  have R3 := Aside0.mk h3
  have RC2 := Aside0.mk hc2
  have L1 := Aside0.mk (wnum_len 1 x.f3 st)
  have L2 := Aside0.mk (wdot_len x.f0.f0 x.f0.f1 (wnum 1 x.f3 st))
  have L3 := Aside0.mk (wnums_len x.f1 (wdot x.f0.f0 x.f0.f1 (wnum 1 x.f3 st)))
  have L4 := Aside0.mk (wstamp_len x.f2.f0 x.f2.f1 x.f2.f2 (wnums x.f1 (wdot x.f0.f0 x.f0.f1 (wnum 1 x.f3 st))))
  have L5 := Aside0.mk (wnum_len 1 x.f4 (wstamp x.f2.f0 x.f2.f1 x.f2.f2 (wnums x.f1 (wdot x.f0.f0 x.f0.f1 (wnum 1 x.f3 st)))))
  have L6 := Aside0.mk (wtext_len x.f5 (wnum 1 x.f4 (wstamp x.f2.f0 x.f2.f1 x.f2.f2 (wnums x.f1 (wdot x.f0.f0 x.f0.f1 (wnum 1 x.f3 st))))))
  have L7 := Aside0.mk (wnum_len 1 x.f6 (wtext x.f5 (wnum 1 x.f4 (wstamp x.f2.f0 x.f2.f1 x.f2.f2 (wnums x.f1 (wdot x.f0.f0 x.f0.f1 (wnum 1 x.f3 st)))))))
  have K0 := Aside0.mk (KeepW.below (below_alloc (Below.refl _ w) (.cells #[.int .i64 x.f0.f0, .int .i64 x.f0.f1, .slice A2 x.f1.length c2, .int .i64 x.f2.f0, .int .i64 x.f2.f1, .int .i64 x.f2.f2, .int .i64 x.f3, .int .i64 x.f4, .string x.f5, .int .i64 x.f6, .slice A10 x.f7.length c10, .slice A11 x.f8.length c11] 52)))
  have HD := Aside0.mk (heap_alloc_new w (.cells #[.int .i64 x.f0.f0, .int .i64 x.f0.f1, .slice A2 x.f1.length c2, .int .i64 x.f2.f0, .int .i64 x.f2.f1, .int .i64 x.f2.f2, .int .i64 x.f3, .int .i64 x.f4, .string x.f5, .int .i64 x.f6, .slice A10 x.f7.length c10, .slice A11 x.f8.length c11] 52))
  clear h hl hn hm h1 h2 h3 hc2
  go_enter Tryz.func30, Tryz.ntmps30
  go_wp2_with fail
  refine (W_num w0 _ g st H.out x.f3 1 1 rfl (by omega) (by omega) (by have := HL.out; have := HN.out; omega)).mono ?_
  rintro e w1 ⟨rfl, hi, hk⟩
  have H1 := Aside0.mk hi
  have K1 := Aside0.mk (K0.out.trans hk)
  have D1 := Aside0.mk (hk _ _ _ _ HD.out (by decide) (by decide))
  have hc1 := fun i => blk_cell D1.out i
  have hf1 := fun i => blk_frozen D1.out i
  clear hi hk
  go_wp2_with fail
  refine (W_dot w0 _ g (wnum 1 x.f3 st) H1.out x.f0.f0 x.f0.f1 (by have := HL.out; have := HN.out; have := L1.out; omega)).mono ?_
  rintro e w2 ⟨rfl, hi, hk⟩
  have H2 := Aside0.mk hi
  have K2 := Aside0.mk (K1.out.trans hk)
  have D2 := Aside0.mk (hk _ _ _ _ D1.out (by decide) (by decide))
  have hc2 := fun i => blk_cell D2.out i
  have hf2 := fun i => blk_frozen D2.out i
  clear hi hk
  go_wp2_with fail
  refine (W_nums w0 _ g (wdot x.f0.f0 x.f0.f1 (wnum 1 x.f3 st)) H2.out A2 c2 x.f1 R1.out (by have := HL.out; have := HN.out; have := L1.out; have := L2.out; omega) HN.out).mono ?_
  rintro e w3 ⟨rfl, hi, hk⟩
  have H3 := Aside0.mk hi
  have K3 := Aside0.mk (K2.out.trans hk)
  have D3 := Aside0.mk (hk _ _ _ _ D2.out (by decide) (by decide))
  have hc3 := fun i => blk_cell D3.out i
  have hf3 := fun i => blk_frozen D3.out i
  clear hi hk
  go_wp2_with fail
  refine (W_stamp w0 _ g (wnums x.f1 (wdot x.f0.f0 x.f0.f1 (wnum 1 x.f3 st))) H3.out x.f2.f0 x.f2.f1 x.f2.f2 (by have := HL.out; have := HN.out; have := L1.out; have := L2.out; have := L3.out; omega)).mono ?_
  rintro e w4 ⟨rfl, hi, hk⟩
  have H4 := Aside0.mk hi
  have K4 := Aside0.mk (K3.out.trans hk)
  have D4 := Aside0.mk (hk _ _ _ _ D3.out (by decide) (by decide))
  have hc4 := fun i => blk_cell D4.out i
  have hf4 := fun i => blk_frozen D4.out i
  clear hi hk
  go_wp2_with fail
  refine (W_num w0 _ g (wstamp x.f2.f0 x.f2.f1 x.f2.f2 (wnums x.f1 (wdot x.f0.f0 x.f0.f1 (wnum 1 x.f3 st)))) H4.out x.f4 1 1 rfl (by omega) (by omega) (by have := HL.out; have := HN.out; have := L1.out; have := L2.out; have := L3.out; have := L4.out; omega)).mono ?_
  rintro e w5 ⟨rfl, hi, hk⟩
  have H5 := Aside0.mk hi
  have K5 := Aside0.mk (K4.out.trans hk)
  have D5 := Aside0.mk (hk _ _ _ _ D4.out (by decide) (by decide))
  have hc5 := fun i => blk_cell D5.out i
  have hf5 := fun i => blk_frozen D5.out i
  clear hi hk
  go_wp2_with fail
  refine (W_text w0 _ g (wnum 1 x.f4 (wstamp x.f2.f0 x.f2.f1 x.f2.f2 (wnums x.f1 (wdot x.f0.f0 x.f0.f1 (wnum 1 x.f3 st))))) H5.out x.f5 (by have := HL.out; have := HN.out; have := L1.out; have := L2.out; have := L3.out; have := L4.out; have := L5.out; omega)).mono ?_
  rintro e w6 ⟨rfl, hi, hk⟩
  have H6 := Aside0.mk hi
  have K6 := Aside0.mk (K5.out.trans hk)
  have D6 := Aside0.mk (hk _ _ _ _ D5.out (by decide) (by decide))
  have hc6 := fun i => blk_cell D6.out i
  have hf6 := fun i => blk_frozen D6.out i
  clear hi hk
  go_wp2_with fail
  refine (W_num w0 _ g (wtext x.f5 (wnum 1 x.f4 (wstamp x.f2.f0 x.f2.f1 x.f2.f2 (wnums x.f1 (wdot x.f0.f0 x.f0.f1 (wnum 1 x.f3 st)))))) H6.out x.f6 1 1 rfl (by omega) (by omega) (by have := HL.out; have := HN.out; have := L1.out; have := L2.out; have := L3.out; have := L4.out; have := L5.out; have := L6.out; omega)).mono ?_
  rintro e w7 ⟨rfl, hi, hk⟩
  have H7 := Aside0.mk hi
  have K7 := Aside0.mk (K6.out.trans hk)
  have D7 := Aside0.mk (hk _ _ _ _ D6.out (by decide) (by decide))
  have hc7 := fun i => blk_cell D7.out i
  have hf7 := fun i => blk_frozen D7.out i
  clear hi hk
  go_wp2_with fail
  refine (row_Bytes.calls 100 A10 c10 x.f7 (rowB x.f7).1 (rowB x.f7).2 _ (Kd.C_below R2.out H7.out.1) RC2.out (rowBytes_eq x.f7 100 (by omega))).mono ?_
  rintro e w8 ⟨v8, rfl, ho, hb⟩
  obtain ⟨A8, c8, rfl⟩ := Kd.R_slice ho
  have C8 := Aside0.mk (Kd.R_reads' ho).2.2
  have H8 := Aside0.mk (H7.out.below hb)
  have K8 := Aside0.mk (K7.out.trans (KeepW.below hb))
  have D8 := Aside0.mk (KeepW.below hb _ _ _ _ D7.out (by decide) (by decide))
  clear ho hb
  go_wp2_with fail
  refine (W_add w0 _ g (wnum 1 x.f6 (wtext x.f5 (wnum 1 x.f4 (wstamp x.f2.f0 x.f2.f1 x.f2.f2 (wnums x.f1 (wdot x.f0.f0 x.f0.f1 (wnum 1 x.f3 st))))))).1 (wnum 1 x.f6 (wtext x.f5 (wnum 1 x.f4 (wstamp x.f2.f0 x.f2.f1 x.f2.f2 (wnums x.f1 (wdot x.f0.f0 x.f0.f1 (wnum 1 x.f3 st))))))).2 H8.out A8 c8 (rowB x.f7).1 C8.out (rowB x.f7).2 (by have := HL.out; have := HN.out; have := rowB_length x.f7; have := L1.out; have := L2.out; have := L3.out; have := L4.out; have := L5.out; have := L6.out; have := L7.out; omega)).mono ?_
  rintro e w9 ⟨rfl, hi, hk⟩
  have H9 := Aside0.mk (show IsW w0 w9 g (wop1 x st).1 (wop1 x st).2 from hi)
  have K9 := Aside0.mk (K8.out.trans hk)
  have D9 := Aside0.mk (hk _ _ _ _ D8.out (by decide) (by decide))
  clear hi hk
  have LW := Aside0.mk (wop1_len x st)
  have LV := Aside0.mk (wop2_len x st)
  obtain ⟨ST, hST⟩ : ∃ ST, ST = wop1 x st := ⟨_, rfl⟩
  obtain ⟨SU, hSU⟩ : ∃ SU, SU = wop2 x st := ⟨_, rfl⟩
  have E2 := Aside0.mk (show wnum 1 (x.f8.length : Int) (wbad (decide ((x.f8.length : Int) > 64)) ST) = SU from by rw [hST, hSU]; rfl)
  have E3 := Aside0.mk (show wdots x.f8 SU = wop x st from by rw [hSU]; rfl)
  rw [← hST] at H9 LW
  rw [← hSU] at LV
  clear hST hSU
  obtain ⟨B, bad⟩ := ST
  obtain ⟨h0, hg, v, hv, hR⟩ := H9.out
  have hgc : w9.cell? ⟨g, 1, none⟩ = some (.bool bad) := (blk_cell hv 1).trans rfl
  have hgf := blk_frozen hv 1
  obtain ⟨b1, hb1⟩ : ∃ b1, b1 = (bad || decide ((x.f8.length : Int) > 64)) := ⟨_, rfl⟩
  have HX := Aside0.mk (show IsW w0 (w9.setCell ⟨g, 1, none⟩ (.bool b1)) g B b1 from IsW.mk2 (v := v) (below_set h0 hg) hg (blk_set hv 1 (.bool b1)) (R_set_far hR 1 (.bool b1)))
  have KX0 := KeepW.set hv 1 (.bool b1)
  have DX := Aside0.mk (KX0 _ _ _ _ D9.out (by decide) (by decide))
  have KX := Aside0.mk (K9.out.trans KX0)
  have hc9 := fun i => blk_cell D9.out i
  have hcx := fun i => blk_cell DX.out i
  have EX := Aside0.mk (show wnum 1 (x.f8.length : Int) (B, b1) = SU from by rw [← E2.out, hb1]; rfl)
  clear h0 hg hv hR KX0
  have hb2 : bad = true ∨ (bad = false ∧ x.f8.length > 64) ∨ (bad = false ∧ ¬ x.f8.length > 64) := by cases bad <;> by_cases h : x.f8.length > 64 <;> simp_all
  rcases hb2 with rfl | ⟨rfl, h5⟩ | ⟨rfl, h5⟩
  · obtain rfl : b1 = true := by rw [hb1]; rfl
    clear hb1
    go_wp2_with fail
    refine (W_num w0 _ g (B, true) HX.out (x.f8.length : Int) 1 1 rfl (by omega) (by omega) (by have := LW.out; have := HL.out; have := HN.out; simp only at *; omega)).mono ?_
    rintro e wa ⟨rfl, hi, hk⟩
    rw [EX.out] at hi
    have H1 := Aside0.mk hi
    have K1 := Aside0.mk (KX.out.trans hk)
    have DA := Aside0.mk (hk _ _ _ _ DX.out (by decide) (by decide))
    have hca := fun i => blk_cell DA.out i
    clear hi hk
    go_wp2
    go_loopw [62] (fun v wr => ∃ k : Nat, k ≤ x.f8.length ∧ v = .int .i64 k ∧ Aside0 (IsW w0 wr g (wdots (x.f8.take k) SU).1 (wdots (x.f8.take k) SU).2) ∧ Aside0 (KeepW w wr)) (fun v _ => x.f8.length - (intOf v).toNat)
    case atStart => exact ⟨0, by omega, rfl, H1, K1⟩
    case round =>
      obtain ⟨k, hk, rfl, HI, HK⟩ := hrel
      by_cases hlt : k < x.f8.length
      · obtain ⟨ad, e, hd0, hd1⟩ := at_T46 (Kd.C_below R3.out HI.out.1) (k : Int) (by omega) (by omega)
        subst e
        have hrd : rd_T46 x.f8 (k : Int) = x.f8.getD k z46 := by simp [rd_T46]
        rw [Int.toNat_natCast, hrd] at hd0 hd1
        clear hrd
        have HT := Aside0.mk (wdots_take x.f8 k hlt SU)
        have HZ := Aside0.mk (wdots_len (x.f8.take k) SU)
        have HTk := Aside0.mk (List.length_take_le k x.f8)
        obtain ⟨y, hy⟩ : ∃ y, y = x.f8.getD k z46 := ⟨_, rfl⟩
        rw [← hy] at hd0 hd1 HT
        clear hy
        have hkb : x.f8.length < 10000000 := HM.out
        have HI2 := Aside0.mk (HI.out.alloc (.cells #[.int .i64 y.f0, .int .i64 y.f1] 46))
        have KI2 := Aside0.mk (KeepW.below (below_alloc (Below.refl _ wr) (.cells #[.int .i64 y.f0, .int .i64 y.f1] 46)))
        go_wp2_with fail
        refine (W_dot w0 _ g (wdots (x.f8.take k) SU) HI2.out y.f0 y.f1 (by have := HZ.out; have := HTk.out; have := HM.out; have := LV.out; have := HL.out; have := HN.out; omega)).mono ?_
        rintro e w2 ⟨rfl, hi, hk2⟩
        rw [← HT.out] at hi
        have H2 := Aside0.mk hi
        have K2 := Aside0.mk ((HK.out.trans KI2.out).trans hk2)
        clear hi hk2
        go_wp2
        go_roundw
        case rel => exact ⟨k + 1, by omega, by go_num, H2, K2⟩
        case measure => simp [intOf]; omega
      · obtain rfl : k = x.f8.length := by omega
        have HE := Aside0.mk (show wdots (x.f8.take x.f8.length) SU = wop x st from by rw [List.take_length]; exact E3.out)
        rw [HE.out] at HI
        go_wp2
        go_end0
        exact ⟨rfl, HI.out, HK.out⟩
  · have h6 : ((x.f8.length : Int) > 64) := by omega
    obtain rfl : b1 = true := by rw [hb1, decide_eq_true h6]; rfl
    clear hb1
    go_wp2_with fail
    refine (W_num w0 _ g (B, true) HX.out (x.f8.length : Int) 1 1 rfl (by omega) (by omega) (by have := LW.out; have := HL.out; have := HN.out; simp only at *; omega)).mono ?_
    rintro e wa ⟨rfl, hi, hk⟩
    rw [EX.out] at hi
    have H1 := Aside0.mk hi
    have K1 := Aside0.mk (KX.out.trans hk)
    have DA := Aside0.mk (hk _ _ _ _ DX.out (by decide) (by decide))
    have hca := fun i => blk_cell DA.out i
    clear hi hk
    go_wp2
    go_loopw [62] (fun v wr => ∃ k : Nat, k ≤ x.f8.length ∧ v = .int .i64 k ∧ Aside0 (IsW w0 wr g (wdots (x.f8.take k) SU).1 (wdots (x.f8.take k) SU).2) ∧ Aside0 (KeepW w wr)) (fun v _ => x.f8.length - (intOf v).toNat)
    case atStart => exact ⟨0, by omega, rfl, H1, K1⟩
    case round =>
      obtain ⟨k, hk, rfl, HI, HK⟩ := hrel
      by_cases hlt : k < x.f8.length
      · obtain ⟨ad, e, hd0, hd1⟩ := at_T46 (Kd.C_below R3.out HI.out.1) (k : Int) (by omega) (by omega)
        subst e
        have hrd : rd_T46 x.f8 (k : Int) = x.f8.getD k z46 := by simp [rd_T46]
        rw [Int.toNat_natCast, hrd] at hd0 hd1
        clear hrd
        have HT := Aside0.mk (wdots_take x.f8 k hlt SU)
        have HZ := Aside0.mk (wdots_len (x.f8.take k) SU)
        have HTk := Aside0.mk (List.length_take_le k x.f8)
        obtain ⟨y, hy⟩ : ∃ y, y = x.f8.getD k z46 := ⟨_, rfl⟩
        rw [← hy] at hd0 hd1 HT
        clear hy
        have hkb : x.f8.length < 10000000 := HM.out
        have HI2 := Aside0.mk (HI.out.alloc (.cells #[.int .i64 y.f0, .int .i64 y.f1] 46))
        have KI2 := Aside0.mk (KeepW.below (below_alloc (Below.refl _ wr) (.cells #[.int .i64 y.f0, .int .i64 y.f1] 46)))
        go_wp2_with fail
        refine (W_dot w0 _ g (wdots (x.f8.take k) SU) HI2.out y.f0 y.f1 (by have := HZ.out; have := HTk.out; have := HM.out; have := LV.out; have := HL.out; have := HN.out; omega)).mono ?_
        rintro e w2 ⟨rfl, hi, hk2⟩
        rw [← HT.out] at hi
        have H2 := Aside0.mk hi
        have K2 := Aside0.mk ((HK.out.trans KI2.out).trans hk2)
        clear hi hk2
        go_wp2
        go_roundw
        case rel => exact ⟨k + 1, by omega, by go_num, H2, K2⟩
        case measure => simp [intOf]; omega
      · obtain rfl : k = x.f8.length := by omega
        have HE := Aside0.mk (show wdots (x.f8.take x.f8.length) SU = wop x st from by rw [List.take_length]; exact E3.out)
        rw [HE.out] at HI
        go_wp2
        go_end0
        exact ⟨rfl, HI.out, HK.out⟩
  · have h6 : ¬ ((x.f8.length : Int) > 64) := by omega
    obtain rfl : b1 = false := by rw [hb1, decide_eq_false h6]; rfl
    have h7 := decide_eq_false (show ¬ (64 : Int) < (x.f8.length : Int) by omega)
    have h8 := decide_eq_false (show ¬ 64 < x.f8.length by omega)
    clear hb1
    go_wp2_with fail
    refine (W_num w0 _ g (B, false) HX.out (x.f8.length : Int) 1 1 rfl (by omega) (by omega) (by have := LW.out; have := HL.out; have := HN.out; simp only at *; omega)).mono ?_
    rintro e wa ⟨rfl, hi, hk⟩
    rw [EX.out] at hi
    have H1 := Aside0.mk hi
    have K1 := Aside0.mk (KX.out.trans hk)
    have DA := Aside0.mk (hk _ _ _ _ DX.out (by decide) (by decide))
    have hca := fun i => blk_cell DA.out i
    clear hi hk
    go_wp2
    go_loopw [62] (fun v wr => ∃ k : Nat, k ≤ x.f8.length ∧ v = .int .i64 k ∧ Aside0 (IsW w0 wr g (wdots (x.f8.take k) SU).1 (wdots (x.f8.take k) SU).2) ∧ Aside0 (KeepW w wr)) (fun v _ => x.f8.length - (intOf v).toNat)
    case atStart => exact ⟨0, by omega, rfl, H1, K1⟩
    case round =>
      obtain ⟨k, hk, rfl, HI, HK⟩ := hrel
      by_cases hlt : k < x.f8.length
      · obtain ⟨ad, e, hd0, hd1⟩ := at_T46 (Kd.C_below R3.out HI.out.1) (k : Int) (by omega) (by omega)
        subst e
        have hrd : rd_T46 x.f8 (k : Int) = x.f8.getD k z46 := by simp [rd_T46]
        rw [Int.toNat_natCast, hrd] at hd0 hd1
        clear hrd
        have HT := Aside0.mk (wdots_take x.f8 k hlt SU)
        have HZ := Aside0.mk (wdots_len (x.f8.take k) SU)
        have HTk := Aside0.mk (List.length_take_le k x.f8)
        obtain ⟨y, hy⟩ : ∃ y, y = x.f8.getD k z46 := ⟨_, rfl⟩
        rw [← hy] at hd0 hd1 HT
        clear hy
        have hkb : x.f8.length < 10000000 := HM.out
        have HI2 := Aside0.mk (HI.out.alloc (.cells #[.int .i64 y.f0, .int .i64 y.f1] 46))
        have KI2 := Aside0.mk (KeepW.below (below_alloc (Below.refl _ wr) (.cells #[.int .i64 y.f0, .int .i64 y.f1] 46)))
        go_wp2_with fail
        refine (W_dot w0 _ g (wdots (x.f8.take k) SU) HI2.out y.f0 y.f1 (by have := HZ.out; have := HTk.out; have := HM.out; have := LV.out; have := HL.out; have := HN.out; omega)).mono ?_
        rintro e w2 ⟨rfl, hi, hk2⟩
        rw [← HT.out] at hi
        have H2 := Aside0.mk hi
        have K2 := Aside0.mk ((HK.out.trans KI2.out).trans hk2)
        clear hi hk2
        go_wp2
        go_roundw
        case rel => exact ⟨k + 1, by omega, by go_num, H2, K2⟩
        case measure => simp [intOf]; omega
      · obtain rfl : k = x.f8.length := by omega
        have HE := Aside0.mk (show wdots (x.f8.take x.f8.length) SU = wop x st from by rw [List.take_length]; exact E3.out)
        rw [HE.out] at HI
        go_wp2
        go_end0
        exact ⟨rfl, HI.out, HK.out⟩
theorem bad_cases (b : Bool) : b = true ∨ b = false := by cases b <;> simp
set_option maxHeartbeats 4000000 in
set_option maxRecDepth 100000 in
theorem R_num (w0 w : World) (g : Nat) (B rest : List Int) (bad : Bool) (h : IsR w0 w g B rest bad) (z : Int) (s : Nat) (hz : z = (s : Int)) (h1 : 1 ≤ s) (h7 : s ≤ 7) :
    Calls Tryz.prog 44 #[.pointer (some ⟨g, 0, none⟩), .int .i64 z] w fun en w' => en = .returned (.int .i64 (rnum s (rest, bad)).1) ∧ IsR w0 w' g B (rnum s (rest, bad)).2.1 (rnum s (rest, bad)).2.2 ∧ KeepBut w w' g none := by
  subst hz
  obtain ⟨h0, hg, h2, h3, A, c, at_, hv, hC, hc, ha, hd⟩ := h
  have hc0 : w.cell? ⟨g, 0, none⟩ = some (.slice A B.length c) := (blk_cell hv 0).trans rfl
  have hc1 : w.cell? ⟨g, 1, none⟩ = some (.int .i64 (at_ : Int)) := (blk_cell hv 1).trans rfl
  have hc2 : w.cell? ⟨g, 2, none⟩ = some (.bool bad) := (blk_cell hv 2).trans rfl
  have hf1 := blk_frozen hv 1
  have hf2 := blk_frozen hv 2
  have HC := Aside0.mk (Kd.C_below hC h0)
  have HC0 := Aside0.mk hC
  have Hc := Aside0.mk hc
  have HH := Aside0.mk h0
  have Hg := Aside0.mk hg
  have Hb := Aside0.mk h2
  have Hl := Aside0.mk h3
  have Hv := Aside0.mk hv
  have Ha := Aside0.mk ha
  have Hd := Aside0.mk hd
  have H1 := Aside0.mk h1
  have H7 := Aside0.mk h7
  clear h0 hg h2 h3 hv hC hc ha hd h1 h7
  by_cases hs : rest.length < s
  · rcases bad_cases bad with rfl | rfl
    · have HS := Aside0.mk (show rnum s (rest, true) = (0, (rest, true)) from by unfold rnum; rw [if_pos (by simp)])
      go_enter Tryz.func44, Tryz.ntmps44
      go_wp2
      go_quiet ((go_at_call 84; refine Calls.quiet_of (v := .tuple #[.int .i64 0, .int .i64 0, .int .i64 3]) ((wire_Get.calls 100 A c B (at_ : Int) (s : Int) 0 0 3 _ (Kd.C_drewN HC.out _) Hc.out (by rw [Get_eq B rest at_ s Hb.out Hl.out Ha.out Hd.out H1.out H7.out 100 (by omega), if_pos hs])).mono ?_); rintro e w1 ⟨rfl, ⟨m, hm⟩⟩; exact ⟨rfl, m, hm⟩))
      have dr : Below w.heap.size w (w.drewN nq) := pw_below_drewN (Below.refl _ w) nq
      have HH1 := Aside0.mk (below_step HH.out dr)
      have Hv1 := Aside0.mk (blk_below Hv.out dr)
      have hk0 := KeepBut.of_below (row := none) dr g
      have HK1 := Aside0.mk hk0
      clear hk0 dr
      go_wp2
      go_ret
      rw [HS.out]
      exact ⟨rfl, IsR.bad (bad := true) ⟨HH1.out, Hg.out, Hb.out, Hl.out, A, c, at_, Hv1.out, HC0.out, Hc.out, Ha.out, Hd.out⟩, HK1.out.set_ 2 (.bool true)⟩
    · have HS := Aside0.mk (show rnum s (rest, false) = (0, (rest, true)) from by unfold rnum; rw [if_pos (.inr hs)])
      go_enter Tryz.func44, Tryz.ntmps44
      go_wp2
      go_quiet ((go_at_call 84; refine Calls.quiet_of (v := .tuple #[.int .i64 0, .int .i64 0, .int .i64 3]) ((wire_Get.calls 100 A c B (at_ : Int) (s : Int) 0 0 3 _ (Kd.C_drewN HC.out _) Hc.out (by rw [Get_eq B rest at_ s Hb.out Hl.out Ha.out Hd.out H1.out H7.out 100 (by omega), if_pos hs])).mono ?_); rintro e w1 ⟨rfl, ⟨m, hm⟩⟩; exact ⟨rfl, m, hm⟩))
      have dr : Below w.heap.size w (w.drewN nq) := pw_below_drewN (Below.refl _ w) nq
      have HH1 := Aside0.mk (below_step HH.out dr)
      have Hv1 := Aside0.mk (blk_below Hv.out dr)
      have hk0 := KeepBut.of_below (row := none) dr g
      have HK1 := Aside0.mk hk0
      clear hk0 dr
      go_wp2
      go_ret
      rw [HS.out]
      exact ⟨rfl, IsR.bad (bad := false) ⟨HH1.out, Hg.out, Hb.out, Hl.out, A, c, at_, Hv1.out, HC0.out, Hc.out, Ha.out, Hd.out⟩, HK1.out.set_ 2 (.bool true)⟩
  · rcases bad_cases bad with rfl | rfl
    · have HS := Aside0.mk (show rnum s (rest, true) = (0, (rest, true)) from by unfold rnum; rw [if_pos (by simp)])
      go_enter Tryz.func44, Tryz.ntmps44
      go_wp2
      go_quiet ((go_at_call 84; refine Calls.quiet_of (v := .tuple #[.int .i64 (numL (rest.take s)), .int .i64 ((at_ + s : Nat) : Int), .int .i64 0]) ((wire_Get.calls 100 A c B (at_ : Int) (s : Int) (numL (rest.take s)) ((at_ + s : Nat) : Int) 0 _ (Kd.C_drewN HC.out _) Hc.out (by rw [Get_eq B rest at_ s Hb.out Hl.out Ha.out Hd.out H1.out H7.out 100 (by omega), if_neg hs])).mono ?_); rintro e w1 ⟨rfl, ⟨m, hm⟩⟩; exact ⟨rfl, m, hm⟩))
      have dr : Below w.heap.size w (w.drewN nq) := pw_below_drewN (Below.refl _ w) nq
      have HH1 := Aside0.mk (below_step HH.out dr)
      have Hv1 := Aside0.mk (blk_below Hv.out dr)
      have hk0 := KeepBut.of_below (row := none) dr g
      have HK1 := Aside0.mk hk0
      clear hk0 dr
      go_wp2
      go_ret
      rw [HS.out]
      exact ⟨rfl, IsR.bad (bad := true) ⟨HH1.out, Hg.out, Hb.out, Hl.out, A, c, at_, Hv1.out, HC0.out, Hc.out, Ha.out, Hd.out⟩, HK1.out.set_ 2 (.bool true)⟩
    · have HS := Aside0.mk (show rnum s (rest, false) = (numL (rest.take s), (rest.drop s, false)) from by unfold rnum; rw [if_neg (by rintro (h | h); cases h; exact hs h)])
      have HE := Aside0.mk (show at_ + s ≤ B.length ∧ B.drop (at_ + s) = rest.drop s from ⟨by have h5 : rest.length = B.length - at_ := by { rw [← Hd.out]; simp }; have := Ha.out; omega, by rw [← Hd.out, List.drop_drop]⟩)
      go_enter Tryz.func44, Tryz.ntmps44
      go_wp2
      go_quiet ((go_at_call 84; refine Calls.quiet_of (v := .tuple #[.int .i64 (numL (rest.take s)), .int .i64 ((at_ + s : Nat) : Int), .int .i64 0]) ((wire_Get.calls 100 A c B (at_ : Int) (s : Int) (numL (rest.take s)) ((at_ + s : Nat) : Int) 0 _ (Kd.C_drewN HC.out _) Hc.out (by rw [Get_eq B rest at_ s Hb.out Hl.out Ha.out Hd.out H1.out H7.out 100 (by omega), if_neg hs])).mono ?_); rintro e w1 ⟨rfl, ⟨m, hm⟩⟩; exact ⟨rfl, m, hm⟩))
      have dr : Below w.heap.size w (w.drewN nq) := pw_below_drewN (Below.refl _ w) nq
      have HH1 := Aside0.mk (below_step HH.out dr)
      have Hv1 := Aside0.mk (blk_below Hv.out dr)
      have hk0 := KeepBut.of_below (row := none) dr g
      have HK1 := Aside0.mk hk0
      clear hk0 dr
      go_wp2
      go_ret
      rw [HS.out]
      exact ⟨rfl, IsR.go (bad := false) HH1.out Hg.out Hb.out Hl.out Hv1.out HC0.out Hc.out HE.out.1 HE.out.2, HK1.out.set_ 1 _⟩
set_option maxHeartbeats 4000000 in
set_option maxRecDepth 100000 in
theorem R_text (w0 w : World) (g : Nat) (B rest : List Int) (bad : Bool) (h : IsR w0 w g B rest bad) :
    Calls Tryz.prog 88 #[.pointer (some ⟨g, 0, none⟩)] w fun en w' => en = .returned (.string (rtext (rest, bad)).1) ∧ IsR w0 w' g B (rtext (rest, bad)).2.1 (rtext (rest, bad)).2.2 ∧ KeepBut w w' g none := by
  obtain ⟨h0, hg, h2, h3, A, c, at_, hv, hC, hc, ha, hd⟩ := h
  have hc0 : w.cell? ⟨g, 0, none⟩ = some (.slice A B.length c) := (blk_cell hv 0).trans rfl
  have hc1 : w.cell? ⟨g, 1, none⟩ = some (.int .i64 (at_ : Int)) := (blk_cell hv 1).trans rfl
  have hc2 : w.cell? ⟨g, 2, none⟩ = some (.bool bad) := (blk_cell hv 2).trans rfl
  have hf1 := blk_frozen hv 1
  have hf2 := blk_frozen hv 2
  have HC := Aside0.mk (Kd.C_below hC h0)
  have HC0 := Aside0.mk hC
  have Hc := Aside0.mk hc
  have HH := Aside0.mk h0
  have Hg := Aside0.mk hg
  have Hb := Aside0.mk h2
  have Hl := Aside0.mk h3
  have Hv := Aside0.mk hv
  have Ha := Aside0.mk ha
  have Hd := Aside0.mk hd
  clear h0 hg h2 h3 hv hC hc ha hd
  rcases rest with _ | ⟨b, tl⟩
  · rcases bad_cases bad with rfl | rfl
    · have HS := Aside0.mk (show rtext ([], true) = (⟨#[]⟩, ([], true)) from rfl)
      go_enter Tryz.func88, Tryz.ntmps88
      go_wp2
      go_quiet ((go_at_call 115; refine Calls.quiet_of (v := .tuple #[.string ⟨#[]⟩, .int .i64 0, .int .i64 3]) ((wire_GetText.calls 100 A c B (at_ : Int) ⟨#[]⟩ 0 3 _ (Kd.C_drewN HC.out _) Hc.out (GetText_eq B [] at_ Hb.out Hl.out Ha.out Hd.out 100 (by omega))).mono ?_); rintro e w1 ⟨rfl, ⟨m, hm⟩⟩; exact ⟨rfl, m, hm⟩))
      have dr : Below w.heap.size w (w.drewN nq) := pw_below_drewN (Below.refl _ w) nq
      have HH1 := Aside0.mk (below_step HH.out dr)
      have Hv1 := Aside0.mk (blk_below Hv.out dr)
      have hk0 := KeepBut.of_below (row := none) dr g
      have HK1 := Aside0.mk hk0
      clear hk0 dr
      go_wp2
      go_ret
      rw [HS.out]
      exact ⟨rfl, IsR.bad (bad := true) ⟨HH1.out, Hg.out, Hb.out, Hl.out, A, c, at_, Hv1.out, HC0.out, Hc.out, Ha.out, Hd.out⟩, HK1.out.set_ 2 (.bool true)⟩
    · have HS := Aside0.mk (show rtext ([], false) = (⟨#[]⟩, ([], true)) from rfl)
      go_enter Tryz.func88, Tryz.ntmps88
      go_wp2
      go_quiet ((go_at_call 115; refine Calls.quiet_of (v := .tuple #[.string ⟨#[]⟩, .int .i64 0, .int .i64 3]) ((wire_GetText.calls 100 A c B (at_ : Int) ⟨#[]⟩ 0 3 _ (Kd.C_drewN HC.out _) Hc.out (GetText_eq B [] at_ Hb.out Hl.out Ha.out Hd.out 100 (by omega))).mono ?_); rintro e w1 ⟨rfl, ⟨m, hm⟩⟩; exact ⟨rfl, m, hm⟩))
      have dr : Below w.heap.size w (w.drewN nq) := pw_below_drewN (Below.refl _ w) nq
      have HH1 := Aside0.mk (below_step HH.out dr)
      have Hv1 := Aside0.mk (blk_below Hv.out dr)
      have hk0 := KeepBut.of_below (row := none) dr g
      have HK1 := Aside0.mk hk0
      clear hk0 dr
      go_wp2
      go_ret
      rw [HS.out]
      exact ⟨rfl, IsR.bad (bad := false) ⟨HH1.out, Hg.out, Hb.out, Hl.out, A, c, at_, Hv1.out, HC0.out, Hc.out, Ha.out, Hd.out⟩, HK1.out.set_ 2 (.bool true)⟩
  · by_cases hs : b > 24 ∨ (tl.length : Int) < b
    · rcases bad_cases bad with rfl | rfl
      · have HS := Aside0.mk (show rtext (b :: tl, true) = (⟨#[]⟩, (b :: tl, true)) from by unfold rtext; simp only; rw [if_pos (by simp)])
        go_enter Tryz.func88, Tryz.ntmps88
        go_wp2
        go_quiet ((go_at_call 115; refine Calls.quiet_of (v := .tuple #[.string ⟨#[]⟩, .int .i64 0, .int .i64 3]) ((wire_GetText.calls 100 A c B (at_ : Int) ⟨#[]⟩ 0 3 _ (Kd.C_drewN HC.out _) Hc.out (by rw [GetText_eq B (b :: tl) at_ Hb.out Hl.out Ha.out Hd.out 100 (by omega)]; simp only; rw [if_pos hs])).mono ?_); rintro e w1 ⟨rfl, ⟨m, hm⟩⟩; exact ⟨rfl, m, hm⟩))
        have dr : Below w.heap.size w (w.drewN nq) := pw_below_drewN (Below.refl _ w) nq
        have HH1 := Aside0.mk (below_step HH.out dr)
        have Hv1 := Aside0.mk (blk_below Hv.out dr)
        have hk0 := KeepBut.of_below (row := none) dr g
        have HK1 := Aside0.mk hk0
        clear hk0 dr
        go_wp2
        go_ret
        rw [HS.out]
        exact ⟨rfl, IsR.bad (bad := true) ⟨HH1.out, Hg.out, Hb.out, Hl.out, A, c, at_, Hv1.out, HC0.out, Hc.out, Ha.out, Hd.out⟩, HK1.out.set_ 2 (.bool true)⟩
      · have HS := Aside0.mk (show rtext (b :: tl, false) = (⟨#[]⟩, (b :: tl, true)) from by unfold rtext; simp only; rw [if_pos (.inr hs)])
        go_enter Tryz.func88, Tryz.ntmps88
        go_wp2
        go_quiet ((go_at_call 115; refine Calls.quiet_of (v := .tuple #[.string ⟨#[]⟩, .int .i64 0, .int .i64 3]) ((wire_GetText.calls 100 A c B (at_ : Int) ⟨#[]⟩ 0 3 _ (Kd.C_drewN HC.out _) Hc.out (by rw [GetText_eq B (b :: tl) at_ Hb.out Hl.out Ha.out Hd.out 100 (by omega)]; simp only; rw [if_pos hs])).mono ?_); rintro e w1 ⟨rfl, ⟨m, hm⟩⟩; exact ⟨rfl, m, hm⟩))
        have dr : Below w.heap.size w (w.drewN nq) := pw_below_drewN (Below.refl _ w) nq
        have HH1 := Aside0.mk (below_step HH.out dr)
        have Hv1 := Aside0.mk (blk_below Hv.out dr)
        have hk0 := KeepBut.of_below (row := none) dr g
        have HK1 := Aside0.mk hk0
        clear hk0 dr
        go_wp2
        go_ret
        rw [HS.out]
        exact ⟨rfl, IsR.bad (bad := false) ⟨HH1.out, Hg.out, Hb.out, Hl.out, A, c, at_, Hv1.out, HC0.out, Hc.out, Ha.out, Hd.out⟩, HK1.out.set_ 2 (.bool true)⟩
    · rcases bad_cases bad with rfl | rfl
      · have HS := Aside0.mk (show rtext (b :: tl, true) = (⟨#[]⟩, (b :: tl, true)) from by unfold rtext; simp only; rw [if_pos (by simp)])
        have hbb : Byte b := Hb.out b (by have : b ∈ B.drop at_ := by { rw [Hd.out]; simp }; exact List.mem_of_mem_drop this)
        unfold Byte at hbb
        have h5 : tl.length + 1 = B.length - at_ := by have := congrArg List.length Hd.out; simp at this; omega
        have h8 : B.drop (at_ + 1) = tl := by rw [← List.drop_drop, Hd.out]; rfl
        obtain ⟨at1, hat1⟩ : ∃ at1 : Nat, (at_ : Int) + 1 + b = (at1 : Int) := ⟨at_ + 1 + b.toNat, by omega⟩
        have HE := Aside0.mk (show at1 ≤ B.length ∧ B.drop at1 = tl.drop b.toNat from ⟨by have := Ha.out; omega, by rw [show at1 = at_ + 1 + b.toNat from by omega, ← List.drop_drop, h8]⟩)
        have HG := Aside0.mk (show wire_GetText.f 100 B (at_ : Int) = some (strOfNums (tl.take b.toNat), (at1 : Int), 0) from by rw [GetText_eq B (b :: tl) at_ Hb.out Hl.out Ha.out Hd.out 100 (by omega)]; simp only; rw [if_neg hs, hat1])
        clear hbb h5 h8 hat1 hs
        go_enter Tryz.func88, Tryz.ntmps88
        go_wp2
        go_quiet ((go_at_call 115; refine Calls.quiet_of (v := .tuple #[.string (strOfNums (tl.take b.toNat)), .int .i64 (at1 : Int), .int .i64 0]) ((wire_GetText.calls 100 A c B (at_ : Int) (strOfNums (tl.take b.toNat)) (at1 : Int) 0 _ (Kd.C_drewN HC.out _) Hc.out HG.out).mono ?_); rintro e w1 ⟨rfl, ⟨m, hm⟩⟩; exact ⟨rfl, m, hm⟩))
        have dr : Below w.heap.size w (w.drewN nq) := pw_below_drewN (Below.refl _ w) nq
        have HH1 := Aside0.mk (below_step HH.out dr)
        have Hv1 := Aside0.mk (blk_below Hv.out dr)
        have hk0 := KeepBut.of_below (row := none) dr g
        have HK1 := Aside0.mk hk0
        clear hk0 dr
        go_wp2
        go_ret
        rw [HS.out]
        exact ⟨rfl, IsR.bad (bad := true) ⟨HH1.out, Hg.out, Hb.out, Hl.out, A, c, at_, Hv1.out, HC0.out, Hc.out, Ha.out, Hd.out⟩, HK1.out.set_ 2 (.bool true)⟩
      · have HS := Aside0.mk (show rtext (b :: tl, false) = (strOfNums (tl.take b.toNat), (tl.drop b.toNat, false)) from by unfold rtext; simp only; rw [if_neg (by rintro (h | h); cases h; exact hs h)])
        have hbb : Byte b := Hb.out b (by have : b ∈ B.drop at_ := by { rw [Hd.out]; simp }; exact List.mem_of_mem_drop this)
        unfold Byte at hbb
        have h5 : tl.length + 1 = B.length - at_ := by have := congrArg List.length Hd.out; simp at this; omega
        have h8 : B.drop (at_ + 1) = tl := by rw [← List.drop_drop, Hd.out]; rfl
        obtain ⟨at1, hat1⟩ : ∃ at1 : Nat, (at_ : Int) + 1 + b = (at1 : Int) := ⟨at_ + 1 + b.toNat, by omega⟩
        have HE := Aside0.mk (show at1 ≤ B.length ∧ B.drop at1 = tl.drop b.toNat from ⟨by have := Ha.out; omega, by rw [show at1 = at_ + 1 + b.toNat from by omega, ← List.drop_drop, h8]⟩)
        have HG := Aside0.mk (show wire_GetText.f 100 B (at_ : Int) = some (strOfNums (tl.take b.toNat), (at1 : Int), 0) from by rw [GetText_eq B (b :: tl) at_ Hb.out Hl.out Ha.out Hd.out 100 (by omega)]; simp only; rw [if_neg hs, hat1])
        clear hbb h5 h8 hat1 hs
        go_enter Tryz.func88, Tryz.ntmps88
        go_wp2
        go_quiet ((go_at_call 115; refine Calls.quiet_of (v := .tuple #[.string (strOfNums (tl.take b.toNat)), .int .i64 (at1 : Int), .int .i64 0]) ((wire_GetText.calls 100 A c B (at_ : Int) (strOfNums (tl.take b.toNat)) (at1 : Int) 0 _ (Kd.C_drewN HC.out _) Hc.out HG.out).mono ?_); rintro e w1 ⟨rfl, ⟨m, hm⟩⟩; exact ⟨rfl, m, hm⟩))
        have dr : Below w.heap.size w (w.drewN nq) := pw_below_drewN (Below.refl _ w) nq
        have HH1 := Aside0.mk (below_step HH.out dr)
        have Hv1 := Aside0.mk (blk_below Hv.out dr)
        have hk0 := KeepBut.of_below (row := none) dr g
        have HK1 := Aside0.mk hk0
        clear hk0 dr
        go_wp2
        go_ret
        rw [HS.out]
        exact ⟨rfl, IsR.go (bad := false) HH1.out Hg.out Hb.out Hl.out Hv1.out HC0.out Hc.out HE.out.1 HE.out.2, HK1.out.set_ 1 _⟩
def rmany (s : Nat) (m : Int) (st : List Int × Bool) : Int × (List Int × Bool) := if (rnum s st).1 > m then (0, ((rnum s st).2.1, true)) else rnum s st
def rdot (st : List Int × Bool) : Dt × (List Int × Bool) := (⟨(rnum 1 st).1, (rnum 4 (rnum 1 st).2).1⟩, (rnum 4 (rnum 1 st).2).2)
def rstamp (st : List Int × Bool) : S48 × (List Int × Bool) := (⟨(rnum 6 st).1, (rnum 3 (rnum 6 st).2).1, (rnum 1 (rnum 3 (rnum 6 st).2).2).1⟩, (rnum 1 (rnum 3 (rnum 6 st).2).2).2)
theorem keep_then {w w1 w2 : World} {g : Nat} (h : KeepBut w w1 g none) (k : KeepBut w1 w2 g none) : KeepBut w w2 g none := h.trans k (.inl rfl)
set_option maxHeartbeats 4000000 in
set_option maxRecDepth 100000 in
theorem R_many (w0 w : World) (g : Nat) (B rest : List Int) (bad : Bool) (h : IsR w0 w g B rest bad) (z m : Int) (s : Nat) (hz : z = (s : Int)) (h1 : 1 ≤ s) (h7 : s ≤ 7) :
    Calls Tryz.prog 85 #[.pointer (some ⟨g, 0, none⟩), .int .i64 z, .int .i64 m] w fun en w' => en = .returned (.int .i64 (rmany s m (rest, bad)).1) ∧ IsR w0 w' g B (rmany s m (rest, bad)).2.1 (rmany s m (rest, bad)).2.2 ∧ KeepBut w w' g none := by
  have H := Aside0.mk h
  have Hz := Aside0.mk hz
  have H1 := Aside0.mk h1
  have H7 := Aside0.mk h7
  clear h hz h1 h7
  obtain ⟨q, hq⟩ : ∃ q, q = rnum s (rest, bad) := ⟨_, rfl⟩
  have HQ := Aside0.mk hq
  clear hq
  by_cases hm : q.1 > m
  · have HS := Aside0.mk (show rmany s m (rest, bad) = (0, (q.2.1, true)) from by unfold rmany; rw [← HQ.out, if_pos hm])
    go_enter Tryz.func85, Tryz.ntmps85
    go_wp2_with fail
    refine (R_num w0 _ g B rest bad H.out z s Hz.out H1.out H7.out).mono ?_
    rintro e w1 ⟨rfl, hi, hk⟩
    rw [← HQ.out] at hi
    rw [← HQ.out]
    have HI := Aside0.mk hi
    have HK := Aside0.mk hk
    obtain ⟨-, -, -, -, A, c, at_, hv, -⟩ := hi
    have hc2 : w1.cell? ⟨g, 2, none⟩ = some (.bool q.2.2) := (blk_cell hv 2).trans rfl
    have hf2 := blk_frozen hv 2
    clear hk hv
    go_wp2
    go_ret
    rw [HS.out]
    exact ⟨rfl, HI.out.bad, HK.out.set_ 2 (.bool true)⟩
  · have HS := Aside0.mk (show rmany s m (rest, bad) = q from by unfold rmany; rw [← HQ.out, if_neg hm])
    have hm2 := decide_eq_false (show ¬ m < q.1 by omega)
    go_enter Tryz.func85, Tryz.ntmps85
    go_wp2_with fail
    refine (R_num w0 _ g B rest bad H.out z s Hz.out H1.out H7.out).mono ?_
    rintro e w1 ⟨rfl, hi, hk⟩
    rw [← HQ.out] at hi
    rw [← HQ.out]
    have HI := Aside0.mk hi
    have HK := Aside0.mk hk
    clear hi hk
    go_wp2
    go_ret
    rw [HS.out]
    exact ⟨rfl, HI.out, HK.out⟩
set_option maxHeartbeats 4000000 in
set_option maxRecDepth 100000 in
theorem R_dot (w0 w : World) (g : Nat) (B rest : List Int) (bad : Bool) (h : IsR w0 w g B rest bad) :
    Calls Tryz.prog 86 #[.pointer (some ⟨g, 0, none⟩)] w fun en w' => en = .returned (.agg #[.int .i64 (rdot (rest, bad)).1.f0, .int .i64 (rdot (rest, bad)).1.f1]) ∧ IsR w0 w' g B (rdot (rest, bad)).2.1 (rdot (rest, bad)).2.2 ∧ KeepBut w w' g none := by
  have hgl : g < w.heap.size := h.lt
  have hne : w.heap.size ≠ g := by omega
  have H0 := Aside0.mk (h.alloc (.cells #[.int .i64 0, .int .i64 0] 46))
  have K0 := Aside0.mk (keep_alloc (KeepBut.refl w g none) (.cells #[.int .i64 0, .int .i64 0] 46))
  have D0 := Aside0.mk (heap_alloc_new w (.cells #[.int .i64 0, .int .i64 0] 46))
  have HZ := Aside0.mk (below_size h.1)
  have HNE := Aside0.mk hne
  clear h hgl hne
  go_enter Tryz.func86, Tryz.ntmps86
  go_wp2_with fail
  refine (R_num w0 _ g B rest bad H0.out 1 1 rfl (by omega) (by omega)).mono ?_
  rintro e w1 ⟨rfl, hi, hk⟩
  have D1 := Aside0.mk (hk.blk D0.out HNE.out (by simp))
  have H1 := Aside0.mk hi
  have K1 := Aside0.mk (keep_then K0.out hk)
  clear hi hk
  go_wp2_with fail
  refine (R_num w0 _ g B (rnum 1 (rest, bad)).2.1 (rnum 1 (rest, bad)).2.2 H1.out 4 4 rfl (by omega) (by omega)).mono ?_
  rintro e w2 ⟨rfl, hi, hk⟩
  have D2 := Aside0.mk (hk.blk D1.out HNE.out (by simp))
  have H2 := Aside0.mk hi
  have K2 := Aside0.mk (keep_then K1.out hk)
  clear hi hk
  have hcx := fun i => blk_cell D2.out i
  have hfx := fun i => blk_frozen D2.out i
  go_wp2
  refine bodyPost_ret (v := .agg #[.int .i64 (rnum 1 (rest, bad)).1, .int .i64 (rnum 4 (rnum 1 (rest, bad)).2).1]) ?_ rfl ⟨rfl, ((((H2.out).far HNE.out HZ.out 0 (.int .i64 (rnum 1 (rest, bad)).1))).far HNE.out HZ.out 1 (.int .i64 (rnum 4 (rnum 1 (rest, bad)).2).1)), (keep_far ((keep_far (K2.out) (p := ⟨w.heap.size, 0, none⟩) (Nat.le_refl _) (.int .i64 (rnum 1 (rest, bad)).1))) (p := ⟨w.heap.size, 1, none⟩) (Nat.le_refl _) (.int .i64 (rnum 4 (rnum 1 (rest, bad)).2).1))⟩
  exact results_cell_row (p := 2) (ty := 46) rfl _ _ w.heap.size 46 #[.int .i64 (rnum 1 (rest, bad)).1, .int .i64 (rnum 4 (rnum 1 (rest, bad)).2).1] (0, 0) _ rfl (blk_set (blk_set D2.out 0 (.int .i64 (rnum 1 (rest, bad)).1)) 1 (.int .i64 (rnum 4 (rnum 1 (rest, bad)).2).1)) Tryz.underlying46 rfl (by kernel_rfl)
set_option maxHeartbeats 4000000 in
set_option maxRecDepth 100000 in
theorem R_stamp (w0 w : World) (g : Nat) (B rest : List Int) (bad : Bool) (h : IsR w0 w g B rest bad) :
    Calls Tryz.prog 87 #[.pointer (some ⟨g, 0, none⟩)] w fun en w' => en = .returned (.agg #[.int .i64 (rstamp (rest, bad)).1.f0, .int .i64 (rstamp (rest, bad)).1.f1, .int .i64 (rstamp (rest, bad)).1.f2]) ∧ IsR w0 w' g B (rstamp (rest, bad)).2.1 (rstamp (rest, bad)).2.2 ∧ KeepBut w w' g none := by
  have hgl : g < w.heap.size := h.lt
  have hne : w.heap.size ≠ g := by omega
  have H0 := Aside0.mk (h.alloc (.cells #[.int .i64 0, .int .i64 0, .int .i64 0] 48))
  have K0 := Aside0.mk (keep_alloc (KeepBut.refl w g none) (.cells #[.int .i64 0, .int .i64 0, .int .i64 0] 48))
  have D0 := Aside0.mk (heap_alloc_new w (.cells #[.int .i64 0, .int .i64 0, .int .i64 0] 48))
  have HZ := Aside0.mk (below_size h.1)
  have HNE := Aside0.mk hne
  clear h hgl hne
  go_enter Tryz.func87, Tryz.ntmps87
  go_wp2_with fail
  refine (R_num w0 _ g B rest bad H0.out 6 6 rfl (by omega) (by omega)).mono ?_
  rintro e w1 ⟨rfl, hi, hk⟩
  have D1 := Aside0.mk (hk.blk D0.out HNE.out (by simp))
  have H1 := Aside0.mk hi
  have K1 := Aside0.mk (keep_then K0.out hk)
  clear hi hk
  go_wp2_with fail
  refine (R_num w0 _ g B (rnum 6 (rest, bad)).2.1 (rnum 6 (rest, bad)).2.2 H1.out 3 3 rfl (by omega) (by omega)).mono ?_
  rintro e w2 ⟨rfl, hi, hk⟩
  have D2 := Aside0.mk (hk.blk D1.out HNE.out (by simp))
  have H2 := Aside0.mk hi
  have K2 := Aside0.mk (keep_then K1.out hk)
  clear hi hk
  go_wp2_with fail
  refine (R_num w0 _ g B (rnum 3 (rnum 6 (rest, bad)).2).2.1 (rnum 3 (rnum 6 (rest, bad)).2).2.2 H2.out 1 1 rfl (by omega) (by omega)).mono ?_
  rintro e w3 ⟨rfl, hi, hk⟩
  have D3 := Aside0.mk (hk.blk D2.out HNE.out (by simp))
  have H3 := Aside0.mk hi
  have K3 := Aside0.mk (keep_then K2.out hk)
  clear hi hk
  have hcx := fun i => blk_cell D3.out i
  have hfx := fun i => blk_frozen D3.out i
  go_wp2
  refine bodyPost_ret (v := .agg #[.int .i64 (rnum 6 (rest, bad)).1, .int .i64 (rnum 3 (rnum 6 (rest, bad)).2).1, .int .i64 (rnum 1 (rnum 3 (rnum 6 (rest, bad)).2).2).1]) ?_ rfl ⟨rfl, ((((((H3.out).far HNE.out HZ.out 0 (.int .i64 (rnum 6 (rest, bad)).1))).far HNE.out HZ.out 1 (.int .i64 (rnum 3 (rnum 6 (rest, bad)).2).1))).far HNE.out HZ.out 2 (.int .i64 (rnum 1 (rnum 3 (rnum 6 (rest, bad)).2).2).1)), (keep_far ((keep_far ((keep_far (K3.out) (p := ⟨w.heap.size, 0, none⟩) (Nat.le_refl _) (.int .i64 (rnum 6 (rest, bad)).1))) (p := ⟨w.heap.size, 1, none⟩) (Nat.le_refl _) (.int .i64 (rnum 3 (rnum 6 (rest, bad)).2).1))) (p := ⟨w.heap.size, 2, none⟩) (Nat.le_refl _) (.int .i64 (rnum 1 (rnum 3 (rnum 6 (rest, bad)).2).2).1))⟩
  exact results_cell_row (p := 2) (ty := 48) rfl _ _ w.heap.size 48 #[.int .i64 (rnum 6 (rest, bad)).1, .int .i64 (rnum 3 (rnum 6 (rest, bad)).2).1, .int .i64 (rnum 1 (rnum 3 (rnum 6 (rest, bad)).2).2).1] (0, 0) _ rfl (blk_set (blk_set (blk_set D3.out 0 (.int .i64 (rnum 6 (rest, bad)).1)) 1 (.int .i64 (rnum 3 (rnum 6 (rest, bad)).2).1)) 2 (.int .i64 (rnum 1 (rnum 3 (rnum 6 (rest, bad)).2).2).1)) Tryz.underlying48 rfl (by kernel_rfl)
def rints : Nat → List Int × Bool → List Int × (List Int × Bool)
  | 0, st => ([], st)
  | k + 1, st => ((rints k st).1 ++ [(rnum 4 (rints k st).2).1], (rnum 4 (rints k st).2).2)
theorem rints_length (st : List Int × Bool) : ∀ k, (rints k st).1.length = k
  | 0 => rfl
  | k + 1 => by simp [rints, rints_length st k]
def rnums (st : List Int × Bool) : List Int × (List Int × Bool) := rints (rmany 1 5 st).1.toNat (rmany 1 5 st).2
theorem rmany_le (s : Nat) (m : Int) (h0 : 0 ≤ m) (st : List Int × Bool) : (rmany s m st).1 ≤ m := by
  unfold rmany; split
  · exact h0
  · omega
theorem IsR.grown {w0 W W1 : World} {g : Nat} {B rest : List Int} {bad : Bool} {row : Option Nat} (h : IsR w0 W g B rest bad) (hw : W.grownBy W1 row) (hr : row ≠ some g) (hb : ∀ k, row = some k → w0.heap.size ≤ k) : IsR w0 W1 g B rest bad := by
  obtain ⟨h0, hg, h2, h3, A, c, at_, hv, h4⟩ := h
  exact ⟨h0.grown hw (below_size h0) hb, hg, h2, h3, A, c, at_, blk_grown hv hw (fun e => hr e.symm), h4⟩
theorem keep_grown {w W W1 : World} {g : Nat} {row : Option Nat} (h : KeepBut w W g none) (hw : W.grownBy W1 row) (hb : ∀ k, row = some k → w.heap.size ≤ k) : KeepBut w W1 g none := by
  refine h.trans (KeepBut.of_grown hw g) ?_
  cases row with
  | none => exact .inl rfl
  | some b => exact .inr ⟨b, rfl, hb b rfl⟩
set_option maxHeartbeats 4000000 in
set_option maxRecDepth 100000 in
theorem R_nums (w0 w : World) (g : Nat) (B rest : List Int) (bad : Bool) (h : IsR w0 w g B rest bad) :
    Calls Tryz.prog 45 #[.pointer (some ⟨g, 0, none⟩)] w fun en w' => ∃ v, en = .returned v ∧ Kd.R (Kd.int .i64) 3 w' w.heap.size (fun k => k ≠ g) v (rnums (rest, bad)).1 ∧
      IsR w0 w' g B (rnums (rest, bad)).2.1 (rnums (rest, bad)).2.2 ∧ KeepBut w w' g none := by
  have hgl : g < w.heap.size := h.lt
  have HGL := Aside0.mk hgl
  have H0 := Aside0.mk h
  have HM := Aside0.mk (rmany_le 1 5 (by omega) (rest, bad))
  obtain ⟨q, hq⟩ : ∃ q, q = rmany 1 5 (rest, bad) := ⟨_, rfl⟩
  rw [← hq] at HM
  have HQ := Aside0.mk hq
  have HS := Aside0.mk (show rnums (rest, bad) = rints q.1.toNat q.2 from by rw [hq]; rfl)
  clear h hgl hq
  go_enter Tryz.func45, Tryz.ntmps45
  go_wp2_with fail
  refine (R_many w0 _ g B rest bad H0.out 1 5 1 rfl (by omega) (by omega)).mono ?_
  rintro e w1 ⟨rfl, hi, hk⟩
  rw [← HQ.out] at hi
  rw [← HQ.out]
  have H1 := Aside0.mk hi
  have K1 := Aside0.mk hk
  clear hi hk HQ
  go_wp2
  have HB0 := Aside0.mk (below_size H0.out.1)
  go_loopw [3, 6] (fun v3 v6 wr => ∃ k : Nat, k ≤ q.1.toNat ∧ v6 = .int .i64 k ∧ Aside0 (Kd.R (Kd.int .i64) 3 wr w.heap.size (fun k => k ≠ g) v3 (rints k q.2).1) ∧ Aside0 (IsR w0 wr g B (rints k q.2).2.1 (rints k q.2).2.2) ∧ Aside0 (KeepBut w wr g none)) (fun _ v6 _ => q.1.toNat - (intOf v6).toNat)
  case atStart => exact ⟨0, by omega, rfl, ⟨Kd.R_nil _ _ _ _ _⟩, H1, K1⟩
  case round =>
    obtain ⟨k, hk, rfl, HO, HI, HK⟩ := hrel
    have hkm : (k : Int) ≤ 5 := by have := HM.out; omega
    by_cases hlt : (k : Int) < q.1
    · go_wp2_with fail
      refine (R_num w0 _ g B _ _ HI.out 4 4 rfl (by omega) (by omega)).mono ?_
      rintro e w2 ⟨rfl, hi, hk2⟩
      have H2 := Aside0.mk hi
      have K2 := Aside0.mk (keep_then HK.out hk2)
      have O2 := Aside0.mk (Kd.R_keep HO.out hk2 (fun _ h => h))
      clear hi hk2
      obtain ⟨x, hx⟩ : ∃ x, x = (rnum 4 ((rints k q.2).2.1, (rints k q.2).2.2)).1 := ⟨_, rfl⟩
      obtain ⟨L, hL⟩ : ∃ L, L = (rints k q.2).1 := ⟨_, rfl⟩
      have HLn := Aside0.mk (show L.length = k by rw [hL, rints_length])
      have HT := Aside0.mk (show rints (k + 1) q.2 = (L ++ [x], (rnum 4 (rints k q.2).2).2) from by rw [hL, hx]; rfl)
      rw [← hL] at O2
      rw [← hx]
      clear hx hL
      go_wp2_with (first | ((with_reducible refine gate_builtin (b := .append) (xs := #[.tmp 8, .tmp 11]) rfl ?_); at_builtin; refine Kd.R_append (Kd.int .i64) (w0 := w2) w.heap.size rfl (.tmp 8) (.tmp 11) 23 3 (.int .i64 0) 8 rfl Tryz.underlying23 info3 rfl (by decide) (by omega) u3 L x [.int .i64 x] (fun k => k ≠ g) (fun _ => False) rfl rfl rfl (fun _ hk => hk.elim) (fun k hk e_ => by have := H2.out.lt; omega) O2.out (Below.refl _ _) K2.out.1 (by have := HLn.out; omega) ?_; intro v3 w3 ho hb hgw hat; have O3 := Aside0.mk ho; have H3 := Aside0.mk (H2.out.grown hgw (fun e_ => O2.out.1 g e_ rfl) (fun k hk => by have := Kd.R_base O2.out k hk; have := HB0.out; omega)); have K3 := Aside0.mk (keep_grown K2.out hgw (fun k hk => Kd.R_base O2.out k hk)); clear ho hb hgw hat))
      go_roundw
      case rel => exact ⟨k + 1, by omega, by go_num, by rw [HT.out]; exact O3, by rw [HT.out]; exact H3, K3⟩
      case measure => simp [intOf]; omega
    · obtain rfl : k = q.1.toNat := by omega
      have HE := Aside0.mk (show rnums (rest, bad) = rints q.1.toNat q.2 from HS.out)
      go_wp2
      go_ret
      rw [HE.out]
      exact ⟨_, rfl, HO.out, HI.out, HK.out⟩
theorem Get1_nil (B : List Int) (at_ : Nat) (hb : Bytes_ B) (hl : B.length ≤ 65536) (ha : at_ ≤ B.length) (hd : B.drop at_ = []) (k : Nat) (hk : 10 < k) : wire_Get.f k B (at_ : Int) 1 = some (0, 0, 3) := by
  have := Get_eq B [] at_ 1 hb hl ha hd (by omega) (by omega) k hk
  simpa using this
theorem Get1_cons (B : List Int) (at_ : Nat) (c : Int) (tl : List Int) (hb : Bytes_ B) (hl : B.length ≤ 65536) (ha : at_ ≤ B.length) (hd : B.drop at_ = c :: tl) (k : Nat) (hk : 10 < k) : wire_Get.f k B (at_ : Int) 1 = some (c, ((at_ + 1 : Nat) : Int), 0) := by
  have := Get_eq B (c :: tl) at_ 1 hb hl ha hd (by omega) (by omega) k hk
  have e : numL [c] = c := by simp [numL]
  simp only [List.length_cons, List.take_succ_cons, List.take_zero, e] at this
  rw [if_neg (by omega)] at this
  exact this
theorem at_cons {B : List Int} {at_ : Nat} {c : Int} {tl : List Int} (hd : B.drop at_ = c :: tl) : at_ < B.length ∧ B.drop (at_ + 1) = tl ∧ tl.length + 1 = B.length - at_ ∧ rd B (at_ : Int) = c := by
  have h := congrArg List.length hd
  simp only [List.length_drop, List.length_cons] at h
  have hlt : at_ < B.length := by omega
  have h2 := drop_cons B at_ hlt
  rw [hd] at h2
  refine ⟨hlt, (List.cons.inj h2).2.symm, by omega, ?_⟩
  rw [rd_nat]; exact (List.cons.inj h2).1.symm
def gint (l : List Int) : Option (Int × List Int) :=
  if l.length < 9 ∨ l.getD 0 0 > 1 then none
  else if numL ((l.drop 1).take 8) > 1152921504606846976 ∨ (l.getD 0 0 = 1 ∧ numL ((l.drop 1).take 8) = 0) then none
  else some (if l.getD 0 0 = 1 then -numL ((l.drop 1).take 8) else numL ((l.drop 1).take 8), l.drop 9)
theorem GetInt_eq (B rest : List Int) (at_ : Nat) (hb : Bytes_ B) (hl : B.length ≤ 65536) (ha : at_ ≤ B.length) (hd : B.drop at_ = rest) (k : Nat) (hk : 20 < k) :
    wire_GetInt.f k B (at_ : Int) = some (match gint rest with | none => (0, 0, 3) | some (n, _) => (n, ((at_ + 9 : Nat) : Int), 0)) := by
  obtain ⟨k, rfl⟩ : ∃ m, k = m + 3 := ⟨k - 3, by omega⟩
  have hr : rest.length = B.length - at_ := by rw [← hd]; simp
  unfold wire_GetInt.f
  rw [if_neg (by omega), decide_eq_false (by omega)]
  simp only [wire_GetInt.j0]
  rw [if_neg (by decide), wrap_in _ (by omega) (by omega)]
  unfold gint
  by_cases h9 : rest.length < 9
  · rw [if_pos (by omega), if_pos (.inl h9)]
    simp only [wire_GetInt.j1]; rfl
  · obtain ⟨c, tl, rfl⟩ : ∃ c tl, rest = c :: tl := by
      rcases rest with _ | ⟨c, tl⟩
      · simp at h9
      · exact ⟨c, tl, rfl⟩
    obtain ⟨a1, a2, a3, a4⟩ := at_cons hd
    have hc : (c :: tl).getD 0 0 = c := rfl
    have ht : (c :: tl).drop 1 = tl := rfl
    have h8 : 8 ≤ tl.length := by simp only [List.length_cons] at h9; omega
    rw [if_neg (by omega), if_pos (by omega), if_pos (by omega), a4, hc, ht]
    by_cases h1 : c > 1
    · rw [if_pos (.inr h1), decide_eq_true h1]
      simp only [wire_GetInt.j1]; rfl
    · rw [if_neg (by rintro (h | h); exact h9 h; exact h1 h), decide_eq_false h1]
      simp only [wire_GetInt.j1]
      have hbt : Bytes_ (tl.take 8) := Bytes_take (by rw [← a2]; exact Bytes_drop hb _) 8
      have hlt : (tl.take 8).length = 8 := by simp; omega
      have hn := numL_bound 8 (tl.take 8) hlt hbt
      have e : (B.take ((at_ : Int) + 9).toNat).drop ((at_ : Int) + 1).toNat = tl.take 8 := by
        rw [show ((at_ : Int) + 9).toNat = at_ + 9 from by omega, show ((at_ : Int) + 1).toNat = at_ + 1 from by omega, List.drop_take, a2]
        congr 1; omega
      rw [if_neg (by decide), wrap_in ((at_ : Int) + 1) (by omega) (by omega), wrap_in ((at_ : Int) + 9) (by omega) (by omega), if_pos (by omega), if_pos (by omega), if_pos (by omega), e, num_eq _ hbt (by omega) (k + 1) (by omega), Option.bind_some]
      obtain ⟨z, hz⟩ : ∃ z, z = numL (tl.take 8) := ⟨_, rfl⟩
      rw [← hz] at hn ⊢
      by_cases h2 : z > 1152921504606846976
      · rw [if_pos h2, if_pos (.inl h2)]
        simp only [wire_GetInt.j2]; rfl
      · rw [if_neg h2, if_pos (by omega), if_pos (by omega), a4]
        by_cases h3 : c = 1
        · rw [if_pos h3]
          by_cases h4 : z = 0
          · rw [if_pos (.inr ⟨h3, h4⟩), show (z == 0) = true from by rw [h4]; rfl]
            simp only [wire_GetInt.j2]; rfl
          · rw [if_neg (by rintro (h | h); exact h2 h; exact h4 h.2), show (z == 0) = false from by simpa using h4]
            simp only [wire_GetInt.j2]
            rw [if_neg (by decide), if_pos (by omega), if_pos (by omega), a4, if_pos h3, if_pos h3, wrap_in z (by omega) (by omega), wrap_in (-z) (by omega) (by omega), wrap_in ((at_ : Int) + 9) (by omega) (by omega)]
            rfl
        · rw [if_neg h3, if_neg (by rintro (h | h); exact h2 h; exact h3 h.1)]
          simp only [wire_GetInt.j2]
          rw [if_neg (by decide), if_pos (by omega), if_pos (by omega), a4, if_neg h3, if_neg h3, wrap_in z (by omega) (by omega), wrap_in ((at_ : Int) + 9) (by omega) (by omega)]
          rfl
def ok (v : Val) (tl : List Int) : Option (Val × List Int) := if goodV v then some (v, tl) else none
theorem ok_pos {v : Val} (h : goodV v) (tl : List Int) : ok v tl = some (v, tl) := if_pos h
theorem ok_neg {v : Val} (h : ¬ goodV v) (tl : List Int) : ok v tl = none := if_neg h
def rval2 : List Int → Option (Val × List Int)
  | [] => none
  | b :: t => ok ⟨2, b, ⟨#[]⟩⟩ t
def rval3 (l : List Int) : Option (Val × List Int) := (gint l).bind fun p => ok ⟨3, p.1, ⟨#[]⟩⟩ p.2
def rval4 : List Int → Option (Val × List Int)
  | [] => none
  | b :: t => if b > 24 ∨ (t.length : Int) < b then none else ok ⟨4, 0, strOfNums (t.take b.toNat)⟩ (t.drop b.toNat)
def rval : List Int → Option (Val × List Int)
  | [] => none
  | c :: tl => if c = 2 then rval2 tl else if c = 3 then rval3 tl else if c = 4 then rval4 tl else ok ⟨c, 0, ⟨#[]⟩⟩ tl
def ValIs (B rest : List Int) (at_ k : Nat) : Prop :=
  (rval rest = none ∧ ∃ e, e ≠ 0 ∧ value_Read.f k B (at_ : Int) = some (0, 0, ⟨#[]⟩, 0, e)) ∨
  (∃ (v : Val) (tl : List Int) (at1 : Nat), rval rest = some (v, tl) ∧ at_ < at1 ∧ at1 ≤ B.length ∧ B.drop at1 = tl ∧ value_Read.f k B (at_ : Int) = some (v.f0, v.f1, v.f2, (at1 : Int), 0))
theorem Check3 (a b : Int) (s : ByteArray) : value_Check.f a b s = some (if goodV ⟨a, b, s⟩ then 0 else 1) := Check_eq ⟨a, b, s⟩
theorem gint_some {l : List Int} {p : Int × List Int} (h : gint l = some p) : 9 ≤ l.length ∧ l.drop 9 = p.2 := by
  unfold gint at h
  split at h
  · cases h
  · rename_i h1
    split at h
    · cases h
    · have := Option.some.inj h
      rw [← this]
      exact ⟨by omega, rfl⟩
theorem valRead_eq (B rest : List Int) (at_ : Nat) (hb : Bytes_ B) (hl : B.length ≤ 65536) (ha : at_ ≤ B.length) (hd : B.drop at_ = rest) (k : Nat) (hk : 20 < k) : ValIs B rest at_ k := by
  unfold ValIs value_Read.f
  rcases rest with _ | ⟨c, tl⟩
  · rw [Get1_nil B at_ hb hl ha hd k (by omega), Option.bind_some]
    exact .inl ⟨rfl, 3, by decide, by rw [if_neg (by decide)]⟩
  · obtain ⟨a1, a2, a3, a4⟩ := at_cons hd
    rw [Get1_cons B at_ c tl hb hl ha hd k (by omega), Option.bind_some, if_pos rfl]
    by_cases h2 : c = 2
    · subst h2
      have e0 : rval (2 :: tl) = rval2 tl := rfl
      rw [if_pos rfl, e0]
      rcases tl with _ | ⟨b, t⟩
      · rw [Get1_nil B (at_ + 1) hb hl (by omega) a2 k (by omega), Option.bind_some]
        exact .inl ⟨rfl, 3, by decide, by rw [if_neg (by decide)]⟩
      · obtain ⟨b1, b2, b3, b4⟩ := at_cons a2
        have e1 : rval2 (b :: t) = ok ⟨2, b, ⟨#[]⟩⟩ t := rfl
        rw [Get1_cons B (at_ + 1) b t hb hl (by omega) a2 k (by omega), Option.bind_some, if_pos rfl, Check3, Option.bind_some, e1]
        by_cases hg : goodV ⟨2, b, ⟨#[]⟩⟩
        · rw [if_pos hg, ok_pos hg, if_pos rfl]
          exact .inr ⟨_, _, at_ + 1 + 1, rfl, by omega, by omega, b2, rfl⟩
        · rw [if_neg hg, ok_neg hg, if_neg (by decide)]
          exact .inl ⟨rfl, 3, by decide, rfl⟩
    · rw [if_neg h2]
      by_cases h3 : c = 3
      · subst h3
        have e0 : rval (3 :: tl) = rval3 tl := rfl
        rw [if_pos rfl, e0, GetInt_eq B tl (at_ + 1) hb hl (by omega) a2 k hk, Option.bind_some]
        rcases hg : gint tl with _ | ⟨n, t⟩
        · exact .inl ⟨by unfold rval3; rw [hg]; rfl, 3, by decide, rfl⟩
        · have e1 : rval3 tl = ok ⟨3, n, ⟨#[]⟩⟩ t := by unfold rval3; rw [hg]; rfl
          have h9 := gint_some hg
          simp only
          rw [if_pos trivial, Check3, Option.bind_some, e1]
          by_cases hq : goodV ⟨3, n, ⟨#[]⟩⟩
          · rw [if_pos hq, ok_pos hq, if_pos rfl]
            exact .inr ⟨_, _, at_ + 1 + 9, rfl, by omega, by omega, by rw [← List.drop_drop, a2]; exact h9.2, rfl⟩
          · rw [if_neg hq, ok_neg hq, if_neg (by decide)]
            exact .inl ⟨rfl, 3, by decide, rfl⟩
      · rw [if_neg h3]
        by_cases h4 : c = 4
        · subst h4
          have e0 : rval (4 :: tl) = rval4 tl := rfl
          rw [if_pos rfl, e0, GetText_eq B tl (at_ + 1) hb hl (by omega) a2 k (by omega), Option.bind_some]
          rcases tl with _ | ⟨b, t⟩
          · exact .inl ⟨rfl, 3, by decide, rfl⟩
          · obtain ⟨b1, b2, b3, b4⟩ := at_cons a2
            have hbb : Byte b := hb b (by have : b ∈ B.drop (at_ + 1) := by { rw [a2]; simp }; exact List.mem_of_mem_drop this)
            unfold Byte at hbb
            simp only
            by_cases h5 : b > 24 ∨ (t.length : Int) < b
            · rw [if_pos h5]
              exact .inl ⟨if_pos h5, 3, by decide, rfl⟩
            · have e1 : rval4 (b :: t) = ok ⟨4, 0, strOfNums (t.take b.toNat)⟩ (t.drop b.toNat) := if_neg h5
              rw [if_neg h5]
              simp only
              rw [if_pos trivial, Check3, Option.bind_some, e1]
              by_cases hq : goodV ⟨4, 0, strOfNums (t.take b.toNat)⟩
              · rw [if_pos hq, ok_pos hq, if_pos rfl]
                refine .inr ⟨_, _, at_ + 1 + 1 + b.toNat, rfl, by omega, by omega, by rw [← List.drop_drop, b2], ?_⟩
                rw [show ((at_ + 1 : Nat) : Int) + 1 + b = ((at_ + 1 + 1 + b.toNat : Nat) : Int) from by omega]
              · rw [if_neg hq, ok_neg hq, if_neg (by decide)]
                exact .inl ⟨rfl, 3, by decide, rfl⟩
        · have e0 : rval (c :: tl) = ok ⟨c, 0, ⟨#[]⟩⟩ tl := (if_neg h2).trans ((if_neg h3).trans (if_neg h4))
          rw [if_neg h4, Check3, Option.bind_some, e0]
          by_cases hq : goodV ⟨c, 0, ⟨#[]⟩⟩
          · rw [if_pos hq, ok_pos hq, if_pos rfl]
            exact .inr ⟨_, _, at_ + 1, rfl, by omega, by omega, a2, rfl⟩
          · rw [if_neg hq, ok_neg hq, if_neg (by decide)]
            exact .inl ⟨rfl, 3, by decide, rfl⟩
def rvals : Nat → List Int → Option (List Val × List Int)
  | 0, l => some ([], l)
  | n + 1, l => (rval l).bind fun p => (rvals n p.2).bind fun q => some (p.1 :: q.1, q.2)
def rrow : List Int → Option (List Val × List Int)
  | [] => none
  | c :: tl => if c > 12 then none else rvals c.toNat tl
theorem rvals_l0 (B : List Int) (hb : Bytes_ B) (hl : B.length ≤ 65536) (m : Nat) (hm : m ≤ 12) : ∀ (d i k at_ : Nat) (acc : List Val) (rest : List Int), i + d = m → acc.length = i → at_ ≤ B.length → B.drop at_ = rest → d + 21 < k →
    (rvals d rest = none ∧ ∃ e, e ≠ 0 ∧ row_Read.l0 k B acc (at_ : Int) (m : Int) (i : Int) = some ([], 0, e)) ∨
    (∃ (vs : List Val) (tl : List Int) (at1 : Nat), rvals d rest = some (vs, tl) ∧ at1 ≤ B.length ∧ B.drop at1 = tl ∧ row_Read.l0 k B acc (at_ : Int) (m : Int) (i : Int) = some (acc ++ vs, (at1 : Int), 0)) := by
  intro d
  induction d with
  | zero =>
    intro i k at_ acc rest h1 h2 h3 h4 hk
    obtain ⟨k, rfl⟩ : ∃ m, k = m + 1 := ⟨k - 1, by omega⟩
    simp only [row_Read.l0]
    refine .inr ⟨[], rest, at_, rfl, h3, h4, ?_⟩
    rw [if_neg (by omega), List.append_nil]
  | succ d ih =>
    intro i k at_ acc rest h1 h2 h3 h4 hk
    obtain ⟨k, rfl⟩ : ∃ m, k = m + 1 := ⟨k - 1, by omega⟩
    have hv := valRead_eq B rest at_ hb hl h3 h4 k (by omega)
    have e0 : rvals (d + 1) rest = (rval rest).bind fun p => (rvals d p.2).bind fun q => some (p.1 :: q.1, q.2) := rfl
    simp only [row_Read.l0]
    rw [if_pos (by omega), e0]
    rcases hv with ⟨hr, e, he, hv⟩ | ⟨v, t, at1, hr, hlt, hle, hd1, hv⟩
    · rw [hr, hv, Option.bind_some, if_neg he]
      exact .inl ⟨rfl, 3, by decide, rfl⟩
    · have := ih (i + 1) k at1 (acc ++ [v]) t (by omega) (by simp [h2]) hle hd1 (by omega)
      rw [hr, hv, Option.bind_some, Option.bind_some, if_pos rfl, if_pos (by omega), wrap_in _ (by omega) (by omega), show (i : Int) + 1 = ((i + 1 : Nat) : Int) from by omega]
      rcases this with ⟨g0, e, he, g1⟩ | ⟨vs, tl, at2, g0, g1, g2, g3⟩
      · rw [g0]
        exact .inl ⟨rfl, e, he, g1⟩
      · rw [g0]
        refine .inr ⟨v :: vs, tl, at2, rfl, g1, g2, ?_⟩
        rw [List.append_assoc] at g3
        exact g3
theorem rowRead_eq (B rest : List Int) (at_ : Nat) (hb : Bytes_ B) (hl : B.length ≤ 65536) (ha : at_ ≤ B.length) (hd : B.drop at_ = rest) (k : Nat) (hk : 40 < k) :
    (rrow rest = none ∧ ∃ e, e ≠ 0 ∧ row_Read.f k B (at_ : Int) = some ([], 0, e)) ∨
    (∃ (vs : List Val) (tl : List Int) (at1 : Nat), rrow rest = some (vs, tl) ∧ at1 ≤ B.length ∧ B.drop at1 = tl ∧ row_Read.f k B (at_ : Int) = some (vs, (at1 : Int), 0)) := by
  unfold row_Read.f
  rcases rest with _ | ⟨c, tl⟩
  · rw [Get1_nil B at_ hb hl ha hd k (by omega), Option.bind_some]
    exact .inl ⟨rfl, 3, by decide, by rw [if_neg (by decide)]⟩
  · obtain ⟨a1, a2, a3, a4⟩ := at_cons hd
    have hbb : Byte c := hb c (by have : c ∈ B.drop at_ := by { rw [hd]; simp }; exact List.mem_of_mem_drop this)
    unfold Byte at hbb
    rw [Get1_cons B at_ c tl hb hl ha hd k (by omega), Option.bind_some, if_pos rfl]
    by_cases h : c > 12
    · rw [if_pos h, show rrow (c :: tl) = none from if_pos h]
      exact .inl ⟨rfl, 3, by decide, rfl⟩
    · rw [if_neg h, show rrow (c :: tl) = rvals c.toNat tl from if_neg h]
      have := rvals_l0 B hb hl c.toNat (by omega) c.toNat 0 k (at_ + 1) [] tl (by omega) rfl (by omega) a2 (by omega)
      rw [show ((c.toNat : Nat) : Int) = c from by omega, show ((0 : Nat) : Int) = 0 from rfl] at this
      exact this
def rdots : Nat → List Int × Bool → List Dt × (List Int × Bool)
  | 0, st => ([], st)
  | k + 1, st => ((rdots k st).1 ++ [(rdot (rdots k st).2).1], (rdot (rdots k st).2).2)
theorem rdots_length (st : List Int × Bool) : ∀ k, (rdots k st).1.length = k
  | 0 => rfl
  | k + 1 => by simp [rdots, rdots_length st k]
structure Head where
  kind : Int
  dot : Dt
  deps : List Int
  stamp : S48
  table : Int
  key : ByteArray
  col : Int
def rhead (st : List Int × Bool) : Head × (List Int × Bool) :=
  (⟨(rnum 1 st).1, (rdot (rnum 1 st).2).1, (rnums (rdot (rnum 1 st).2).2).1, (rstamp (rnums (rdot (rnum 1 st).2).2).2).1, (rnum 1 (rstamp (rnums (rdot (rnum 1 st).2).2).2).2).1,
    (rtext (rnum 1 (rstamp (rnums (rdot (rnum 1 st).2).2).2).2).2).1, (rnum 1 (rtext (rnum 1 (rstamp (rnums (rdot (rnum 1 st).2).2).2).2).2).2).1⟩, (rnum 1 (rtext (rnum 1 (rstamp (rnums (rdot (rnum 1 st).2).2).2).2).2).2).2)
def rdl (st : List Int × Bool) : List Dt × (List Int × Bool) := rdots (rmany 1 64 st).1.toNat (rmany 1 64 st).2
def mkOp (h : Head) (vs : List Val) (ds : List Dt) : Opr := ⟨h.dot, h.deps, h.stamp, h.kind, h.table, h.key, h.col, vs, ds⟩
def rtail (h : Head × (List Int × Bool)) : Option (List Val × List Int) → Opr × (List Int × Bool)
  | none => (z52, (h.2.1, true))
  | some (vs, tl) => if h.2.2 = true then (z52, (h.2.1, true)) else (mkOp h.1 vs (rdl (tl, false)).1, (rdl (tl, false)).2)
def rop (st : List Int × Bool) : Opr × (List Int × Bool) := rtail (rhead st) (rrow (rhead st).2.1)
theorem set12 {W : World} {b t : Nat} {a0 a1 a2 a3 a4 a5 a6 a7 a8 a9 a10 a11 : Value} (h : W.heap[b]? = some (.cells #[a0, a1, a2, a3, a4, a5, a6, a7, a8, a9, a10, a11] t (0, 0))) (c0 c1 c2 c3 c4 c5 c6 c7 c8 c9 c10 c11 : Value) :
    (((((((((((((W.setCell ⟨b, 0, none⟩ c0).setCell ⟨b, 1, none⟩ c1).setCell ⟨b, 2, none⟩ c2).setCell ⟨b, 3, none⟩ c3).setCell ⟨b, 4, none⟩ c4).setCell ⟨b, 5, none⟩ c5).setCell ⟨b, 6, none⟩ c6).setCell ⟨b, 7, none⟩ c7).setCell ⟨b, 8, none⟩ c8).setCell ⟨b, 9, none⟩ c9).setCell ⟨b, 10, none⟩ c10).setCell ⟨b, 11, none⟩ c11)).heap[b]? = some (.cells #[c0, c1, c2, c3, c4, c5, c6, c7, c8, c9, c10, c11] t (0, 0)) := by
  have h1 : (W.setCell ⟨b, 0, none⟩ c0).heap[b]? = some (.cells #[c0, a1, a2, a3, a4, a5, a6, a7, a8, a9, a10, a11] t (0, 0)) := blk_set h 0 c0
  have h2 : ((W.setCell ⟨b, 0, none⟩ c0).setCell ⟨b, 1, none⟩ c1).heap[b]? = some (.cells #[c0, c1, a2, a3, a4, a5, a6, a7, a8, a9, a10, a11] t (0, 0)) := blk_set h1 1 c1
  have h3 : (((W.setCell ⟨b, 0, none⟩ c0).setCell ⟨b, 1, none⟩ c1).setCell ⟨b, 2, none⟩ c2).heap[b]? = some (.cells #[c0, c1, c2, a3, a4, a5, a6, a7, a8, a9, a10, a11] t (0, 0)) := blk_set h2 2 c2
  have h4 : ((((W.setCell ⟨b, 0, none⟩ c0).setCell ⟨b, 1, none⟩ c1).setCell ⟨b, 2, none⟩ c2).setCell ⟨b, 3, none⟩ c3).heap[b]? = some (.cells #[c0, c1, c2, c3, a4, a5, a6, a7, a8, a9, a10, a11] t (0, 0)) := blk_set h3 3 c3
  have h5 : (((((W.setCell ⟨b, 0, none⟩ c0).setCell ⟨b, 1, none⟩ c1).setCell ⟨b, 2, none⟩ c2).setCell ⟨b, 3, none⟩ c3).setCell ⟨b, 4, none⟩ c4).heap[b]? = some (.cells #[c0, c1, c2, c3, c4, a5, a6, a7, a8, a9, a10, a11] t (0, 0)) := blk_set h4 4 c4
  have h6 : ((((((W.setCell ⟨b, 0, none⟩ c0).setCell ⟨b, 1, none⟩ c1).setCell ⟨b, 2, none⟩ c2).setCell ⟨b, 3, none⟩ c3).setCell ⟨b, 4, none⟩ c4).setCell ⟨b, 5, none⟩ c5).heap[b]? = some (.cells #[c0, c1, c2, c3, c4, c5, a6, a7, a8, a9, a10, a11] t (0, 0)) := blk_set h5 5 c5
  have h7 : (((((((W.setCell ⟨b, 0, none⟩ c0).setCell ⟨b, 1, none⟩ c1).setCell ⟨b, 2, none⟩ c2).setCell ⟨b, 3, none⟩ c3).setCell ⟨b, 4, none⟩ c4).setCell ⟨b, 5, none⟩ c5).setCell ⟨b, 6, none⟩ c6).heap[b]? = some (.cells #[c0, c1, c2, c3, c4, c5, c6, a7, a8, a9, a10, a11] t (0, 0)) := blk_set h6 6 c6
  have h8 : ((((((((W.setCell ⟨b, 0, none⟩ c0).setCell ⟨b, 1, none⟩ c1).setCell ⟨b, 2, none⟩ c2).setCell ⟨b, 3, none⟩ c3).setCell ⟨b, 4, none⟩ c4).setCell ⟨b, 5, none⟩ c5).setCell ⟨b, 6, none⟩ c6).setCell ⟨b, 7, none⟩ c7).heap[b]? = some (.cells #[c0, c1, c2, c3, c4, c5, c6, c7, a8, a9, a10, a11] t (0, 0)) := blk_set h7 7 c7
  have h9 : (((((((((W.setCell ⟨b, 0, none⟩ c0).setCell ⟨b, 1, none⟩ c1).setCell ⟨b, 2, none⟩ c2).setCell ⟨b, 3, none⟩ c3).setCell ⟨b, 4, none⟩ c4).setCell ⟨b, 5, none⟩ c5).setCell ⟨b, 6, none⟩ c6).setCell ⟨b, 7, none⟩ c7).setCell ⟨b, 8, none⟩ c8).heap[b]? = some (.cells #[c0, c1, c2, c3, c4, c5, c6, c7, c8, a9, a10, a11] t (0, 0)) := blk_set h8 8 c8
  have h10 : ((((((((((W.setCell ⟨b, 0, none⟩ c0).setCell ⟨b, 1, none⟩ c1).setCell ⟨b, 2, none⟩ c2).setCell ⟨b, 3, none⟩ c3).setCell ⟨b, 4, none⟩ c4).setCell ⟨b, 5, none⟩ c5).setCell ⟨b, 6, none⟩ c6).setCell ⟨b, 7, none⟩ c7).setCell ⟨b, 8, none⟩ c8).setCell ⟨b, 9, none⟩ c9).heap[b]? = some (.cells #[c0, c1, c2, c3, c4, c5, c6, c7, c8, c9, a10, a11] t (0, 0)) := blk_set h9 9 c9
  have h11 : (((((((((((W.setCell ⟨b, 0, none⟩ c0).setCell ⟨b, 1, none⟩ c1).setCell ⟨b, 2, none⟩ c2).setCell ⟨b, 3, none⟩ c3).setCell ⟨b, 4, none⟩ c4).setCell ⟨b, 5, none⟩ c5).setCell ⟨b, 6, none⟩ c6).setCell ⟨b, 7, none⟩ c7).setCell ⟨b, 8, none⟩ c8).setCell ⟨b, 9, none⟩ c9).setCell ⟨b, 10, none⟩ c10).heap[b]? = some (.cells #[c0, c1, c2, c3, c4, c5, c6, c7, c8, c9, c10, a11] t (0, 0)) := blk_set h10 10 c10
  have h12 : ((((((((((((W.setCell ⟨b, 0, none⟩ c0).setCell ⟨b, 1, none⟩ c1).setCell ⟨b, 2, none⟩ c2).setCell ⟨b, 3, none⟩ c3).setCell ⟨b, 4, none⟩ c4).setCell ⟨b, 5, none⟩ c5).setCell ⟨b, 6, none⟩ c6).setCell ⟨b, 7, none⟩ c7).setCell ⟨b, 8, none⟩ c8).setCell ⟨b, 9, none⟩ c9).setCell ⟨b, 10, none⟩ c10).setCell ⟨b, 11, none⟩ c11).heap[b]? = some (.cells #[c0, c1, c2, c3, c4, c5, c6, c7, c8, c9, c10, c11] t (0, 0)) := blk_set h11 11 c11
  exact h12
theorem rinfo46 : (Tryz.prog.info? 46).map (fun i => (i.zero, i.size, i.bytes)) = some (some (.agg #[.int .i64 0, .int .i64 0]), 2, 16) := by kernel_rfl
theorem heap_set {W1 W : World} {k b i : Nat} {u : Value} (h : W1.heap[k]? = W.heap[k]?) (hk : k ≠ b) : (W1.setCell ⟨b, i, none⟩ u).heap[k]? = W.heap[k]? := (Below.heap_setCell W1 ⟨b, i, none⟩ u k hk).trans h
theorem Kd.R_elder0 {α : Type} {d : Kd α} {e : Nat} {w w1 : World} {v : Value} {xs : List α} {g : Nat} (h : Kd.R d e w1 w.heap.size (fun _ => True) v xs) (hg : g < w.heap.size) : Kd.R d e w1 w.heap.size (fun k => k ≠ g) v xs :=
  Kd.R_mono (Kd.R_bound h) (fun k hk => by have := hk.2.1; omega)
set_option maxHeartbeats 8000000 in
set_option maxRecDepth 100000 in
theorem R_op (w0 w : World) (g : Nat) (B rest : List Int) (bad : Bool) (h : IsR w0 w g B rest bad) :
    Calls Tryz.prog 46 #[.pointer (some ⟨g, 0, none⟩)] w fun en w' => ∃ cs : List Value, en = .returned (.agg cs.toArray) ∧ k52.M w' w.heap.size (fun k => k ≠ g) (rop (rest, bad)).1 cs ∧
      IsR w0 w' g B (rop (rest, bad)).2.1 (rop (rest, bad)).2.2 ∧ KeepBut w w' g none := by
  have hgl : g < w.heap.size := h.lt
  have hne : w.heap.size ≠ g := by omega
  have H0 := Aside0.mk (h.alloc (.cells #[.int .i64 0, .int .i64 0, .slice none 0 0, .int .i64 0, .int .i64 0, .int .i64 0, .int .i64 0, .int .i64 0, .string ⟨#[]⟩, .int .i64 0, .slice none 0 0, .slice none 0 0] 52))
  have K0 := Aside0.mk (keep_alloc (KeepBut.refl w g none) (.cells #[.int .i64 0, .int .i64 0, .slice none 0 0, .int .i64 0, .int .i64 0, .int .i64 0, .int .i64 0, .int .i64 0, .string ⟨#[]⟩, .int .i64 0, .slice none 0 0, .slice none 0 0] 52))
  have D0 := Aside0.mk (heap_alloc_new w (.cells #[.int .i64 0, .int .i64 0, .slice none 0 0, .int .i64 0, .int .i64 0, .int .i64 0, .int .i64 0, .int .i64 0, .string ⟨#[]⟩, .int .i64 0, .slice none 0 0, .slice none 0 0] 52))
  have HNE := Aside0.mk hne
  have HB0 := Aside0.mk (below_size h.1)
  clear h hgl hne
  obtain ⟨q1, hq1⟩ : ∃ q, q = rnum 1 (rest, bad) := ⟨_, rfl⟩
  obtain ⟨q2, hq2⟩ : ∃ q, q = rdot (q1.2.1, q1.2.2) := ⟨_, rfl⟩
  obtain ⟨q3, hq3⟩ : ∃ q, q = rnums (q2.2.1, q2.2.2) := ⟨_, rfl⟩
  obtain ⟨q4, hq4⟩ : ∃ q, q = rstamp (q3.2.1, q3.2.2) := ⟨_, rfl⟩
  obtain ⟨q5, hq5⟩ : ∃ q, q = rnum 1 (q4.2.1, q4.2.2) := ⟨_, rfl⟩
  obtain ⟨q6, hq6⟩ : ∃ q, q = rtext (q5.2.1, q5.2.2) := ⟨_, rfl⟩
  obtain ⟨q7, hq7⟩ : ∃ q, q = rnum 1 (q6.2.1, q6.2.2) := ⟨_, rfl⟩
  have HS := Aside0.mk (show rop (rest, bad) = rtail (⟨q1.1, q2.1, q3.1, q4.1, q5.1, q6.1, q7.1⟩, q7.2) (rrow q7.2.1) from by rw [hq7, hq6, hq5, hq4, hq3, hq2, hq1]; rfl)
  have HQ1 := Aside0.mk hq1
  have HQ2 := Aside0.mk hq2
  have HQ3 := Aside0.mk hq3
  have HQ4 := Aside0.mk hq4
  have HQ5 := Aside0.mk hq5
  have HQ6 := Aside0.mk hq6
  have HQ7 := Aside0.mk hq7
  clear hq1 hq2 hq3 hq4 hq5 hq6 hq7
  go_enter Tryz.func46, Tryz.ntmps46
  go_wp2_with fail
  refine (R_num w0 _ g B rest bad H0.out 1 1 rfl (by omega) (by omega)).mono ?_
  rintro e w1 ⟨rfl, hi, hk⟩
  rw [← HQ1.out] at hi
  rw [← HQ1.out]
  have D1 := Aside0.mk (hk.blk D0.out HNE.out (by simp))
  have H1 := Aside0.mk hi
  have K1 := Aside0.mk (keep_then K0.out hk)
  clear hi hk HQ1
  go_wp2_with fail
  refine (R_dot w0 _ g B q1.2.1 q1.2.2 H1.out).mono ?_
  rintro e w2 ⟨rfl, hi, hk⟩
  rw [← HQ2.out] at hi
  rw [← HQ2.out]
  have D2 := Aside0.mk (hk.blk D1.out HNE.out (by simp))
  have H2 := Aside0.mk hi
  have K2 := Aside0.mk (keep_then K1.out hk)
  clear hi hk HQ2
  go_wp2_with fail
  refine (R_nums w0 _ g B q2.2.1 q2.2.2 H2.out).mono ?_
  rintro e w3 ⟨v, rfl, ho, hi, hk⟩
  rw [← HQ3.out] at hi ho
  obtain ⟨Ad, cd, rfl⟩ := Kd.R_slice ho
  have O3 := Aside0.mk (Kd.R_lower ho (keep_size K2.out))
  have D3 := Aside0.mk (hk.blk D2.out HNE.out (by simp))
  have H3 := Aside0.mk hi
  have K3 := Aside0.mk (keep_then K2.out hk)
  clear hi hk HQ3 ho
  go_wp2_with fail
  refine (R_stamp w0 _ g B q3.2.1 q3.2.2 H3.out).mono ?_
  rintro e w4 ⟨rfl, hi, hk⟩
  rw [← HQ4.out] at hi
  rw [← HQ4.out]
  have O4 := Aside0.mk (Kd.R_keep O3.out hk (fun _ h => h))
  have D4 := Aside0.mk (hk.blk D3.out HNE.out (by simp))
  have H4 := Aside0.mk hi
  have K4 := Aside0.mk (keep_then K3.out hk)
  clear hi hk HQ4
  go_wp2_with fail
  refine (R_num w0 _ g B q4.2.1 q4.2.2 H4.out 1 1 rfl (by omega) (by omega)).mono ?_
  rintro e w5 ⟨rfl, hi, hk⟩
  rw [← HQ5.out] at hi
  rw [← HQ5.out]
  have O5 := Aside0.mk (Kd.R_keep O4.out hk (fun _ h => h))
  have D5 := Aside0.mk (hk.blk D4.out HNE.out (by simp))
  have H5 := Aside0.mk hi
  have K5 := Aside0.mk (keep_then K4.out hk)
  clear hi hk HQ5
  go_wp2_with fail
  refine (R_text w0 _ g B q5.2.1 q5.2.2 H5.out).mono ?_
  rintro e w6 ⟨rfl, hi, hk⟩
  rw [← HQ6.out] at hi
  rw [← HQ6.out]
  have O6 := Aside0.mk (Kd.R_keep O5.out hk (fun _ h => h))
  have D6 := Aside0.mk (hk.blk D5.out HNE.out (by simp))
  have H6 := Aside0.mk hi
  have K6 := Aside0.mk (keep_then K5.out hk)
  clear hi hk HQ6
  go_wp2_with fail
  refine (R_num w0 _ g B q6.2.1 q6.2.2 H6.out 1 1 rfl (by omega) (by omega)).mono ?_
  rintro e w7 ⟨rfl, hi, hk⟩
  rw [← HQ7.out] at hi
  rw [← HQ7.out]
  have O7 := Aside0.mk (Kd.R_keep O6.out hk (fun _ h => h))
  have D7 := Aside0.mk (hk.blk D6.out HNE.out (by simp))
  have H7 := Aside0.mk hi
  have K7 := Aside0.mk (keep_then K6.out hk)
  clear hi hk HQ7
  go_wp2
  have K8 := Aside0.mk (keep_alloc K7.out (.cells #[.int .i64 q2.1.f0, .int .i64 q2.1.f1, .slice Ad q3.1.length cd, .int .i64 q4.1.f0, .int .i64 q4.1.f1, .int .i64 q4.1.f2, .int .i64 q1.1, .int .i64 q5.1, .string q6.1, .int .i64 q7.1, .slice none 0 0, .slice none 0 0] 52))
  have H8 := Aside0.mk (H7.out.alloc (.cells #[.int .i64 q2.1.f0, .int .i64 q2.1.f1, .slice Ad q3.1.length cd, .int .i64 q4.1.f0, .int .i64 q4.1.f1, .int .i64 q4.1.f2, .int .i64 q1.1, .int .i64 q5.1, .string q6.1, .int .i64 q7.1, .slice none 0 0, .slice none 0 0] 52))
  have X8 := Aside0.mk (heap_alloc_new w7 (.cells #[.int .i64 q2.1.f0, .int .i64 q2.1.f1, .slice Ad q3.1.length cd, .int .i64 q4.1.f0, .int .i64 q4.1.f1, .int .i64 q4.1.f2, .int .i64 q1.1, .int .i64 q5.1, .string q6.1, .int .i64 q7.1, .slice none 0 0, .slice none 0 0] 52))
  have D8 := Aside0.mk (blk_below D7.out (below_alloc (Below.refl _ w7) (.cells #[.int .i64 q2.1.f0, .int .i64 q2.1.f1, .slice Ad q3.1.length cd, .int .i64 q4.1.f0, .int .i64 q4.1.f1, .int .i64 q4.1.f2, .int .i64 q1.1, .int .i64 q5.1, .string q6.1, .int .i64 q7.1, .slice none 0 0, .slice none 0 0] 52)))
  have O8 := Aside0.mk (Kd.R_alloc O7.out (.cells #[.int .i64 q2.1.f0, .int .i64 q2.1.f1, .slice Ad q3.1.length cd, .int .i64 q4.1.f0, .int .i64 q4.1.f1, .int .i64 q4.1.f2, .int .i64 q1.1, .int .i64 q5.1, .string q6.1, .int .i64 q7.1, .slice none 0 0, .slice none 0 0] 52))
  have hxg : w7.heap.size ≠ g := by have := H7.out.lt; omega
  have hxr : w7.heap.size ≠ w.heap.size := by have := blk_lt D7.out; omega
  have hxw : w.heap.size ≤ w7.heap.size := keep_size K7.out
  obtain ⟨w8, hw8⟩ : ∃ w8, w8 = w7.alloc (.cells #[.int .i64 q2.1.f0, .int .i64 q2.1.f1, .slice Ad q3.1.length cd, .int .i64 q4.1.f0, .int .i64 q4.1.f1, .int .i64 q4.1.f2, .int .i64 q1.1, .int .i64 q5.1, .string q6.1, .int .i64 q7.1, .slice none 0 0, .slice none 0 0] 52) := ⟨_, rfl⟩
  rw [← hw8] at K8 H8 X8 D8 O8
  rw [← hw8]
  obtain ⟨xb, hxb⟩ : ∃ xb, xb = w7.heap.size := ⟨_, rfl⟩
  rw [← hxb] at X8 hxg hxr hxw
  rw [← hxb]
  have HXG := Aside0.mk hxg
  have HXR := Aside0.mk hxr
  have HXW := Aside0.mk hxw
  clear hw8 hxb hxg hxr hxw K7 H7 D7 O7 D0 D1 D2 D3 D4 D5 D6 H0 H1 H2 H3 H4 H5 H6 K0 K1 K2 K3 K4 K5 K6 O3 O4 O5 O6
  obtain ⟨h0, hg, h2, h3, A, c, at_, hv, hC, hc, ha, hd⟩ := H8.out
  have HP : ∃ r1 r2 r3, row_Read.f 100 B (at_ : Int) = some (r1, r2, r3) ∧ ((rrow q7.2.1 = none ∧ r3 ≠ 0) ∨ (∃ (tl : List Int) (at1 : Nat), rrow q7.2.1 = some (r1, tl) ∧ at1 ≤ B.length ∧ B.drop at1 = tl ∧ r2 = (at1 : Int) ∧ r3 = 0)) := by
    rcases rowRead_eq B q7.2.1 at_ h2 h3 ha hd 100 (by omega) with ⟨e0, e, he, e1⟩ | ⟨vs, tl, at1, e0, g1, g2, e1⟩
    · exact ⟨_, _, _, e1, .inl ⟨e0, he⟩⟩
    · exact ⟨_, _, _, e1, .inr ⟨tl, at1, e0, g1, g2, rfl, rfl⟩⟩
  obtain ⟨r1, r2, r3, hp, hr⟩ := HP
  have HP := Aside0.mk hp
  have HR := Aside0.mk hr
  have HC := Aside0.mk (Kd.C_below hC h0)
  have HC0 := Aside0.mk hC
  have Hc := Aside0.mk hc
  have HH := Aside0.mk h0
  have Hg := Aside0.mk hg
  have Hb := Aside0.mk h2
  have Hl := Aside0.mk h3
  have Hv := Aside0.mk hv
  have Ha := Aside0.mk ha
  have Hd := Aside0.mk hd
  have hs0 : w8.cell? ⟨g, 0, none⟩ = some (.slice A B.length c) := (blk_cell hv 0).trans rfl
  have hs1 : w8.cell? ⟨g, 1, none⟩ = some (.int .i64 (at_ : Int)) := (blk_cell hv 1).trans rfl
  clear h0 hg h2 h3 hv hC hc ha hd hp hr
  go_region_held3 (fun w' => w'.cell? ⟨g, 0, none⟩ = some (.slice A B.length c) ∧ w'.cell? ⟨g, 1, none⟩ = some (.int .i64 (at_ : Int))) (first | exact ⟨hs0, hs1⟩ | exact ⟨ht0, ht1⟩)
    (first | (go_at_call 89; refine (row_Read.calls 100 A c B (at_ : Int) r1 r2 r3 _ (Kd.C_below HC.out (by first | exact Below.refl _ _ | exact below_drew (Below.refl _ _) | exact pw_below_drewN (Below.refl _ _) _)) Hc.out HP.out).mono ?_; rintro e w9 ⟨v9, rfl, ho, hb⟩; obtain ⟨A9, c9, rfl⟩ := Kd.R_slice ho; have HB9 := Aside0.mk (show Below w8.heap.size w8 w9 from below_step (below_drew (Below.refl _ w8)) hb); have O9 := Aside0.mk (show Kd.R k92 92 w9 w8.heap.size (fun _ => True) (.slice A9 r1.length c9) r1 from ho); clear ho hb; have ht0 := pw_cell_below HB9.out hs0; have ht1 := pw_cell_below HB9.out hs1))
  have Hv9 := Aside0.mk (blk_below Hv.out HB9.out)
  have D9 := Aside0.mk (blk_below D8.out HB9.out)
  have X9 := Aside0.mk (blk_below X8.out HB9.out)
  have OD9 := Aside0.mk (Kd.R_below O8.out HB9.out)
  have H9 := Aside0.mk (H8.out.below HB9.out)
  have K9 := Aside0.mk (keep_then K8.out (KeepBut.of_below (row := none) HB9.out g))
  have OV9 := Aside0.mk (Kd.R_lower (Kd.R_elder0 O9.out H8.out.lt) (keep_size K8.out))
  have he2 : w9.cell? ⟨g, 2, none⟩ = some (.bool q7.2.2) := (blk_cell Hv9.out 2).trans rfl
  have hf1 := blk_frozen Hv9.out 1
  have hf2 := blk_frozen Hv9.out 2
  have hdc := fun i => blk_cell D9.out i
  have hdf := fun i => blk_frozen D9.out i
  have hxc := fun i => blk_cell X9.out i
  have hxf := fun i => blk_frozen X9.out i
  have hgr : g ≠ w.heap.size := fun e_ => HNE.out e_.symm
  clear hs0 hs1 HP
  obtain ⟨qb, hqb⟩ : ∃ qb, qb = q7.2.2 := ⟨_, rfl⟩
  have HQB := Aside0.mk hqb
  rw [← hqb] at he2 H9 Hv9
  clear hqb H8 O8 X8 D8 K8 O9 Hv
  rcases HR.out with ⟨hn, h3⟩ | ⟨tl, at1, hn, g1, g2, rfl, rfl⟩
  · have HN := Aside0.mk (show rtail (⟨q1.1, q2.1, q3.1, q4.1, q5.1, q6.1, q7.1⟩, q7.2) (rrow q7.2.1) = (z52, (q7.2.1, true)) from by rw [hn]; rfl)
    have h3b : (r3 != 0) = true := bne_iff_ne.2 h3
    clear h3 hn HR
    rcases bad_cases qb with rfl | rfl
    · go_wp2
      rw [HS.out, HN.out]
      refine bodyPost_ret (v := .agg #[.int .i64 0, .int .i64 0, .slice none 0 0, .int .i64 0, .int .i64 0, .int .i64 0, .int .i64 0, .int .i64 0, .string ⟨#[]⟩, .int .i64 0, .slice none 0 0, .slice none 0 0]) ?_ rfl ⟨[.int .i64 0, .int .i64 0, .slice none 0 0, .int .i64 0, .int .i64 0, .int .i64 0, .int .i64 0, .int .i64 0, .string ⟨#[]⟩, .int .i64 0, .slice none 0 0, .slice none 0 0], rfl, (k52_mkM _ _ _ z52 (Kd.R_nil _ _ _ _ _) (Kd.R_nil _ _ _ _ _) (Kd.R_nil _ _ _ _ _)), (((((((((((((((((((((((((IsR.bad H9.out)).far HNE.out HB0.out 0 (.int .i64 0))).far HNE.out HB0.out 1 (.int .i64 0))).far HNE.out HB0.out 2 (.slice none 0 0))).far HNE.out HB0.out 3 (.int .i64 0))).far HNE.out HB0.out 4 (.int .i64 0))).far HNE.out HB0.out 5 (.int .i64 0))).far HNE.out HB0.out 6 (.int .i64 0))).far HNE.out HB0.out 7 (.int .i64 0))).far HNE.out HB0.out 8 (.string ⟨#[]⟩))).far HNE.out HB0.out 9 (.int .i64 0))).far HNE.out HB0.out 10 (.slice none 0 0))).far HNE.out HB0.out 11 (.slice none 0 0)), (keep_far ((keep_far ((keep_far ((keep_far ((keep_far ((keep_far ((keep_far ((keep_far ((keep_far ((keep_far ((keep_far ((keep_far ((K9.out.set_ 2 (.bool true))) (p := ⟨w.heap.size, 0, none⟩) (Nat.le_refl _) (.int .i64 0))) (p := ⟨w.heap.size, 1, none⟩) (Nat.le_refl _) (.int .i64 0))) (p := ⟨w.heap.size, 2, none⟩) (Nat.le_refl _) (.slice none 0 0))) (p := ⟨w.heap.size, 3, none⟩) (Nat.le_refl _) (.int .i64 0))) (p := ⟨w.heap.size, 4, none⟩) (Nat.le_refl _) (.int .i64 0))) (p := ⟨w.heap.size, 5, none⟩) (Nat.le_refl _) (.int .i64 0))) (p := ⟨w.heap.size, 6, none⟩) (Nat.le_refl _) (.int .i64 0))) (p := ⟨w.heap.size, 7, none⟩) (Nat.le_refl _) (.int .i64 0))) (p := ⟨w.heap.size, 8, none⟩) (Nat.le_refl _) (.string ⟨#[]⟩))) (p := ⟨w.heap.size, 9, none⟩) (Nat.le_refl _) (.int .i64 0))) (p := ⟨w.heap.size, 10, none⟩) (Nat.le_refl _) (.slice none 0 0))) (p := ⟨w.heap.size, 11, none⟩) (Nat.le_refl _) (.slice none 0 0))⟩
      exact results_cell_row (p := 2) (ty := 52) rfl _ _ w.heap.size 52 #[.int .i64 0, .int .i64 0, .slice none 0 0, .int .i64 0, .int .i64 0, .int .i64 0, .int .i64 0, .int .i64 0, .string ⟨#[]⟩, .int .i64 0, .slice none 0 0, .slice none 0 0] (0, 0) _ rfl (set12 ((Below.heap_setCell w9 ⟨g, 2, none⟩ (.bool true) w.heap.size HNE.out).trans D9.out) _ _ _ _ _ _ _ _ _ _ _ _) Tryz.underlying52 rfl (by kernel_rfl)
    · go_wp2
      rw [HS.out, HN.out]
      refine bodyPost_ret (v := .agg #[.int .i64 0, .int .i64 0, .slice none 0 0, .int .i64 0, .int .i64 0, .int .i64 0, .int .i64 0, .int .i64 0, .string ⟨#[]⟩, .int .i64 0, .slice none 0 0, .slice none 0 0]) ?_ rfl ⟨[.int .i64 0, .int .i64 0, .slice none 0 0, .int .i64 0, .int .i64 0, .int .i64 0, .int .i64 0, .int .i64 0, .string ⟨#[]⟩, .int .i64 0, .slice none 0 0, .slice none 0 0], rfl, (k52_mkM _ _ _ z52 (Kd.R_nil _ _ _ _ _) (Kd.R_nil _ _ _ _ _) (Kd.R_nil _ _ _ _ _)), (((((((((((((((((((((((((IsR.bad H9.out)).far HNE.out HB0.out 0 (.int .i64 0))).far HNE.out HB0.out 1 (.int .i64 0))).far HNE.out HB0.out 2 (.slice none 0 0))).far HNE.out HB0.out 3 (.int .i64 0))).far HNE.out HB0.out 4 (.int .i64 0))).far HNE.out HB0.out 5 (.int .i64 0))).far HNE.out HB0.out 6 (.int .i64 0))).far HNE.out HB0.out 7 (.int .i64 0))).far HNE.out HB0.out 8 (.string ⟨#[]⟩))).far HNE.out HB0.out 9 (.int .i64 0))).far HNE.out HB0.out 10 (.slice none 0 0))).far HNE.out HB0.out 11 (.slice none 0 0)), (keep_far ((keep_far ((keep_far ((keep_far ((keep_far ((keep_far ((keep_far ((keep_far ((keep_far ((keep_far ((keep_far ((keep_far ((K9.out.set_ 2 (.bool true))) (p := ⟨w.heap.size, 0, none⟩) (Nat.le_refl _) (.int .i64 0))) (p := ⟨w.heap.size, 1, none⟩) (Nat.le_refl _) (.int .i64 0))) (p := ⟨w.heap.size, 2, none⟩) (Nat.le_refl _) (.slice none 0 0))) (p := ⟨w.heap.size, 3, none⟩) (Nat.le_refl _) (.int .i64 0))) (p := ⟨w.heap.size, 4, none⟩) (Nat.le_refl _) (.int .i64 0))) (p := ⟨w.heap.size, 5, none⟩) (Nat.le_refl _) (.int .i64 0))) (p := ⟨w.heap.size, 6, none⟩) (Nat.le_refl _) (.int .i64 0))) (p := ⟨w.heap.size, 7, none⟩) (Nat.le_refl _) (.int .i64 0))) (p := ⟨w.heap.size, 8, none⟩) (Nat.le_refl _) (.string ⟨#[]⟩))) (p := ⟨w.heap.size, 9, none⟩) (Nat.le_refl _) (.int .i64 0))) (p := ⟨w.heap.size, 10, none⟩) (Nat.le_refl _) (.slice none 0 0))) (p := ⟨w.heap.size, 11, none⟩) (Nat.le_refl _) (.slice none 0 0))⟩
      exact results_cell_row (p := 2) (ty := 52) rfl _ _ w.heap.size 52 #[.int .i64 0, .int .i64 0, .slice none 0 0, .int .i64 0, .int .i64 0, .int .i64 0, .int .i64 0, .int .i64 0, .string ⟨#[]⟩, .int .i64 0, .slice none 0 0, .slice none 0 0] (0, 0) _ rfl (set12 ((Below.heap_setCell w9 ⟨g, 2, none⟩ (.bool true) w.heap.size HNE.out).trans D9.out) _ _ _ _ _ _ _ _ _ _ _ _) Tryz.underlying52 rfl (by kernel_rfl)
  · have HG := Aside0.mk (show at1 ≤ B.length ∧ B.drop at1 = tl from ⟨g1, g2⟩)
    have HN := Aside0.mk hn
    clear hn g1 g2 HR
    rcases bad_cases qb with rfl | rfl
    · have HM := Aside0.mk (show rtail (⟨q1.1, q2.1, q3.1, q4.1, q5.1, q6.1, q7.1⟩, q7.2) (rrow q7.2.1) = (z52, (q7.2.1, true)) from by rw [HN.out]; exact if_pos HQB.out.symm)
      go_wp2
      rw [HS.out, HM.out]
      refine bodyPost_ret (v := .agg #[.int .i64 0, .int .i64 0, .slice none 0 0, .int .i64 0, .int .i64 0, .int .i64 0, .int .i64 0, .int .i64 0, .string ⟨#[]⟩, .int .i64 0, .slice none 0 0, .slice none 0 0]) ?_ rfl ⟨[.int .i64 0, .int .i64 0, .slice none 0 0, .int .i64 0, .int .i64 0, .int .i64 0, .int .i64 0, .int .i64 0, .string ⟨#[]⟩, .int .i64 0, .slice none 0 0, .slice none 0 0], rfl, (k52_mkM _ _ _ z52 (Kd.R_nil _ _ _ _ _) (Kd.R_nil _ _ _ _ _) (Kd.R_nil _ _ _ _ _)), (((((((((((((((((((((((((IsR.bad H9.out)).far HNE.out HB0.out 0 (.int .i64 0))).far HNE.out HB0.out 1 (.int .i64 0))).far HNE.out HB0.out 2 (.slice none 0 0))).far HNE.out HB0.out 3 (.int .i64 0))).far HNE.out HB0.out 4 (.int .i64 0))).far HNE.out HB0.out 5 (.int .i64 0))).far HNE.out HB0.out 6 (.int .i64 0))).far HNE.out HB0.out 7 (.int .i64 0))).far HNE.out HB0.out 8 (.string ⟨#[]⟩))).far HNE.out HB0.out 9 (.int .i64 0))).far HNE.out HB0.out 10 (.slice none 0 0))).far HNE.out HB0.out 11 (.slice none 0 0)), (keep_far ((keep_far ((keep_far ((keep_far ((keep_far ((keep_far ((keep_far ((keep_far ((keep_far ((keep_far ((keep_far ((keep_far ((K9.out.set_ 2 (.bool true))) (p := ⟨w.heap.size, 0, none⟩) (Nat.le_refl _) (.int .i64 0))) (p := ⟨w.heap.size, 1, none⟩) (Nat.le_refl _) (.int .i64 0))) (p := ⟨w.heap.size, 2, none⟩) (Nat.le_refl _) (.slice none 0 0))) (p := ⟨w.heap.size, 3, none⟩) (Nat.le_refl _) (.int .i64 0))) (p := ⟨w.heap.size, 4, none⟩) (Nat.le_refl _) (.int .i64 0))) (p := ⟨w.heap.size, 5, none⟩) (Nat.le_refl _) (.int .i64 0))) (p := ⟨w.heap.size, 6, none⟩) (Nat.le_refl _) (.int .i64 0))) (p := ⟨w.heap.size, 7, none⟩) (Nat.le_refl _) (.int .i64 0))) (p := ⟨w.heap.size, 8, none⟩) (Nat.le_refl _) (.string ⟨#[]⟩))) (p := ⟨w.heap.size, 9, none⟩) (Nat.le_refl _) (.int .i64 0))) (p := ⟨w.heap.size, 10, none⟩) (Nat.le_refl _) (.slice none 0 0))) (p := ⟨w.heap.size, 11, none⟩) (Nat.le_refl _) (.slice none 0 0))⟩
      exact results_cell_row (p := 2) (ty := 52) rfl _ _ w.heap.size 52 #[.int .i64 0, .int .i64 0, .slice none 0 0, .int .i64 0, .int .i64 0, .int .i64 0, .int .i64 0, .int .i64 0, .string ⟨#[]⟩, .int .i64 0, .slice none 0 0, .slice none 0 0] (0, 0) _ rfl (set12 ((Below.heap_setCell w9 ⟨g, 2, none⟩ (.bool true) w.heap.size HNE.out).trans D9.out) _ _ _ _ _ _ _ _ _ _ _ _) Tryz.underlying52 rfl (by kernel_rfl)
    · have HX0 := Aside0.mk (show g ≠ xb from fun e_ => HXG.out e_.symm)
      have HRX := Aside0.mk (show w.heap.size ≠ xb from fun e_ => HXR.out e_.symm)
      obtain ⟨q8, hq8⟩ : ∃ q, q = rmany 1 64 (tl, false) := ⟨_, rfl⟩
      have HM8 := Aside0.mk (show q8.1 ≤ 64 from by rw [hq8]; exact rmany_le 1 64 (by omega) (tl, false))
      have HQ8 := Aside0.mk hq8
      have HE := Aside0.mk (show rtail (⟨q1.1, q2.1, q3.1, q4.1, q5.1, q6.1, q7.1⟩, q7.2) (rrow q7.2.1) = (mkOp ⟨q1.1, q2.1, q3.1, q4.1, q5.1, q6.1, q7.1⟩ r1 (rdots q8.1.toNat q8.2).1, (rdots q8.1.toNat q8.2).2) from by rw [HN.out, hq8]; exact if_neg (by rw [← HQB.out]; exact Bool.false_ne_true))
      clear hq8
      have H10 := Aside0.mk (IsR.go (bad := false) (x := (at_ : Int)) (below_set H9.out.1 (by have := HXW.out; have := HB0.out; omega)) Hg.out Hb.out Hl.out ((Below.heap_setCell w9 ⟨xb, 10, none⟩ (.slice A9 r1.length c9) g HX0.out).trans Hv9.out) HC0.out Hc.out HG.out.1 HG.out.2)
      have D10 := Aside0.mk ((Below.heap_setCell (w9.setCell ⟨xb, 10, none⟩ (.slice A9 r1.length c9)) ⟨g, 1, none⟩ (.int .i64 (at1 : Int)) w.heap.size HNE.out).trans ((Below.heap_setCell w9 ⟨xb, 10, none⟩ (.slice A9 r1.length c9) w.heap.size HRX.out).trans D9.out))
      have X10 := Aside0.mk ((Below.heap_setCell (w9.setCell ⟨xb, 10, none⟩ (.slice A9 r1.length c9)) ⟨g, 1, none⟩ (.int .i64 (at1 : Int)) xb HXG.out).trans (blk_set X9.out 10 (.slice A9 r1.length c9)))
      have OD10 := Aside0.mk (Kd.R_far (Kd.R_set OD9.out X9.out (by decide) 10 (.slice A9 r1.length c9)) (p := ⟨g, 1, none⟩) (fun _ h => h) (.int .i64 (at1 : Int)))
      have OV10 := Aside0.mk (Kd.R_far (Kd.R_set OV9.out X9.out (by decide) 10 (.slice A9 r1.length c9)) (p := ⟨g, 1, none⟩) (fun _ h => h) (.int .i64 (at1 : Int)))
      have K10 := Aside0.mk ((keep_far K9.out (p := ⟨xb, 10, none⟩) HXW.out (.slice A9 r1.length c9)).set_ 1 (.int .i64 (at1 : Int)))
      go_wp2_with fail
      refine (R_many w0 _ g B tl false H10.out 1 64 1 rfl (by omega) (by omega)).mono ?_
      rintro e w11 ⟨rfl, hi, hk⟩
      rw [← HQ8.out] at hi
      rw [← HQ8.out]
      have H11 := Aside0.mk hi
      have D11 := Aside0.mk (hk.blk D10.out HNE.out (by simp))
      have X11 := Aside0.mk (hk.blk X10.out HXG.out (by simp))
      have OD11 := Aside0.mk (Kd.R_keep OD10.out hk (fun _ h => h))
      have OV11 := Aside0.mk (Kd.R_keep OV10.out hk (fun _ h => h))
      have K11 := Aside0.mk (keep_then K10.out hk)
      clear hi hk he2 hf1 hf2 hdc hdf hxc hxf hgr D10 X10 OD10 OV10 K10 H10 D9 X9 OD9 OV9 K9 H9 Hv9 HC
      go_wp2
      go_loopw [55] (fun v wr => ∃ (k : Nat) (At : Option Addr) (ct : Nat), k ≤ q8.1.toNat ∧ v = .int .i64 k ∧ Aside0 (IsR w0 wr g B (rdots k q8.2).2.1 (rdots k q8.2).2.2) ∧ Aside0 (KeepBut w wr g none) ∧ Aside0 (wr.heap[w.heap.size]? = some (.cells #[.int .i64 0, .int .i64 0, .slice none 0 0, .int .i64 0, .int .i64 0, .int .i64 0, .int .i64 0, .int .i64 0, .string ⟨#[]⟩, .int .i64 0, .slice none 0 0, .slice none 0 0] 52 (0, 0))) ∧ Aside0 (wr.heap[xb]? = some (.cells #[.int .i64 q2.1.f0, .int .i64 q2.1.f1, .slice Ad q3.1.length cd, .int .i64 q4.1.f0, .int .i64 q4.1.f1, .int .i64 q4.1.f2, .int .i64 q1.1, .int .i64 q5.1, .string q6.1, .int .i64 q7.1, .slice A9 r1.length c9, .slice At (rdots k q8.2).1.length ct] 52 (0, 0))) ∧ Aside0 (Kd.R (Kd.int .i64) 3 wr w.heap.size (fun k => k ≠ g) (.slice Ad q3.1.length cd) q3.1) ∧ Aside0 (Kd.R k92 92 wr w.heap.size (fun k => k ≠ g) (.slice A9 r1.length c9) r1) ∧ Aside0 (Kd.R k46 46 wr w.heap.size (fun k => k ≠ g) (.slice At (rdots k q8.2).1.length ct) (rdots k q8.2).1)) (fun v _ => q8.1.toNat - (intOf v).toNat)
      case atStart => exact ⟨0, none, 0, by omega, rfl, H11, K11, D11, X11, OD11, OV11, ⟨Kd.R_nil _ _ _ _ _⟩⟩
      case round =>
        obtain ⟨k, At, ct, hk, rfl, HI, HK, HD, HX, HOD, HOV, HOT⟩ := hrel
        have hkm : (k : Int) ≤ 64 := by have := HM8.out; omega
        by_cases hlt : (k : Int) < q8.1
        · have HLn := Aside0.mk (rdots_length q8.2 k)
          have HT := Aside0.mk (show rdots (k + 1) q8.2 = ((rdots k q8.2).1 ++ [(rdot ((rdots k q8.2).2.1, (rdots k q8.2).2.2)).1], (rdot ((rdots k q8.2).2.1, (rdots k q8.2).2.2)).2) from rfl)
          obtain ⟨q9, hq9⟩ : ∃ q, q = rdot ((rdots k q8.2).2.1, (rdots k q8.2).2.2) := ⟨_, rfl⟩
          rw [← hq9] at HT
          have HQ9 := Aside0.mk hq9
          obtain ⟨L, hL⟩ : ∃ L, L = (rdots k q8.2).1 := ⟨_, rfl⟩
          rw [← hL] at HLn HT HOT HX
          clear hL hq9
          have hxc := fun i => blk_cell HX.out i
          have hxf := fun i => blk_frozen HX.out i
          go_wp2_with fail
          go_region_law (first | (go_simp; go_at_call 86; refine (R_dot w0 _ g B _ _ (HI.out.below (by first | exact Below.refl _ _ | exact below_drew (Below.refl _ _)))).mono ?_; rintro e w12 ⟨rfl, hi, hk2⟩; rw [← HQ9.out] at hi; rw [← HQ9.out]; have H12 := Aside0.mk hi; have hk3 : KeepBut wr w12 g none := hk2; have K12 := Aside0.mk (keep_then HK.out hk3); have D12 := Aside0.mk (hk3.blk HD.out HNE.out (by simp)); have X12 := Aside0.mk (hk3.blk HX.out HXG.out (by simp)); have OD12 := Aside0.mk (Kd.R_keep HOD.out hk3 (fun _ h => h)); have OV12 := Aside0.mk (Kd.R_keep HOV.out hk3 (fun _ h => h)); have OT12 := Aside0.mk (Kd.R_keep HOT.out hk3 (fun _ h => h)); have hxc2 := fun i => blk_cell X12.out i; have hxf2 := fun i => blk_frozen X12.out i; have X12a := Aside0.mk (blk_below X12.out (below_alloc (Below.refl _ w12) (.cells #[.int .i64 q9.1.f0, .int .i64 q9.1.f1] 46))); have hxc2a := fun i => blk_cell X12a.out i; clear hi hk2 hk3 X12a) | (refine Kd.R_append_step k46 (w0 := w12) w.heap.size rfl (.tmp 58) (.tmp 61) 50 46 (.agg #[.int .i64 0, .int .i64 0]) 16 rfl Tryz.underlying50 rinfo46 rfl (by decide) (by omega) (.slice At L.length ct) L q9.1 [.int .i64 q9.1.f0, .int .i64 q9.1.f1] (fun k => k ≠ g) (fun _ => False) rfl rfl (k46_mkM _ _ _ _) (fun _ hk => hk.elim) (fun k hk e_ => by have := H12.out.lt; omega) OT12.out (Below.refl _ _) K12.out.1 (by have := HLn.out; omega) ?_; intro v3 w13 ho hb hgw hat; obtain ⟨A3, c3, rfl⟩ := Kd.R_slice ho; have O13 := Aside0.mk ho; have H13 := Aside0.mk (H12.out.grown hgw (fun e_ => OT12.out.1 g e_ rfl) (fun k hk => by have := Kd.R_base OT12.out k hk; have := HB0.out; omega)); have K13 := Aside0.mk (keep_grown K12.out hgw (fun k hk => Kd.R_base OT12.out k hk)); have D13 := Aside0.mk (blk_grown D12.out hgw (Kd.R_ne OT12.out D12.out (by decide))); have X13 := Aside0.mk (blk_grown X12.out hgw (Kd.R_ne OT12.out X12.out (by decide))); have OD13 := Aside0.mk (Kd.R_over OD12.out OT12.out (by decide) hgw); have OV13 := Aside0.mk (Kd.R_over OV12.out OT12.out (by decide) hgw); have hxc3 := fun i => blk_cell X13.out i; have hxf3 := fun i => blk_frozen X13.out i; clear ho hb hgw hat hxc2 hxf2 hxc2a))
          all_goals (go_wp2; go_roundw)
          case rel => exact ⟨k + 1, A3, c3, by omega, by go_num, by rw [HT.out]; exact ⟨H13.out.far HXG.out (by have := HXW.out; have := HB0.out; omega) 11 (.slice A3 (L.length + 1) c3)⟩, ⟨keep_far K13.out (p := ⟨xb, 11, none⟩) HXW.out (.slice A3 (L.length + 1) c3)⟩, ⟨(Below.heap_setCell w13 ⟨xb, 11, none⟩ (.slice A3 (L.length + 1) c3) w.heap.size HRX.out).trans D13.out⟩, by rw [HT.out, show (L ++ [q9.1]).length = L.length + 1 from by simp]; exact ⟨blk_set X13.out 11 (.slice A3 (L.length + 1) c3)⟩, ⟨Kd.R_set OD13.out X13.out (by decide) 11 (.slice A3 (L.length + 1) c3)⟩, ⟨Kd.R_set OV13.out X13.out (by decide) 11 (.slice A3 (L.length + 1) c3)⟩, by rw [HT.out]; exact ⟨Kd.R_set O13.out X13.out (by decide) 11 (.slice A3 (L.length + 1) c3)⟩⟩
          case measure => simp [intOf]; omega
          case rel => exact ⟨k + 1, A3, c3, by omega, by go_num, by rw [HT.out]; exact ⟨H13.out.far HXG.out (by have := HXW.out; have := HB0.out; omega) 11 (.slice A3 (L.length + 1) c3)⟩, ⟨keep_far K13.out (p := ⟨xb, 11, none⟩) HXW.out (.slice A3 (L.length + 1) c3)⟩, ⟨(Below.heap_setCell w13 ⟨xb, 11, none⟩ (.slice A3 (L.length + 1) c3) w.heap.size HRX.out).trans D13.out⟩, by rw [HT.out, show (L ++ [q9.1]).length = L.length + 1 from by simp]; exact ⟨blk_set X13.out 11 (.slice A3 (L.length + 1) c3)⟩, ⟨Kd.R_set OD13.out X13.out (by decide) 11 (.slice A3 (L.length + 1) c3)⟩, ⟨Kd.R_set OV13.out X13.out (by decide) 11 (.slice A3 (L.length + 1) c3)⟩, by rw [HT.out]; exact ⟨Kd.R_set O13.out X13.out (by decide) 11 (.slice A3 (L.length + 1) c3)⟩⟩
          case measure => simp [intOf]; omega
          case rel => exact ⟨k + 1, A3, c3, by omega, by go_num, by rw [HT.out]; exact ⟨H13.out.far HXG.out (by have := HXW.out; have := HB0.out; omega) 11 (.slice A3 (L.length + 1) c3)⟩, ⟨keep_far K13.out (p := ⟨xb, 11, none⟩) HXW.out (.slice A3 (L.length + 1) c3)⟩, ⟨(Below.heap_setCell w13 ⟨xb, 11, none⟩ (.slice A3 (L.length + 1) c3) w.heap.size HRX.out).trans D13.out⟩, by rw [HT.out, show (L ++ [q9.1]).length = L.length + 1 from by simp]; exact ⟨blk_set X13.out 11 (.slice A3 (L.length + 1) c3)⟩, ⟨Kd.R_set OD13.out X13.out (by decide) 11 (.slice A3 (L.length + 1) c3)⟩, ⟨Kd.R_set OV13.out X13.out (by decide) 11 (.slice A3 (L.length + 1) c3)⟩, by rw [HT.out]; exact ⟨Kd.R_set O13.out X13.out (by decide) 11 (.slice A3 (L.length + 1) c3)⟩⟩
          case measure => simp [intOf]; omega
        · obtain rfl : k = q8.1.toNat := by omega
          have hxc := fun i => blk_cell HX.out i
          have hxf := fun i => blk_frozen HX.out i
          have hdc := fun i => blk_cell HD.out i
          have hdf := fun i => blk_frozen HD.out i
          go_wp2
          rw [HS.out, HE.out]
          refine bodyPost_ret (v := .agg #[.int .i64 q2.1.f0, .int .i64 q2.1.f1, .slice Ad q3.1.length cd, .int .i64 q4.1.f0, .int .i64 q4.1.f1, .int .i64 q4.1.f2, .int .i64 q1.1, .int .i64 q5.1, .string q6.1, .int .i64 q7.1, .slice A9 r1.length c9, .slice At (rdots q8.1.toNat q8.2).1.length ct]) ?_ rfl ⟨[.int .i64 q2.1.f0, .int .i64 q2.1.f1, .slice Ad q3.1.length cd, .int .i64 q4.1.f0, .int .i64 q4.1.f1, .int .i64 q4.1.f2, .int .i64 q1.1, .int .i64 q5.1, .string q6.1, .int .i64 q7.1, .slice A9 r1.length c9, .slice At (rdots q8.1.toNat q8.2).1.length ct], rfl, (k52_mkM _ _ _ _ (Kd.R_mono (Kd.R_step (Kd.R_types HOD.out HD.out (by decide)) (fun k hk _ => by repeat (first | refine heap_set ?_ hk.2 | rfl))) (fun _ hk => hk.1)) (Kd.R_mono (Kd.R_step (Kd.R_types HOV.out HD.out (by decide)) (fun k hk _ => by repeat (first | refine heap_set ?_ hk.2 | rfl))) (fun _ hk => hk.1)) (Kd.R_mono (Kd.R_step (Kd.R_types HOT.out HD.out (by decide)) (fun k hk _ => by repeat (first | refine heap_set ?_ hk.2 | rfl))) (fun _ hk => hk.1))), ((((((((((((((((((((((((HI.out).far HNE.out HB0.out 0 (.int .i64 q2.1.f0))).far HNE.out HB0.out 1 (.int .i64 q2.1.f1))).far HNE.out HB0.out 2 (.slice Ad q3.1.length cd))).far HNE.out HB0.out 3 (.int .i64 q4.1.f0))).far HNE.out HB0.out 4 (.int .i64 q4.1.f1))).far HNE.out HB0.out 5 (.int .i64 q4.1.f2))).far HNE.out HB0.out 6 (.int .i64 q1.1))).far HNE.out HB0.out 7 (.int .i64 q5.1))).far HNE.out HB0.out 8 (.string q6.1))).far HNE.out HB0.out 9 (.int .i64 q7.1))).far HNE.out HB0.out 10 (.slice A9 r1.length c9))).far HNE.out HB0.out 11 (.slice At (rdots q8.1.toNat q8.2).1.length ct)), (keep_far ((keep_far ((keep_far ((keep_far ((keep_far ((keep_far ((keep_far ((keep_far ((keep_far ((keep_far ((keep_far ((keep_far (HK.out) (p := ⟨w.heap.size, 0, none⟩) (Nat.le_refl _) (.int .i64 q2.1.f0))) (p := ⟨w.heap.size, 1, none⟩) (Nat.le_refl _) (.int .i64 q2.1.f1))) (p := ⟨w.heap.size, 2, none⟩) (Nat.le_refl _) (.slice Ad q3.1.length cd))) (p := ⟨w.heap.size, 3, none⟩) (Nat.le_refl _) (.int .i64 q4.1.f0))) (p := ⟨w.heap.size, 4, none⟩) (Nat.le_refl _) (.int .i64 q4.1.f1))) (p := ⟨w.heap.size, 5, none⟩) (Nat.le_refl _) (.int .i64 q4.1.f2))) (p := ⟨w.heap.size, 6, none⟩) (Nat.le_refl _) (.int .i64 q1.1))) (p := ⟨w.heap.size, 7, none⟩) (Nat.le_refl _) (.int .i64 q5.1))) (p := ⟨w.heap.size, 8, none⟩) (Nat.le_refl _) (.string q6.1))) (p := ⟨w.heap.size, 9, none⟩) (Nat.le_refl _) (.int .i64 q7.1))) (p := ⟨w.heap.size, 10, none⟩) (Nat.le_refl _) (.slice A9 r1.length c9))) (p := ⟨w.heap.size, 11, none⟩) (Nat.le_refl _) (.slice At (rdots q8.1.toNat q8.2).1.length ct))⟩
          exact results_cell_row (p := 2) (ty := 52) rfl _ _ w.heap.size 52 #[.int .i64 q2.1.f0, .int .i64 q2.1.f1, .slice Ad q3.1.length cd, .int .i64 q4.1.f0, .int .i64 q4.1.f1, .int .i64 q4.1.f2, .int .i64 q1.1, .int .i64 q5.1, .string q6.1, .int .i64 q7.1, .slice A9 r1.length c9, .slice At (rdots q8.1.toNat q8.2).1.length ct] (0, 0) _ rfl (set12 HD.out _ _ _ _ _ _ _ _ _ _ _ _) Tryz.underlying52 rfl (by kernel_rfl)
def wops (l : List Opr) (st : List Int × Bool) : List Int × Bool := l.foldl (fun s x => wop x s) st
theorem wops_take (l : List Opr) (k : Nat) (h : k < l.length) (st : List Int × Bool) : wops (l.take (k + 1)) st = wop (l.getD k z52) (wops (l.take k) st) := by
  unfold wops
  rw [List.take_succ_eq_append_getElem h, List.foldl_append]
  simp [List.getD_eq_getElem?_getD, h]
def okOp (x : Opr) : Prop := x.f1.length ≤ 300 ∧ x.f8.length ≤ 300
instance (x : Opr) : Decidable (okOp x) := by unfold okOp; infer_instance
theorem wops_len : ∀ (l : List Opr) (st : List Int × Bool), (∀ x ∈ l, okOp x) → (wops l st).1.length ≤ st.1.length + 3065 * l.length
  | [], st, _ => by simp [wops]
  | x :: l, st, h => by
    have h1 := wops_len l (wop x st) (fun y hy => h y (by simp [hy]))
    have h2 := wop_len x st
    have h3 := h x (by simp)
    simp only [okOp] at h3
    simp only [wops, List.foldl_cons, List.length_cons] at h1 ⊢; omega
def msgW0 (a b c : Int) (h s : List Int) (n : Nat) : List Int × Bool := wnum 2 (n : Int) (wnums s (wnums h (wnum 1 c (wnum 1 b (wnum 1 a ([], false))))))
def msgW (a b c : Int) (h s : List Int) (l : List Opr) : List Int × Bool := wops l (msgW0 a b c h s l.length)
theorem msgW0_len (a b c : Int) (h s : List Int) (n : Nat) : (msgW0 a b c h s n).1.length ≤ 7 + 4 * h.length + 4 * s.length := by
  have h1 := wnum_len 2 (n : Int) (wnums s (wnums h (wnum 1 c (wnum 1 b (wnum 1 a ([], false))))))
  have h2 := wnums_len s (wnums h (wnum 1 c (wnum 1 b (wnum 1 a ([], false)))))
  have h3 := wnums_len h (wnum 1 c (wnum 1 b (wnum 1 a ([], false))))
  have h4 := wnum_len 1 c (wnum 1 b (wnum 1 a ([], false)))
  have h5 := wnum_len 1 b (wnum 1 a ([], false))
  have h6 := wnum_len 1 a ([], false)
  simp only [List.length_nil] at h6
  unfold msgW0; omega
def sealB (l : List Int) : List Int × Int := if l.length ≤ 65532 then (sealL l, 0) else ([], 2)
def msgB (a b c : Int) (h s : List Int) (l : List Opr) : List Int × Int := if (msgW a b c h s l).2 = true then ([], 1) else sealB (msgW a b c h s l).1
theorem Seal_all (l : List Int) : crc_Seal.f l = some (sealB l) := by
  unfold sealB
  split
  · exact Seal_eq l (by omega)
  · exact Seal_long l (by omega)
def msg_Bytes.f (a0_0 a0_1 a0_2 : Int) (l0_3 l0_4 : List Int) (l0_5 : List Opr) : Option (List Int × Int) :=
  if l0_3.length ≤ 300 ∧ l0_4.length ≤ 300 ∧ l0_5.length ≤ 300 ∧ ∀ x ∈ l0_5, okOp x then some (msgB a0_0 a0_1 a0_2 l0_3 l0_4 l0_5) else none
set_option maxHeartbeats 8000000 in
set_option maxRecDepth 100000 in
theorem msg_Bytes.calls (a0_0 : Int) (a0_1 : Int) (a0_2 : Int) (A0_3 : Option Addr) (c0_3 : Nat) (l0_3 : List Int) (A0_4 : Option Addr) (c0_4 : Nat) (l0_4 : List Int) (A0_5 : Option Addr) (c0_5 : Nat) (l0_5 : List (S52)) (r1 : List Int) (r2 : Int) (w : World)
    (hr0_3 : Kd.C (Kd.int .i64) w A0_3 l0_3.length l0_3) (_hc0_3 : l0_3.length ≤ c0_3) (hr0_4 : Kd.C (Kd.int .i64) w A0_4 l0_4.length l0_4) (_hc0_4 : l0_4.length ≤ c0_4) (hr0_5 : Kd.C k52 w A0_5 l0_5.length l0_5) (_hc0_5 : l0_5.length ≤ c0_5)
    (h : msg_Bytes.f a0_0 a0_1 a0_2 l0_3 l0_4 l0_5 = some (r1, r2)) :
    Calls Tryz.prog 11 #[.agg #[.int .i64 a0_0, .int .i64 a0_1, .int .i64 a0_2, .slice A0_3 l0_3.length c0_3, .slice A0_4 l0_4.length c0_4, .slice A0_5 l0_5.length c0_5]] w fun e w' => ∃ v0_ : Value, e = .returned (.tuple #[v0_, .int .i64 r2]) ∧ Kd.R (Kd.int .u8) 5 w' w.heap.size (fun _ => True) v0_ r1 ∧ Below w.heap.size w w' := by
  unfold msg_Bytes.f at h
  by_cases hb : l0_3.length ≤ 300 ∧ l0_4.length ≤ 300 ∧ l0_5.length ≤ 300 ∧ ∀ x ∈ l0_5, okOp x
  case neg => rw [if_neg hb] at h; cases h
  rw [if_pos hb] at h
  have E1 := Aside0.mk (Option.some.inj h)
  have HB := Aside0.mk (show l0_3.length ≤ 300 ∧ l0_4.length ≤ 300 ∧ l0_5.length ≤ 300 from ⟨hb.1, hb.2.1, hb.2.2.1⟩)
  have HG := Aside0.mk hb.2.2.2
  have R3 := Aside0.mk hr0_3
  have R4 := Aside0.mk hr0_4
  have R5 := Aside0.mk hr0_5
  have HW := Aside0.mk (show IsW w ((w.alloc (.cells #[.int .i64 a0_0, .int .i64 a0_1, .int .i64 a0_2, .slice A0_3 l0_3.length c0_3, .slice A0_4 l0_4.length c0_4, .slice A0_5 l0_5.length c0_5] 26)).alloc (.cells #[.slice none 0 0, .bool false] 66)) (w.heap.size + 1) [] false from
    IsW.mk2 (v := .slice none 0 0) (below_alloc (below_alloc (Below.refl _ w) _) _) (by omega) (by have := heap_alloc2_new w (.cells #[.int .i64 a0_0, .int .i64 a0_1, .int .i64 a0_2, .slice A0_3 l0_3.length c0_3, .slice A0_4 l0_4.length c0_4, .slice A0_5 l0_5.length c0_5] 26) (.cells #[.slice none 0 0, .bool false] 66); exact this) (Kd.R_nil _ _ _ _ _))
  have HX := Aside0.mk (heap_alloc2_old w (.cells #[.int .i64 a0_0, .int .i64 a0_1, .int .i64 a0_2, .slice A0_3 l0_3.length c0_3, .slice A0_4 l0_4.length c0_4, .slice A0_5 l0_5.length c0_5] 26) (.cells #[.slice none 0 0, .bool false] 66))
  have L1 := Aside0.mk (wnum_len 1 a0_0 ([], false))
  have L2 := Aside0.mk (wnum_len 1 a0_1 (wnum 1 a0_0 ([], false)))
  have L3 := Aside0.mk (wnum_len 1 a0_2 (wnum 1 a0_1 (wnum 1 a0_0 ([], false))))
  have L4 := Aside0.mk (wnums_len l0_3 (wnum 1 a0_2 (wnum 1 a0_1 (wnum 1 a0_0 ([], false)))))
  have L5 := Aside0.mk (wnums_len l0_4 (wnums l0_3 (wnum 1 a0_2 (wnum 1 a0_1 (wnum 1 a0_0 ([], false))))))
  have L6 := Aside0.mk (wnum_len 2 (l0_5.length : Int) (wnums l0_4 (wnums l0_3 (wnum 1 a0_2 (wnum 1 a0_1 (wnum 1 a0_0 ([], false)))))))
  have LM := Aside0.mk (msgW0_len a0_0 a0_1 a0_2 l0_3 l0_4 l0_5.length)
  obtain ⟨SU, hSU⟩ : ∃ SU, SU = msgW0 a0_0 a0_1 a0_2 l0_3 l0_4 l0_5.length := ⟨_, rfl⟩
  have E2 := Aside0.mk (show wnum 2 (l0_5.length : Int) (wnums l0_4 (wnums l0_3 (wnum 1 a0_2 (wnum 1 a0_1 (wnum 1 a0_0 ([], false)))))) = SU from by rw [hSU]; rfl)
  have E3 := Aside0.mk (show wops l0_5 SU = msgW a0_0 a0_1 a0_2 l0_3 l0_4 l0_5 from by rw [hSU]; rfl)
  rw [← hSU] at LM
  clear hSU
  have hg1 : ¬ ((l0_5.length : Int) > 65535) := by have := HB.out; omega
  have hg2 := decide_eq_false (show ¬ (65535 : Int) < (l0_5.length : Int) by omega)
  have hg3 := decide_eq_false (show ¬ 65535 < l0_5.length by omega)
  clear h hb hr0_3 hr0_4 hr0_5
  have hcx := fun i => blk_cell HX.out i
  go_enter Tryz.func11, Tryz.ntmps11
  go_wp2_with fail
  refine (W_num w _ (w.heap.size + 1) ([], false) HW.out a0_0 1 1 rfl (by omega) (by omega) (by have := HB.out; simp only [List.length_nil] at *; omega)).mono ?_
  rintro e w1 ⟨rfl, hi, hk⟩
  have H1 := Aside0.mk hi
  have D1 := Aside0.mk (hk _ _ _ _ HX.out (by decide) (by decide))
  have hc1 := fun i => blk_cell D1.out i
  have hf1 := fun i => blk_frozen D1.out i
  clear hi hk
  go_wp2_with fail
  refine (W_num w _ (w.heap.size + 1) (wnum 1 a0_0 ([], false)) H1.out a0_1 1 1 rfl (by omega) (by omega) (by have := HB.out; have := L1.out; simp only [List.length_nil] at *; omega)).mono ?_
  rintro e w2 ⟨rfl, hi, hk⟩
  have H2 := Aside0.mk hi
  have D2 := Aside0.mk (hk _ _ _ _ D1.out (by decide) (by decide))
  have hc2 := fun i => blk_cell D2.out i
  have hf2 := fun i => blk_frozen D2.out i
  clear hi hk
  go_wp2_with fail
  refine (W_num w _ (w.heap.size + 1) (wnum 1 a0_1 (wnum 1 a0_0 ([], false))) H2.out a0_2 1 1 rfl (by omega) (by omega) (by have := HB.out; have := L1.out; have := L2.out; simp only [List.length_nil] at *; omega)).mono ?_
  rintro e w3 ⟨rfl, hi, hk⟩
  have H3 := Aside0.mk hi
  have D3 := Aside0.mk (hk _ _ _ _ D2.out (by decide) (by decide))
  have hc3 := fun i => blk_cell D3.out i
  have hf3 := fun i => blk_frozen D3.out i
  clear hi hk
  go_wp2_with fail
  refine (W_nums w _ (w.heap.size + 1) (wnum 1 a0_2 (wnum 1 a0_1 (wnum 1 a0_0 ([], false)))) H3.out A0_3 c0_3 l0_3 R3.out (by have := HB.out; have := L1.out; have := L2.out; have := L3.out; simp only [List.length_nil] at *; omega) (by have := HB.out; omega)).mono ?_
  rintro e w4 ⟨rfl, hi, hk⟩
  have H4 := Aside0.mk hi
  have D4 := Aside0.mk (hk _ _ _ _ D3.out (by decide) (by decide))
  have hc4 := fun i => blk_cell D4.out i
  have hf4 := fun i => blk_frozen D4.out i
  clear hi hk
  go_wp2_with fail
  refine (W_nums w _ (w.heap.size + 1) (wnums l0_3 (wnum 1 a0_2 (wnum 1 a0_1 (wnum 1 a0_0 ([], false))))) H4.out A0_4 c0_4 l0_4 R4.out (by have := HB.out; have := L1.out; have := L2.out; have := L3.out; have := L4.out; simp only [List.length_nil] at *; omega) (by have := HB.out; omega)).mono ?_
  rintro e w5 ⟨rfl, hi, hk⟩
  have H5 := Aside0.mk hi
  have D5 := Aside0.mk (hk _ _ _ _ D4.out (by decide) (by decide))
  have hc5 := fun i => blk_cell D5.out i
  have hf5 := fun i => blk_frozen D5.out i
  clear hi hk
  go_wp2_with fail
  refine (W_num w _ (w.heap.size + 1) (wnums l0_4 (wnums l0_3 (wnum 1 a0_2 (wnum 1 a0_1 (wnum 1 a0_0 ([], false)))))) H5.out (l0_5.length : Int) 2 2 rfl (by omega) (by omega) (by have := HB.out; have := L1.out; have := L2.out; have := L3.out; have := L4.out; have := L5.out; simp only [List.length_nil] at *; omega)).mono ?_
  rintro e w6 ⟨rfl, hi, hk⟩
  have H6 := Aside0.mk hi
  have D6 := Aside0.mk (hk _ _ _ _ D5.out (by decide) (by decide))
  have hc6 := fun i => blk_cell D6.out i
  have hf6 := fun i => blk_frozen D6.out i
  clear hi hk
  have H6b := Aside0.mk (show IsW w w6 (w.heap.size + 1) SU.1 SU.2 from by have := H6.out; rw [E2.out] at this; exact this)
  clear H6 HW H1 H2 H3 H4 H5 hcx hc1 hc2 hc3 hc4 hc5 hf1 hf2 hf3 hf4 hf5 L1 L2 L3 L4 L5 L6
  go_wp2
  go_loopw [41] (fun v wr => ∃ k : Nat, k ≤ l0_5.length ∧ v = .int .i64 k ∧ Aside0 (IsW w wr (w.heap.size + 1) (wops (l0_5.take k) SU).1 (wops (l0_5.take k) SU).2)) (fun v _ => l0_5.length - (intOf v).toNat)
  case atStart => exact ⟨0, by omega, rfl, H6b⟩
  case round =>
    obtain ⟨k, hk, rfl, HI⟩ := hrel
    by_cases hlt : k < l0_5.length
    · obtain ⟨ad, Y2, d2, Y10, d10, Y11, d11, e, hd0, hd1, hd2, hd3, hd4, hd5, hd6, hd7, hd8, hd9, hd10, hd11, hl2, hq2, hl10, hq10, hl11, hq11⟩ := at_T52 R5.out (k : Int) (by omega) (by omega)
      subst e
      replace hd0 := pw_cell_below HI.out.1 hd0
      replace hd1 := pw_cell_below HI.out.1 hd1
      replace hd2 := pw_cell_below HI.out.1 hd2
      replace hd3 := pw_cell_below HI.out.1 hd3
      replace hd4 := pw_cell_below HI.out.1 hd4
      replace hd5 := pw_cell_below HI.out.1 hd5
      replace hd6 := pw_cell_below HI.out.1 hd6
      replace hd7 := pw_cell_below HI.out.1 hd7
      replace hd8 := pw_cell_below HI.out.1 hd8
      replace hd9 := pw_cell_below HI.out.1 hd9
      replace hd10 := pw_cell_below HI.out.1 hd10
      replace hd11 := pw_cell_below HI.out.1 hd11
      have hrd : rd_T52 l0_5 (k : Int) = l0_5.getD k z52 := by simp [rd_T52]
      have hin : okOp (l0_5.getD k z52) := by
        rw [List.getD_eq_getElem?_getD, List.getElem?_eq_getElem hlt]
        exact HG.out _ (List.getElem_mem hlt)
      rw [Int.toNat_natCast, hrd] at hd0 hd1 hd2 hd3 hd4 hd5 hd6 hd7 hd8 hd9 hd10 hd11
      rw [hrd] at hl2 hq2 hl10 hq10 hl11 hq11
      clear hrd
      have HT := Aside0.mk (wops_take l0_5 k hlt SU)
      have HZ := Aside0.mk (wops_len (l0_5.take k) SU (fun x hx => HG.out x (List.mem_of_mem_take hx)))
      have HTk := Aside0.mk (List.length_take_le k l0_5)
      obtain ⟨y, hy⟩ : ∃ y, y = l0_5.getD k z52 := ⟨_, rfl⟩
      rw [← hy] at hd0 hd1 hd2 hd3 hd4 hd5 hd6 hd7 hd8 hd9 hd10 hd11 hl2 hq2 hl10 hq10 hl11 hq11 HT hin
      clear hy
      have Q2 := Aside0.mk hq2
      have Q10 := Aside0.mk hq10
      have Q11 := Aside0.mk hq11
      have QL := Aside0.mk hl10
      have QI := Aside0.mk hin
      clear hl2 hq2 hl10 hq10 hl11 hq11 hin
      have hkb : l0_5.length ≤ 300 := HB.out.2.2
      have HI2 := Aside0.mk (HI.out.alloc (.cells #[.int .i64 y.f0.f0, .int .i64 y.f0.f1, .slice Y2 y.f1.length d2, .int .i64 y.f2.f0, .int .i64 y.f2.f1, .int .i64 y.f2.f2, .int .i64 y.f3, .int .i64 y.f4, .string y.f5, .int .i64 y.f6, .slice Y10 y.f7.length d10, .slice Y11 y.f8.length d11] 52))
      go_wp2_with fail
      refine (W_op w _ (w.heap.size + 1) (wops (l0_5.take k) SU) HI2.out y Y2 d2 Y10 d10 Y11 d11 Q2.out Q10.out QL.out Q11.out (by have := HZ.out; have := HTk.out; have := HB.out; have := LM.out; omega) (by have := QI.out.1; omega) (by have := QI.out.2; omega)).mono ?_
      rintro e w2 ⟨rfl, hi, -⟩
      rw [← HT.out] at hi
      have H2 := Aside0.mk hi
      clear hi
      go_wp2
      go_roundw
      case rel => exact ⟨k + 1, by omega, by go_num, H2⟩
      case measure => simp [intOf]; omega
    · obtain rfl : k = l0_5.length := by omega
      rw [List.take_length, E3.out] at HI
      obtain ⟨B, hB⟩ : ∃ B, B = (msgW a0_0 a0_1 a0_2 l0_3 l0_4 l0_5).1 := ⟨_, rfl⟩
      obtain ⟨b, hb⟩ : ∃ b, b = (msgW a0_0 a0_1 a0_2 l0_3 l0_4 l0_5).2 := ⟨_, rfl⟩
      rw [← hB, ← hb] at HI
      have E4 := Aside0.mk (show (if b = true then (([] : List Int), (1 : Int)) else sealB B) = (r1, r2) from by rw [hB, hb]; exact E1.out)
      clear hB hb E1 E2 E3
      obtain ⟨h0, hg, v, hv, hR⟩ := HI.out
      obtain ⟨Av, cv, rfl⟩ := Kd.R_slice hR
      have hc0 : wr.cell? ⟨w.heap.size + 1, 0, none⟩ = some (.slice Av B.length cv) := (blk_cell hv 0).trans rfl
      have hc1 : wr.cell? ⟨w.heap.size + 1, 1, none⟩ = some (.bool b) := (blk_cell hv 1).trans rfl
      have H0 := Aside0.mk h0
      have HR := Aside0.mk (Kd.R_reads' hR)
      clear h0 hg hv hR
      cases b
      · have e4 := E4.out
        rw [if_neg (by decide)] at e4
        go_wp2_with fail
        refine (crc_Seal.calls Av cv B r1 r2 wr HR.out.2.2 HR.out.2.1 (by rw [Seal_all, e4])).mono ?_
        rintro e w9 ⟨v9, rfl, ho, hb9⟩
        have HO := Aside0.mk ho
        have HB9 := Aside0.mk hb9
        clear ho hb9
        go_wp2
        go_ret2
        exact ⟨_, rfl, Kd.R_lower HO.out (below_size H0.out), below_step H0.out HB9.out⟩
      · have e4 := E4.out
        have e5 : (([] : List Int), (1 : Int)) = (r1, r2) := by simpa using e4
        go_wp2
        go_ret2
        obtain ⟨rfl, rfl⟩ := Prod.mk.inj e5
        exact ⟨_, rfl, Kd.R_nil _ _ _ _ _, H0.out⟩
theorem set6 {W : World} {b t : Nat} {a0 a1 a2 a3 a4 a5 : Value} (h : W.heap[b]? = some (.cells #[a0, a1, a2, a3, a4, a5] t (0, 0))) (c0 c1 c2 c3 c4 c5 : Value) :
    (((((((W.setCell ⟨b, 0, none⟩ c0).setCell ⟨b, 1, none⟩ c1).setCell ⟨b, 2, none⟩ c2).setCell ⟨b, 3, none⟩ c3).setCell ⟨b, 4, none⟩ c4).setCell ⟨b, 5, none⟩ c5)).heap[b]? = some (.cells #[c0, c1, c2, c3, c4, c5] t (0, 0)) := by
  have h1 : (W.setCell ⟨b, 0, none⟩ c0).heap[b]? = some (.cells #[c0, a1, a2, a3, a4, a5] t (0, 0)) := blk_set h 0 c0
  have h2 : ((W.setCell ⟨b, 0, none⟩ c0).setCell ⟨b, 1, none⟩ c1).heap[b]? = some (.cells #[c0, c1, a2, a3, a4, a5] t (0, 0)) := blk_set h1 1 c1
  have h3 : (((W.setCell ⟨b, 0, none⟩ c0).setCell ⟨b, 1, none⟩ c1).setCell ⟨b, 2, none⟩ c2).heap[b]? = some (.cells #[c0, c1, c2, a3, a4, a5] t (0, 0)) := blk_set h2 2 c2
  have h4 : ((((W.setCell ⟨b, 0, none⟩ c0).setCell ⟨b, 1, none⟩ c1).setCell ⟨b, 2, none⟩ c2).setCell ⟨b, 3, none⟩ c3).heap[b]? = some (.cells #[c0, c1, c2, c3, a4, a5] t (0, 0)) := blk_set h3 3 c3
  have h5 : (((((W.setCell ⟨b, 0, none⟩ c0).setCell ⟨b, 1, none⟩ c1).setCell ⟨b, 2, none⟩ c2).setCell ⟨b, 3, none⟩ c3).setCell ⟨b, 4, none⟩ c4).heap[b]? = some (.cells #[c0, c1, c2, c3, c4, a5] t (0, 0)) := blk_set h4 4 c4
  have h6 : ((((((W.setCell ⟨b, 0, none⟩ c0).setCell ⟨b, 1, none⟩ c1).setCell ⟨b, 2, none⟩ c2).setCell ⟨b, 3, none⟩ c3).setCell ⟨b, 4, none⟩ c4).setCell ⟨b, 5, none⟩ c5).heap[b]? = some (.cells #[c0, c1, c2, c3, c4, c5] t (0, 0)) := blk_set h5 5 c5
  exact h6
def rops : Nat → List Int × Bool → List Opr × (List Int × Bool)
  | 0, st => ([], st)
  | n + 1, st => if st.2 = true then ([], st) else ((rop st).1 :: (rops n (rop st).2).1, (rops n (rop st).2).2)
abbrev MsgP := Int × Int × Int × List Int × List Int × List Opr
def zMsg : MsgP := (0, 0, 0, [], [], [])
def rheadM (st : List Int × Bool) : (Int × Int × Int × List Int × List Int × Int) × (List Int × Bool) :=
  ((rnum 1 st).1, (rnum 1 (rnum 1 st).2).1, (rnum 1 (rnum 1 (rnum 1 st).2).2).1, (rnums (rnum 1 (rnum 1 (rnum 1 st).2).2).2).1, (rnums (rnums (rnum 1 (rnum 1 (rnum 1 st).2).2).2).2).1, (rnum 2 (rnums (rnums (rnum 1 (rnum 1 (rnum 1 st).2).2).2).2).2).1) |> fun x => (x, (rnum 2 (rnums (rnums (rnum 1 (rnum 1 (rnum 1 st).2).2).2).2).2).2)
def rfin (h : Int × Int × Int × List Int × List Int × Int) (t : List Opr × (List Int × Bool)) : MsgP × Int :=
  if t.2.2 = true ∨ t.2.1 ≠ [] then (zMsg, 3) else ((h.1, h.2.1, h.2.2.1, h.2.2.2.1, h.2.2.2.2.1, t.1), 0)
def rmsg (B : List Int) : MsgP × Int := rfin (rheadM (B, false)).1 (rops (rheadM (B, false)).1.2.2.2.2.2.toNat (rheadM (B, false)).2)
def readB (l : List Int) : MsgP × Int := if (openL l).2 = 0 then rmsg (openL l).1 else (zMsg, (openL l).2)
instance (l : List Int) : Decidable (Bytes_ l) := by unfold Bytes_ Byte; infer_instance
def msg_Read.f (l0 : List Int) : Option (Int × Int × Int × List Int × List Int × List (S52) × Int) :=
  if Bytes_ l0 ∧ l0.length < 1000000 then some ((readB l0).1.1, (readB l0).1.2.1, (readB l0).1.2.2.1, (readB l0).1.2.2.2.1, (readB l0).1.2.2.2.2.1, (readB l0).1.2.2.2.2.2, (readB l0).2) else none
theorem openL_len (l : List Int) : (openL l).1.length ≤ 65536 := by
  unfold openL
  split
  · simp
  · split
    · simp; omega
    · simp
theorem openL_bytes (l : List Int) (h : Bytes_ l) : Bytes_ (openL l).1 := by
  unfold openL
  split
  · intro c hc; simp at hc
  · split
    · exact Bytes_take h _
    · intro c hc; simp at hc
theorem rnum_bound (s : Nat) (st : List Int × Bool) (h : Bytes_ st.1) : 0 ≤ (rnum s st).1 ∧ (rnum s st).1 < 256 ^ s := by
  unfold rnum
  split
  · exact ⟨by simp, by simpa using Int.pow_pos (by omega : (0 : Int) < 256)⟩
  · rename_i hn
    exact numL_bound s _ (by simp; omega) (Bytes_take h s)
theorem IsR.bytes {w0 W : World} {g : Nat} {B rest : List Int} {bad : Bool} (h : IsR w0 W g B rest bad) : Bytes_ rest := by
  obtain ⟨_, _, h2, _, A, c, at_, _, _, _, _, hd⟩ := h
  rw [← hd]; exact Bytes_drop h2 at_
theorem meas_down (n : Nat) (h : wrap64 (n : Int) = (n : Int)) : (intOf (Value.int IntKind.i64 (wrap64 (n : Int)))).toNat < (intOf (Value.int IntKind.i64 ((n + 1 : Nat) : Int))).toNat := by
  rw [h]
  show (n : Int).toNat < ((n + 1 : Nat) : Int).toNat
  omega
theorem minfo52 : (Tryz.prog.info? 52).map (fun i => (i.zero, i.size, i.bytes)) = some (some (.agg #[.int .i64 0, .int .i64 0, .slice none 0 0, .int .i64 0, .int .i64 0, .int .i64 0, .int .i64 0, .int .i64 0, .string ⟨#[]⟩, .int .i64 0, .slice none 0 0, .slice none 0 0]), 12, 152) := by kernel_rfl
set_option maxHeartbeats 8000000 in
set_option maxRecDepth 100000 in
theorem msg_Read.calls (A0 : Option Addr) (c0 : Nat) (l0 : List Int) (r1 r2 r3 : Int) (r4 r5 : List Int) (r6 : List (S52)) (r7 : Int) (w : World) (hr0 : Kd.C (Kd.int .u8) w A0 l0.length l0) (hc0 : l0.length ≤ c0) (h : msg_Read.f l0 = some (r1, r2, r3, r4, r5, r6, r7)) :
    Calls Tryz.prog 17 #[.slice A0 l0.length c0] w fun e w' => ∃ v0_ v1_ v2_ : Value, e = .returned (.tuple #[.agg #[.int .i64 r1, .int .i64 r2, .int .i64 r3, v0_, v1_, v2_], .int .i64 r7]) ∧ Kd.R (Kd.int .i64) 3 w' w.heap.size (fun _ => True) v0_ r4 ∧ Kd.R (Kd.int .i64) 3 w' w.heap.size (fun _ => True) v1_ r5 ∧ Kd.S k52 52 w' w.heap.size (fun _ => True) v2_ r6 ∧ Below w.heap.size w w' := by
  unfold msg_Read.f at h
  by_cases hb : Bytes_ l0 ∧ l0.length < 1000000
  case neg => rw [if_neg hb] at h; cases h
  rw [if_pos hb] at h
  have h := Option.some.inj h
  simp only [Prod.mk.injEq] at h
  have HEq := Aside0.mk h
  have HR0 := Aside0.mk hr0
  have HC0 := Aside0.mk hc0
  have HP := Aside0.mk (Open_eq l0 (by omega) (l0.length + 2) (by omega))
  obtain ⟨bd, hbd⟩ : ∃ bd, bd = (openL l0).1 := ⟨_, rfl⟩
  obtain ⟨er, her⟩ : ∃ er, er = (openL l0).2 := ⟨_, rfl⟩
  have HBL := Aside0.mk (show bd.length ≤ 65536 from by rw [hbd]; exact openL_len l0)
  have HBB := Aside0.mk (show Bytes_ bd from by rw [hbd]; exact openL_bytes l0 hb.1)
  have HP2 := Aside0.mk (show crc_Open.f (l0.length + 2) l0 = some (bd, er) from by rw [hbd, her]; exact HP.out)
  clear h hb hr0 hc0 HP
  go_enter Tryz.func17, Tryz.ntmps17
  go_wp2_with fail
  refine (crc_Open.calls (l0.length + 2) A0 c0 l0 bd er _ (Kd.C_alloc HR0.out _) HC0.out HP2.out).mono ?_
  rintro e w1 ⟨v1, rfl, ho, hb⟩
  obtain ⟨Ab, cb, rfl⟩ := Kd.R_slice ho
  have HO1 := Aside0.mk ho
  have D1 := Aside0.mk (blk_below (heap_alloc_new w (.cells #[.int .i64 0, .int .i64 0, .int .i64 0, .slice none 0 0, .slice none 0 0, .slice none 0 0] 26)) hb)
  have HB1 := Aside0.mk (show Below w.heap.size w w1 from below_step (below_alloc (Below.refl _ w) _) hb)
  clear ho hb
  by_cases h0 : er = 0
  case neg =>
    have h1 : (er != 0) = true := bne_iff_ne.2 h0
    have HE := Aside0.mk (show readB l0 = (zMsg, er) from by rw [her]; exact if_neg (by rw [← her]; exact h0))
    have E2 := HEq.out
    rw [HE.out] at E2
    have E3 := Aside0.mk E2
    have hdc := fun i => blk_cell D1.out i
    have hdf := fun i => blk_frozen D1.out i
    clear E2 h0 her hbd
    go_wp2
    obtain ⟨rfl, rfl, rfl, rfl, rfl, rfl, rfl⟩ := E3.out
    refine bodyPost_ret (v := .tuple #[.agg #[.int .i64 0, .int .i64 0, .int .i64 0, .slice none 0 0, .slice none 0 0, .slice none 0 0], .int .i64 er]) ?_ rfl ⟨.slice none 0 0, .slice none 0 0, .slice none 0 0, rfl, Kd.R_nil _ _ _ _ _, Kd.R_nil _ _ _ _ _, Kd.S_nil _ _ _ _ _, by repeat (first | refine below_set ?_ (Nat.le_refl _) | exact HB1.out)⟩
    exact results_ct (p := 2) (u := 3) (ty := 26) rfl _ _ w.heap.size 26 #[.int .i64 0, .int .i64 0, .int .i64 0, .slice none 0 0, .slice none 0 0, .slice none 0 0] (0, 0) _ rfl (set6 D1.out _ _ _ _ _ _) Tryz.underlying26 rfl (by kernel_rfl)
  subst h0
  have HRB := Aside0.mk (show readB l0 = rmsg bd from by rw [hbd]; exact if_pos her.symm)
  clear her hbd
  obtain ⟨q1, hq1⟩ : ∃ q, q = rnum 1 (bd, false) := ⟨_, rfl⟩
  obtain ⟨q2, hq2⟩ : ∃ q, q = rnum 1 (q1.2.1, q1.2.2) := ⟨_, rfl⟩
  obtain ⟨q3, hq3⟩ : ∃ q, q = rnum 1 (q2.2.1, q2.2.2) := ⟨_, rfl⟩
  obtain ⟨q4, hq4⟩ : ∃ q, q = rnums (q3.2.1, q3.2.2) := ⟨_, rfl⟩
  obtain ⟨q5, hq5⟩ : ∃ q, q = rnums (q4.2.1, q4.2.2) := ⟨_, rfl⟩
  obtain ⟨q6, hq6⟩ : ∃ q, q = rnum 2 (q5.2.1, q5.2.2) := ⟨_, rfl⟩
  have HS := Aside0.mk (show rmsg bd = rfin (q1.1, q2.1, q3.1, q4.1, q5.1, q6.1) (rops q6.1.toNat q6.2) from by rw [hq6, hq5, hq4, hq3, hq2, hq1]; rfl)
  have HQ1 := Aside0.mk hq1
  have HQ2 := Aside0.mk hq2
  have HQ3 := Aside0.mk hq3
  have HQ4 := Aside0.mk hq4
  have HQ5 := Aside0.mk hq5
  have HQ6 := Aside0.mk hq6
  clear hq1 hq2 hq3 hq4 hq5 hq6
  go_wp2_with fail
  obtain ⟨g, hgd⟩ : ∃ g, g = w1.heap.size := ⟨_, rfl⟩
  have H0 := Aside0.mk (show IsR w1 (w1.alloc (.cells #[.slice Ab bd.length cb, .int .i64 0, .bool false] 80)) g bd bd false from ⟨below_alloc (Below.refl _ w1) _, by omega, HBB.out, HBL.out, Ab, cb, 0, by rw [hgd]; exact heap_alloc_new w1 (.cells #[.slice Ab bd.length cb, .int .i64 0, .bool false] 80), (Kd.R_reads' HO1.out).2.2, (Kd.R_reads' HO1.out).2.1, by omega, rfl⟩)
  have D0 := Aside0.mk (blk_below D1.out (below_alloc (Below.refl _ w1) (.cells #[.slice Ab bd.length cb, .int .i64 0, .bool false] 80)))
  have HRG := Aside0.mk (show w.heap.size ≠ g from by have := blk_lt D1.out; omega)
  clear D1
  rw [← hgd]
  clear hgd
  refine (R_num w1 _ g bd bd false H0.out 1 1 rfl (by omega) (by omega)).mono ?_
  rintro e v1 ⟨rfl, hi, hk⟩
  rw [← HQ1.out] at hi
  rw [← HQ1.out]
  have D1 := Aside0.mk (hk.blk D0.out HRG.out (by simp))
  have H1 := Aside0.mk hi
  clear hi hk HQ1
  go_wp2_with fail
  refine (R_num w1 _ g bd q1.2.1 q1.2.2 H1.out 1 1 rfl (by omega) (by omega)).mono ?_
  rintro e v2 ⟨rfl, hi, hk⟩
  rw [← HQ2.out] at hi
  rw [← HQ2.out]
  have D2 := Aside0.mk (hk.blk D1.out HRG.out (by simp))
  have H2 := Aside0.mk hi
  clear hi hk HQ2
  go_wp2_with fail
  refine (R_num w1 _ g bd q2.2.1 q2.2.2 H2.out 1 1 rfl (by omega) (by omega)).mono ?_
  rintro e v3 ⟨rfl, hi, hk⟩
  rw [← HQ3.out] at hi
  rw [← HQ3.out]
  have D3 := Aside0.mk (hk.blk D2.out HRG.out (by simp))
  have H3 := Aside0.mk hi
  clear hi hk HQ3
  go_wp2_with fail
  refine (R_nums w1 _ g bd q3.2.1 q3.2.2 H3.out).mono ?_
  rintro e v4 ⟨v, rfl, ho, hi, hk⟩
  rw [← HQ4.out] at hi ho
  obtain ⟨A4, c4, rfl⟩ := Kd.R_slice ho
  have O4 := Aside0.mk (Kd.R_lower ho (below_size H3.out.1))
  have D4 := Aside0.mk (hk.blk D3.out HRG.out (by simp))
  have H4 := Aside0.mk hi
  clear hi hk HQ4 ho
  go_wp2_with fail
  refine (R_nums w1 _ g bd q4.2.1 q4.2.2 H4.out).mono ?_
  rintro e v5 ⟨v, rfl, ho, hi, hk⟩
  rw [← HQ5.out] at hi ho
  obtain ⟨A5, c5, rfl⟩ := Kd.R_slice ho
  have O5 := Aside0.mk (Kd.R_lower ho (below_size H4.out.1))
  have P5 := Aside0.mk (Kd.R_keep O4.out hk (fun _ h => h))
  have D5 := Aside0.mk (hk.blk D4.out HRG.out (by simp))
  have H5 := Aside0.mk hi
  clear hi hk HQ5 ho
  go_wp2_with fail
  have H6 := Aside0.mk (H5.out.alloc (.cells #[.int .i64 q1.1, .int .i64 q2.1, .int .i64 q3.1, .slice A4 q4.1.length c4, .slice A5 q5.1.length c5, .slice none 0 0] 26))
  have X6 := Aside0.mk (heap_alloc_new v5 (.cells #[.int .i64 q1.1, .int .i64 q2.1, .int .i64 q3.1, .slice A4 q4.1.length c4, .slice A5 q5.1.length c5, .slice none 0 0] 26))
  have D6 := Aside0.mk (blk_below D5.out (below_alloc (Below.refl _ v5) (.cells #[.int .i64 q1.1, .int .i64 q2.1, .int .i64 q3.1, .slice A4 q4.1.length c4, .slice A5 q5.1.length c5, .slice none 0 0] 26)))
  have OS6 := Aside0.mk (Kd.R_alloc O5.out (.cells #[.int .i64 q1.1, .int .i64 q2.1, .int .i64 q3.1, .slice A4 q4.1.length c4, .slice A5 q5.1.length c5, .slice none 0 0] 26))
  have OH6 := Aside0.mk (Kd.R_alloc P5.out (.cells #[.int .i64 q1.1, .int .i64 q2.1, .int .i64 q3.1, .slice A4 q4.1.length c4, .slice A5 q5.1.length c5, .slice none 0 0] 26))
  have hxg : v5.heap.size ≠ g := by have := H5.out.lt; omega
  have hxr : v5.heap.size ≠ w.heap.size := by have := blk_lt D5.out; omega
  have hxw : w1.heap.size ≤ v5.heap.size := below_size H5.out.1
  obtain ⟨v6, hv6⟩ : ∃ v6, v6 = v5.alloc (.cells #[.int .i64 q1.1, .int .i64 q2.1, .int .i64 q3.1, .slice A4 q4.1.length c4, .slice A5 q5.1.length c5, .slice none 0 0] 26) := ⟨_, rfl⟩
  rw [← hv6] at H6 X6 D6 OS6 OH6
  rw [← hv6]
  obtain ⟨xb, hxb⟩ : ∃ xb, xb = v5.heap.size := ⟨_, rfl⟩
  rw [← hxb] at X6 hxg hxr hxw
  rw [← hxb]
  have HXG := Aside0.mk hxg
  have HXR := Aside0.mk hxr
  have HXW := Aside0.mk hxw
  have HRX := Aside0.mk (fun e => HXR.out e.symm : w.heap.size ≠ xb)
  clear hv6 hxb hxg hxr hxw
  refine (R_num w1 _ g bd q5.2.1 q5.2.2 H6.out 2 2 rfl (by omega) (by omega)).mono ?_
  have hq6b := rnum_bound 2 (q5.2.1, q5.2.2) H6.out.bytes
  rw [← HQ6.out] at hq6b
  rintro e v7 ⟨rfl, hi, hk⟩
  rw [← HQ6.out] at hi
  rw [← HQ6.out]
  have H7 := Aside0.mk hi
  have X7 := Aside0.mk (hk.blk X6.out HXG.out (by simp))
  have D7 := Aside0.mk (hk.blk D6.out HRG.out (by simp))
  have OS7 := Aside0.mk (Kd.R_keep OS6.out hk (fun _ h => h))
  have OH7 := Aside0.mk (Kd.R_keep OH6.out hk (fun _ h => h))
  clear hi hk HQ6
  obtain ⟨N, hN⟩ : ∃ N : Nat, q6.1 = (N : Int) := ⟨q6.1.toNat, by omega⟩
  have HN := Aside0.mk (show N ≤ 65535 from by have := hq6b.2; rw [hN] at this; omega)
  have HS2 := Aside0.mk (show rmsg bd = rfin (q1.1, q2.1, q3.1, q4.1, q5.1, q6.1) (rops N q6.2) from by rw [HS.out]; congr 1; rw [hN, Int.toNat_natCast])
  rw [hN]
  clear hq6b hN
  obtain ⟨FL, hFL⟩ : ∃ FL, FL = rops N q6.2 := ⟨_, rfl⟩
  rw [← hFL] at HS2
  have HFL := Aside0.mk hFL
  clear hFL
  go_wp2
  go_loopw [8] (fun v wr => ∃ (n : Nat) (L : List Opr) (st : List Int × Bool) (Ao : Option Addr) (co : Nat), n + L.length ≤ 65535 ∧ v = .int .i64 n ∧ Aside0 (L ++ (rops n st).1 = FL.1 ∧ (rops n st).2 = FL.2) ∧ Aside0 (IsR w1 wr g bd st.1 st.2) ∧ Aside0 (wr.heap[w.heap.size]? = some (.cells #[.int .i64 0, .int .i64 0, .int .i64 0, .slice none 0 0, .slice none 0 0, .slice none 0 0] 26 (0, 0))) ∧ Aside0 (wr.heap[xb]? = some (.cells #[.int .i64 q1.1, .int .i64 q2.1, .int .i64 q3.1, .slice A4 q4.1.length c4, .slice A5 q5.1.length c5, .slice Ao L.length co] 26 (0, 0))) ∧ Aside0 (Kd.R (Kd.int .i64) 3 wr w1.heap.size (fun k => k ≠ g) (.slice A4 q4.1.length c4) q4.1) ∧ Aside0 (Kd.R (Kd.int .i64) 3 wr w1.heap.size (fun k => k ≠ g) (.slice A5 q5.1.length c5) q5.1) ∧ Aside0 (Kd.S k52 52 wr w1.heap.size (fun k => k ≠ g) (.slice Ao L.length co) L)) (fun v _ => (intOf v).toNat)
  case atStart => exact ⟨N, [], q6.2, none, 0, by have := HN.out; simpa using this, rfl, ⟨by rw [HFL.out]; rfl, by rw [HFL.out]⟩, H7, D7, X7, OH7, OS7, ⟨Kd.S_nil _ _ _ _ _⟩⟩
  case round =>
    obtain ⟨n, L, st, Ao, co, hn, rfl, HFL2, HI, HD, HX, HOH, HOS, HOL⟩ := hrel
    rcases n with _ | n
    · have HF := Aside0.mk (show L = FL.1 ∧ st = FL.2 from by have := HFL2.out; simpa [rops] using this)
      clear hn HFL2
      rcases hbq : st.2 with _ | _
      · have HBT := Aside0.mk hbq
        rw [hbq] at HI
        clear hbq
        obtain ⟨h0, hg, h2, h3, A, c, at_, hv, hC, hc, ha, hd⟩ := HI.out
        have hb2 := (blk_cell hv 2).trans rfl
        have hb1 := (blk_cell hv 1).trans rfl
        have hdc := fun i => blk_cell HD.out i
        have hdf := fun i => blk_frozen HD.out i
        have hxc := fun i => blk_cell HX.out i
        by_cases hr : st.1 = []
        · have hne : ((at_ : Int) != (bd.length : Int)) = false := by have h9 := congrArg List.length hd; rw [hr] at h9; simp at h9; simp; omega
          have HE := Aside0.mk (show readB l0 = ((q1.1, q2.1, q3.1, q4.1, q5.1, FL.1), 0) from by rw [HRB.out, HS2.out]; exact if_neg (by rw [← HF.out.2]; rintro (h | h); rw [HBT.out] at h; cases h; exact h hr))
          have E2 := HEq.out
          rw [HE.out, ← HF.out.1] at E2
          have E3 := Aside0.mk E2
          clear E2 hr h0 hg h2 h3 hv hC hc ha hd
          go_wp2
          obtain ⟨rfl, rfl, rfl, rfl, rfl, rfl, rfl⟩ := E3.out
          refine bodyPost_ret (v := .tuple #[.agg #[.int .i64 q1.1, .int .i64 q2.1, .int .i64 q3.1, .slice A4 q4.1.length c4, .slice A5 q5.1.length c5, .slice Ao L.length co], .int .i64 0]) ?_ rfl ⟨.slice A4 q4.1.length c4, .slice A5 q5.1.length c5, .slice Ao L.length co, rfl, (Kd.R_mono (Kd.R_lower (Kd.R_step (Kd.R_types HOH.out HD.out (by decide)) (fun k hk _ => by repeat (first | refine heap_set ?_ hk.2 | rfl))) (below_size HB1.out)) (fun _ _ => trivial)), (Kd.R_mono (Kd.R_lower (Kd.R_step (Kd.R_types HOS.out HD.out (by decide)) (fun k hk _ => by repeat (first | refine heap_set ?_ hk.2 | rfl))) (below_size HB1.out)) (fun _ _ => trivial)), (Kd.S_mono (Kd.S_lower (Kd.S_step (Kd.S_types HOL.out HD.out (by decide)) (fun k hk _ => by repeat (first | refine heap_set ?_ hk.2 | rfl))) (below_size HB1.out)) (fun _ _ => trivial)), by repeat (first | refine below_set ?_ (Nat.le_refl _) | exact (below_step HB1.out HI.out.1))⟩
          exact results_ct (p := 2) (u := 3) (ty := 26) rfl _ _ w.heap.size 26 #[.int .i64 q1.1, .int .i64 q2.1, .int .i64 q3.1, .slice A4 q4.1.length c4, .slice A5 q5.1.length c5, .slice Ao L.length co] (0, 0) _ rfl (set6 HD.out _ _ _ _ _ _) Tryz.underlying26 rfl (by kernel_rfl)
        · have hne : ((at_ : Int) != (bd.length : Int)) = true := by have h9 : st.1.length = bd.length - at_ := by { rw [← hd]; simp }; have h8 : 0 < st.1.length := List.length_pos_iff.2 hr; simp; omega
          have HE := Aside0.mk (show readB l0 = (zMsg, 3) from by rw [HRB.out, HS2.out]; exact if_pos (by rw [← HF.out.2]; exact .inr hr))
          have E2 := HEq.out
          rw [HE.out] at E2
          have E3 := Aside0.mk E2
          clear E2 h0 hg h2 h3 hv hC hc ha hd
          go_wp2
          obtain ⟨rfl, rfl, rfl, rfl, rfl, rfl, rfl⟩ := E3.out
          refine bodyPost_ret (v := .tuple #[.agg #[.int .i64 0, .int .i64 0, .int .i64 0, .slice none 0 0, .slice none 0 0, .slice none 0 0], .int .i64 3]) ?_ rfl ⟨.slice none 0 0, .slice none 0 0, .slice none 0 0, rfl, Kd.R_nil _ _ _ _ _, Kd.R_nil _ _ _ _ _, Kd.S_nil _ _ _ _ _, by repeat (first | refine below_set ?_ (Nat.le_refl _) | exact (below_step HB1.out HI.out.1))⟩
          exact results_ct (p := 2) (u := 3) (ty := 26) rfl _ _ w.heap.size 26 #[.int .i64 0, .int .i64 0, .int .i64 0, .slice none 0 0, .slice none 0 0, .slice none 0 0] (0, 0) _ rfl (set6 HD.out _ _ _ _ _ _) Tryz.underlying26 rfl (by kernel_rfl)
      · have HBT := Aside0.mk hbq
        rw [hbq] at HI
        clear hbq
        obtain ⟨h0, hg, h2, h3, A, c, at_, hv, hC, hc, ha, hd⟩ := HI.out
        have hb2 := (blk_cell hv 2).trans rfl
        have hb1 := (blk_cell hv 1).trans rfl
        have hdc := fun i => blk_cell HD.out i
        have hdf := fun i => blk_frozen HD.out i
        have hxc := fun i => blk_cell HX.out i
        have HE := Aside0.mk (show readB l0 = (zMsg, 3) from by rw [HRB.out, HS2.out]; exact if_pos (by rw [← HF.out.2]; exact .inl HBT.out))
        have E2 := HEq.out
        rw [HE.out] at E2
        have E3 := Aside0.mk E2
        clear E2 h0 hg h2 h3 hv hC hc ha hd
        go_wp2
        obtain ⟨rfl, rfl, rfl, rfl, rfl, rfl, rfl⟩ := E3.out
        refine bodyPost_ret (v := .tuple #[.agg #[.int .i64 0, .int .i64 0, .int .i64 0, .slice none 0 0, .slice none 0 0, .slice none 0 0], .int .i64 3]) ?_ rfl ⟨.slice none 0 0, .slice none 0 0, .slice none 0 0, rfl, Kd.R_nil _ _ _ _ _, Kd.R_nil _ _ _ _ _, Kd.S_nil _ _ _ _ _, by repeat (first | refine below_set ?_ (Nat.le_refl _) | exact (below_step HB1.out HI.out.1))⟩
        exact results_ct (p := 2) (u := 3) (ty := 26) rfl _ _ w.heap.size 26 #[.int .i64 0, .int .i64 0, .int .i64 0, .slice none 0 0, .slice none 0 0, .slice none 0 0] (0, 0) _ rfl (set6 HD.out _ _ _ _ _ _) Tryz.underlying26 rfl (by kernel_rfl)
    · rcases hbq : st.2 with _ | _
      · have HF := Aside0.mk (show L ++ [(rop st).1] ++ (rops n (rop st).2).1 = FL.1 ∧ (rops n (rop st).2).2 = FL.2 from by have := HFL2.out; rw [show rops (n + 1) st = ((rop st).1 :: (rops n (rop st).2).1, (rops n (rop st).2).2) from if_neg (by rw [hbq]; exact Bool.false_ne_true)] at this; simpa using this)
        have hp : decide ((0 : Int) < ((n + 1 : Nat) : Int)) = true := decide_eq_true (by omega)
        have HLN := Aside0.mk hn
        have HWN := Aside0.mk (show wrap64 (n : Int) = (n : Int) from wrap_in _ (by omega) (by omega))
        obtain ⟨q9, hq9⟩ : ∃ q, q = rop (st.1, st.2) := ⟨_, rfl⟩
        have HQ9 := Aside0.mk hq9
        rw [show rop st = q9 from hq9.symm] at HF
        have hv2 : wr.cell? ⟨g, 2, none⟩ = some (.bool false) := by obtain ⟨_, _, _, _, A, c, at_, hv, _⟩ := HI.out; rw [hbq] at hv; exact (blk_cell hv 2).trans rfl
        have hxc := fun i => blk_cell HX.out i
        have hxf := fun i => blk_frozen HX.out i
        have HB12 := Aside0.mk (Kd.S_bound HOL.out)
        clear hbq hq9 hn HFL2
        go_wp2_with fail
        go_region_law (first | (go_simp; go_at_call 46; refine (R_op w1 _ g bd st.1 st.2 (HI.out.below (by first | exact Below.refl _ _ | exact below_drew (Below.refl _ _)))).mono ?_; rintro e w12 ⟨cs, rfl, hM, hi, hk2⟩; rw [← HQ9.out] at hi hM; obtain ⟨u2, u10, u11, rfl, m2, m10, m11⟩ := k52_openM hM; obtain ⟨B2, d2, rfl⟩ := Kd.R_slice m2; obtain ⟨B10, d10, rfl⟩ := Kd.R_slice m10; obtain ⟨B11, d11, rfl⟩ := Kd.R_slice m11; have hk3 : KeepBut wr w12 g none := hk2; have HM12 := Aside0.mk (show k52.M w12 wr.heap.size (fun k => k ≠ g) q9.1 _ from hM); have H12 := Aside0.mk hi; have HZ12 := Aside0.mk hk3.1; have D12 := Aside0.mk (hk3.blk HD.out HRG.out (by simp)); have X12 := Aside0.mk (hk3.blk HX.out HXG.out (by simp)); have OH12 := Aside0.mk (Kd.R_keep HOH.out hk3 (fun _ h => h)); have OS12 := Aside0.mk (Kd.R_keep HOS.out hk3 (fun _ h => h)); have OL12 := Aside0.mk (Kd.S_keep HB12.out hk3 (fun _ h => h.1)); have hxc2 := fun i => blk_cell X12.out i; have hxf2 := fun i => blk_frozen X12.out i; have X12a := Aside0.mk (blk_below X12.out (below_alloc (Below.refl _ w12) (.cells #[.int .i64 q9.1.f0.f0, .int .i64 q9.1.f0.f1, .slice B2 q9.1.f1.length d2, .int .i64 q9.1.f2.f0, .int .i64 q9.1.f2.f1, .int .i64 q9.1.f2.f2, .int .i64 q9.1.f3, .int .i64 q9.1.f4, .string q9.1.f5, .int .i64 q9.1.f6, .slice B10 q9.1.f7.length d10, .slice B11 q9.1.f8.length d11] 52))); have hxc2a := fun i => blk_cell X12a.out i; clear hi hk2 hk3 hM m2 m10 m11 X12a) | (refine Kd.S_append_step k52 (w0 := w12) w1.heap.size rfl (.tmp 46) (.tmp 49) 24 52 _ 152 rfl Tryz.underlying24 minfo52 rfl (by decide) (by omega) (.slice Ao L.length co) L q9.1 [.int .i64 q9.1.f0.f0, .int .i64 q9.1.f0.f1, .slice B2 q9.1.f1.length d2, .int .i64 q9.1.f2.f0, .int .i64 q9.1.f2.f1, .int .i64 q9.1.f2.f2, .int .i64 q9.1.f3, .int .i64 q9.1.f4, .string q9.1.f5, .int .i64 q9.1.f6, .slice B10 q9.1.f7.length d10, .slice B11 q9.1.f8.length d11] (fun k => k ≠ g) (fun k => k ≠ g ∧ wr.heap.size ≤ k) rfl rfl (k52.M_lower (below_size HI.out.1) (k52.M_mono (fun k hk => ⟨hk.1, hk.2.1⟩) (k52.M_bound HM12.out))) (fun k hk => ⟨hk.1, fun e_ => by have := Kd.S_lt HOL.out k e_.symm; omega⟩) (fun k hk e_ => by have := H12.out.lt; omega) (Kd.S_mono OL12.out (fun k hk => ⟨hk.1, fun h => by have := hk.2.2.1; omega⟩)) (Below.refl _ _) (below_size H12.out.1) (by have := HLN.out; omega) ?_; intro v3 w13 ho hb hgw hat; obtain ⟨A13, c13, rfl⟩ := Kd.R_slice (Kd.S_R ho); have O13 := Aside0.mk ho; have hb12 := fun k (hk : (Value.slice Ao L.length co).ownBlock = some k) => Kd.S_base HOL.out k hk; have hg12 : (Value.slice Ao L.length co).ownBlock ≠ some g := fun e_ => (Kd.S_R HOL.out).1 g e_ rfl; have H13 := Aside0.mk (H12.out.grown hgw hg12 (fun k hk => hb12 k hk)); have D13 := Aside0.mk (blk_grown D12.out hgw (Kd.R_ne (Kd.S_R OL12.out) D12.out (by decide))); have X13 := Aside0.mk (blk_grown X12.out hgw (Kd.R_ne (Kd.S_R OL12.out) X12.out (by decide))); have OH13 := Aside0.mk (Kd.R_over' OH12.out (Kd.S_typed OL12.out) (by decide) hgw); have OS13 := Aside0.mk (Kd.R_over' OS12.out (Kd.S_typed OL12.out) (by decide) hgw); have hxc3 := fun i => blk_cell X13.out i; have hxf3 := fun i => blk_frozen X13.out i; clear ho hb hgw hat hxc2 hxf2 hxc2a hb12 hg12))
        all_goals (go_wp2; go_roundw)
        case rel => exact ⟨n, L ++ [q9.1], q9.2, A13, c13, by have := HLN.out; simp; omega, by first | (rw [HWN.out]; done) | rw [HWN.out] | go_num, HF, ⟨H13.out.far HXG.out HXW.out 5 (.slice A13 (L.length + 1) c13)⟩, ⟨(Below.heap_setCell w13 ⟨xb, 5, none⟩ (.slice A13 (L.length + 1) c13) w.heap.size HRX.out).trans D13.out⟩, by rw [show (L ++ [q9.1]).length = L.length + 1 from by simp]; exact ⟨blk_set X13.out 5 (.slice A13 (L.length + 1) c13)⟩, ⟨Kd.R_set OH13.out X13.out (by decide) 5 (.slice A13 (L.length + 1) c13)⟩, ⟨Kd.R_set OS13.out X13.out (by decide) 5 (.slice A13 (L.length + 1) c13)⟩, ⟨Kd.S_set O13.out X13.out (by decide) 5 (.slice A13 (L.length + 1) c13)⟩⟩
        case measure => exact meas_down n HWN.out
        case rel => exact ⟨n, L ++ [q9.1], q9.2, A13, c13, by have := HLN.out; simp; omega, by first | (rw [HWN.out]; done) | rw [HWN.out] | go_num, HF, ⟨H13.out.far HXG.out HXW.out 5 (.slice A13 (L.length + 1) c13)⟩, ⟨(Below.heap_setCell w13 ⟨xb, 5, none⟩ (.slice A13 (L.length + 1) c13) w.heap.size HRX.out).trans D13.out⟩, by rw [show (L ++ [q9.1]).length = L.length + 1 from by simp]; exact ⟨blk_set X13.out 5 (.slice A13 (L.length + 1) c13)⟩, ⟨Kd.R_set OH13.out X13.out (by decide) 5 (.slice A13 (L.length + 1) c13)⟩, ⟨Kd.R_set OS13.out X13.out (by decide) 5 (.slice A13 (L.length + 1) c13)⟩, ⟨Kd.S_set O13.out X13.out (by decide) 5 (.slice A13 (L.length + 1) c13)⟩⟩
        case measure => exact meas_down n HWN.out
        case rel => exact ⟨n, L ++ [q9.1], q9.2, A13, c13, by have := HLN.out; simp; omega, by first | (rw [HWN.out]; done) | rw [HWN.out] | go_num, HF, ⟨H13.out.far HXG.out HXW.out 5 (.slice A13 (L.length + 1) c13)⟩, ⟨(Below.heap_setCell w13 ⟨xb, 5, none⟩ (.slice A13 (L.length + 1) c13) w.heap.size HRX.out).trans D13.out⟩, by rw [show (L ++ [q9.1]).length = L.length + 1 from by simp]; exact ⟨blk_set X13.out 5 (.slice A13 (L.length + 1) c13)⟩, ⟨Kd.R_set OH13.out X13.out (by decide) 5 (.slice A13 (L.length + 1) c13)⟩, ⟨Kd.R_set OS13.out X13.out (by decide) 5 (.slice A13 (L.length + 1) c13)⟩, ⟨Kd.S_set O13.out X13.out (by decide) 5 (.slice A13 (L.length + 1) c13)⟩⟩
        case measure => exact meas_down n HWN.out
      · have HF := Aside0.mk (show L = FL.1 ∧ st = FL.2 from by have := HFL2.out; rw [show rops (n + 1) st = ([], st) from if_pos hbq] at this; simpa using this)
        have hp : decide ((0 : Int) < ((n + 1 : Nat) : Int)) = true := decide_eq_true (by omega)
        have HBT := Aside0.mk hbq
        rw [hbq] at HI
        clear hbq HFL2 hn
        obtain ⟨h0, hg, h2, h3, A, c, at_, hv, hC, hc, ha, hd⟩ := HI.out
        have hb2 := (blk_cell hv 2).trans rfl
        have hb1 := (blk_cell hv 1).trans rfl
        have hdc := fun i => blk_cell HD.out i
        have hdf := fun i => blk_frozen HD.out i
        have hxc := fun i => blk_cell HX.out i
        have HE := Aside0.mk (show readB l0 = (zMsg, 3) from by rw [HRB.out, HS2.out]; exact if_pos (by rw [← HF.out.2]; exact .inl HBT.out))
        have E2 := HEq.out
        rw [HE.out] at E2
        have E3 := Aside0.mk E2
        clear E2 h0 hg h2 h3 hv hC hc ha hd
        go_wp2
        obtain ⟨rfl, rfl, rfl, rfl, rfl, rfl, rfl⟩ := E3.out
        refine bodyPost_ret (v := .tuple #[.agg #[.int .i64 0, .int .i64 0, .int .i64 0, .slice none 0 0, .slice none 0 0, .slice none 0 0], .int .i64 3]) ?_ rfl ⟨.slice none 0 0, .slice none 0 0, .slice none 0 0, rfl, Kd.R_nil _ _ _ _ _, Kd.R_nil _ _ _ _ _, Kd.S_nil _ _ _ _ _, by repeat (first | refine below_set ?_ (Nat.le_refl _) | exact (below_step HB1.out HI.out.1))⟩
        exact results_ct (p := 2) (u := 3) (ty := 26) rfl _ _ w.heap.size 26 #[.int .i64 0, .int .i64 0, .int .i64 0, .slice none 0 0, .slice none 0 0, .slice none 0 0] (0, 0) _ rfl (set6 HD.out _ _ _ _ _ _) Tryz.underlying26 rfl (by kernel_rfl)
end Go.Proofs.YtnbjflcfdncocaaGreat.M
namespace Go.Proofs.YtnbjflcfdncocaaGreat.M
open Go.RowKit Go.Proofs.YtnbjflcfdncocaaGreatW.PrintWords Go.Proofs.YtnbjflcfdncocaaGreatW.PrintLast Go.Proofs.YtnbjflcfdncocaaGreatW.PrintMore
attribute [local go_sem] max2_int min2_int max_two min_two max_three min_three max_four min_four
set_option linter.unusedVariables false
set_option linter.unusedSimpArgs false
def op_Key.f (a0 : ByteArray) : Option (Bool) := if (a0.size : Int) ≥ 1 then (some (decide ((a0.size : Int) ≤ 12))) else (some false)
set_option maxHeartbeats 8000000 in
set_option maxRecDepth 100000 in
theorem op_Key.calls (a0 : ByteArray) (r : Bool) (w : World) (h : op_Key.f a0 = some r) :
  Calls Tryz.prog 125 #[.string a0] w fun e w' => e = .returned (.bool r) ∧ Drawn0 w w' := by
 have H : (if (a0.size : Int) ≥ 1 then (some (decide ((a0.size : Int) ≤ 12))) else (some false)) = some r := h
 clear h
 by_cases c2 : (a0.size : Int) ≥ 1
 ·rw [if_pos c2] at H
  have c2b0 : decide (1 ≤ (a0.size : Int)) = true := decide_eq_true c2
  have c2b1 : decide (1 ≤ a0.size) = true := decide_eq_true (by omega)
  clear c2
  obtain rfl := Option.some.inj H
  go_enter Tryz.func125, Tryz.ntmps125
  go_wp2
  go_ret
  exact ⟨by first | rfl | (simp; done) | (simp [*]; done), by repeat (first | exact Drawn0.refl _ | apply Drawn0.step)⟩
 ·rw [if_neg c2] at H
  have c2b0 : decide (1 ≤ (a0.size : Int)) = false := decide_eq_false c2
  have c2b1 : decide (1 ≤ a0.size) = false := decide_eq_false (by omega)
  clear c2
  obtain rfl := Option.some.inj H
  go_enter Tryz.func125, Tryz.ntmps125
  go_wp2
  go_ret
  exact ⟨by first | rfl | (simp; done) | (simp [*]; done), by repeat (first | exact Drawn0.refl _ | apply Drawn0.step)⟩
end Go.Proofs.YtnbjflcfdncocaaGreat.M
namespace Go.Proofs.YtnbjflcfdncocaaGreat.M
open Go.RowKit Go.Proofs.YtnbjflcfdncocaaGreatW.PrintWords Go.Proofs.YtnbjflcfdncocaaGreatW.PrintLast Go.Proofs.YtnbjflcfdncocaaGreatW.PrintMore
def equal_Fits.p (x : S92) (y : Int) : Bool := (value_Fits.f x.f0 x.f1 x.f2 y).getD false
theorem equal_Fits.p_eq (x : S92) (y : Int) : value_Fits.f x.f0 x.f1 x.f2 y = some (equal_Fits.p x y) := by
  have h : (value_Fits.f x.f0 x.f1 x.f2 y).isSome = true := by
    unfold value_Fits.f; obtain ⟨c, hc⟩ := value_Check_total x.f0 x.f1 x.f2; rw [hc]; simp only [Option.bind_some]; repeat' split <;> try rfl
  unfold equal_Fits.p
  obtain ⟨b, hb⟩ := Option.isSome_iff_exists.1 h
  rw [hb]; rfl
def equal_Fits.f (l0 : List S92) (l1 : List Int) : Option Bool := some (allF equal_Fits.p l0 l1)
theorem equal_Fits.calls (A0 : Option Addr) (c0 : Nat) (l0 : List S92) (A1 : Option Addr) (c1 : Nat) (l1 : List Int) (r : Bool) (w : World) (hr0 : Kd.C k92 w A0 l0.length l0) (_hc0 : l0.length ≤ c0) (hr1 : Kd.C (Kd.int .i64) w A1 l1.length l1) (_hc1 : l1.length ≤ c1) (h : equal_Fits.f l0 l1 = some r) :
    Calls Tryz.prog 145 #[.slice A0 l0.length c0, .slice A1 l1.length c1, .func (.func 146) #[] #[]] w fun e w' => e = .returned (.bool r) ∧ Below w.heap.size w w' := by
  obtain rfl := Option.some.inj h
  exact EqualFunc_Value_int 146 (enters_ Tryz.func146 (by kernel_rfl) (by kernel_rfl)) equal_Fits.p (fun x y W => (value_Fits.calls x.f0 x.f1 x.f2 y _ W (equal_Fits.p_eq x y)).mono fun e w' ⟨he, hd⟩ => ⟨he, hd⟩) A0 c0 l0 A1 c1 l1 w hr0 hr1
end Go.Proofs.YtnbjflcfdncocaaGreat.M
namespace Go.Proofs.YtnbjflcfdncocaaGreat.M
open Go.RowKit Go.Proofs.YtnbjflcfdncocaaGreatW.PrintWords Go.Proofs.YtnbjflcfdncocaaGreatW.PrintLast Go.Proofs.YtnbjflcfdncocaaGreatW.PrintMore
attribute [local go_sem] max2_int min2_int max_two min_two max_three min_three max_four min_four
set_option linter.unusedVariables false
set_option linter.unusedSimpArgs false
def row_Fits.f (l0 : List (S92)) (l1 : List Int) : Option (Bool) := (equal_Fits.f l0 l1).bind fun t117 => (some t117)
set_option maxHeartbeats 8000000 in
set_option maxRecDepth 100000 in
theorem row_Fits.calls (A0 : Option Addr) (c0 : Nat) (l0 : List (S92)) (A1 : Option Addr) (c1 : Nat) (l1 : List Int) (r : Bool) (w : World) (hr0 : Kd.C k92 w A0 l0.length l0) (hc0 : l0.length ≤ c0) (hr1 : Kd.C (Kd.int .i64) w A1 l1.length l1) (hc1 : l1.length ≤ c1) (h : row_Fits.f l0 l1 = some r) :
  Calls Tryz.prog 137 #[.slice A0 l0.length c0, .slice A1 l1.length c1] w fun e w' => e = .returned (.bool r) ∧ Below w.heap.size w w' := by
 have HR0 := Aside0.mk hr0
 have HC0 := Aside0.mk hc0
 clear hr0 hc0
 have HR1 := Aside0.mk hr1
 have HC1 := Aside0.mk hc1
 clear hr1 hc1
 have HB := Aside0.mk (Below.refl w.heap.size w)
 have H : ((equal_Fits.f l0 l1).bind fun t117 => (some t117)) = some r := h
 clear h
 replace H := Option.bind_eq_some_iff.mp H
 obtain ⟨t117, A30, H⟩ := H
 try dsimp only at H
 have A3 := Aside0.mk A30
 clear A30
 obtain rfl := Option.some.inj H
 go_enter Tryz.func137, Tryz.ntmps137
 go_wp2_with (first | (go_at_call 145; (with_reducible refine (equal_Fits.calls _ _ l0 _ _ l1 t117 _ ?side1 ?side2 ?side3 ?side4 A3.out).mono ?_); (case side1 => repeat (first | exact HR0.out | (with_reducible refine Kd.C_alloc ?_ _) | (with_reducible refine Kd.C_drewN ?_ _) | (with_reducible refine Kd.C_drew ?_))); (case side2 => exact HC0.out); (case side3 => repeat (first | exact HR1.out | (with_reducible refine Kd.C_alloc ?_ _) | (with_reducible refine Kd.C_drewN ?_ _) | (with_reducible refine Kd.C_drew ?_))); (case side4 => exact HC1.out); rintro e w4 ⟨rfl, hb⟩; have n0_ := Aside0.mk (below_step (by with_reducible repeat (first | exact HB.out | apply below_alloc | apply pw_below_drewN | apply below_drew1)) hb); clear HB; have HB := n0_; clear n0_; (try clear hb); (try clear hb2); (try clear hk); (try clear hi)))
 go_ret
 exact ⟨by first | rfl | (simp [errW_none, errW_some] <;> rfl) | (simp [*, errW_none, errW_some] <;> rfl), by with_reducible repeat (first | exact HB.out | apply below_alloc | apply pw_below_drewN | apply below_drew1)⟩
def value_Small.f (a0_0 : Int) (a0_1 : Int) (a0_2 : ByteArray) : Option (Bool) := (value_Check.f a0_0 a0_1 a0_2).bind fun t119 => (if t119 = 0 then (if a0_0 = 3 then ((value_within.f a0_1 2147483648).bind fun t120 => (some t120)) else (some true)) else (some false))
set_option maxHeartbeats 8000000 in
set_option maxRecDepth 100000 in
theorem value_Small.calls (a0_0 : Int) (a0_1 : Int) (a0_2 : ByteArray) (r : Bool) (w : World) (h : value_Small.f a0_0 a0_1 a0_2 = some r) :
  Calls Tryz.prog 139 #[.agg #[.int .i64 a0_0, .int .i64 a0_1, .string a0_2]] w fun e w' => e = .returned (.bool r) ∧ Below w.heap.size w w' := by
 unfold value_Small.f at h
 obtain ⟨t119, ht119, h⟩ := Option.bind_eq_some_iff.1 h; have H := Aside0.mk h; have Ht119 := Aside0.mk ht119; clear h ht119
 go_enter Tryz.func139, Tryz.ntmps139
 go_wp2_with fail
 obtain ⟨W, hW, HI⟩ := One.start w (.cells #[.int .i64 a0_0, .int .i64 a0_1, .string a0_2] 92)
 rw [← hW]; clear hW
 have hk0 := fun i => blk_cell HI.out.2 i
 refine (value_Check.calls a0_0 a0_1 a0_2 t119 _ Ht119.out).mono ?_
 rintro e w1 ⟨rfl, hb⟩
 clear hk0; replace HI := Aside0.mk (HI.out.step (by first | exact hb | exact hb.below)); clear hb
 have hk0 := fun i => blk_cell HI.out.2 i
 have h := H.out; clear H
 by_cases c0 : t119 = 0
 case neg =>
  rw [if_neg c0] at h
  have g0 : (t119 == 0) = false := beq_eq_false_iff_ne.2 c0; have g0' : (t119 != 0) = true := bne_iff_ne.2 c0
  clear c0
  obtain rfl := Option.some.inj h
  go_wp2_with fail
  go_ret
  exact ⟨by first | rfl | (simp [*]; done), HI.out.1⟩
 rw [if_pos c0] at h
 have g0 : (t119 == 0) = true := beq_iff_eq.2 c0; have g0' : (t119 != 0) = false := bne_eq_false_iff_eq.2 c0
 clear c0
 by_cases c1 : a0_0 = 3
 case neg =>
  rw [if_neg c1] at h
  have g1 : (a0_0 == 3) = false := beq_eq_false_iff_ne.2 c1; have g1' : (a0_0 != 3) = true := bne_iff_ne.2 c1
  clear c1
  obtain rfl := Option.some.inj h
  go_wp2_with fail
  go_ret
  exact ⟨by first | rfl | (simp [*]; done), HI.out.1⟩
 rw [if_pos c1] at h
 have g1 : (a0_0 == 3) = true := beq_iff_eq.2 c1; have g1' : (a0_0 != 3) = false := bne_eq_false_iff_eq.2 c1
 clear c1
 obtain ⟨t120, ht120, h⟩ := Option.bind_eq_some_iff.1 h; have H := Aside0.mk h; have Ht120 := Aside0.mk ht120; clear h ht120
 go_wp2_with fail
 refine (value_within.calls a0_1 2147483648 t120 _ Ht120.out).mono ?_
 rintro e w1 ⟨rfl, hb⟩
 clear hk0; replace HI := Aside0.mk (HI.out.step (by first | exact hb | exact hb.below)); clear hb
 have hk0 := fun i => blk_cell HI.out.2 i
 have h := H.out; clear H
 obtain rfl := Option.some.inj h
 go_wp2_with fail
 go_ret
 exact ⟨by first | rfl | (simp [*]; done), HI.out.1⟩
def op_small_1.f (a0_0 : Int) (a0_1 : Int) (a0_2 : ByteArray) : Option (Bool) := (value_Small.f a0_0 a0_1 a0_2).bind fun t122 => (some (!t122))
set_option maxHeartbeats 8000000 in
set_option maxRecDepth 100000 in
theorem op_small_1.calls (a0_0 : Int) (a0_1 : Int) (a0_2 : ByteArray) (r : Bool) (w : World) (h : op_small_1.f a0_0 a0_1 a0_2 = some r) :
  Calls Tryz.prog 138 #[.agg #[.int .i64 a0_0, .int .i64 a0_1, .string a0_2]] w fun e w' => e = .returned (.bool r) ∧ Below w.heap.size w w' := by
 have hu92 := Tryz.underlying92
 have HB := Aside0.mk (Below.refl w.heap.size w)
 have H : ((value_Small.f a0_0 a0_1 a0_2).bind fun t122 => (some (!t122))) = some r := h
 clear h
 replace H := Option.bind_eq_some_iff.mp H
 obtain ⟨t122, A20, H⟩ := H
 try dsimp only at H
 have A2 := Aside0.mk A20
 clear A20
 obtain rfl := Option.some.inj H
 go_enter Tryz.func138, Tryz.ntmps138
 go_wp2_with (first | ((with_reducible refine gate_dst (N := 1) rfl ?_); refine box_event ?hg (N := 1) ?hd (cs := #[.int .i64 a0_0, .int .i64 a0_1, .string a0_2]) (t := 92) ?hr ?_; (case hd => rfl); (case hg => rfl); (case hr => first | (go_simp; done) | (go_simp; rfl)); intro gb121 hg w3 hbox hb; have n0_ := Aside0.mk (below_step (by with_reducible repeat (first | exact HB.out | apply below_alloc | apply pw_below_drewN | apply below_drew1)) hb); have n1_ := Aside0.mk (hbox); have n2_ := Aside0.mk ((by rw [hg]; exact (below_size (by with_reducible repeat (first | exact HB.out | apply below_alloc | apply pw_below_drewN | apply below_drew1))) : w.heap.size ≤ gb121)); have n3_ := Aside0.mk ((by rw [hg]; exact (below_size (by with_reducible repeat (first | exact HB.out | apply below_alloc | apply pw_below_drewN | apply below_drew1))) : w.heap.size ≤ gb121)); clear HB; have HB := n0_; have BK121 := n1_; have GW121 := n2_; have GE121 := n3_; clear n0_ n1_ n2_ n3_; clear hb hbox hg; have hcz4 := fun i_ => blk_cell BK121.out i_; have hfz4 := fun i_ => blk_frozen BK121.out i_) | ((with_reducible refine gate_callee (f := 139) rfl ?_); refine goesL_ (some 4) rfl rfl Tryz.func139 (by kernel_rfl) rfl #[.agg #[.int .i64 a0_0, .int .i64 a0_1, .string a0_2]] rfl (by (try simp only [List.map_toArray, List.map_cons, List.map_nil]); first | done | rfl | (simp only [List.length_drop, List.length_take]; rfl)) ?_; (with_reducible refine (value_Small.calls a0_0 a0_1 a0_2 t122 _ A2.out).mono ?_); rintro e w5 ⟨rfl, hb⟩; refine ⟨_, rfl, ?_⟩; have n0_ := Aside0.mk (blk_below (g := gb121) (o := .cells #[.int .i64 a0_0, .int .i64 a0_1, .string a0_2] 92 (0, 0)) (by (with_reducible repeat (first | refine blk_drewN ?_ _ | refine blk_drew ?_ | refine blk_alloc ?_ _)); exact BK121.out) hb); have n1_ := Aside0.mk (below_step (by with_reducible repeat (first | exact HB.out | apply below_alloc | apply pw_below_drewN | apply below_drew1 | refine below_set ?_ GE121.out)) hb); clear BK121; clear HB; have BK121 := n0_; have HB := n1_; clear n0_ n1_; (try clear hb); (try clear hb2); (try clear hk); (try clear hi)))
 go_ret
 exact ⟨by first | rfl | (simp [errW_none, errW_some] <;> rfl) | (simp [*, errW_none, errW_some] <;> rfl), by with_reducible repeat (first | exact HB.out | apply below_alloc | apply pw_below_drewN | apply below_drew1 | refine below_set ?_ GE121.out)⟩
end Go.Proofs.YtnbjflcfdncocaaGreat.M
namespace Go.Proofs.YtnbjflcfdncocaaGreat.M
open Go.RowKit Go.Proofs.YtnbjflcfdncocaaGreatW.PrintWords Go.Proofs.YtnbjflcfdncocaaGreatW.PrintLast Go.Proofs.YtnbjflcfdncocaaGreatW.PrintMore
def contains_small_1.p (x : S92) : Bool := (op_small_1.f x.f0 x.f1 x.f2).getD false
theorem contains_small_1.p_eq (x : S92) : op_small_1.f x.f0 x.f1 x.f2 = some (contains_small_1.p x) := by
  have h : (op_small_1.f x.f0 x.f1 x.f2).isSome = true := by
    unfold op_small_1.f value_Small.f value_within.f; obtain ⟨c, hc⟩ := value_Check_total x.f0 x.f1 x.f2; rw [hc]; simp only [Option.bind_some]; repeat' split <;> try rfl
  unfold contains_small_1.p
  obtain ⟨b, hb⟩ := Option.isSome_iff_exists.1 h
  rw [hb]; rfl
def contains_small_1.f (l0 : List S92) : Option Bool := some (l0.any contains_small_1.p)
theorem contains_small_1.calls (A0 : Option Addr) (c0 : Nat) (l0 : List S92) (r : Bool) (w : World) (hr0 : Kd.C k92 w A0 l0.length l0) (_hc0 : l0.length ≤ c0) (h : contains_small_1.f l0 = some r) :
    Calls Tryz.prog 119 #[.slice A0 l0.length c0, .func (.func 138) #[] #[]] w fun e w' => e = .returned (.bool r) ∧ Below w.heap.size w w' := by
  obtain rfl := Option.some.inj h
  exact ContainsFunc_Value 138 (enters_ Tryz.func138 (by kernel_rfl) (by kernel_rfl)) contains_small_1.p (fun x W => (op_small_1.calls x.f0 x.f1 x.f2 _ W (contains_small_1.p_eq x)).mono fun e w' ⟨he, hd⟩ => ⟨he, hd⟩) A0 c0 l0 w hr0
end Go.Proofs.YtnbjflcfdncocaaGreat.M
namespace Go.Proofs.YtnbjflcfdncocaaGreat.M
open Go.RowKit Go.Proofs.YtnbjflcfdncocaaGreatW.PrintWords Go.Proofs.YtnbjflcfdncocaaGreatW.PrintLast Go.Proofs.YtnbjflcfdncocaaGreatW.PrintMore
attribute [local go_sem] max2_int min2_int max_two min_two max_three min_three max_four min_four
set_option linter.unusedVariables false
set_option linter.unusedSimpArgs false
def op_small.f (l0 : List (S92)) (l1 : List Int) : Option (Bool) := (row_Fits.f l0 l1).bind fun t123 => (if t123 = true then ((contains_small_1.f l0).bind fun t124 => (some (!t124))) else (some false))
set_option maxHeartbeats 8000000 in
set_option maxRecDepth 100000 in
theorem op_small.calls (A0 : Option Addr) (c0 : Nat) (l0 : List (S92)) (A1 : Option Addr) (c1 : Nat) (l1 : List Int) (r : Bool) (w : World) (hr0 : Kd.C k92 w A0 l0.length l0) (hc0 : l0.length ≤ c0) (hr1 : Kd.C (Kd.int .i64) w A1 l1.length l1) (hc1 : l1.length ≤ c1) (h : op_small.f l0 l1 = some r) :
  Calls Tryz.prog 126 #[.slice A0 l0.length c0, .slice A1 l1.length c1] w fun e w' => e = .returned (.bool r) ∧ Below w.heap.size w w' := by
 have HR0 := Aside0.mk hr0
 have HC0 := Aside0.mk hc0
 clear hr0 hc0
 have HR1 := Aside0.mk hr1
 have HC1 := Aside0.mk hc1
 clear hr1 hc1
 have HB := Aside0.mk (Below.refl w.heap.size w)
 have H : ((row_Fits.f l0 l1).bind fun t123 => (if t123 = true then ((contains_small_1.f l0).bind fun t124 => (some (!t124))) else (some false))) = some r := h
 clear h
 replace H := Option.bind_eq_some_iff.mp H
 obtain ⟨t123, A30, H⟩ := H
 try dsimp only at H
 have A3 := Aside0.mk A30
 clear A30
 by_cases c4 : t123 = true
 ·subst c4
  rw [if_pos rfl] at H
  replace H := Option.bind_eq_some_iff.mp H
  obtain ⟨t124, A50, H⟩ := H
  try dsimp only at H
  have A5 := Aside0.mk A50
  clear A50
  obtain rfl := Option.some.inj H
  go_enter Tryz.func126, Tryz.ntmps126
  go_wp2_with (first | ((with_reducible refine gate_callee (f := 137) rfl ?_); refine goesL_ (some 7) rfl rfl Tryz.func137 (by kernel_rfl) rfl #[.slice A0 l0.length c0, .slice A1 l1.length c1] rfl (by (try simp only [List.map_toArray, List.map_cons, List.map_nil]); first | done | rfl | (simp only [List.length_drop, List.length_take]; rfl)) ?_; (with_reducible refine (row_Fits.calls _ _ l0 _ _ l1 true _ ?side1 ?side2 ?side3 ?side4 A3.out).mono ?_); (case side1 => repeat (first | exact HR0.out | (with_reducible refine Kd.C_alloc ?_ _) | (with_reducible refine Kd.C_drewN ?_ _) | (with_reducible refine Kd.C_drew ?_))); (case side2 => exact HC0.out); (case side3 => repeat (first | exact HR1.out | (with_reducible refine Kd.C_alloc ?_ _) | (with_reducible refine Kd.C_drewN ?_ _) | (with_reducible refine Kd.C_drew ?_))); (case side4 => exact HC1.out); rintro e w6 ⟨rfl, hb⟩; refine ⟨_, rfl, ?_⟩; have n0_ := Aside0.mk (below_step (by with_reducible repeat (first | exact HB.out | apply below_alloc | apply pw_below_drewN | apply below_drew1)) hb); clear HB; have HB := n0_; clear n0_; (try clear hb); (try clear hb2); (try clear hk); (try clear hi)) | (go_at_call 119; (with_reducible refine (contains_small_1.calls _ _ l0 t124 _ ?side1 ?side2 A5.out).mono ?_); (case side1 => repeat (first | exact (Kd.C_below HR0.out HB.out) | (with_reducible refine Kd.C_alloc ?_ _) | (with_reducible refine Kd.C_drewN ?_ _) | (with_reducible refine Kd.C_drew ?_))); (case side2 => exact HC0.out); rintro e w7 ⟨rfl, hb⟩; have n0_ := Aside0.mk (below_step (by with_reducible repeat (first | exact HB.out | apply below_alloc | apply pw_below_drewN | apply below_drew1)) hb); clear HB; have HB := n0_; clear n0_; (try clear hb); (try clear hb2); (try clear hk); (try clear hi)))
  go_ret
  exact ⟨by first | rfl | (simp [errW_none, errW_some] <;> rfl) | (simp [*, errW_none, errW_some] <;> rfl), by with_reducible repeat (first | exact HB.out | apply below_alloc | apply pw_below_drewN | apply below_drew1)⟩
 ·replace c4 := Bool.eq_false_iff.mpr c4
  subst c4
  rw [if_neg (show ¬ (false = true) by decide)] at H
  obtain rfl := Option.some.inj H
  go_enter Tryz.func126, Tryz.ntmps126
  go_wp2_with (first | ((with_reducible refine gate_callee (f := 137) rfl ?_); refine goesL_ (some 7) rfl rfl Tryz.func137 (by kernel_rfl) rfl #[.slice A0 l0.length c0, .slice A1 l1.length c1] rfl (by (try simp only [List.map_toArray, List.map_cons, List.map_nil]); first | done | rfl | (simp only [List.length_drop, List.length_take]; rfl)) ?_; (with_reducible refine (row_Fits.calls _ _ l0 _ _ l1 false _ ?side1 ?side2 ?side3 ?side4 A3.out).mono ?_); (case side1 => repeat (first | exact HR0.out | (with_reducible refine Kd.C_alloc ?_ _) | (with_reducible refine Kd.C_drewN ?_ _) | (with_reducible refine Kd.C_drew ?_))); (case side2 => exact HC0.out); (case side3 => repeat (first | exact HR1.out | (with_reducible refine Kd.C_alloc ?_ _) | (with_reducible refine Kd.C_drewN ?_ _) | (with_reducible refine Kd.C_drew ?_))); (case side4 => exact HC1.out); rintro e w8 ⟨rfl, hb⟩; refine ⟨_, rfl, ?_⟩; have n0_ := Aside0.mk (below_step (by with_reducible repeat (first | exact HB.out | apply below_alloc | apply pw_below_drewN | apply below_drew1)) hb); clear HB; have HB := n0_; clear n0_; (try clear hb); (try clear hb2); (try clear hk); (try clear hi)))
  go_ret
  exact ⟨by first | rfl | (simp [errW_none, errW_some] <;> rfl) | (simp [*, errW_none, errW_some] <;> rfl), by with_reducible repeat (first | exact HB.out | apply below_alloc | apply pw_below_drewN | apply below_drew1)⟩
def dot_in.f (l0 : List Int) (a1 : Int) : Option (Bool) := if a1 ≥ 0 then (some (decide (a1 < (l0.length : Int)))) else (some false)
set_option maxHeartbeats 8000000 in
set_option maxRecDepth 100000 in
theorem dot_in.calls (A0 : Option Addr) (c0 : Nat) (l0 : List Int) (a1 : Int) (r : Bool) (w : World) (hr0 : Kd.C (Kd.int .i64) w A0 l0.length l0) (hc0 : l0.length ≤ c0) (h : dot_in.f l0 a1 = some r) :
  Calls Tryz.prog 147 #[.slice A0 l0.length c0, .int .i64 a1] w fun e w' => e = .returned (.bool r) ∧ Drawn0 w w' := by
 have HR0 := Aside0.mk hr0
 have HC0 := Aside0.mk hc0
 clear hr0 hc0
 have H : (if a1 ≥ 0 then (some (decide (a1 < (l0.length : Int)))) else (some false)) = some r := h
 clear h
 by_cases c3 : a1 ≥ 0
 ·rw [if_pos c3] at H
  have c3b0 : decide (0 ≤ a1) = true := decide_eq_true c3
  clear c3
  obtain rfl := Option.some.inj H
  go_enter Tryz.func147, Tryz.ntmps147
  go_wp2
  go_ret
  exact ⟨by first | rfl | (simp; done) | (simp [*]; done), by repeat (first | exact Drawn0.refl _ | apply Drawn0.step)⟩
 ·rw [if_neg c3] at H
  have c3b0 : decide (0 ≤ a1) = false := decide_eq_false c3
  clear c3
  obtain rfl := Option.some.inj H
  go_enter Tryz.func147, Tryz.ntmps147
  go_wp2
  go_ret
  exact ⟨by first | rfl | (simp; done) | (simp [*]; done), by repeat (first | exact Drawn0.refl _ | apply Drawn0.step)⟩
def dot_Has.f (l0 : List Int) (a1_0 : Int) (a1_1 : Int) : Option (Bool) := (dot_in.f l0 a1_0).bind fun t126 => (if t126 = true then (if a1_1 ≥ 1 then (if 0 ≤ a1_0 then (if a1_0 < (l0.length : Int) then (some (decide (a1_1 ≤ (rd l0 a1_0)))) else (none)) else (none)) else (some false)) else (some false))
set_option maxHeartbeats 8000000 in
set_option maxRecDepth 100000 in
theorem dot_Has.calls (A0 : Option Addr) (c0 : Nat) (l0 : List Int) (a1_0 : Int) (a1_1 : Int) (r : Bool) (w : World) (hr0 : Kd.C (Kd.int .i64) w A0 l0.length l0) (hc0 : l0.length ≤ c0) (h : dot_Has.f l0 a1_0 a1_1 = some r) :
  Calls Tryz.prog 140 #[.slice A0 l0.length c0, .agg #[.int .i64 a1_0, .int .i64 a1_1]] w fun e w' => e = .returned (.bool r) ∧ Below w.heap.size w w' := by
 have hu46 := Tryz.underlying46
 have HR0 := Aside0.mk hr0
 have HC0 := Aside0.mk hc0
 clear hr0 hc0
 have HB := Aside0.mk (Below.refl w.heap.size w)
 have H : ((dot_in.f l0 a1_0).bind fun t126 => (if t126 = true then (if a1_1 ≥ 1 then (if 0 ≤ a1_0 then (if a1_0 < (l0.length : Int) then (some (decide (a1_1 ≤ (rd l0 a1_0)))) else (none)) else (none)) else (some false)) else (some false))) = some r := h
 clear h
 replace H := Option.bind_eq_some_iff.mp H
 obtain ⟨t126, A30, H⟩ := H
 try dsimp only at H
 have A3 := Aside0.mk A30
 clear A30
 by_cases c4 : t126 = true
 ·subst c4
  rw [if_pos rfl] at H
  by_cases c5 : a1_1 ≥ 1
  ·rw [if_pos c5] at H
   have c5b0 : decide (1 ≤ a1_1) = true := decide_eq_true c5
   clear c5
   by_cases c6 : 0 ≤ a1_0
   ·rw [if_pos c6] at H
    have c6b0 : decide (0 ≤ a1_0) = true := decide_eq_true c6
    clear c6
    by_cases c7 : a1_0 < (l0.length : Int)
    ·rw [if_pos c7] at H
     have c7b0 : decide (a1_0 < (l0.length : Int)) = true := decide_eq_true c7
     clear c7
     obtain rfl := Option.some.inj H
     go_enter Tryz.func140, Tryz.ntmps140
     go_wp2_with (first | ((with_reducible refine gate_dst (N := 3) rfl ?_); refine box_event ?hg (N := 3) ?hd (cs := #[.int .i64 a1_0, .int .i64 a1_1]) (t := 46) ?hr ?_; (case hd => rfl); (case hg => rfl); (case hr => first | (go_simp; done) | (go_simp; rfl)); intro gb125 hg w8 hbox hb; have n0_ := Aside0.mk (below_step (by with_reducible repeat (first | exact HB.out | apply below_alloc | apply pw_below_drewN | apply below_drew1)) hb); have n1_ := Aside0.mk (hbox); have n2_ := Aside0.mk ((by rw [hg]; exact (below_size (by with_reducible repeat (first | exact HB.out | apply below_alloc | apply pw_below_drewN | apply below_drew1))) : w.heap.size ≤ gb125)); have n3_ := Aside0.mk ((by rw [hg]; exact (below_size (by with_reducible repeat (first | exact HB.out | apply below_alloc | apply pw_below_drewN | apply below_drew1))) : w.heap.size ≤ gb125)); clear HB; have HB := n0_; have BK125 := n1_; have GW125 := n2_; have GE125 := n3_; clear n0_ n1_ n2_ n3_; clear hb hbox hg; have hcz9 := fun i_ => blk_cell BK125.out i_; have hfz9 := fun i_ => blk_frozen BK125.out i_) | (go_at_call 147; (with_reducible refine (dot_in.calls _ _ l0 a1_0 true _ ?side1 ?side2 A3.out).mono ?_); (case side1 => repeat (first | exact (Kd.C_below HR0.out HB.out) | (with_reducible refine Kd.C_alloc ?_ _) | (with_reducible refine Kd.C_drewN ?_ _) | (with_reducible refine Kd.C_drew ?_))); (case side2 => exact HC0.out); rintro e w' ⟨rfl, ⟨nd, rfl⟩⟩; (try first | exact ⟨rfl, _, World.drewN_drewN _ _ _⟩ | exact ⟨rfl, _, Eq.trans (World.drewN_drewN _ _ _) (congrArg (World.drewN _) (Nat.add_assoc _ _ _))⟩); have p127 : 0 ≤ (a1_0 : Int) := of_decide_eq_true (by first | (with_reducible assumption) | assumption); have q127 : a1_0 < (l0.length : Int) := of_decide_eq_true (by first | (with_reducible assumption) | assumption); obtain ⟨ad127, e127, hx127_0⟩ := Kd.at_int HR0.out a1_0 p127 q127; cases e127; replace hx127_0 := (HB.out.cell (World.block_lt_of_cell? w _ hx127_0)).trans hx127_0; replace p127 := eq_true p127; replace q127 := eq_true q127))
     repeat (go_quiet (first | ((with_reducible refine gate_dst (N := 3) rfl ?_); refine box_event ?hg (N := 3) ?hd (cs := #[.int .i64 a1_0, .int .i64 a1_1]) (t := 46) ?hr ?_; (case hd => rfl); (case hg => rfl); (case hr => first | (go_simp; done) | (go_simp; rfl)); intro gb125 hg w8 hbox hb; have n0_ := Aside0.mk (below_step (by with_reducible repeat (first | exact HB.out | apply below_alloc | apply pw_below_drewN | apply below_drew1)) hb); have n1_ := Aside0.mk (hbox); have n2_ := Aside0.mk ((by rw [hg]; exact (below_size (by with_reducible repeat (first | exact HB.out | apply below_alloc | apply pw_below_drewN | apply below_drew1))) : w.heap.size ≤ gb125)); have n3_ := Aside0.mk ((by rw [hg]; exact (below_size (by with_reducible repeat (first | exact HB.out | apply below_alloc | apply pw_below_drewN | apply below_drew1))) : w.heap.size ≤ gb125)); clear HB; have HB := n0_; have BK125 := n1_; have GW125 := n2_; have GE125 := n3_; clear n0_ n1_ n2_ n3_; clear hb hbox hg; have hcz9 := fun i_ => blk_cell BK125.out i_; have hfz9 := fun i_ => blk_frozen BK125.out i_) | (go_at_call 147; (with_reducible refine (dot_in.calls _ _ l0 a1_0 true _ ?side1 ?side2 A3.out).mono ?_); (case side1 => repeat (first | exact (Kd.C_below HR0.out HB.out) | (with_reducible refine Kd.C_alloc ?_ _) | (with_reducible refine Kd.C_drewN ?_ _) | (with_reducible refine Kd.C_drew ?_))); (case side2 => exact HC0.out); rintro e w' ⟨rfl, ⟨nd, rfl⟩⟩; (try first | exact ⟨rfl, _, World.drewN_drewN _ _ _⟩ | exact ⟨rfl, _, Eq.trans (World.drewN_drewN _ _ _) (congrArg (World.drewN _) (Nat.add_assoc _ _ _))⟩); have p127 : 0 ≤ (a1_0 : Int) := of_decide_eq_true (by first | (with_reducible assumption) | assumption); have q127 : a1_0 < (l0.length : Int) := of_decide_eq_true (by first | (with_reducible assumption) | assumption); obtain ⟨ad127, e127, hx127_0⟩ := Kd.at_int HR0.out a1_0 p127 q127; cases e127; replace hx127_0 := (HB.out.cell (World.block_lt_of_cell? w _ hx127_0)).trans hx127_0; replace p127 := eq_true p127; replace q127 := eq_true q127)); try go_wp2_with (first | ((with_reducible refine gate_dst (N := 3) rfl ?_); refine box_event ?hg (N := 3) ?hd (cs := #[.int .i64 a1_0, .int .i64 a1_1]) (t := 46) ?hr ?_; (case hd => rfl); (case hg => rfl); (case hr => first | (go_simp; done) | (go_simp; rfl)); intro gb125 hg w8 hbox hb; have n0_ := Aside0.mk (below_step (by with_reducible repeat (first | exact HB.out | apply below_alloc | apply pw_below_drewN | apply below_drew1)) hb); have n1_ := Aside0.mk (hbox); have n2_ := Aside0.mk ((by rw [hg]; exact (below_size (by with_reducible repeat (first | exact HB.out | apply below_alloc | apply pw_below_drewN | apply below_drew1))) : w.heap.size ≤ gb125)); have n3_ := Aside0.mk ((by rw [hg]; exact (below_size (by with_reducible repeat (first | exact HB.out | apply below_alloc | apply pw_below_drewN | apply below_drew1))) : w.heap.size ≤ gb125)); clear HB; have HB := n0_; have BK125 := n1_; have GW125 := n2_; have GE125 := n3_; clear n0_ n1_ n2_ n3_; clear hb hbox hg; have hcz9 := fun i_ => blk_cell BK125.out i_; have hfz9 := fun i_ => blk_frozen BK125.out i_) | (go_at_call 147; (with_reducible refine (dot_in.calls _ _ l0 a1_0 true _ ?side1 ?side2 A3.out).mono ?_); (case side1 => repeat (first | exact (Kd.C_below HR0.out HB.out) | (with_reducible refine Kd.C_alloc ?_ _) | (with_reducible refine Kd.C_drewN ?_ _) | (with_reducible refine Kd.C_drew ?_))); (case side2 => exact HC0.out); rintro e w' ⟨rfl, ⟨nd, rfl⟩⟩; (try first | exact ⟨rfl, _, World.drewN_drewN _ _ _⟩ | exact ⟨rfl, _, Eq.trans (World.drewN_drewN _ _ _) (congrArg (World.drewN _) (Nat.add_assoc _ _ _))⟩); have p127 : 0 ≤ (a1_0 : Int) := of_decide_eq_true (by first | (with_reducible assumption) | assumption); have q127 : a1_0 < (l0.length : Int) := of_decide_eq_true (by first | (with_reducible assumption) | assumption); obtain ⟨ad127, e127, hx127_0⟩ := Kd.at_int HR0.out a1_0 p127 q127; cases e127; replace hx127_0 := (HB.out.cell (World.block_lt_of_cell? w _ hx127_0)).trans hx127_0; replace p127 := eq_true p127; replace q127 := eq_true q127)))
     go_ret
     exact ⟨by first | rfl | (simp [errW_none, errW_some] <;> rfl) | (simp [*, errW_none, errW_some] <;> rfl), by with_reducible repeat (first | exact HB.out | apply below_alloc | apply pw_below_drewN | apply below_drew1 | refine below_set ?_ GE125.out)⟩
    ·rw [if_neg c7] at H
     exact absurd H (by simp)
   ·rw [if_neg c6] at H
    exact absurd H (by simp)
  ·rw [if_neg c5] at H
   have c5b0 : decide (1 ≤ a1_1) = false := decide_eq_false c5
   clear c5
   obtain rfl := Option.some.inj H
   go_enter Tryz.func140, Tryz.ntmps140
   go_wp2_with (first | ((with_reducible refine gate_dst (N := 3) rfl ?_); refine box_event ?hg (N := 3) ?hd (cs := #[.int .i64 a1_0, .int .i64 a1_1]) (t := 46) ?hr ?_; (case hd => rfl); (case hg => rfl); (case hr => first | (go_simp; done) | (go_simp; rfl)); intro gb125 hg w10 hbox hb; have n0_ := Aside0.mk (below_step (by with_reducible repeat (first | exact HB.out | apply below_alloc | apply pw_below_drewN | apply below_drew1)) hb); have n1_ := Aside0.mk (hbox); have n2_ := Aside0.mk ((by rw [hg]; exact (below_size (by with_reducible repeat (first | exact HB.out | apply below_alloc | apply pw_below_drewN | apply below_drew1))) : w.heap.size ≤ gb125)); have n3_ := Aside0.mk ((by rw [hg]; exact (below_size (by with_reducible repeat (first | exact HB.out | apply below_alloc | apply pw_below_drewN | apply below_drew1))) : w.heap.size ≤ gb125)); clear HB; have HB := n0_; have BK125 := n1_; have GW125 := n2_; have GE125 := n3_; clear n0_ n1_ n2_ n3_; clear hb hbox hg; have hcz11 := fun i_ => blk_cell BK125.out i_; have hfz11 := fun i_ => blk_frozen BK125.out i_) | (go_at_call 147; (with_reducible refine (dot_in.calls _ _ l0 a1_0 true _ ?side1 ?side2 A3.out).mono ?_); (case side1 => repeat (first | exact (Kd.C_below HR0.out HB.out) | (with_reducible refine Kd.C_alloc ?_ _) | (with_reducible refine Kd.C_drewN ?_ _) | (with_reducible refine Kd.C_drew ?_))); (case side2 => exact HC0.out); rintro e w' ⟨rfl, ⟨nd, rfl⟩⟩; (try first | exact ⟨rfl, _, World.drewN_drewN _ _ _⟩ | exact ⟨rfl, _, Eq.trans (World.drewN_drewN _ _ _) (congrArg (World.drewN _) (Nat.add_assoc _ _ _))⟩)))
   repeat (go_quiet (first | ((with_reducible refine gate_dst (N := 3) rfl ?_); refine box_event ?hg (N := 3) ?hd (cs := #[.int .i64 a1_0, .int .i64 a1_1]) (t := 46) ?hr ?_; (case hd => rfl); (case hg => rfl); (case hr => first | (go_simp; done) | (go_simp; rfl)); intro gb125 hg w10 hbox hb; have n0_ := Aside0.mk (below_step (by with_reducible repeat (first | exact HB.out | apply below_alloc | apply pw_below_drewN | apply below_drew1)) hb); have n1_ := Aside0.mk (hbox); have n2_ := Aside0.mk ((by rw [hg]; exact (below_size (by with_reducible repeat (first | exact HB.out | apply below_alloc | apply pw_below_drewN | apply below_drew1))) : w.heap.size ≤ gb125)); have n3_ := Aside0.mk ((by rw [hg]; exact (below_size (by with_reducible repeat (first | exact HB.out | apply below_alloc | apply pw_below_drewN | apply below_drew1))) : w.heap.size ≤ gb125)); clear HB; have HB := n0_; have BK125 := n1_; have GW125 := n2_; have GE125 := n3_; clear n0_ n1_ n2_ n3_; clear hb hbox hg; have hcz11 := fun i_ => blk_cell BK125.out i_; have hfz11 := fun i_ => blk_frozen BK125.out i_) | (go_at_call 147; (with_reducible refine (dot_in.calls _ _ l0 a1_0 true _ ?side1 ?side2 A3.out).mono ?_); (case side1 => repeat (first | exact (Kd.C_below HR0.out HB.out) | (with_reducible refine Kd.C_alloc ?_ _) | (with_reducible refine Kd.C_drewN ?_ _) | (with_reducible refine Kd.C_drew ?_))); (case side2 => exact HC0.out); rintro e w' ⟨rfl, ⟨nd, rfl⟩⟩; (try first | exact ⟨rfl, _, World.drewN_drewN _ _ _⟩ | exact ⟨rfl, _, Eq.trans (World.drewN_drewN _ _ _) (congrArg (World.drewN _) (Nat.add_assoc _ _ _))⟩))); try go_wp2_with (first | ((with_reducible refine gate_dst (N := 3) rfl ?_); refine box_event ?hg (N := 3) ?hd (cs := #[.int .i64 a1_0, .int .i64 a1_1]) (t := 46) ?hr ?_; (case hd => rfl); (case hg => rfl); (case hr => first | (go_simp; done) | (go_simp; rfl)); intro gb125 hg w10 hbox hb; have n0_ := Aside0.mk (below_step (by with_reducible repeat (first | exact HB.out | apply below_alloc | apply pw_below_drewN | apply below_drew1)) hb); have n1_ := Aside0.mk (hbox); have n2_ := Aside0.mk ((by rw [hg]; exact (below_size (by with_reducible repeat (first | exact HB.out | apply below_alloc | apply pw_below_drewN | apply below_drew1))) : w.heap.size ≤ gb125)); have n3_ := Aside0.mk ((by rw [hg]; exact (below_size (by with_reducible repeat (first | exact HB.out | apply below_alloc | apply pw_below_drewN | apply below_drew1))) : w.heap.size ≤ gb125)); clear HB; have HB := n0_; have BK125 := n1_; have GW125 := n2_; have GE125 := n3_; clear n0_ n1_ n2_ n3_; clear hb hbox hg; have hcz11 := fun i_ => blk_cell BK125.out i_; have hfz11 := fun i_ => blk_frozen BK125.out i_) | (go_at_call 147; (with_reducible refine (dot_in.calls _ _ l0 a1_0 true _ ?side1 ?side2 A3.out).mono ?_); (case side1 => repeat (first | exact (Kd.C_below HR0.out HB.out) | (with_reducible refine Kd.C_alloc ?_ _) | (with_reducible refine Kd.C_drewN ?_ _) | (with_reducible refine Kd.C_drew ?_))); (case side2 => exact HC0.out); rintro e w' ⟨rfl, ⟨nd, rfl⟩⟩; (try first | exact ⟨rfl, _, World.drewN_drewN _ _ _⟩ | exact ⟨rfl, _, Eq.trans (World.drewN_drewN _ _ _) (congrArg (World.drewN _) (Nat.add_assoc _ _ _))⟩))))
   go_ret
   exact ⟨by first | rfl | (simp [errW_none, errW_some] <;> rfl) | (simp [*, errW_none, errW_some] <;> rfl), by with_reducible repeat (first | exact HB.out | apply below_alloc | apply pw_below_drewN | apply below_drew1 | refine below_set ?_ GE125.out)⟩
 ·replace c4 := Bool.eq_false_iff.mpr c4
  subst c4
  rw [if_neg (show ¬ (false = true) by decide)] at H
  obtain rfl := Option.some.inj H
  go_enter Tryz.func140, Tryz.ntmps140
  go_wp2_with (first | ((with_reducible refine gate_dst (N := 3) rfl ?_); refine box_event ?hg (N := 3) ?hd (cs := #[.int .i64 a1_0, .int .i64 a1_1]) (t := 46) ?hr ?_; (case hd => rfl); (case hg => rfl); (case hr => first | (go_simp; done) | (go_simp; rfl)); intro gb125 hg w12 hbox hb; have n0_ := Aside0.mk (below_step (by with_reducible repeat (first | exact HB.out | apply below_alloc | apply pw_below_drewN | apply below_drew1)) hb); have n1_ := Aside0.mk (hbox); have n2_ := Aside0.mk ((by rw [hg]; exact (below_size (by with_reducible repeat (first | exact HB.out | apply below_alloc | apply pw_below_drewN | apply below_drew1))) : w.heap.size ≤ gb125)); have n3_ := Aside0.mk ((by rw [hg]; exact (below_size (by with_reducible repeat (first | exact HB.out | apply below_alloc | apply pw_below_drewN | apply below_drew1))) : w.heap.size ≤ gb125)); clear HB; have HB := n0_; have BK125 := n1_; have GW125 := n2_; have GE125 := n3_; clear n0_ n1_ n2_ n3_; clear hb hbox hg; have hcz13 := fun i_ => blk_cell BK125.out i_; have hfz13 := fun i_ => blk_frozen BK125.out i_) | (go_at_call 147; (with_reducible refine (dot_in.calls _ _ l0 a1_0 false _ ?side1 ?side2 A3.out).mono ?_); (case side1 => repeat (first | exact (Kd.C_below HR0.out HB.out) | (with_reducible refine Kd.C_alloc ?_ _) | (with_reducible refine Kd.C_drewN ?_ _) | (with_reducible refine Kd.C_drew ?_))); (case side2 => exact HC0.out); rintro e w' ⟨rfl, ⟨nd, rfl⟩⟩; (try first | exact ⟨rfl, _, World.drewN_drewN _ _ _⟩ | exact ⟨rfl, _, Eq.trans (World.drewN_drewN _ _ _) (congrArg (World.drewN _) (Nat.add_assoc _ _ _))⟩)))
  repeat (go_quiet (first | ((with_reducible refine gate_dst (N := 3) rfl ?_); refine box_event ?hg (N := 3) ?hd (cs := #[.int .i64 a1_0, .int .i64 a1_1]) (t := 46) ?hr ?_; (case hd => rfl); (case hg => rfl); (case hr => first | (go_simp; done) | (go_simp; rfl)); intro gb125 hg w12 hbox hb; have n0_ := Aside0.mk (below_step (by with_reducible repeat (first | exact HB.out | apply below_alloc | apply pw_below_drewN | apply below_drew1)) hb); have n1_ := Aside0.mk (hbox); have n2_ := Aside0.mk ((by rw [hg]; exact (below_size (by with_reducible repeat (first | exact HB.out | apply below_alloc | apply pw_below_drewN | apply below_drew1))) : w.heap.size ≤ gb125)); have n3_ := Aside0.mk ((by rw [hg]; exact (below_size (by with_reducible repeat (first | exact HB.out | apply below_alloc | apply pw_below_drewN | apply below_drew1))) : w.heap.size ≤ gb125)); clear HB; have HB := n0_; have BK125 := n1_; have GW125 := n2_; have GE125 := n3_; clear n0_ n1_ n2_ n3_; clear hb hbox hg; have hcz13 := fun i_ => blk_cell BK125.out i_; have hfz13 := fun i_ => blk_frozen BK125.out i_) | (go_at_call 147; (with_reducible refine (dot_in.calls _ _ l0 a1_0 false _ ?side1 ?side2 A3.out).mono ?_); (case side1 => repeat (first | exact (Kd.C_below HR0.out HB.out) | (with_reducible refine Kd.C_alloc ?_ _) | (with_reducible refine Kd.C_drewN ?_ _) | (with_reducible refine Kd.C_drew ?_))); (case side2 => exact HC0.out); rintro e w' ⟨rfl, ⟨nd, rfl⟩⟩; (try first | exact ⟨rfl, _, World.drewN_drewN _ _ _⟩ | exact ⟨rfl, _, Eq.trans (World.drewN_drewN _ _ _) (congrArg (World.drewN _) (Nat.add_assoc _ _ _))⟩))); try go_wp2_with (first | ((with_reducible refine gate_dst (N := 3) rfl ?_); refine box_event ?hg (N := 3) ?hd (cs := #[.int .i64 a1_0, .int .i64 a1_1]) (t := 46) ?hr ?_; (case hd => rfl); (case hg => rfl); (case hr => first | (go_simp; done) | (go_simp; rfl)); intro gb125 hg w12 hbox hb; have n0_ := Aside0.mk (below_step (by with_reducible repeat (first | exact HB.out | apply below_alloc | apply pw_below_drewN | apply below_drew1)) hb); have n1_ := Aside0.mk (hbox); have n2_ := Aside0.mk ((by rw [hg]; exact (below_size (by with_reducible repeat (first | exact HB.out | apply below_alloc | apply pw_below_drewN | apply below_drew1))) : w.heap.size ≤ gb125)); have n3_ := Aside0.mk ((by rw [hg]; exact (below_size (by with_reducible repeat (first | exact HB.out | apply below_alloc | apply pw_below_drewN | apply below_drew1))) : w.heap.size ≤ gb125)); clear HB; have HB := n0_; have BK125 := n1_; have GW125 := n2_; have GE125 := n3_; clear n0_ n1_ n2_ n3_; clear hb hbox hg; have hcz13 := fun i_ => blk_cell BK125.out i_; have hfz13 := fun i_ => blk_frozen BK125.out i_) | (go_at_call 147; (with_reducible refine (dot_in.calls _ _ l0 a1_0 false _ ?side1 ?side2 A3.out).mono ?_); (case side1 => repeat (first | exact (Kd.C_below HR0.out HB.out) | (with_reducible refine Kd.C_alloc ?_ _) | (with_reducible refine Kd.C_drewN ?_ _) | (with_reducible refine Kd.C_drew ?_))); (case side2 => exact HC0.out); rintro e w' ⟨rfl, ⟨nd, rfl⟩⟩; (try first | exact ⟨rfl, _, World.drewN_drewN _ _ _⟩ | exact ⟨rfl, _, Eq.trans (World.drewN_drewN _ _ _) (congrArg (World.drewN _) (Nat.add_assoc _ _ _))⟩))))
  go_ret
  exact ⟨by first | rfl | (simp [errW_none, errW_some] <;> rfl) | (simp [*, errW_none, errW_some] <;> rfl), by with_reducible repeat (first | exact HB.out | apply below_alloc | apply pw_below_drewN | apply below_drew1 | refine below_set ?_ GE125.out)⟩
def cmp_Or_int.l0 : Nat → Int → List Int → Int → Int → Option (Int)
 | 0, _, _, _, _ => none
 | k + 1, x3, x6, x7, x8 => if x8 < x7 then (if 0 ≤ x8 then (if x8 < (x6.length : Int) then (if (rd x6 x8) = x3 then (cmp_Or_int.l0 k x3 x6 x7 (wrap64 (x8 + 1))) else (some (rd x6 x8))) else (none)) else (none)) else (some x3)
def cmp_Or_int.f (k : Nat) (l0 : List Int) : Option (Int) := cmp_Or_int.l0 k 0 l0 (l0.length : Int) 0
set_option maxHeartbeats 8000000 in
set_option maxRecDepth 100000 in
theorem cmp_Or_int.calls (k : Nat) (A0 : Option Addr) (c0 : Nat) (l0 : List Int) (r : Int) (w : World) (hr0 : Kd.C (Kd.int .i64) w A0 l0.length l0) (hc0 : l0.length ≤ c0) (h : cmp_Or_int.f k l0 = some r) :
  Calls Tryz.prog 149 #[.slice A0 l0.length c0] w fun e w' => e = .returned (.int .i64 r) ∧ Drawn0 w w' := by
 have HR0 := Aside0.mk hr0
 have HC0 := Aside0.mk hc0
 clear hr0 hc0
 have H : (cmp_Or_int.l0 k 0 l0 (l0.length : Int) 0) = some r := h
 clear h
 have H' := Aside0.mk H
 clear H
 go_enter Tryz.func149, Tryz.ntmps149
 go_wp2
 go_loopg [8] k (fun kq v8 w' => ∃ (x8_1 : Int), v8 = .int .i64 x8_1 ∧ Aside0 (cmp_Or_int.l0 kq 0 l0 (l0.length : Int) x8_1 = some r) ∧ Aside0 (kq ≤ k) ∧ Drawn0 w w')
 case atStart => exact ⟨(0), (by first | rfl | (simp; done) | (simp [*]; done)), H', ⟨Nat.le_refl _⟩, by repeat (first | exact Drawn0.refl _ | apply Drawn0.step)⟩
 case round =>
  clear H'
  try clear c1
  obtain ⟨x8_1, rfl, HA, HK1, ⟨m1, rfl⟩⟩ := hrel
  cases gk with
  | zero => exact absurd HA.out (by simp [cmp_Or_int.l0])
  | succ k1 =>
   have H := HA.out
   clear HA
   simp only [cmp_Or_int.l0] at H
   by_cases c2 : x8_1 < (l0.length : Int)
   ·rw [if_pos c2] at H
    have c2b0 : decide (x8_1 < (l0.length : Int)) = true := decide_eq_true c2
    clear c2
    by_cases c3 : 0 ≤ x8_1
    ·rw [if_pos c3] at H
     have c3b0 : decide (0 ≤ x8_1) = true := decide_eq_true c3
     clear c3
     by_cases c4 : x8_1 < (l0.length : Int)
     ·rw [if_pos c4] at H
      have c4b0 : decide (x8_1 < (l0.length : Int)) = true := decide_eq_true c4
      clear c4
      by_cases c5 : (rd l0 x8_1) = 0
      ·rw [if_pos c5] at H
       have c5b0 : ((rd l0 x8_1) == 0) = true := beq_iff_eq.mpr c5
       have c5b1 : ((rd l0 x8_1) != 0) = false := bne_eq_false_iff_eq.mpr c5
       clear c5
       have H' := Aside0.mk H
       clear H
       have p128 : 0 ≤ (x8_1 : Int) := of_decide_eq_true (by first | (with_reducible assumption) | assumption)
       have q128 : x8_1 < (l0.length : Int) := of_decide_eq_true (by first | (with_reducible assumption) | assumption)
       obtain ⟨ad128, e128, hx128_0⟩ := Kd.at_int HR0.out x8_1 p128 q128
       cases e128
       replace p128 := eq_true p128
       replace q128 := eq_true q128
       go_wp2
       go_roundg k1
       case measure => have := HK1.out; omega
       case rel => exact ⟨(wrap64 (x8_1 + 1)), (by first | rfl | (simp; done) | (simp [*]; done)), H', ⟨by have := HK1.out; omega⟩, by repeat (first | exact Drawn0.refl _ | apply Drawn0.step)⟩
      ·rw [if_neg c5] at H
       have c5b0 : ((rd l0 x8_1) == 0) = false := beq_eq_false_iff_ne.mpr c5
       have c5b1 : ((rd l0 x8_1) != 0) = true := bne_iff_ne.mpr c5
       obtain rfl := Option.some.inj H
       have p128 : 0 ≤ (x8_1 : Int) := of_decide_eq_true (by first | (with_reducible assumption) | assumption)
       have q128 : x8_1 < (l0.length : Int) := of_decide_eq_true (by first | (with_reducible assumption) | assumption)
       obtain ⟨ad128, e128, hx128_0⟩ := Kd.at_int HR0.out x8_1 p128 q128
       cases e128
       replace p128 := eq_true p128
       replace q128 := eq_true q128
       go_wp2
       go_ret
       exact ⟨by first | rfl | (simp; done) | (simp [*]; done), by repeat (first | exact Drawn0.refl _ | apply Drawn0.step)⟩
     ·rw [if_neg c4] at H
      exact absurd H (by simp)
    ·rw [if_neg c3] at H
     exact absurd H (by simp)
   ·rw [if_neg c2] at H
    have c2b0 : decide (x8_1 < (l0.length : Int)) = false := decide_eq_false c2
    clear c2
    obtain rfl := Option.some.inj H
    go_wp2
    go_ret
    exact ⟨by first | rfl | (simp; done) | (simp [*]; done), by repeat (first | exact Drawn0.refl _ | apply Drawn0.step)⟩
def cmp_isNaN_int.f (a0 : Int) : Option (Bool) := some (a0 != a0)
set_option maxHeartbeats 8000000 in
set_option maxRecDepth 100000 in
theorem cmp_isNaN_int.calls (a0 : Int) (r : Bool) (w : World) (h : cmp_isNaN_int.f a0 = some r) :
  Calls Tryz.prog 151 #[.int .i64 a0] w fun e w' => e = .returned (.bool r) ∧ Drawn0 w w' := by
 have H : (some (a0 != a0)) = some r := h
 clear h
 obtain rfl := Option.some.inj H
 go_enter Tryz.func151, Tryz.ntmps151
 go_wp2
 go_ret
 exact ⟨by first | rfl | (simp; done) | (simp [*]; done), by repeat (first | exact Drawn0.refl _ | apply Drawn0.step)⟩
def cmp_Compare_int.f (a0 : Int) (a1 : Int) : Option (Int) := (cmp_isNaN_int.f a0).bind fun t129 => ((cmp_isNaN_int.f a1).bind fun t130 => (if t129 = true then (if t130 = true then (some 0) else (some (-1))) else (if t130 = true then (some 1) else (if a0 < a1 then (some (-1)) else (if a0 > a1 then (some 1) else (some 0))))))
set_option maxHeartbeats 8000000 in
set_option maxRecDepth 100000 in
theorem cmp_Compare_int.calls (a0 : Int) (a1 : Int) (r : Int) (w : World) (h : cmp_Compare_int.f a0 a1 = some r) :
  Calls Tryz.prog 150 #[.int .i64 a0, .int .i64 a1] w fun e w' => e = .returned (.int .i64 r) ∧ Drawn0 w w' := by
 have H : ((cmp_isNaN_int.f a0).bind fun t129 => ((cmp_isNaN_int.f a1).bind fun t130 => (if t129 = true then (if t130 = true then (some 0) else (some (-1))) else (if t130 = true then (some 1) else (if a0 < a1 then (some (-1)) else (if a0 > a1 then (some 1) else (some 0))))))) = some r := h
 clear h
 replace H := Option.bind_eq_some_iff.mp H
 obtain ⟨t129, A30, H⟩ := H
 try dsimp only at H
 have A3 := Aside0.mk A30
 clear A30
 replace H := Option.bind_eq_some_iff.mp H
 obtain ⟨t130, A40, H⟩ := H
 try dsimp only at H
 have A4 := Aside0.mk A40
 clear A40
 by_cases c5 : t129 = true
 ·subst c5
  rw [if_pos rfl] at H
  by_cases c6 : t130 = true
  ·subst c6
   rw [if_pos rfl] at H
   obtain rfl := Option.some.inj H
   go_enter Tryz.func150, Tryz.ntmps150
   go_wp2_with (first | ((with_reducible refine gate_callee (f := 151) rfl ?_); refine goesL_ (some 8) rfl rfl Tryz.func151 (by kernel_rfl) rfl #[.int .i64 a0] rfl (by (try simp only [List.map_toArray, List.map_cons, List.map_nil]); first | done | rfl | (simp only [List.length_drop, List.length_take]; rfl)) ?_; (with_reducible refine (cmp_isNaN_int.calls a0 true _ A3.out).mono ?_); rintro e w' ⟨rfl, ⟨nd, rfl⟩⟩; refine ⟨_, rfl, ?_⟩) | ((with_reducible refine gate_callee (f := 151) rfl ?_); refine goesL_ (some 10) rfl rfl Tryz.func151 (by kernel_rfl) rfl #[.int .i64 a1] rfl (by (try simp only [List.map_toArray, List.map_cons, List.map_nil]); first | done | rfl | (simp only [List.length_drop, List.length_take]; rfl)) ?_; (with_reducible refine (cmp_isNaN_int.calls a1 true _ A4.out).mono ?_); rintro e w' ⟨rfl, ⟨nd, rfl⟩⟩; refine ⟨_, rfl, ?_⟩))
   go_ret
   exact ⟨by first | rfl | (simp; done) | (simp [*]; done), by repeat (first | exact Drawn0.refl _ | apply Drawn0.step)⟩
  ·replace c6 := Bool.eq_false_iff.mpr c6
   subst c6
   rw [if_neg (show ¬ (false = true) by decide)] at H
   obtain rfl := Option.some.inj H
   go_enter Tryz.func150, Tryz.ntmps150
   go_wp2_with (first | ((with_reducible refine gate_callee (f := 151) rfl ?_); refine goesL_ (some 8) rfl rfl Tryz.func151 (by kernel_rfl) rfl #[.int .i64 a0] rfl (by (try simp only [List.map_toArray, List.map_cons, List.map_nil]); first | done | rfl | (simp only [List.length_drop, List.length_take]; rfl)) ?_; (with_reducible refine (cmp_isNaN_int.calls a0 true _ A3.out).mono ?_); rintro e w' ⟨rfl, ⟨nd, rfl⟩⟩; refine ⟨_, rfl, ?_⟩) | ((with_reducible refine gate_callee (f := 151) rfl ?_); refine goesL_ (some 10) rfl rfl Tryz.func151 (by kernel_rfl) rfl #[.int .i64 a1] rfl (by (try simp only [List.map_toArray, List.map_cons, List.map_nil]); first | done | rfl | (simp only [List.length_drop, List.length_take]; rfl)) ?_; (with_reducible refine (cmp_isNaN_int.calls a1 false _ A4.out).mono ?_); rintro e w' ⟨rfl, ⟨nd, rfl⟩⟩; refine ⟨_, rfl, ?_⟩))
   go_ret
   exact ⟨by first | rfl | (simp; done) | (simp [*]; done), by repeat (first | exact Drawn0.refl _ | apply Drawn0.step)⟩
 ·replace c5 := Bool.eq_false_iff.mpr c5
  subst c5
  rw [if_neg (show ¬ (false = true) by decide)] at H
  by_cases c7 : t130 = true
  ·subst c7
   rw [if_pos rfl] at H
   obtain rfl := Option.some.inj H
   go_enter Tryz.func150, Tryz.ntmps150
   go_wp2_with (first | ((with_reducible refine gate_callee (f := 151) rfl ?_); refine goesL_ (some 8) rfl rfl Tryz.func151 (by kernel_rfl) rfl #[.int .i64 a0] rfl (by (try simp only [List.map_toArray, List.map_cons, List.map_nil]); first | done | rfl | (simp only [List.length_drop, List.length_take]; rfl)) ?_; (with_reducible refine (cmp_isNaN_int.calls a0 false _ A3.out).mono ?_); rintro e w' ⟨rfl, ⟨nd, rfl⟩⟩; refine ⟨_, rfl, ?_⟩) | ((with_reducible refine gate_callee (f := 151) rfl ?_); refine goesL_ (some 10) rfl rfl Tryz.func151 (by kernel_rfl) rfl #[.int .i64 a1] rfl (by (try simp only [List.map_toArray, List.map_cons, List.map_nil]); first | done | rfl | (simp only [List.length_drop, List.length_take]; rfl)) ?_; (with_reducible refine (cmp_isNaN_int.calls a1 true _ A4.out).mono ?_); rintro e w' ⟨rfl, ⟨nd, rfl⟩⟩; refine ⟨_, rfl, ?_⟩))
   go_ret
   exact ⟨by first | rfl | (simp; done) | (simp [*]; done), by repeat (first | exact Drawn0.refl _ | apply Drawn0.step)⟩
  ·replace c7 := Bool.eq_false_iff.mpr c7
   subst c7
   rw [if_neg (show ¬ (false = true) by decide)] at H
   by_cases c8 : a0 < a1
   ·rw [if_pos c8] at H
    have c8b0 : decide (a0 < a1) = true := decide_eq_true c8
    clear c8
    obtain rfl := Option.some.inj H
    go_enter Tryz.func150, Tryz.ntmps150
    go_wp2_with (first | ((with_reducible refine gate_callee (f := 151) rfl ?_); refine goesL_ (some 8) rfl rfl Tryz.func151 (by kernel_rfl) rfl #[.int .i64 a0] rfl (by (try simp only [List.map_toArray, List.map_cons, List.map_nil]); first | done | rfl | (simp only [List.length_drop, List.length_take]; rfl)) ?_; (with_reducible refine (cmp_isNaN_int.calls a0 false _ A3.out).mono ?_); rintro e w' ⟨rfl, ⟨nd, rfl⟩⟩; refine ⟨_, rfl, ?_⟩) | ((with_reducible refine gate_callee (f := 151) rfl ?_); refine goesL_ (some 10) rfl rfl Tryz.func151 (by kernel_rfl) rfl #[.int .i64 a1] rfl (by (try simp only [List.map_toArray, List.map_cons, List.map_nil]); first | done | rfl | (simp only [List.length_drop, List.length_take]; rfl)) ?_; (with_reducible refine (cmp_isNaN_int.calls a1 false _ A4.out).mono ?_); rintro e w' ⟨rfl, ⟨nd, rfl⟩⟩; refine ⟨_, rfl, ?_⟩))
    go_ret
    exact ⟨by first | rfl | (simp; done) | (simp [*]; done), by repeat (first | exact Drawn0.refl _ | apply Drawn0.step)⟩
   ·rw [if_neg c8] at H
    have c8b0 : decide (a0 < a1) = false := decide_eq_false c8
    clear c8
    by_cases c9 : a0 > a1
    ·rw [if_pos c9] at H
     have c9b0 : decide (a1 < a0) = true := decide_eq_true c9
     clear c9
     obtain rfl := Option.some.inj H
     go_enter Tryz.func150, Tryz.ntmps150
     go_wp2_with (first | ((with_reducible refine gate_callee (f := 151) rfl ?_); refine goesL_ (some 8) rfl rfl Tryz.func151 (by kernel_rfl) rfl #[.int .i64 a0] rfl (by (try simp only [List.map_toArray, List.map_cons, List.map_nil]); first | done | rfl | (simp only [List.length_drop, List.length_take]; rfl)) ?_; (with_reducible refine (cmp_isNaN_int.calls a0 false _ A3.out).mono ?_); rintro e w' ⟨rfl, ⟨nd, rfl⟩⟩; refine ⟨_, rfl, ?_⟩) | ((with_reducible refine gate_callee (f := 151) rfl ?_); refine goesL_ (some 10) rfl rfl Tryz.func151 (by kernel_rfl) rfl #[.int .i64 a1] rfl (by (try simp only [List.map_toArray, List.map_cons, List.map_nil]); first | done | rfl | (simp only [List.length_drop, List.length_take]; rfl)) ?_; (with_reducible refine (cmp_isNaN_int.calls a1 false _ A4.out).mono ?_); rintro e w' ⟨rfl, ⟨nd, rfl⟩⟩; refine ⟨_, rfl, ?_⟩))
     go_ret
     exact ⟨by first | rfl | (simp; done) | (simp [*]; done), by repeat (first | exact Drawn0.refl _ | apply Drawn0.step)⟩
    ·rw [if_neg c9] at H
     have c9b0 : decide (a1 < a0) = false := decide_eq_false c9
     clear c9
     obtain rfl := Option.some.inj H
     go_enter Tryz.func150, Tryz.ntmps150
     go_wp2_with (first | ((with_reducible refine gate_callee (f := 151) rfl ?_); refine goesL_ (some 8) rfl rfl Tryz.func151 (by kernel_rfl) rfl #[.int .i64 a0] rfl (by (try simp only [List.map_toArray, List.map_cons, List.map_nil]); first | done | rfl | (simp only [List.length_drop, List.length_take]; rfl)) ?_; (with_reducible refine (cmp_isNaN_int.calls a0 false _ A3.out).mono ?_); rintro e w' ⟨rfl, ⟨nd, rfl⟩⟩; refine ⟨_, rfl, ?_⟩) | ((with_reducible refine gate_callee (f := 151) rfl ?_); refine goesL_ (some 10) rfl rfl Tryz.func151 (by kernel_rfl) rfl #[.int .i64 a1] rfl (by (try simp only [List.map_toArray, List.map_cons, List.map_nil]); first | done | rfl | (simp only [List.length_drop, List.length_take]; rfl)) ?_; (with_reducible refine (cmp_isNaN_int.calls a1 false _ A4.out).mono ?_); rintro e w' ⟨rfl, ⟨nd, rfl⟩⟩; refine ⟨_, rfl, ?_⟩))
     go_ret
     exact ⟨by first | rfl | (simp; done) | (simp [*]; done), by repeat (first | exact Drawn0.refl _ | apply Drawn0.step)⟩
def dot_Compare.f (k : Nat) (a0_0 : Int) (a0_1 : Int) (a1_0 : Int) (a1_1 : Int) : Option (Int) := (cmp_Compare_int.f a0_0 a1_0).bind fun t133 => ((cmp_Compare_int.f a0_1 a1_1).bind fun t134 => ((cmp_Or_int.f k (([t133, t134] : List Int))).bind fun t138 => (some t138)))
def dot_Compare.T1 : Bool × List (List Nat × List Nat) := (true, [([], []), ([0], [0]), ([], []), ([2], [2]), ([1, 3], [1, 3]), ([], []), ([5], [5]), ([], []), ([7], [7]), ([6, 8, 4], [6, 8]), ([4, 9], [4, 9]), ([10, 9], [10]), ([11, 11, 0, 1, 2, 3, 4, 5, 6, 7, 8, 9, 10, 11], [11])])
def dot_Compare.B1 : List Nat := [0, 1, 0, 4, 15, 0, 32, 0, 128, 511, 1023, 2047, 4095]
theorem dot_Compare.tab1 : rtab .any (opsOf Tryz.f148 1) = dot_Compare.T1 := by kernel_rfl
theorem dot_Compare.bits1 : waitsOk dot_Compare.T1.2 dot_Compare.B1 = true := by kernel_rfl
set_option maxHeartbeats 8000000 in
set_option maxRecDepth 100000 in
theorem dot_Compare.calls (k : Nat) (a0_0 : Int) (a0_1 : Int) (a1_0 : Int) (a1_1 : Int) (r : Int) (w : World) (h : dot_Compare.f k a0_0 a0_1 a1_0 a1_1 = some r) :
  Calls Tryz.prog 148 #[.agg #[.int .i64 a0_0, .int .i64 a0_1], .agg #[.int .i64 a1_0, .int .i64 a1_1]] w fun e w' => e = .returned (.int .i64 r) ∧ Below w.heap.size w w' := by
 have hu46 := Tryz.underlying46
 have HB := Aside0.mk (Below.refl w.heap.size w)
 have H : ((cmp_Compare_int.f a0_0 a1_0).bind fun t133 => ((cmp_Compare_int.f a0_1 a1_1).bind fun t134 => ((cmp_Or_int.f k (([t133, t134] : List Int))).bind fun t138 => (some t138)))) = some r := h
 clear h
 replace H := Option.bind_eq_some_iff.mp H
 obtain ⟨t133, A30, H⟩ := H
 try dsimp only at H
 have A3 := Aside0.mk A30
 clear A30
 replace H := Option.bind_eq_some_iff.mp H
 obtain ⟨t134, A40, H⟩ := H
 try dsimp only at H
 have A4 := Aside0.mk A40
 clear A40
 obtain ⟨y135, hy135⟩ : ∃ y_ : List Int, y_ = (([t133, t134] : List Int)) := ⟨_, rfl⟩
 replace H : ((cmp_Or_int.f k y135).bind fun t138 => (some t138)) = some r := by first | (rw [hy135]; with_reducible exact H) | (have H2_ := (Option.bind_some _ _).symm.trans H; rw [hy135]; with_reducible exact H2_) | (have H2_ := (Option.bind_some _ _).symm.trans H; with_reducible exact H2_) | with_reducible exact H | (rw [hy135]; exact H) | exact H
 have Ny135 := Aside0.mk hy135
 clear hy135
 replace H := Option.bind_eq_some_iff.mp H
 obtain ⟨t138, A50, H⟩ := H
 try dsimp only at H
 have A5 := Aside0.mk A50
 clear A50
 obtain rfl := Option.some.inj H
 go_enter Tryz.func148, Tryz.ntmps148
 try go_wp2_with (first | ((with_reducible refine gate_dst (N := 2) rfl ?_); refine box_event ?hg (N := 2) ?hd (cs := #[.int .i64 a0_0, .int .i64 a0_1]) (t := 46) ?hr ?_; (case hd => rfl); (case hg => rfl); (case hr => first | (go_simp; done) | (go_simp; rfl)); intro gb131 hg w6 hbox hb; have n0_ := Aside0.mk (below_step (by with_reducible repeat (first | exact HB.out | apply below_alloc | apply pw_below_drewN | apply below_drew1)) hb); have n1_ := Aside0.mk (hbox); have n2_ := Aside0.mk ((by rw [hg]; exact (below_size (by with_reducible repeat (first | exact HB.out | apply below_alloc | apply pw_below_drewN | apply below_drew1))) : w.heap.size ≤ gb131)); have n3_ := Aside0.mk ((by rw [hg]; exact (below_size (by with_reducible repeat (first | exact HB.out | apply below_alloc | apply pw_below_drewN | apply below_drew1))) : w.heap.size ≤ gb131)); clear HB; have HB := n0_; have BK131 := n1_; have GW131 := n2_; have GE131 := n3_; clear n0_ n1_ n2_ n3_; clear hb hbox hg) | ((with_reducible refine gate_dst (N := 3) rfl ?_); refine box_event ?hg (N := 3) ?hd (cs := #[.int .i64 a1_0, .int .i64 a1_1]) (t := 46) ?hr ?_; (case hd => rfl); (case hg => rfl); (case hr => first | (go_simp; done) | (go_simp; rfl)); intro gb132 hg w7 hbox hb; have n0_ := Aside0.mk (blk_below (g := gb131) (o := .cells #[.int .i64 a0_0, .int .i64 a0_1] 46 (0, 0)) (by (with_reducible repeat (first | refine blk_drewN ?_ _ | refine blk_drew ?_ | refine blk_alloc ?_ _)); exact BK131.out) hb); have n1_ := Aside0.mk (below_step (by with_reducible repeat (first | exact HB.out | apply below_alloc | apply pw_below_drewN | apply below_drew1 | refine below_set ?_ GE131.out)) hb); have n2_ := Aside0.mk (hbox); have n3_ := Aside0.mk ((by rw [hg]; exact (below_size (by with_reducible repeat (first | exact HB.out | apply below_alloc | apply pw_below_drewN | apply below_drew1 | refine below_set ?_ GE131.out))) : w.heap.size ≤ gb132)); have n4_ := Aside0.mk ((by rw [hg]; exact (below_size (by with_reducible repeat (first | exact HB.out | apply below_alloc | apply pw_below_drewN | apply below_drew1 | refine below_set ?_ GE131.out))) : w.heap.size ≤ gb132)); have n5_ := Aside0.mk ((by rw [hg]; exact Nat.ne_of_lt (blk_lt (g := gb131) (o := .cells #[.int .i64 a0_0, .int .i64 a0_1] 46 (0, 0)) (by (with_reducible repeat (first | refine blk_drewN ?_ _ | refine blk_drew ?_ | refine blk_alloc ?_ _)); exact BK131.out)) : gb131 ≠ gb132)); have n6_ := Aside0.mk ((by rw [hg]; exact Nat.ne_of_gt (blk_lt (g := gb131) (o := .cells #[.int .i64 a0_0, .int .i64 a0_1] 46 (0, 0)) (by (with_reducible repeat (first | refine blk_drewN ?_ _ | refine blk_drew ?_ | refine blk_alloc ?_ _)); exact BK131.out)) : gb132 ≠ gb131)); clear BK131; clear HB; have BK131 := n0_; have HB := n1_; have BK132 := n2_; have GW132 := n3_; have GE132 := n4_; have NB131_132 := n5_; have NB132_131 := n6_; clear n0_ n1_ n2_ n3_ n4_ n5_ n6_; clear hb hbox hg))
 have n0_ := Aside0.mk (blk_drew BK131.out)
 have n1_ := Aside0.mk (blk_drew BK132.out)
 have n2_ := Aside0.mk (below_drew1 HB.out)
 clear BK131
 clear BK132
 clear HB
 have BK131 := n0_
 have BK132 := n1_
 have HB := n2_
 clear n0_ n1_ n2_
 refine start_ (n := 13) (S := fun w' => w'.cell? ⟨gb131, 0, none⟩ = some (.int .i64 a0_0) ∧ w'.cell? ⟨gb131, 1, none⟩ = some (.int .i64 a0_1) ∧ w'.cell? ⟨gb132, 0, none⟩ = some (.int .i64 a1_0) ∧ w'.cell? ⟨gb132, 1, none⟩ = some (.int .i64 a1_1)) (ds := []) #[false, false, false, false, false, false, false, false, false, false, false, false, false] (by kernel_rfl) rfl rfl ⟨(blk_cell BK131.out 0).trans rfl, (blk_cell BK131.out 1).trans rfl, (blk_cell BK132.out 0).trans rfl, (blk_cell BK132.out 1).trans rfl⟩ (fun hHeld => ?_); refine with_tabW dot_Compare.tab1 dot_Compare.bits1 (fun HT_ HW_ => ?_)
 generalize w7.drew = w8 at BK131 BK132 HB hHeld ⊢
 refine pure_ (i := 0) (N := some 5) (v := ?_) (a' := ?_) #[true, false, false, false, false, false, false, false, false, false, false, false, false] rfl rfl (any_of HT_.out (by kernel_rfl)) (fun _ _ _ h => h) (Or.inl ⟨by rfl, ?_⟩) ?_ ?_
 rotate_left
 ·intro w'
  go_simp
  with_reducible rfl
 rotate_left
 ·simp only [Act.put, List.setIfInBounds_toArray, List.set_cons_zero, List.set_cons_succ, i64_w, i32_w]
  rfl
 refine pure_ (i := 2) (N := some 7) (v := ?_) (a' := ?_) #[true, false, true, false, false, false, false, false, false, false, false, false, false] rfl rfl (any_of HT_.out (by kernel_rfl)) (fun _ _ _ h => h) (Or.inl ⟨by rfl, ?_⟩) ?_ ?_
 rotate_left
 ·intro w'
  go_simp
  with_reducible rfl
 rotate_left
 ·simp only [Act.put, List.setIfInBounds_toArray, List.set_cons_zero, List.set_cons_succ, i64_w, i32_w]
  rfl
 refine pure_ (i := 5) (N := some 10) (v := ?_) (a' := ?_) #[true, false, true, false, false, true, false, false, false, false, false, false, false] rfl rfl (any_of HT_.out (by kernel_rfl)) (fun _ _ _ h => h) (Or.inl ⟨by rfl, ?_⟩) ?_ ?_
 rotate_left
 ·intro w'
  go_simp
  with_reducible rfl
 rotate_left
 ·simp only [Act.put, List.setIfInBounds_toArray, List.set_cons_zero, List.set_cons_succ, i64_w, i32_w]
  rfl
 refine pure_ (i := 7) (N := some 12) (v := ?_) (a' := ?_) #[true, false, true, false, false, true, false, true, false, false, false, false, false] rfl rfl (any_of HT_.out (by kernel_rfl)) (fun _ _ _ h => h) (Or.inl ⟨by rfl, ?_⟩) ?_ ?_
 rotate_left
 ·intro w'
  go_simp
  with_reducible rfl
 rotate_left
 ·simp only [Act.put, List.setIfInBounds_toArray, List.set_cons_zero, List.set_cons_succ, i64_w, i32_w]
  rfl
 refine take_ (i := 1) (N := some 6) (v := ?_) (a' := ?_) #[true, true, true, false, false, true, false, true, false, false, false, false, false] rfl rfl (take_ofW HT_.out HW_.out (by kernel_rfl)) (fun _ _ _ h => h) (Or.inl ⟨by rfl, ?_⟩) hHeld ?_ ?_
 rotate_left
 ·rintro w' ⟨s0, s1, s2, s3⟩
  go_simp
  with_reducible rfl
 rotate_left
 ·simp only [Act.put, List.setIfInBounds_toArray, List.set_cons_zero, List.set_cons_succ, i64_w, i32_w]
  rfl
 refine take_ (i := 3) (N := some 8) (v := ?_) (a' := ?_) #[true, true, true, true, false, true, false, true, false, false, false, false, false] rfl rfl (take_ofW HT_.out HW_.out (by kernel_rfl)) (fun _ _ _ h => h) (Or.inl ⟨by rfl, ?_⟩) hHeld ?_ ?_
 rotate_left
 ·rintro w' ⟨s0, s1, s2, s3⟩
  go_simp
  with_reducible rfl
 rotate_left
 ·simp only [Act.put, List.setIfInBounds_toArray, List.set_cons_zero, List.set_cons_succ, i64_w, i32_w]
  rfl
 refine take_ (i := 6) (N := some 11) (v := ?_) (a' := ?_) #[true, true, true, true, false, true, true, true, false, false, false, false, false] rfl rfl (take_ofW HT_.out HW_.out (by kernel_rfl)) (fun _ _ _ h => h) (Or.inl ⟨by rfl, ?_⟩) hHeld ?_ ?_
 rotate_left
 ·rintro w' ⟨s0, s1, s2, s3⟩
  go_simp
  with_reducible rfl
 rotate_left
 ·simp only [Act.put, List.setIfInBounds_toArray, List.set_cons_zero, List.set_cons_succ, i64_w, i32_w]
  rfl
 refine take_ (i := 8) (N := some 13) (v := ?_) (a' := ?_) #[true, true, true, true, false, true, true, true, true, false, false, false, false] rfl rfl (take_ofW HT_.out HW_.out (by kernel_rfl)) (fun _ _ _ h => h) (Or.inl ⟨by rfl, ?_⟩) hHeld ?_ ?_
 rotate_left
 ·rintro w' ⟨s0, s1, s2, s3⟩
  go_simp
  with_reducible rfl
 rotate_left
 ·simp only [Act.put, List.setIfInBounds_toArray, List.set_cons_zero, List.set_cons_succ, i64_w, i32_w]
  rfl
 refine one_ (i := 4) (N := some 9) #[true, true, true, true, true, true, true, true, true, false, false, false, false] rfl rfl (one_of HT_.out (by kernel_rfl)) (by decide) (fun K hK => ?_)
 refine goes_ Tryz.func150 (by kernel_rfl) rfl #[.int .i64 a0_0, .int .i64 a1_0] (by rfl) rfl rfl (by (try simp only [List.map_toArray, List.map_cons, List.map_nil]); first | done | rfl | (simp only [List.length_drop, List.length_take]; rfl)) ?_
 with_reducible refine (cmp_Compare_int.calls a0_0 a1_0 t133 _ A3.out).mono ?_
 rintro e w' ⟨rfl, ⟨nd, rfl⟩⟩
 refine ⟨_, rfl, ?_⟩
 refine hK.out _ _ ⟨(blk_cell BK131.out 0).trans rfl, (blk_cell BK131.out 1).trans rfl, (blk_cell BK132.out 0).trans rfl, (blk_cell BK132.out 1).trans rfl⟩ (fun hHeld => ?_)
 clear hK K
 refine norm_ (a' := ?_) ?_ ?_
 rotate_left
 ·show Act.put _ (some 9) _ = _
  simp only [Act.put, List.setIfInBounds_toArray, List.set_cons_zero, List.set_cons_succ, i64_w, i32_w]
  rfl
 refine one_ (i := 9) (N := some 14) #[true, true, true, true, true, true, true, true, true, true, false, false, false] rfl rfl (one_of HT_.out (by kernel_rfl)) (by decide) (fun K hK => ?_)
 refine goes_ Tryz.func150 (by kernel_rfl) rfl #[.int .i64 a0_1, .int .i64 a1_1] (by rfl) rfl rfl (by (try simp only [List.map_toArray, List.map_cons, List.map_nil]); first | done | rfl | (simp only [List.length_drop, List.length_take]; rfl)) ?_
 with_reducible refine (cmp_Compare_int.calls a0_1 a1_1 t134 _ A4.out).mono ?_
 rintro e w' ⟨rfl, ⟨nd, rfl⟩⟩
 refine ⟨_, rfl, ?_⟩
 refine hK.out _ _ ⟨(blk_cell BK131.out 0).trans rfl, (blk_cell BK131.out 1).trans rfl, (blk_cell BK132.out 0).trans rfl, (blk_cell BK132.out 1).trans rfl⟩ (fun hHeld => ?_)
 clear hK K
 refine norm_ (a' := ?_) ?_ ?_
 rotate_left
 ·show Act.put _ (some 14) _ = _
  simp only [Act.put, List.setIfInBounds_toArray, List.set_cons_zero, List.set_cons_succ, i64_w, i32_w]
  rfl
 refine one_ (i := 10) (N := some 15) #[true, true, true, true, true, true, true, true, true, true, true, false, false] rfl rfl (one_of HT_.out (by kernel_rfl)) (by decide) (fun K hK => ?_)
 refine Kd.R_lit_step (Kd.int .i64) _ 3 ?hg (N := 15) ?hd (xs := ([t133, t134] : List Int)) (inner := [.int .i64 t133, .int .i64 t134]) (ok := fun _ => True) (okp := fun _ => True) ?hr ?hp (fun _ hk => hk) trivial (Below.refl _ _) (Nat.le_refl _) (by simp) ?_; (case hd => rfl); (case hg => rfl); (case hr => first | (go_simp; done) | (go_simp; rfl)); (case hp => exact (Reps.one (show Kd.M (Kd.int .i64) _ _ _ t133 [.int .i64 t133] from rfl) (Reps.one (show Kd.M (Kd.int .i64) _ _ _ t134 [.int .i64 t134] from rfl) (Reps.none _ _))))
 intro v136 w9 ho10 hb hg_ hnew_
 clear hg_ hnew_
 (first | rw [← Ny135.out] at ho10 | (simp only [Int.reduceToNat] at ho10; rw [← Ny135.out] at ho10))
 have n0_ := Aside0.mk (Kd.R_lower ho10 (below_size (by with_reducible repeat (first | exact HB.out | apply below_alloc | apply pw_below_drewN | apply below_drew1 | refine below_set ?_ GE131.out | refine below_set ?_ GE132.out))))
 have n1_ := Aside0.mk (blk_below (g := gb131) (o := .cells #[.int .i64 a0_0, .int .i64 a0_1] 46 (0, 0)) (by (with_reducible repeat (first | refine blk_drewN ?_ _ | refine blk_drew ?_ | refine blk_alloc ?_ _)); exact BK131.out) hb)
 have n2_ := Aside0.mk (blk_below (g := gb132) (o := .cells #[.int .i64 a1_0, .int .i64 a1_1] 46 (0, 0)) (by (with_reducible repeat (first | refine blk_drewN ?_ _ | refine blk_drew ?_ | refine blk_alloc ?_ _)); exact BK132.out) hb)
 have n3_ := Aside0.mk (below_step (by with_reducible repeat (first | exact HB.out | apply below_alloc | apply pw_below_drewN | apply below_drew1 | refine below_set ?_ GE131.out | refine below_set ?_ GE132.out)) hb)
 clear BK131
 clear BK132
 clear HB
 have HO137 := n0_
 have BK131 := n1_
 have BK132 := n2_
 have HB := n3_
 clear n0_ n1_ n2_ n3_
 clear hb ho10
 obtain ⟨Ao11, co11, eo11⟩ := Kd.R_slice HO137.out
 (first | subst eo11 | (injection eo11 with f1_ f2_ f3_; have f4_ := f1_.symm; have f5_ := f3_.symm; clear f1_ f2_ f3_; subst f4_; subst f5_))
 refine hK.out _ _ ⟨(blk_cell BK131.out 0).trans rfl, (blk_cell BK131.out 1).trans rfl, (blk_cell BK132.out 0).trans rfl, (blk_cell BK132.out 1).trans rfl⟩ (fun hHeld => ?_)
 clear hK K
 refine norm_ (a' := ?_) ?_ ?_
 rotate_left
 ·show Act.put _ (some 15) _ = _
  simp only [Act.put, List.setIfInBounds_toArray, List.set_cons_zero, List.set_cons_succ, i64_w, i32_w]
  rfl
 refine one_ (i := 11) (N := some 16) #[true, true, true, true, true, true, true, true, true, true, true, true, false] rfl rfl (one_of HT_.out (by kernel_rfl)) (by decide) (fun K hK => ?_)
 refine goes_ Tryz.func149 (by kernel_rfl) rfl #[.slice Ao11 y135.length co11] (by rfl) rfl rfl (by (try simp only [List.map_toArray, List.map_cons, List.map_nil]); first | done | rfl | (simp only [List.length_drop, List.length_take]; rfl)) ?_
 with_reducible refine (cmp_Or_int.calls k _ _ y135 t138 _ ?side1 ?side2 A5.out).mono ?_
 (case side1 => repeat (first | exact (Kd.R_reads' HO137.out).2.2 | (with_reducible refine Kd.C_alloc ?_ _) | (with_reducible refine Kd.C_drewN ?_ _) | (with_reducible refine Kd.C_drew ?_)))
 (case side2 => exact (Kd.R_reads' HO137.out).2.1)
 rintro e w' ⟨rfl, ⟨nd, rfl⟩⟩
 refine ⟨_, rfl, ?_⟩
 refine hK.out _ _ ⟨(blk_cell BK131.out 0).trans rfl, (blk_cell BK131.out 1).trans rfl, (blk_cell BK132.out 0).trans rfl, (blk_cell BK132.out 1).trans rfl⟩ (fun hHeld => ?_)
 clear hK K
 refine norm_ (a' := ?_) ?_ ?_
 rotate_left
 ·show Act.put _ (some 16) _ = _
  simp only [Act.put, List.setIfInBounds_toArray, List.set_cons_zero, List.set_cons_succ, i64_w, i32_w]
  rfl
 refine pure_ (i := 12) (N := some 4) (v := ?_) (a' := ?_) #[true, true, true, true, true, true, true, true, true, true, true, true, true] rfl rfl (any_of HT_.out (by kernel_rfl)) (fun _ _ _ h => h) (Or.inl ⟨by rfl, ?_⟩) ?_ ?_
 rotate_left
 ·intro w'
  go_simp
  with_reducible rfl
 rotate_left
 ·simp only [Act.put, List.setIfInBounds_toArray, List.set_cons_zero, List.set_cons_succ, i64_w, i32_w]
  rfl
 refine done_ (done_of HT_.out (by kernel_rfl)) ?_
 try go_wp2
 go_ret
 exact ⟨by first | rfl | (simp [errW_none, errW_some] <;> rfl) | (simp [*, errW_none, errW_some] <;> rfl), by with_reducible repeat (first | exact HB.out | apply below_alloc | apply pw_below_drewN | apply below_drew1 | refine below_set ?_ GE131.out | refine below_set ?_ GE132.out)⟩
def dot_Less.f (k : Nat) (a0_0 : Int) (a0_1 : Int) (a1_0 : Int) (a1_1 : Int) : Option (Bool) := (dot_Compare.f k a0_0 a0_1 a1_0 a1_1).bind fun t141 => (some (decide (t141 < 0)))
set_option maxHeartbeats 8000000 in
set_option maxRecDepth 100000 in
theorem dot_Less.calls (k : Nat) (a0_0 : Int) (a0_1 : Int) (a1_0 : Int) (a1_1 : Int) (r : Bool) (w : World) (h : dot_Less.f k a0_0 a0_1 a1_0 a1_1 = some r) :
  Calls Tryz.prog 141 #[.agg #[.int .i64 a0_0, .int .i64 a0_1], .agg #[.int .i64 a1_0, .int .i64 a1_1]] w fun e w' => e = .returned (.bool r) ∧ Below w.heap.size w w' := by
 have hu46 := Tryz.underlying46
 have HB := Aside0.mk (Below.refl w.heap.size w)
 have H : ((dot_Compare.f k a0_0 a0_1 a1_0 a1_1).bind fun t141 => (some (decide (t141 < 0)))) = some r := h
 clear h
 replace H := Option.bind_eq_some_iff.mp H
 obtain ⟨t141, A30, H⟩ := H
 try dsimp only at H
 have A3 := Aside0.mk A30
 clear A30
 obtain rfl := Option.some.inj H
 go_enter Tryz.func141, Tryz.ntmps141
 go_wp2_with (first | ((with_reducible refine gate_dst (N := 2) rfl ?_); refine box_event ?hg (N := 2) ?hd (cs := #[.int .i64 a0_0, .int .i64 a0_1]) (t := 46) ?hr ?_; (case hd => rfl); (case hg => rfl); (case hr => first | (go_simp; done) | (go_simp; rfl)); intro gb139 hg w4 hbox hb; have n0_ := Aside0.mk (below_step (by with_reducible repeat (first | exact HB.out | apply below_alloc | apply pw_below_drewN | apply below_drew1)) hb); have n1_ := Aside0.mk (hbox); have n2_ := Aside0.mk ((by rw [hg]; exact (below_size (by with_reducible repeat (first | exact HB.out | apply below_alloc | apply pw_below_drewN | apply below_drew1))) : w.heap.size ≤ gb139)); have n3_ := Aside0.mk ((by rw [hg]; exact (below_size (by with_reducible repeat (first | exact HB.out | apply below_alloc | apply pw_below_drewN | apply below_drew1))) : w.heap.size ≤ gb139)); clear HB; have HB := n0_; have BK139 := n1_; have GW139 := n2_; have GE139 := n3_; clear n0_ n1_ n2_ n3_; clear hb hbox hg) | ((with_reducible refine gate_dst (N := 3) rfl ?_); refine box_event ?hg (N := 3) ?hd (cs := #[.int .i64 a1_0, .int .i64 a1_1]) (t := 46) ?hr ?_; (case hd => rfl); (case hg => rfl); (case hr => first | (go_simp; done) | (go_simp; rfl)); intro gb140 hg w5 hbox hb; have n0_ := Aside0.mk (blk_below (g := gb139) (o := .cells #[.int .i64 a0_0, .int .i64 a0_1] 46 (0, 0)) (by (with_reducible repeat (first | refine blk_drewN ?_ _ | refine blk_drew ?_ | refine blk_alloc ?_ _)); exact BK139.out) hb); have n1_ := Aside0.mk (below_step (by with_reducible repeat (first | exact HB.out | apply below_alloc | apply pw_below_drewN | apply below_drew1 | refine below_set ?_ GE139.out)) hb); have n2_ := Aside0.mk (hbox); have n3_ := Aside0.mk ((by rw [hg]; exact (below_size (by with_reducible repeat (first | exact HB.out | apply below_alloc | apply pw_below_drewN | apply below_drew1 | refine below_set ?_ GE139.out))) : w.heap.size ≤ gb140)); have n4_ := Aside0.mk ((by rw [hg]; exact (below_size (by with_reducible repeat (first | exact HB.out | apply below_alloc | apply pw_below_drewN | apply below_drew1 | refine below_set ?_ GE139.out))) : w.heap.size ≤ gb140)); have n5_ := Aside0.mk ((by rw [hg]; exact Nat.ne_of_lt (blk_lt (g := gb139) (o := .cells #[.int .i64 a0_0, .int .i64 a0_1] 46 (0, 0)) (by (with_reducible repeat (first | refine blk_drewN ?_ _ | refine blk_drew ?_ | refine blk_alloc ?_ _)); exact BK139.out)) : gb139 ≠ gb140)); have n6_ := Aside0.mk ((by rw [hg]; exact Nat.ne_of_gt (blk_lt (g := gb139) (o := .cells #[.int .i64 a0_0, .int .i64 a0_1] 46 (0, 0)) (by (with_reducible repeat (first | refine blk_drewN ?_ _ | refine blk_drew ?_ | refine blk_alloc ?_ _)); exact BK139.out)) : gb140 ≠ gb139)); clear BK139; clear HB; have BK139 := n0_; have HB := n1_; have BK140 := n2_; have GW140 := n3_; have GE140 := n4_; have NB139_140 := n5_; have NB140_139 := n6_; clear n0_ n1_ n2_ n3_ n4_ n5_ n6_; clear hb hbox hg; have hnb6 := NB139_140.out; have hnc6 := NB140_139.out; have hcz7 := fun i_ => blk_cell BK139.out i_; have hfz7 := fun i_ => blk_frozen BK139.out i_; have hcz8 := fun i_ => blk_cell BK140.out i_; have hfz8 := fun i_ => blk_frozen BK140.out i_) | ((with_reducible refine gate_callee (f := 148) rfl ?_); refine goesL_ (some 7) rfl rfl Tryz.func148 (by kernel_rfl) rfl #[.agg #[.int .i64 a0_0, .int .i64 a0_1], .agg #[.int .i64 a1_0, .int .i64 a1_1]] rfl (by (try simp only [List.map_toArray, List.map_cons, List.map_nil]); first | done | rfl | (simp only [List.length_drop, List.length_take]; rfl)) ?_; (with_reducible refine (dot_Compare.calls k a0_0 a0_1 a1_0 a1_1 t141 _ A3.out).mono ?_); rintro e w9 ⟨rfl, hb⟩; refine ⟨_, rfl, ?_⟩; have n0_ := Aside0.mk (blk_below (g := gb139) (o := .cells #[.int .i64 a0_0, .int .i64 a0_1] 46 (0, 0)) (by (with_reducible repeat (first | refine blk_drewN ?_ _ | refine blk_drew ?_ | refine blk_alloc ?_ _)); exact BK139.out) hb); have n1_ := Aside0.mk (blk_below (g := gb140) (o := .cells #[.int .i64 a1_0, .int .i64 a1_1] 46 (0, 0)) (by (with_reducible repeat (first | refine blk_drewN ?_ _ | refine blk_drew ?_ | refine blk_alloc ?_ _)); exact BK140.out) hb); have n2_ := Aside0.mk (below_step (by with_reducible repeat (first | exact HB.out | apply below_alloc | apply pw_below_drewN | apply below_drew1 | refine below_set ?_ GE139.out | refine below_set ?_ GE140.out)) hb); clear BK139; clear BK140; clear HB; have BK139 := n0_; have BK140 := n1_; have HB := n2_; clear n0_ n1_ n2_; (try clear hb); (try clear hb2); (try clear hk); (try clear hi)))
 go_ret
 exact ⟨by first | rfl | (simp [errW_none, errW_some] <;> rfl) | (simp [*, errW_none, errW_some] <;> rfl), by with_reducible repeat (first | exact HB.out | apply below_alloc | apply pw_below_drewN | apply below_drew1 | refine below_set ?_ GE139.out | refine below_set ?_ GE140.out)⟩
end Go.Proofs.YtnbjflcfdncocaaGreat.M
namespace Go.Proofs.YtnbjflcfdncocaaGreat.M
open Go.RowKit Go.Proofs.YtnbjflcfdncocaaGreatW.PrintWords Go.Proofs.YtnbjflcfdncocaaGreatW.PrintLast Go.Proofs.YtnbjflcfdncocaaGreatW.PrintMore
abbrev Tbl := S56
def vecOk (l : List Int) : Prop := 1 ≤ l.length ∧ l.length ≤ 5 ∧ ∀ n ∈ l, 0 ≤ n ∧ n ≤ 1073741824
instance (l : List Int) : Decidable (vecOk l) := by unfold vecOk; infer_instance
def stampOk (a b c : Int) : Prop := (0 ≤ a ∧ a ≤ 1099511627776) ∧ (0 ≤ b ∧ b ≤ 65536) ∧ (0 ≤ c ∧ c ≤ 4)
instance (a b c : Int) : Decidable (stampOk a b c) := by unfold stampOk; infer_instance
def wholeP (n : Int) (x : Opr) : Prop := 0 ≤ x.f0.f0 ∧ x.f0.f0 < n ∧ 1 ≤ x.f0.f1 ∧ x.f0.f1 ≤ 1073741824 ∧ (x.f1.length : Int) = n ∧ vecOk x.f1 ∧ rd x.f1 x.f0.f0 = x.f0.f1 - 1 ∧ stampOk x.f2.f0 x.f2.f1 x.f2.f2 ∧ x.f2.f2 = x.f0.f0
instance (n : Int) (x : Opr) : Decidable (wholeP n x) := by unfold wholeP; infer_instance
def wholeB (n : Int) (x : Opr) : Bool := decide (wholeP n x)
def smallV (v : Val) : Prop := goodV v ∧ (v.f0 = 3 → -2147483648 ≤ v.f1 ∧ v.f1 ≤ 2147483648)
instance (v : Val) : Decidable (smallV v) := by unfold smallV; infer_instance
def fitsV (v : Val) (t : Int) : Prop := (2 ≤ t ∧ t ≤ 4) ∧ goodV v ∧ (v.f0 = t ∨ v.f0 = 1)
instance (v : Val) (t : Int) : Decidable (fitsV v t) := by unfold fitsV; infer_instance
def cellV : List Val → List Int → Prop
  | [], [] => True
  | v :: l, t :: m => (smallV v ∧ fitsV v t) ∧ cellV l m
  | _, _ => False
instance cellV.dec : ∀ (l : List Val) (m : List Int), Decidable (cellV l m)
  | [], [] => .isTrue trivial
  | [], _ :: _ => .isFalse id
  | _ :: _, [] => .isFalse id
  | v :: l, t :: m => have := cellV.dec l m; inferInstanceAs (Decidable ((smallV v ∧ fitsV v t) ∧ cellV l m))
theorem cellV_length : ∀ {l : List Val} {m : List Int}, cellV l m → l.length = m.length
  | [], [], _ => rfl
  | _ :: _, _ :: _, h => congrArg (· + 1) (cellV_length h.2)
def hasD (v : List Int) (d : Dt) : Prop := 0 ≤ d.f0 ∧ d.f0 < (v.length : Int) ∧ 1 ≤ d.f1 ∧ d.f1 ≤ rd v d.f0
instance (v : List Int) (d : Dt) : Decidable (hasD v d) := by unfold hasD; infer_instance
def lessD (a b : Dt) : Prop := a.f0 < b.f0 ∨ a.f0 = b.f0 ∧ a.f1 < b.f1
instance (a b : Dt) : Decidable (lessD a b) := by unfold lessD; infer_instance
def hadFrom (v : List Int) (l : List Dt) (i : Nat) : Prop := ∀ j, j < l.length → i ≤ j → hasD v (l.getD j z46) ∧ (0 < j → lessD (l.getD (j - 1) z46) (l.getD j z46))
instance (v : List Int) (l : List Dt) (i : Nat) : Decidable (hadFrom v l i) := by unfold hadFrom; infer_instance
def colsOf (f : List Tbl) (x : Opr) : List Int := (rd_T56 f x.f4).f0
def kindP (f : List Tbl) (x : Opr) : Prop :=
  (x.f3 = 1 ∧ x.f6 = 0 ∧ x.f8.length = 0 ∧ cellV x.f7 (colsOf f x)) ∨
  (x.f3 = 2 ∧ (0 ≤ x.f6 ∧ x.f6 < ((colsOf f x).length : Int)) ∧ x.f8.length = 0 ∧ cellV x.f7 [rd (colsOf f x) x.f6]) ∨
  (x.f3 = 3 ∧ x.f6 = 0 ∧ x.f7.length = 0 ∧ (1 ≤ x.f8.length ∧ x.f8.length ≤ 64) ∧ hadFrom x.f1 x.f8 0)
instance (f : List Tbl) (x : Opr) : Decidable (kindP f x) := by unfold kindP; infer_instance
def opP (n : Int) (f : List Tbl) (x : Opr) : Prop := wholeP n x ∧ (0 ≤ x.f4 ∧ x.f4 < (f.length : Int)) ∧ (1 ≤ x.f5.size ∧ x.f5.size ≤ 12) ∧ kindP f x
instance (n : Int) (f : List Tbl) (x : Opr) : Decidable (opP n f x) := by unfold opP; infer_instance
def opB (n : Int) (f : List Tbl) (x : Opr) : Bool := decide (opP n f x)
theorem opB_no {n : Int} {f : List Tbl} {x : Opr} {r : Bool} (h : some (opB n f x) = some r) (hn : ¬ opP n f x) : r = false := by
  rw [← Option.some.inj h]; exact decide_eq_false hn
theorem opB_is {n : Int} {f : List Tbl} {x : Opr} {r : Bool} (h : some (opB n f x) = some r) : r = true ↔ opP n f x := by
  rw [← Option.some.inj h]; exact decide_eq_true_iff
theorem progHas_at (l : List Int) (d : Dt) : ∃ r, Aside0 (dot_Has.f l d.f0 d.f1 = some r ∧ (r = true ↔ hasD l d)) := by
  refine ⟨decide (hasD l d), ⟨?_, decide_eq_true_iff⟩⟩
  unfold dot_Has.f dot_in.f hasD
  by_cases h1 : 0 ≤ d.f0 <;> by_cases h2 : d.f0 < (l.length : Int) <;> by_cases h3 : 1 ≤ d.f1 <;> simp [h1, h2, h3]
theorem progLess_at (a b : Dt) : ∃ k r, Aside0 (dot_Less.f k a.f0 a.f1 b.f0 b.f1 = some r ∧ (r = true ↔ lessD a b)) := by
  have hc : ∀ x y : Int, cmp_Compare_int.f x y = some (if x < y then -1 else if y < x then 1 else 0) := fun x y => by
    unfold cmp_Compare_int.f cmp_isNaN_int.f
    by_cases h1 : x < y <;> by_cases h2 : y < x <;> simp [h1, h2]
  have hor : ∀ k (u v : Int), cmp_Or_int.f (k + 3) [u, v] = some (if u = 0 then v else u) := fun k u v => by
    have w1 : wrap64 ((0 : Int) + 1) = 1 := wrap_in _ (by omega) (by omega)
    have w2 : wrap64 ((1 : Int) + 1) = 2 := wrap_in _ (by omega) (by omega)
    have r0 : rd [u, v] 0 = u := rfl
    have r1 : rd [u, v] 1 = v := rfl
    simp only [cmp_Or_int.f, cmp_Or_int.l0, List.length_cons, List.length_nil, w1, w2, r0, r1]
    by_cases h1 : u = 0 <;> by_cases h2 : v = 0 <;> simp [h1, h2]
  obtain ⟨k, hk⟩ : ∃ k : Nat, 0 < k := ⟨1, by decide⟩
  refine ⟨k + 3, decide (lessD a b), ⟨?_, decide_eq_true_iff⟩⟩
  unfold dot_Less.f dot_Compare.f
  rw [hc, hc, Option.bind_some, Option.bind_some, hor, Option.bind_some, Option.bind_some]
  congr 1
  rw [Bool.eq_iff_iff, decide_eq_true_eq, decide_eq_true_eq]
  show _ ↔ (a.f0 < b.f0 ∨ a.f0 = b.f0 ∧ a.f1 < b.f1)
  by_cases h1 : a.f0 < b.f0
  · simp [h1]
  · by_cases h2 : b.f0 < a.f0
    · rw [if_neg h1, if_pos h2, if_neg (by decide)]; omega
    · rw [if_neg h1, if_neg h2, if_pos rfl]
      by_cases h3 : a.f1 < b.f1
      · rw [if_pos h3]; omega
      · rw [if_neg h3]; split <;> omega
theorem opKey_at (s : ByteArray) : ∃ r, Aside0 (op_Key.f s = some r ∧ (r = true ↔ 1 ≤ s.size ∧ s.size ≤ 12)) := by
  refine ⟨decide (1 ≤ s.size ∧ s.size ≤ 12), ⟨?_, decide_eq_true_iff⟩⟩
  unfold op_Key.f
  by_cases h : (s.size : Int) ≥ 1
  · rw [if_pos h]; congr 1; rw [Bool.eq_iff_iff, decide_eq_true_eq, decide_eq_true_eq]; omega
  · rw [if_neg h, decide_eq_false (by omega)]
theorem valFits_eq (v : Val) (t : Int) : equal_Fits.p v t = decide (fitsV v t) := by
  have h := equal_Fits.p_eq v t
  have e : value_Fits.f v.f0 v.f1 v.f2 t = some (decide (fitsV v t)) := by
    unfold value_Fits.f
    rw [Check_eq]
    by_cases ht : 2 ≤ t ∧ t ≤ 4
    · have hv : decide (fitsV v t) = decide (goodV v ∧ (v.f0 = t ∨ v.f0 = 1)) := decide_eq_decide.2 ⟨fun h => h.2, fun h => ⟨ht, h⟩⟩
      rw [hv]
      have h3 : t = 2 ∨ t = 3 ∨ t = 4 := by omega
      rcases h3 with rfl | rfl | rfl <;> by_cases h1 : goodV v <;> by_cases h2 : v.f0 = 1 <;> simp [h1, h2] <;> split <;> simp_all
    · rw [if_neg (by omega), if_neg (by omega), if_neg (by omega), decide_eq_false (fun h => ht h.1)]
  rw [e] at h; exact (Option.some.inj h).symm
theorem valSmall_eq (v : Val) : contains_small_1.p v = !decide (smallV v) := by
  have h := contains_small_1.p_eq v
  have e : op_small_1.f v.f0 v.f1 v.f2 = some (!decide (smallV v)) := by
    unfold op_small_1.f value_Small.f smallV value_within.f
    rw [Check_eq]
    have hw : wrap64 (-2147483648) = -2147483648 := wrap_in _ (by omega) (by omega)
    by_cases h1 : goodV v <;> by_cases h2 : v.f0 = 3 <;> by_cases h3 : -2147483648 ≤ v.f1 <;> simp [h1, h2, h3, hw]
  rw [e] at h; exact (Option.some.inj h).symm
theorem allF_cellV : ∀ (l : List Val) (m : List Int), (allF equal_Fits.p l m = true ∧ ∀ v ∈ l, smallV v) ↔ cellV l m
  | [], [] => by simp [allF, cellV]
  | [], _ :: _ => by simp [allF, cellV]
  | _ :: _, [] => by simp [allF, cellV]
  | v :: l, t :: m => by
    have ih := allF_cellV l m
    simp only [allF, cellV, Bool.and_eq_true, valFits_eq, decide_eq_true_eq, List.mem_cons, forall_eq_or_imp]
    constructor
    · rintro ⟨⟨a, b⟩, c, d⟩; exact ⟨⟨c, a⟩, ih.1 ⟨b, d⟩⟩
    · rintro ⟨⟨c, a⟩, h⟩; exact ⟨⟨a, (ih.2 h).1⟩, c, (ih.2 h).2⟩
theorem opSmall_at (l : List Val) (m : List Int) : ∃ r, Aside0 (op_small.f l m = some r ∧ (r = true ↔ cellV l m)) := by
  refine ⟨decide (cellV l m), ⟨?_, decide_eq_true_iff⟩⟩
  unfold op_small.f row_Fits.f equal_Fits.f contains_small_1.f
  have h := allF_cellV l m
  have ha : (l.any contains_small_1.p = true) ↔ ¬ ∀ v ∈ l, smallV v := by
    rw [List.any_eq_true]
    constructor
    · rintro ⟨v, h1, h2⟩ h3; rw [valSmall_eq, decide_eq_true (h3 v h1)] at h2; cases h2
    · intro h1
      refine Classical.byContradiction fun h2 => h1 fun v hv => Classical.byContradiction fun h3 => h2 ⟨v, hv, by rw [valSmall_eq, decide_eq_false h3]; rfl⟩
  rw [Option.bind_some, Option.bind_some]
  by_cases h1 : allF equal_Fits.p l m = true
  · rw [if_pos h1, Option.bind_some]
    congr 1
    by_cases h2 : ∀ v ∈ l, smallV v
    · rw [Bool.eq_false_iff.2 (fun e => ha.1 e h2), decide_eq_true (h.1 ⟨h1, h2⟩)]; rfl
    · rw [ha.2 h2, decide_eq_false (fun e => h2 (h.2 e).2)]; rfl
  · rw [if_neg h1, decide_eq_false (fun e => h1 (h.2 e).1)]
theorem had_step (v : List Int) (l : List Dt) (i : Nat) (h : i < l.length) : hadFrom v l i ↔ (hasD v (rd_T46 l (i : Int)) ∧ (0 < i → lessD (rd_T46 l ((i - 1 : Nat) : Int)) (rd_T46 l (i : Int)))) ∧ hadFrom v l (i + 1) := by
  have e : ∀ j : Nat, rd_T46 l (j : Int) = l.getD j z46 := fun j => by simp [rd_T46]
  rw [e, e]
  constructor
  · intro H
    exact ⟨⟨(H i h (Nat.le_refl _)).1, (H i h (Nat.le_refl _)).2⟩, fun j h1 h2 => H j h1 (by omega)⟩
  · intro H j h1 h2
    by_cases hj : j = i
    · subst hj; exact H.1
    · exact H.2 j h1 (by omega)
def op_had.f (v : List Int) (l : List Dt) : Option Bool := some (decide (hadFrom v l 0))
set_option maxHeartbeats 2000000 in
set_option maxRecDepth 100000 in
theorem op_had.calls (A0 : Option Addr) (c0 : Nat) (v : List Int) (A1 : Option Addr) (c1 : Nat) (l : List Dt) (r : Bool) (w : World) (hr0 : Kd.C (Kd.int .i64) w A0 v.length v) (hc0 : v.length ≤ c0) (hr1 : Kd.C k46 w A1 l.length l) (hc1 : l.length ≤ c1) (h : op_had.f v l = some r) :
    Calls Tryz.prog 127 #[.slice A0 v.length c0, .slice A1 l.length c1] w fun e w' => e = .returned (.bool r) ∧ Below w.heap.size w w' := by
  have HC : Aside0 (r = true ↔ hadFrom v l 0) := ⟨by rw [← Option.some.inj h]; exact decide_eq_true_iff⟩
  have H2 := Aside0.mk (And.intro hr0 hc0); have H11 := Aside0.mk (And.intro hr1 hc1)
  have hmx := Kd.C_max hr1
  clear hr0 hc0 hr1 hc1 h
  go_enter Tryz.func127, Tryz.ntmps127
  go_wp2
  go_loopw [9] (fun x wr => ∃ i : Nat, i ≤ l.length ∧ x = .int .i64 i ∧ Aside0 (Below w.heap.size w wr) ∧ Aside0 (r = true ↔ hadFrom v l i)) (fun x _ => l.length - (intOf x).toNat)
  case atStart => exact ⟨0, by omega, rfl, ⟨Below.refl _ _⟩, HC⟩
  case round =>
    clear HC
    obtain ⟨i, hi, rfl, HB, HC⟩ := hrel
    by_cases hlt : i < l.length
    case neg =>
      obtain rfl : r = true := HC.out.2 (fun j h1 h2 => absurd h1 (by omega))
      have y3 : decide (i < l.length) = false := decide_eq_false hlt
      go_wp2
      go_ret
      exact ⟨rfl, HB.out⟩
    obtain ⟨av, eV, hx0, hx1⟩ := at_T46 H11.out.1 (i : Int) (by omega) (by omega)
    subst eV
    rw [Int.toNat_natCast] at hx0 hx1
    have HD := Aside0.mk (HC.out.trans (had_step v l i hlt))
    clear HC
    obtain ⟨y, hy⟩ : ∃ y, y = rd_T46 l (i : Int) := ⟨_, rfl⟩
    rw [← hy] at hx0 hx1 HD
    clear hy
    replace hx0 := pw_cell_below HB.out hx0; replace hx1 := pw_cell_below HB.out hx1
    obtain ⟨b1, E1⟩ := progHas_at v y
    have y0 := eq_true (show (0 : Int) ≤ (i : Int) by omega); have y1 := eq_true (show (i : Int) < (l.length : Int) by omega)
    have y3 : decide (i < l.length) = true := decide_eq_true hlt
    go_wp2_with fail
    clear hx0 hx1
    obtain ⟨W, hW, HI⟩ := One.start wr (.cells #[.int .i64 y.f0, .int .i64 y.f1] 46)
    rw [← hW]; clear hW
    refine wp_ord (S := One wr (.cells #[.int .i64 y.f0, .int .i64 y.f1] 46 (0, 0))) [false, false, true, false, false, false, false, false, false, false, false, false, false, false, true, false, false, false] (by kernel_rfl) (by kernel_rfl) (fun _ _ d _ _ h => by cases d <;> exact h) ?_ (fun hHeld => ?_)
    · (first | exact HI.out.drew | exact HI.out)
    replace HI := Aside0.mk hHeld; clear hHeld
    iterate 2 (refine ord_take (v := ?_) (by rfl) ?_ ?_; rotate_left; (focus (intro w' hSw; have hk := fun i => blk_cell hSw.2 i; (try have hz0 := pw_cell_below hSw.1 (pw_cell_below HB.out HZ.out.1); have hz1 := pw_cell_below hSw.1 (pw_cell_below HB.out HZ.out.2)); go_simp; (try with_reducible rfl); done)); try simp only [Act.put, List.setIfInBounds_toArray, List.set_cons_zero, List.set_cons_succ])
    refine ord_call (by rfl) (fun K hK => ?_)
    go_simp; go_at_call 140
    refine (dot_Has.calls A0 c0 v y.f0 y.f1 b1 _ (Kd.C_below H2.out.1 (below_step HB.out HI.out.1)) H2.out.2 E1.out.1).mono ?_; rintro e w1 ⟨rfl, hb⟩; replace HI := Aside0.mk (HI.out.step (by first | exact hb | exact hb.below)); clear hb
    refine hK.out _ _ ?_ (fun hHeld => ?_)
    · (first | exact HI.out.drew | exact HI.out)
    clear hK K
    try simp only [Act.put, List.setIfInBounds_toArray, List.set_cons_zero, List.set_cons_succ]
    clear hHeld
    cases b1 with
    | true =>
      have s1 := E1.out.2.1 rfl
      clear E1
      iterate 3 (refine ord_take (v := ?_) (by rfl) ?_ ?_; rotate_left; (focus (intro w' hSw; have hk := fun i => blk_cell hSw.2 i; (try have hz0 := pw_cell_below hSw.1 (pw_cell_below HB.out HZ.out.1); have hz1 := pw_cell_below hSw.1 (pw_cell_below HB.out HZ.out.2)); go_simp; (try with_reducible rfl); done)); try simp only [Act.put, List.setIfInBounds_toArray, List.set_cons_zero, List.set_cons_succ])
      by_cases c6 : 0 < i
      case pos =>
        have v4 : decide (0 < i) = true := decide_eq_true c6
        have gw : IntKind.i64.wrap ((i : Int) - 1) = ((i - 1 : Nat) : Int) := (i64_w _).trans ((wrap_in _ (by omega) (by omega)).trans (by omega))
        obtain ⟨az, eZ, hz0, hz1⟩ := at_T46 H11.out.1 ((i - 1 : Nat) : Int) (by omega) (by omega)
        obtain rfl := Option.some.inj eZ
        rw [Int.toNat_natCast] at hz0 hz1
        obtain ⟨z, hz⟩ : ∃ z, z = rd_T46 l ((i - 1 : Nat) : Int) := ⟨_, rfl⟩
        rw [← hz] at hz0 hz1 HD
        have HZ := Aside0.mk (And.intro hz0 hz1); clear hz0 hz1 hz
        obtain ⟨kl, b2, E2⟩ := progLess_at z y
        have y4 := eq_true (show (0 : Int) ≤ ((i - 1 : Nat) : Int) by omega); have y5 := eq_true (show ((i - 1 : Nat) : Int) < (l.length : Int) by omega)
        (refine ord_take (v := ?_) (by rfl) ?_ ?_; rotate_left; (focus (intro w' hSw; have hk := fun i => blk_cell hSw.2 i; (try have hz0 := pw_cell_below hSw.1 (pw_cell_below HB.out HZ.out.1); have hz1 := pw_cell_below hSw.1 (pw_cell_below HB.out HZ.out.2)); go_simp; (try with_reducible rfl); done)); try simp only [Act.put, List.setIfInBounds_toArray, List.set_cons_zero, List.set_cons_succ])
        iterate 7 (refine ord_take (v := ?_) (by rfl) ?_ ?_; rotate_left; (focus (intro w' hSw; have hk := fun i => blk_cell hSw.2 i; (try have hz0 := pw_cell_below hSw.1 (pw_cell_below HB.out HZ.out.1); have hz1 := pw_cell_below hSw.1 (pw_cell_below HB.out HZ.out.2)); go_simp; (try with_reducible rfl); done)); try simp only [Act.put, List.setIfInBounds_toArray, List.set_cons_zero, List.set_cons_succ])
        refine ord_call (by rfl) (fun K hK => ?_)
        go_simp; go_at_call 141
        refine (dot_Less.calls kl z.f0 z.f1 y.f0 y.f1 b2 _ E2.out.1).mono ?_; rintro e w1 ⟨rfl, hb⟩; replace HI := Aside0.mk (HI.out.step (by first | exact hb | exact hb.below)); clear hb
        refine hK.out _ _ ?_ (fun hHeld => ?_)
        · (first | exact HI.out.drew | exact HI.out)
        clear hK K
        try simp only [Act.put, List.setIfInBounds_toArray, List.set_cons_zero, List.set_cons_succ]
        clear hHeld
        cases b2 with
        | true =>
          have s2 := E2.out.2.1 rfl
          clear E2
          iterate 3 (refine ord_take (v := ?_) (by rfl) ?_ ?_; rotate_left; (focus (intro w' hSw; have hk := fun i => blk_cell hSw.2 i; (try have hz0 := pw_cell_below hSw.1 (pw_cell_below HB.out HZ.out.1); have hz1 := pw_cell_below hSw.1 (pw_cell_below HB.out HZ.out.2)); go_simp; (try with_reducible rfl); done)); try simp only [Act.put, List.setIfInBounds_toArray, List.set_cons_zero, List.set_cons_succ])
          refine ord_done ?_
          have hw : IntKind.i64.wrap ((i : Int) + 1) = ((i + 1 : Nat) : Int) := (i64_w _).trans ((wrap_in _ (by omega) (by omega)).trans (by omega))
          go_wp2
          go_roundw
          case rel => exact ⟨i + 1, by omega, rfl, ⟨below_step HB.out HI.out.1⟩, ⟨HD.out.trans ⟨fun h => h.2, fun h => ⟨⟨s1, by first | exact s2 | exact fun _ => s2⟩, h⟩⟩⟩⟩
          case measure => simp [intOf]; omega
        | false =>
          obtain rfl : r = false := Bool.eq_false_iff.2 (fun e => Bool.noConfusion (E2.out.2.2 ((HD.out.1 e).1.2 c6)))
          iterate 3 (refine ord_take (v := ?_) (by rfl) ?_ ?_; rotate_left; (focus (intro w' hSw; have hk := fun i => blk_cell hSw.2 i; (try have hz0 := pw_cell_below hSw.1 (pw_cell_below HB.out HZ.out.1); have hz1 := pw_cell_below hSw.1 (pw_cell_below HB.out HZ.out.2)); go_simp; (try with_reducible rfl); done)); try simp only [Act.put, List.setIfInBounds_toArray, List.set_cons_zero, List.set_cons_succ])
          refine ord_done ?_
          go_wp2
          go_ret
          exact ⟨rfl, below_step HB.out HI.out.1⟩
      case neg =>
        have v4 : decide (0 < i) = false := decide_eq_false c6
        have s2 : 0 < i → lessD (rd_T46 l ((i - 1 : Nat) : Int)) y := fun h => absurd h c6
        (refine ord_take (v := ?_) (by rfl) ?_ ?_; rotate_left; (focus (intro w' hSw; have hk := fun i => blk_cell hSw.2 i; (try have hz0 := pw_cell_below hSw.1 (pw_cell_below HB.out HZ.out.1); have hz1 := pw_cell_below hSw.1 (pw_cell_below HB.out HZ.out.2)); go_simp; (try with_reducible rfl); done)); try simp only [Act.put, List.setIfInBounds_toArray, List.set_cons_zero, List.set_cons_succ])
        repeat (first | (refine ord_skip (by rfl) ?_; try simp only [Act.put, List.setIfInBounds_toArray, List.set_cons_zero, List.set_cons_succ]) | (refine ord_pass (by rfl) ?_; try simp only [Act.put, List.setIfInBounds_toArray, List.set_cons_zero, List.set_cons_succ]) | (refine ord_take (v := ?_) (by rfl) ?_ ?_; rotate_left; (focus (intro w' hSw; have hk := fun i => blk_cell hSw.2 i; (try have hz0 := pw_cell_below hSw.1 (pw_cell_below HB.out HZ.out.1); have hz1 := pw_cell_below hSw.1 (pw_cell_below HB.out HZ.out.2)); go_simp; (try with_reducible rfl); done)); try simp only [Act.put, List.setIfInBounds_toArray, List.set_cons_zero, List.set_cons_succ]))
        refine ord_done ?_
        have hw : IntKind.i64.wrap ((i : Int) + 1) = ((i + 1 : Nat) : Int) := (i64_w _).trans ((wrap_in _ (by omega) (by omega)).trans (by omega))
        go_wp2
        go_roundw
        case rel => exact ⟨i + 1, by omega, rfl, ⟨below_step HB.out HI.out.1⟩, ⟨HD.out.trans ⟨fun h => h.2, fun h => ⟨⟨s1, by first | exact s2 | exact fun _ => s2⟩, h⟩⟩⟩⟩
        case measure => simp [intOf]; omega
    | false =>
      obtain rfl : r = false := Bool.eq_false_iff.2 (fun e => Bool.noConfusion (E1.out.2.2 (HD.out.1 e).1.1))
      repeat (first | (refine ord_skip (by rfl) ?_; try simp only [Act.put, List.setIfInBounds_toArray, List.set_cons_zero, List.set_cons_succ]) | (refine ord_pass (by rfl) ?_; try simp only [Act.put, List.setIfInBounds_toArray, List.set_cons_zero, List.set_cons_succ]) | (refine ord_take (v := ?_) (by rfl) ?_ ?_; rotate_left; (focus (intro w' hSw; have hk := fun i => blk_cell hSw.2 i; (try have hz0 := pw_cell_below hSw.1 (pw_cell_below HB.out HZ.out.1); have hz1 := pw_cell_below hSw.1 (pw_cell_below HB.out HZ.out.2)); go_simp; (try with_reducible rfl); done)); try simp only [Act.put, List.setIfInBounds_toArray, List.set_cons_zero, List.set_cons_succ]))
      refine ord_done ?_
      go_wp2
      go_ret
      exact ⟨rfl, below_step HB.out HI.out.1⟩
def contains_Check_1.p (x : Int) : Bool := (dot_Check_1.f x).getD false
theorem contains_Check_1.p_eq (x : Int) : dot_Check_1.f x = some (contains_Check_1.p x) := by
  have h : (dot_Check_1.f x).isSome = true := by
    unfold dot_Check_1.f; split <;> rfl
  unfold contains_Check_1.p
  obtain ⟨b, hb⟩ := Option.isSome_iff_exists.1 h
  rw [hb]; rfl
def contains_Check_1.f (l0 : List Int) : Option Bool := some (l0.any contains_Check_1.p)
theorem contains_Check_1.calls (A0 : Option Addr) (c0 : Nat) (l0 : List Int) (r : Bool) (w : World) (hr0 : Kd.C (Kd.int .i64) w A0 l0.length l0) (_hc0 : l0.length ≤ c0) (h : contains_Check_1.f l0 = some r) :
    Calls Tryz.prog 76 #[.slice A0 l0.length c0, .func (.func 128) #[] #[]] w fun e w' => e = .returned (.bool r) ∧ Below w.heap.size w w' := by
  obtain rfl := Option.some.inj h
  exact ContainsFunc_int 128 (enters_ Tryz.func128 (by kernel_rfl) (by kernel_rfl)) contains_Check_1.p (fun x W => (dot_Check_1.calls x _ W (contains_Check_1.p_eq x)).mono fun e w' ⟨he, hd⟩ => ⟨he, hd.below⟩) A0 c0 l0 w hr0
end Go.Proofs.YtnbjflcfdncocaaGreat.M
namespace Go.Proofs.YtnbjflcfdncocaaGreat.M
open Go.RowKit Go.Proofs.YtnbjflcfdncocaaGreatW.PrintWords Go.Proofs.YtnbjflcfdncocaaGreatW.PrintLast Go.Proofs.YtnbjflcfdncocaaGreatW.PrintMore
attribute [local go_sem] max2_int min2_int max_two min_two max_three min_three max_four min_four
set_option linter.unusedVariables false
set_option linter.unusedSimpArgs false
def dot_Check.j0 : Nat → List Int → Bool → Option (Int)
 | 0, _, _ => none
 | k + 1, x0, x3 => if x3 = true then (some 2) else ((contains_Check_1.f x0).bind fun t106 => (if t106 = true then (some 1) else (some 0)))
def dot_Check.f (k : Nat) (l0 : List Int) : Option (Int) := if (l0.length : Int) < 1 then (dot_Check.j0 k l0 true) else (dot_Check.j0 k l0 (decide ((l0.length : Int) > 5)))
set_option maxHeartbeats 8000000 in
set_option maxRecDepth 100000 in
theorem dot_Check.calls (k : Nat) (A0 : Option Addr) (c0 : Nat) (l0 : List Int) (r : Int) (w : World) (hr0 : Kd.C (Kd.int .i64) w A0 l0.length l0) (hc0 : l0.length ≤ c0) (h : dot_Check.f k l0 = some r) :
  Calls Tryz.prog 108 #[.slice A0 l0.length c0] w fun e w' => e = .returned (.int .i64 r) ∧ Below w.heap.size w w' := by
 have HR0 := Aside0.mk hr0
 have HC0 := Aside0.mk hc0
 clear hr0 hc0
 have HB := Aside0.mk (Below.refl w.heap.size w)
 have H : (if (l0.length : Int) < 1 then (dot_Check.j0 k l0 true) else (dot_Check.j0 k l0 (decide ((l0.length : Int) > 5)))) = some r := h
 clear h
 have HC2 := Aside0.mk H
 clear H
 go_enter Tryz.func108, Tryz.ntmps108
 go_upto_region 1 with (fail)
 go_cut [3] (fun v3 wc => ∃ (kq : Nat) (x3_1 : Bool), v3 = .bool x3_1 ∧ Aside0 (dot_Check.j0 kq l0 x3_1 = some r) ∧ Aside0 (kq ≤ k) ∧ Aside0 (Below w.heap.size w wc))
 case first =>
  have H := HC2.out
  clear HC2
  by_cases c3 : (l0.length : Int) < 1
  ·rw [if_pos c3] at H
   have c3b0 : decide ((l0.length : Int) < 1) = true := decide_eq_true c3
   have c3b1 : decide (l0.length < 1) = true := decide_eq_true (by omega)
   clear c3
   (first | rw [c3b0] | (simp only [i64_w, i32_w]; rw [c3b0]) | skip)
   have H' := Aside0.mk H
   clear H
   go_wp2
   go_meet
   case rel => exact ⟨_, (true), (by first | rfl | (simp; done) | (simp [*]; done)), H', ⟨by first | omega | exact Nat.le_refl _⟩, ⟨by with_reducible repeat (first | exact HB.out | apply below_alloc | apply pw_below_drewN | apply below_drew1)⟩⟩
  ·rw [if_neg c3] at H
   have c3b0 : decide ((l0.length : Int) < 1) = false := decide_eq_false c3
   have c3b1 : decide (l0.length < 1) = false := decide_eq_false (by omega)
   clear c3
   (first | rw [c3b0] | (simp only [i64_w, i32_w]; rw [c3b0]) | skip)
   have H' := Aside0.mk H
   clear H
   go_wp2
   go_meet
   case rel => exact ⟨_, (decide ((l0.length : Int) > 5)), (by first | rfl | (simp; done) | (simp [*]; done)), H', ⟨by first | omega | exact Nat.le_refl _⟩, ⟨by with_reducible repeat (first | exact HB.out | apply below_alloc | apply pw_below_drewN | apply below_drew1)⟩⟩
 case rest =>
  clear HC2
  try clear c1
  try clear p2
  try clear c3
  try clear c3b0
  try clear c3b1
  obtain ⟨kq, x3_1, rfl, HA, HJ1, HB⟩ := hcut
  cases kq with
  | zero => exact absurd HA.out (by simp [dot_Check.j0])
  | succ kj1 =>
   have H := HA.out
   clear HA
   simp only [dot_Check.j0] at H
   by_cases c4 : x3_1 = true
   ·subst c4
    rw [if_pos rfl] at H
    obtain rfl := Option.some.inj H
    go_wp2
    go_ret
    exact ⟨by first | rfl | (simp [errW_none, errW_some] <;> rfl) | (simp [*, errW_none, errW_some] <;> rfl), by with_reducible repeat (first | exact HB.out | apply below_alloc | apply pw_below_drewN | apply below_drew1)⟩
   ·replace c4 := Bool.eq_false_iff.mpr c4
    subst c4
    rw [if_neg (show ¬ (false = true) by decide)] at H
    replace H := Option.bind_eq_some_iff.mp H
    obtain ⟨t106, A50, H⟩ := H
    try dsimp only at H
    have A5 := Aside0.mk A50
    clear A50
    by_cases c6 : t106 = true
    ·subst c6
     rw [if_pos rfl] at H
     obtain rfl := Option.some.inj H
     go_wp2_with (first | (go_at_call 76; (with_reducible refine (contains_Check_1.calls _ _ l0 true _ ?side1 ?side2 A5.out).mono ?_); (case side1 => repeat (first | exact (Kd.C_below HR0.out HB.out) | (with_reducible refine Kd.C_alloc ?_ _) | (with_reducible refine Kd.C_drewN ?_ _) | (with_reducible refine Kd.C_drew ?_))); (case side2 => exact HC0.out); rintro e w7 ⟨rfl, hb⟩; have n0_ := Aside0.mk (below_step (by with_reducible repeat (first | exact HB.out | apply below_alloc | apply pw_below_drewN | apply below_drew1)) hb); clear HB; have HB := n0_; clear n0_; (try clear hb); (try clear hb2); (try clear hk); (try clear hi)))
     go_ret
     exact ⟨by first | rfl | (simp [errW_none, errW_some] <;> rfl) | (simp [*, errW_none, errW_some] <;> rfl), by with_reducible repeat (first | exact HB.out | apply below_alloc | apply pw_below_drewN | apply below_drew1)⟩
    ·replace c6 := Bool.eq_false_iff.mpr c6
     subst c6
     rw [if_neg (show ¬ (false = true) by decide)] at H
     obtain rfl := Option.some.inj H
     go_wp2_with (first | (go_at_call 76; (with_reducible refine (contains_Check_1.calls _ _ l0 false _ ?side1 ?side2 A5.out).mono ?_); (case side1 => repeat (first | exact (Kd.C_below HR0.out HB.out) | (with_reducible refine Kd.C_alloc ?_ _) | (with_reducible refine Kd.C_drewN ?_ _) | (with_reducible refine Kd.C_drew ?_))); (case side2 => exact HC0.out); rintro e w8 ⟨rfl, hb⟩; have n0_ := Aside0.mk (below_step (by with_reducible repeat (first | exact HB.out | apply below_alloc | apply pw_below_drewN | apply below_drew1)) hb); clear HB; have HB := n0_; clear n0_; (try clear hb); (try clear hb2); (try clear hk); (try clear hi)))
     go_ret
     exact ⟨by first | rfl | (simp [errW_none, errW_some] <;> rfl) | (simp [*, errW_none, errW_some] <;> rfl), by with_reducible repeat (first | exact HB.out | apply below_alloc | apply pw_below_drewN | apply below_drew1)⟩
def hlc_in.f (a0 : Int) (a1 : Int) : Option (Bool) := if a0 ≥ 0 then (some (decide (a0 ≤ a1))) else (some false)
set_option maxHeartbeats 8000000 in
set_option maxRecDepth 100000 in
theorem hlc_in.calls (a0 : Int) (a1 : Int) (r : Bool) (w : World) (h : hlc_in.f a0 a1 = some r) :
  Calls Tryz.prog 144 #[.int .i64 a0, .int .i64 a1] w fun e w' => e = .returned (.bool r) ∧ Drawn0 w w' := by
 have H : (if a0 ≥ 0 then (some (decide (a0 ≤ a1))) else (some false)) = some r := h
 clear h
 by_cases c3 : a0 ≥ 0
 ·rw [if_pos c3] at H
  have c3b0 : decide (0 ≤ a0) = true := decide_eq_true c3
  clear c3
  obtain rfl := Option.some.inj H
  go_enter Tryz.func144, Tryz.ntmps144
  go_wp2
  go_ret
  exact ⟨by first | rfl | (simp; done) | (simp [*]; done), by repeat (first | exact Drawn0.refl _ | apply Drawn0.step)⟩
 ·rw [if_neg c3] at H
  have c3b0 : decide (0 ≤ a0) = false := decide_eq_false c3
  clear c3
  obtain rfl := Option.some.inj H
  go_enter Tryz.func144, Tryz.ntmps144
  go_wp2
  go_ret
  exact ⟨by first | rfl | (simp; done) | (simp [*]; done), by repeat (first | exact Drawn0.refl _ | apply Drawn0.step)⟩
def hlc_Check.f (a0_0 : Int) (a0_1 : Int) (a0_2 : Int) : Option (Int) := (hlc_in.f a0_0 1099511627776).bind fun t108 => (if t108 = true then ((hlc_in.f a0_1 65536).bind fun t109 => (if t109 = true then ((hlc_in.f a0_2 4).bind fun t110 => (if t110 = true then (some 0) else (some 1))) else (some 1))) else (some 1))
set_option maxHeartbeats 8000000 in
set_option maxRecDepth 100000 in
theorem hlc_Check.calls (a0_0 : Int) (a0_1 : Int) (a0_2 : Int) (r : Int) (w : World) (h : hlc_Check.f a0_0 a0_1 a0_2 = some r) :
  Calls Tryz.prog 136 #[.agg #[.int .i64 a0_0, .int .i64 a0_1, .int .i64 a0_2]] w fun e w' => e = .returned (.int .i64 r) ∧ Below w.heap.size w w' := by
 have hu48 := Tryz.underlying48
 have HB := Aside0.mk (Below.refl w.heap.size w)
 have H : ((hlc_in.f a0_0 1099511627776).bind fun t108 => (if t108 = true then ((hlc_in.f a0_1 65536).bind fun t109 => (if t109 = true then ((hlc_in.f a0_2 4).bind fun t110 => (if t110 = true then (some 0) else (some 1))) else (some 1))) else (some 1))) = some r := h
 clear h
 replace H := Option.bind_eq_some_iff.mp H
 obtain ⟨t108, A20, H⟩ := H
 try dsimp only at H
 have A2 := Aside0.mk A20
 clear A20
 by_cases c3 : t108 = true
 ·subst c3
  rw [if_pos rfl] at H
  replace H := Option.bind_eq_some_iff.mp H
  obtain ⟨t109, A40, H⟩ := H
  try dsimp only at H
  have A4 := Aside0.mk A40
  clear A40
  by_cases c5 : t109 = true
  ·subst c5
   rw [if_pos rfl] at H
   replace H := Option.bind_eq_some_iff.mp H
   obtain ⟨t110, A60, H⟩ := H
   try dsimp only at H
   have A6 := Aside0.mk A60
   clear A60
   by_cases c7 : t110 = true
   ·subst c7
    rw [if_pos rfl] at H
    obtain rfl := Option.some.inj H
    go_enter Tryz.func136, Tryz.ntmps136
    go_wp2_with (first | ((with_reducible refine gate_dst (N := 1) rfl ?_); refine box_event ?hg (N := 1) ?hd (cs := #[.int .i64 a0_0, .int .i64 a0_1, .int .i64 a0_2]) (t := 48) ?hr ?_; (case hd => rfl); (case hg => rfl); (case hr => first | (go_simp; done) | (go_simp; rfl)); intro gb107 hg w8 hbox hb; have n0_ := Aside0.mk (below_step (by with_reducible repeat (first | exact HB.out | apply below_alloc | apply pw_below_drewN | apply below_drew1)) hb); have n1_ := Aside0.mk (hbox); have n2_ := Aside0.mk ((by rw [hg]; exact (below_size (by with_reducible repeat (first | exact HB.out | apply below_alloc | apply pw_below_drewN | apply below_drew1))) : w.heap.size ≤ gb107)); have n3_ := Aside0.mk ((by rw [hg]; exact (below_size (by with_reducible repeat (first | exact HB.out | apply below_alloc | apply pw_below_drewN | apply below_drew1))) : w.heap.size ≤ gb107)); clear HB; have HB := n0_; have BK107 := n1_; have GW107 := n2_; have GE107 := n3_; clear n0_ n1_ n2_ n3_; clear hb hbox hg; have hcz9 := fun i_ => blk_cell BK107.out i_; have hfz9 := fun i_ => blk_frozen BK107.out i_) | ((with_reducible refine gate_callee (f := 144) rfl ?_); refine goesL_ (some 5) rfl rfl Tryz.func144 (by kernel_rfl) rfl #[.int .i64 a0_0, .int .i64 1099511627776] rfl (by (try simp only [List.map_toArray, List.map_cons, List.map_nil]); first | done | rfl | (simp only [List.length_drop, List.length_take]; rfl)) ?_; (with_reducible refine (hlc_in.calls a0_0 1099511627776 true _ A2.out).mono ?_); rintro e w' ⟨rfl, ⟨nd, rfl⟩⟩; refine ⟨_, rfl, ?_⟩) | (go_at_call 144; (with_reducible refine (hlc_in.calls a0_1 65536 true _ A4.out).mono ?_); rintro e w' ⟨rfl, ⟨nd, rfl⟩⟩) | (go_at_call 144; (with_reducible refine (hlc_in.calls a0_2 4 true _ A6.out).mono ?_); rintro e w' ⟨rfl, ⟨nd, rfl⟩⟩))
    go_ret
    exact ⟨by first | rfl | (simp [errW_none, errW_some] <;> rfl) | (simp [*, errW_none, errW_some] <;> rfl), by with_reducible repeat (first | exact HB.out | apply below_alloc | apply pw_below_drewN | apply below_drew1 | refine below_set ?_ GE107.out)⟩
   ·replace c7 := Bool.eq_false_iff.mpr c7
    subst c7
    rw [if_neg (show ¬ (false = true) by decide)] at H
    obtain rfl := Option.some.inj H
    go_enter Tryz.func136, Tryz.ntmps136
    go_wp2_with (first | ((with_reducible refine gate_dst (N := 1) rfl ?_); refine box_event ?hg (N := 1) ?hd (cs := #[.int .i64 a0_0, .int .i64 a0_1, .int .i64 a0_2]) (t := 48) ?hr ?_; (case hd => rfl); (case hg => rfl); (case hr => first | (go_simp; done) | (go_simp; rfl)); intro gb107 hg w10 hbox hb; have n0_ := Aside0.mk (below_step (by with_reducible repeat (first | exact HB.out | apply below_alloc | apply pw_below_drewN | apply below_drew1)) hb); have n1_ := Aside0.mk (hbox); have n2_ := Aside0.mk ((by rw [hg]; exact (below_size (by with_reducible repeat (first | exact HB.out | apply below_alloc | apply pw_below_drewN | apply below_drew1))) : w.heap.size ≤ gb107)); have n3_ := Aside0.mk ((by rw [hg]; exact (below_size (by with_reducible repeat (first | exact HB.out | apply below_alloc | apply pw_below_drewN | apply below_drew1))) : w.heap.size ≤ gb107)); clear HB; have HB := n0_; have BK107 := n1_; have GW107 := n2_; have GE107 := n3_; clear n0_ n1_ n2_ n3_; clear hb hbox hg; have hcz11 := fun i_ => blk_cell BK107.out i_; have hfz11 := fun i_ => blk_frozen BK107.out i_) | ((with_reducible refine gate_callee (f := 144) rfl ?_); refine goesL_ (some 5) rfl rfl Tryz.func144 (by kernel_rfl) rfl #[.int .i64 a0_0, .int .i64 1099511627776] rfl (by (try simp only [List.map_toArray, List.map_cons, List.map_nil]); first | done | rfl | (simp only [List.length_drop, List.length_take]; rfl)) ?_; (with_reducible refine (hlc_in.calls a0_0 1099511627776 true _ A2.out).mono ?_); rintro e w' ⟨rfl, ⟨nd, rfl⟩⟩; refine ⟨_, rfl, ?_⟩) | (go_at_call 144; (with_reducible refine (hlc_in.calls a0_1 65536 true _ A4.out).mono ?_); rintro e w' ⟨rfl, ⟨nd, rfl⟩⟩) | (go_at_call 144; (with_reducible refine (hlc_in.calls a0_2 4 false _ A6.out).mono ?_); rintro e w' ⟨rfl, ⟨nd, rfl⟩⟩))
    go_ret
    exact ⟨by first | rfl | (simp [errW_none, errW_some] <;> rfl) | (simp [*, errW_none, errW_some] <;> rfl), by with_reducible repeat (first | exact HB.out | apply below_alloc | apply pw_below_drewN | apply below_drew1 | refine below_set ?_ GE107.out)⟩
  ·replace c5 := Bool.eq_false_iff.mpr c5
   subst c5
   rw [if_neg (show ¬ (false = true) by decide)] at H
   obtain rfl := Option.some.inj H
   go_enter Tryz.func136, Tryz.ntmps136
   go_wp2_with (first | ((with_reducible refine gate_dst (N := 1) rfl ?_); refine box_event ?hg (N := 1) ?hd (cs := #[.int .i64 a0_0, .int .i64 a0_1, .int .i64 a0_2]) (t := 48) ?hr ?_; (case hd => rfl); (case hg => rfl); (case hr => first | (go_simp; done) | (go_simp; rfl)); intro gb107 hg w12 hbox hb; have n0_ := Aside0.mk (below_step (by with_reducible repeat (first | exact HB.out | apply below_alloc | apply pw_below_drewN | apply below_drew1)) hb); have n1_ := Aside0.mk (hbox); have n2_ := Aside0.mk ((by rw [hg]; exact (below_size (by with_reducible repeat (first | exact HB.out | apply below_alloc | apply pw_below_drewN | apply below_drew1))) : w.heap.size ≤ gb107)); have n3_ := Aside0.mk ((by rw [hg]; exact (below_size (by with_reducible repeat (first | exact HB.out | apply below_alloc | apply pw_below_drewN | apply below_drew1))) : w.heap.size ≤ gb107)); clear HB; have HB := n0_; have BK107 := n1_; have GW107 := n2_; have GE107 := n3_; clear n0_ n1_ n2_ n3_; clear hb hbox hg; have hcz13 := fun i_ => blk_cell BK107.out i_; have hfz13 := fun i_ => blk_frozen BK107.out i_) | ((with_reducible refine gate_callee (f := 144) rfl ?_); refine goesL_ (some 5) rfl rfl Tryz.func144 (by kernel_rfl) rfl #[.int .i64 a0_0, .int .i64 1099511627776] rfl (by (try simp only [List.map_toArray, List.map_cons, List.map_nil]); first | done | rfl | (simp only [List.length_drop, List.length_take]; rfl)) ?_; (with_reducible refine (hlc_in.calls a0_0 1099511627776 true _ A2.out).mono ?_); rintro e w' ⟨rfl, ⟨nd, rfl⟩⟩; refine ⟨_, rfl, ?_⟩) | (go_at_call 144; (with_reducible refine (hlc_in.calls a0_1 65536 false _ A4.out).mono ?_); rintro e w' ⟨rfl, ⟨nd, rfl⟩⟩))
   go_ret
   exact ⟨by first | rfl | (simp [errW_none, errW_some] <;> rfl) | (simp [*, errW_none, errW_some] <;> rfl), by with_reducible repeat (first | exact HB.out | apply below_alloc | apply pw_below_drewN | apply below_drew1 | refine below_set ?_ GE107.out)⟩
 ·replace c3 := Bool.eq_false_iff.mpr c3
  subst c3
  rw [if_neg (show ¬ (false = true) by decide)] at H
  obtain rfl := Option.some.inj H
  go_enter Tryz.func136, Tryz.ntmps136
  go_wp2_with (first | ((with_reducible refine gate_dst (N := 1) rfl ?_); refine box_event ?hg (N := 1) ?hd (cs := #[.int .i64 a0_0, .int .i64 a0_1, .int .i64 a0_2]) (t := 48) ?hr ?_; (case hd => rfl); (case hg => rfl); (case hr => first | (go_simp; done) | (go_simp; rfl)); intro gb107 hg w14 hbox hb; have n0_ := Aside0.mk (below_step (by with_reducible repeat (first | exact HB.out | apply below_alloc | apply pw_below_drewN | apply below_drew1)) hb); have n1_ := Aside0.mk (hbox); have n2_ := Aside0.mk ((by rw [hg]; exact (below_size (by with_reducible repeat (first | exact HB.out | apply below_alloc | apply pw_below_drewN | apply below_drew1))) : w.heap.size ≤ gb107)); have n3_ := Aside0.mk ((by rw [hg]; exact (below_size (by with_reducible repeat (first | exact HB.out | apply below_alloc | apply pw_below_drewN | apply below_drew1))) : w.heap.size ≤ gb107)); clear HB; have HB := n0_; have BK107 := n1_; have GW107 := n2_; have GE107 := n3_; clear n0_ n1_ n2_ n3_; clear hb hbox hg; have hcz15 := fun i_ => blk_cell BK107.out i_; have hfz15 := fun i_ => blk_frozen BK107.out i_) | ((with_reducible refine gate_callee (f := 144) rfl ?_); refine goesL_ (some 5) rfl rfl Tryz.func144 (by kernel_rfl) rfl #[.int .i64 a0_0, .int .i64 1099511627776] rfl (by (try simp only [List.map_toArray, List.map_cons, List.map_nil]); first | done | rfl | (simp only [List.length_drop, List.length_take]; rfl)) ?_; (with_reducible refine (hlc_in.calls a0_0 1099511627776 false _ A2.out).mono ?_); rintro e w' ⟨rfl, ⟨nd, rfl⟩⟩; refine ⟨_, rfl, ?_⟩))
  go_ret
  exact ⟨by first | rfl | (simp [errW_none, errW_some] <;> rfl) | (simp [*, errW_none, errW_some] <;> rfl), by with_reducible repeat (first | exact HB.out | apply below_alloc | apply pw_below_drewN | apply below_drew1 | refine below_set ?_ GE107.out)⟩
end Go.Proofs.YtnbjflcfdncocaaGreat.M
namespace Go.Proofs.YtnbjflcfdncocaaGreat.M
open Go.RowKit Go.Proofs.YtnbjflcfdncocaaGreatW.PrintWords Go.Proofs.YtnbjflcfdncocaaGreatW.PrintLast Go.Proofs.YtnbjflcfdncocaaGreatW.PrintMore
theorem hlcCheck_eq (a b c : Int) : hlc_Check.f a b c = some (if stampOk a b c then 0 else 1) := by
  have hin : ∀ n m : Int, hlc_in.f n m = some (decide (0 ≤ n ∧ n ≤ m)) := fun n m => by
    unfold hlc_in.f
    by_cases h : n ≥ 0
    · rw [if_pos h]; congr 1; rw [Bool.eq_iff_iff, decide_eq_true_eq, decide_eq_true_eq]; omega
    · rw [if_neg h, decide_eq_false (by omega)]
  unfold hlc_Check.f
  simp only [hin, Option.bind_some, decide_eq_true_eq]
  by_cases h1 : 0 ≤ a ∧ a ≤ 1099511627776
  · rw [if_pos h1]
    by_cases h2 : 0 ≤ b ∧ b ≤ 65536
    · rw [if_pos h2]
      by_cases h3 : 0 ≤ c ∧ c ≤ 4
      · rw [if_pos h3, if_pos (show stampOk a b c from ⟨h1, h2, h3⟩)]
      · rw [if_neg h3, if_neg (show ¬ stampOk a b c from fun h => h3 h.2.2)]
    · rw [if_neg h2, if_neg (show ¬ stampOk a b c from fun h => h2 h.2.1)]
  · rw [if_neg h1, if_neg (show ¬ stampOk a b c from fun h => h1 h.1)]
theorem dotCheck_eq (l : List Int) (k : Nat) (hk : 1 < k) : ∃ e, dot_Check.f k l = some e ∧ (e = 0 ↔ vecOk l) := by
  obtain ⟨k, rfl⟩ : ∃ m, k = m + 1 := ⟨k - 1, by omega⟩
  unfold dot_Check.f
  by_cases h1 : (l.length : Int) < 1
  · rw [if_pos h1]
    exact ⟨2, by simp only [dot_Check.j0]; rw [if_pos trivial], by simp [vecOk]; omega⟩
  rw [if_neg h1]
  by_cases h2 : (l.length : Int) > 5
  · rw [decide_eq_true h2]
    exact ⟨2, by simp only [dot_Check.j0]; rw [if_pos trivial], by simp [vecOk]; omega⟩
  rw [decide_eq_false h2]
  simp only [dot_Check.j0]
  have hp : ∀ n, contains_Check_1.p n = decide (n < 0 ∨ n > 1073741824) := fun n => by
    unfold contains_Check_1.p dot_Check_1.f
    by_cases h : n < 0
    · rw [if_pos h, decide_eq_true (.inl h)]; rfl
    · rw [if_neg h]
      show decide (n > 1073741824) = _
      rw [Bool.eq_iff_iff, decide_eq_true_eq, decide_eq_true_eq]; omega
  have hc : contains_Check_1.f l = some (decide (∃ n ∈ l, n < 0 ∨ n > 1073741824)) := by
    unfold contains_Check_1.f
    congr 1
    rw [Bool.eq_iff_iff, List.any_eq_true, decide_eq_true_eq]
    simp only [hp, decide_eq_true_eq]
  rw [if_neg (by decide), hc, Option.bind_some]
  by_cases h3 : ∃ n ∈ l, n < 0 ∨ n > 1073741824
  · rw [decide_eq_true h3, if_pos rfl]
    refine ⟨1, rfl, by simp, fun h => ?_⟩
    obtain ⟨n, hn, hb⟩ := h3
    have := h.2.2 n hn
    omega
  · rw [decide_eq_false h3, if_neg (by decide)]
    refine ⟨0, rfl, fun _ => ⟨by omega, by omega, fun n hn => ?_⟩, fun _ => rfl⟩
    have h4 : ¬ (n < 0 ∨ n > 1073741824) := fun hb => h3 ⟨n, hn, hb⟩
    omega
set_option maxHeartbeats 4000000 in
set_option maxRecDepth 100000 in
theorem whole_core (n : Int) (x : Opr) (A2 : Option Addr) (m2 : Nat) (A10 : Option Addr) (m10 : Nat) (A11 : Option Addr) (m11 : Nat) (r : Bool) (w : World) (h2 : Kd.C (Kd.int .i64) w A2 x.f1.length x.f1 ∧ x.f1.length ≤ m2) (hr : r = true ↔ wholeP n x) :
    Calls Tryz.prog 124 #[.int .i64 n, .agg #[.int .i64 x.f0.f0, .int .i64 x.f0.f1, .slice A2 x.f1.length m2, .int .i64 x.f2.f0, .int .i64 x.f2.f1, .int .i64 x.f2.f2, .int .i64 x.f3, .int .i64 x.f4, .string x.f5, .int .i64 x.f6, .slice A10 x.f7.length m10, .slice A11 x.f8.length m11]] w fun e w' => e = .returned (.bool r) ∧ Below w.heap.size w w' := by
  have H2 := Aside0.mk h2; have HR := Aside0.mk hr; clear h2 hr
  obtain ⟨kv, ev, EV⟩ : ∃ k e, Aside0 (dot_Check.f k x.f1 = some e ∧ (e = 0 ↔ vecOk x.f1)) := by obtain ⟨e, h⟩ := dotCheck_eq x.f1 10 (by omega); exact ⟨10, e, ⟨h⟩⟩
  obtain ⟨eh, EH⟩ : ∃ e, Aside0 (hlc_Check.f x.f2.f0 x.f2.f1 x.f2.f2 = some e ∧ (e = 0 ↔ stampOk x.f2.f0 x.f2.f1 x.f2.f2)) := ⟨_, ⟨hlcCheck_eq _ _ _, by split <;> simp_all⟩⟩
  go_enter Tryz.func124, Tryz.ntmps124
  go_wp2_with fail
  obtain ⟨W, hW, HI⟩ := Two.start w (.cells #[.int .i64 x.f0.f0, .int .i64 x.f0.f1, .slice A2 x.f1.length m2, .int .i64 x.f2.f0, .int .i64 x.f2.f1, .int .i64 x.f2.f2, .int .i64 x.f3, .int .i64 x.f4, .string x.f5, .int .i64 x.f6, .slice A10 x.f7.length m10, .slice A11 x.f8.length m11] 52) (.cells #[.int .i64 x.f0.f0, .int .i64 x.f0.f1] 46)
  rw [← hW]; clear hW
  refine wp_ord (S := Two w (.cells #[.int .i64 x.f0.f0, .int .i64 x.f0.f1, .slice A2 x.f1.length m2, .int .i64 x.f2.f0, .int .i64 x.f2.f1, .int .i64 x.f2.f2, .int .i64 x.f3, .int .i64 x.f4, .string x.f5, .int .i64 x.f6, .slice A10 x.f7.length m10, .slice A11 x.f8.length m11] 52 (0, 0)) (.cells #[.int .i64 x.f0.f0, .int .i64 x.f0.f1] 46 (0, 0))) [false, false, false, false, false, false, false, false, false, false, false, false, false, false, false, false, false, false, false, false, false, false, false, false, false, false, false, false, false, true, false, false, false, false, false, false, false, false, false, false, false, false, false, false, false, false, false, true, false, false, false, false, false, false, false, false, false, false, false] (by kernel_rfl) (by kernel_rfl) (fun _ _ d _ _ h => by cases d <;> exact h) ?_ (fun hHeld => ?_)
  · (first | exact HI.out.drew | exact HI.out)
  replace HI := Aside0.mk hHeld; clear hHeld
  iterate 2 (refine ord_take (v := ?_) (by rfl) ?_ ?_; rotate_left; (focus (intro w' hSw; have hk := fun i => blk_cell hSw.2.1 i; have hl := fun i => blk_cell hSw.2.2 i; (try have hc := pw_cell_below hSw.1 HX.out); go_simp; (try with_reducible rfl); done)); try simp only [Act.put, List.setIfInBounds_toArray, List.set_cons_zero, List.set_cons_succ])
  by_cases c2 : 0 ≤ x.f0.f0
  case pos =>
    have g1 : decide (0 ≤ x.f0.f0) = true := decide_eq_true c2
    (refine ord_take (v := ?_) (by rfl) ?_ ?_; rotate_left; (focus (intro w' hSw; have hk := fun i => blk_cell hSw.2.1 i; have hl := fun i => blk_cell hSw.2.2 i; (try have hc := pw_cell_below hSw.1 HX.out); go_simp; (try with_reducible rfl); done)); try simp only [Act.put, List.setIfInBounds_toArray, List.set_cons_zero, List.set_cons_succ])
    iterate 4 (refine ord_take (v := ?_) (by rfl) ?_ ?_; rotate_left; (focus (intro w' hSw; have hk := fun i => blk_cell hSw.2.1 i; have hl := fun i => blk_cell hSw.2.2 i; (try have hc := pw_cell_below hSw.1 HX.out); go_simp; (try with_reducible rfl); done)); try simp only [Act.put, List.setIfInBounds_toArray, List.set_cons_zero, List.set_cons_succ])
    by_cases c7 : x.f0.f0 < n
    case pos =>
      have g2 : decide (x.f0.f0 < n) = true := decide_eq_true c7
      (refine ord_take (v := ?_) (by rfl) ?_ ?_; rotate_left; (focus (intro w' hSw; have hk := fun i => blk_cell hSw.2.1 i; have hl := fun i => blk_cell hSw.2.2 i; (try have hc := pw_cell_below hSw.1 HX.out); go_simp; (try with_reducible rfl); done)); try simp only [Act.put, List.setIfInBounds_toArray, List.set_cons_zero, List.set_cons_succ])
      iterate 4 (refine ord_take (v := ?_) (by rfl) ?_ ?_; rotate_left; (focus (intro w' hSw; have hk := fun i => blk_cell hSw.2.1 i; have hl := fun i => blk_cell hSw.2.2 i; (try have hc := pw_cell_below hSw.1 HX.out); go_simp; (try with_reducible rfl); done)); try simp only [Act.put, List.setIfInBounds_toArray, List.set_cons_zero, List.set_cons_succ])
      by_cases c12 : 1 ≤ x.f0.f1
      case pos =>
        have g3 : decide (1 ≤ x.f0.f1) = true := decide_eq_true c12
        (refine ord_take (v := ?_) (by rfl) ?_ ?_; rotate_left; (focus (intro w' hSw; have hk := fun i => blk_cell hSw.2.1 i; have hl := fun i => blk_cell hSw.2.2 i; (try have hc := pw_cell_below hSw.1 HX.out); go_simp; (try with_reducible rfl); done)); try simp only [Act.put, List.setIfInBounds_toArray, List.set_cons_zero, List.set_cons_succ])
        iterate 4 (refine ord_take (v := ?_) (by rfl) ?_ ?_; rotate_left; (focus (intro w' hSw; have hk := fun i => blk_cell hSw.2.1 i; have hl := fun i => blk_cell hSw.2.2 i; (try have hc := pw_cell_below hSw.1 HX.out); go_simp; (try with_reducible rfl); done)); try simp only [Act.put, List.setIfInBounds_toArray, List.set_cons_zero, List.set_cons_succ])
        by_cases c17 : x.f0.f1 ≤ 1073741824
        case pos =>
          have g4 : decide (x.f0.f1 ≤ 1073741824) = true := decide_eq_true c17
          have gw : IntKind.i64.wrap (x.f0.f1 - 1) = x.f0.f1 - 1 := (i64_w _).trans (wrap_in _ (by omega) (by omega))
          (refine ord_take (v := ?_) (by rfl) ?_ ?_; rotate_left; (focus (intro w' hSw; have hk := fun i => blk_cell hSw.2.1 i; have hl := fun i => blk_cell hSw.2.2 i; (try have hc := pw_cell_below hSw.1 HX.out); go_simp; (try with_reducible rfl); done)); try simp only [Act.put, List.setIfInBounds_toArray, List.set_cons_zero, List.set_cons_succ])
          iterate 6 (refine ord_take (v := ?_) (by rfl) ?_ ?_; rotate_left; (focus (intro w' hSw; have hk := fun i => blk_cell hSw.2.1 i; have hl := fun i => blk_cell hSw.2.2 i; (try have hc := pw_cell_below hSw.1 HX.out); go_simp; (try with_reducible rfl); done)); try simp only [Act.put, List.setIfInBounds_toArray, List.set_cons_zero, List.set_cons_succ])
          by_cases c24 : (x.f1.length : Int) = n
          case pos =>
            have g5 : ((x.f1.length : Int) == n) = true := beq_iff_eq.2 c24
            obtain ⟨ad, eA, hcell⟩ := Kd.at_int H2.out.1 x.f0.f0 c2 (by omega)
            subst eA; have HX := Aside0.mk hcell; clear hcell
            have q1 := eq_true c2; have q2 := eq_true (show x.f0.f0 < (x.f1.length : Int) by omega)
            (refine ord_take (v := ?_) (by rfl) ?_ ?_; rotate_left; (focus (intro w' hSw; have hk := fun i => blk_cell hSw.2.1 i; have hl := fun i => blk_cell hSw.2.2 i; (try have hc := pw_cell_below hSw.1 HX.out); go_simp; (try with_reducible rfl); done)); try simp only [Act.put, List.setIfInBounds_toArray, List.set_cons_zero, List.set_cons_succ])
            iterate 4 (refine ord_take (v := ?_) (by rfl) ?_ ?_; rotate_left; (focus (intro w' hSw; have hk := fun i => blk_cell hSw.2.1 i; have hl := fun i => blk_cell hSw.2.2 i; (try have hc := pw_cell_below hSw.1 HX.out); go_simp; (try with_reducible rfl); done)); try simp only [Act.put, List.setIfInBounds_toArray, List.set_cons_zero, List.set_cons_succ])
            refine ord_call (by rfl) (fun K hK => ?_)
            go_simp; go_at_call 108
            refine (dot_Check.calls kv (some ad) m2 x.f1 ev _ (Kd.C_below H2.out.1 HI.out.1) H2.out.2 EV.out.1).mono ?_; rintro e w1 ⟨rfl, hb⟩; replace HI := Aside0.mk (HI.out.step (by first | exact hb | exact hb.below)); clear hb
            refine hK.out _ _ ?_ (fun hHeld => ?_)
            · (first | exact HI.out.drew | exact HI.out)
            clear hK K
            try simp only [Act.put, List.setIfInBounds_toArray, List.set_cons_zero, List.set_cons_succ]
            clear hHeld
            by_cases c30 : ev = 0
            case pos =>
              have g6 : (ev == 0) = true := beq_iff_eq.2 c30
              have p6 := EV.out.2.1 c30
              (refine ord_take (v := ?_) (by rfl) ?_ ?_; rotate_left; (focus (intro w' hSw; have hk := fun i => blk_cell hSw.2.1 i; have hl := fun i => blk_cell hSw.2.2 i; (try have hc := pw_cell_below hSw.1 HX.out); go_simp; (try with_reducible rfl); done)); try simp only [Act.put, List.setIfInBounds_toArray, List.set_cons_zero, List.set_cons_succ])
              iterate 11 (refine ord_take (v := ?_) (by rfl) ?_ ?_; rotate_left; (focus (intro w' hSw; have hk := fun i => blk_cell hSw.2.1 i; have hl := fun i => blk_cell hSw.2.2 i; (try have hc := pw_cell_below hSw.1 HX.out); go_simp; (try with_reducible rfl); done)); try simp only [Act.put, List.setIfInBounds_toArray, List.set_cons_zero, List.set_cons_succ])
              by_cases c42 : rd x.f1 x.f0.f0 = x.f0.f1 - 1
              case pos =>
                have g7 : (rd x.f1 x.f0.f0 == x.f0.f1 - 1) = true := beq_iff_eq.2 c42
                (refine ord_take (v := ?_) (by rfl) ?_ ?_; rotate_left; (focus (intro w' hSw; have hk := fun i => blk_cell hSw.2.1 i; have hl := fun i => blk_cell hSw.2.2 i; (try have hc := pw_cell_below hSw.1 HX.out); go_simp; (try with_reducible rfl); done)); try simp only [Act.put, List.setIfInBounds_toArray, List.set_cons_zero, List.set_cons_succ])
                iterate 4 (refine ord_take (v := ?_) (by rfl) ?_ ?_; rotate_left; (focus (intro w' hSw; have hk := fun i => blk_cell hSw.2.1 i; have hl := fun i => blk_cell hSw.2.2 i; (try have hc := pw_cell_below hSw.1 HX.out); go_simp; (try with_reducible rfl); done)); try simp only [Act.put, List.setIfInBounds_toArray, List.set_cons_zero, List.set_cons_succ])
                refine ord_call (by rfl) (fun K hK => ?_)
                go_simp; go_at_call 136
                refine (hlc_Check.calls x.f2.f0 x.f2.f1 x.f2.f2 eh _ EH.out.1).mono ?_; rintro e w1 ⟨rfl, hb⟩; replace HI := Aside0.mk (HI.out.step (by first | exact hb | exact hb.below)); clear hb
                refine hK.out _ _ ?_ (fun hHeld => ?_)
                · (first | exact HI.out.drew | exact HI.out)
                clear hK K
                try simp only [Act.put, List.setIfInBounds_toArray, List.set_cons_zero, List.set_cons_succ]
                clear hHeld
                by_cases c48 : eh = 0
                case pos =>
                  have g8 : (eh == 0) = true := beq_iff_eq.2 c48
                  have p8 := EH.out.2.1 c48
                  (refine ord_take (v := ?_) (by rfl) ?_ ?_; rotate_left; (focus (intro w' hSw; have hk := fun i => blk_cell hSw.2.1 i; have hl := fun i => blk_cell hSw.2.2 i; (try have hc := pw_cell_below hSw.1 HX.out); go_simp; (try with_reducible rfl); done)); try simp only [Act.put, List.setIfInBounds_toArray, List.set_cons_zero, List.set_cons_succ])
                  iterate 7 (refine ord_take (v := ?_) (by rfl) ?_ ?_; rotate_left; (focus (intro w' hSw; have hk := fun i => blk_cell hSw.2.1 i; have hl := fun i => blk_cell hSw.2.2 i; (try have hc := pw_cell_below hSw.1 HX.out); go_simp; (try with_reducible rfl); done)); try simp only [Act.put, List.setIfInBounds_toArray, List.set_cons_zero, List.set_cons_succ])
                  by_cases c56 : x.f2.f2 = x.f0.f0
                  case pos =>
                    have g9 : (x.f2.f2 == x.f0.f0) = true := beq_iff_eq.2 c56
                    obtain rfl : r = true := HR.out.2 ⟨c2, c7, c12, c17, c24, p6, c42, p8, c56⟩
                    (refine ord_take (v := ?_) (by rfl) ?_ ?_; rotate_left; (focus (intro w' hSw; have hk := fun i => blk_cell hSw.2.1 i; have hl := fun i => blk_cell hSw.2.2 i; (try have hc := pw_cell_below hSw.1 HX.out); go_simp; (try with_reducible rfl); done)); try simp only [Act.put, List.setIfInBounds_toArray, List.set_cons_zero, List.set_cons_succ])
                    iterate 2 (refine ord_take (v := ?_) (by rfl) ?_ ?_; rotate_left; (focus (intro w' hSw; have hk := fun i => blk_cell hSw.2.1 i; have hl := fun i => blk_cell hSw.2.2 i; (try have hc := pw_cell_below hSw.1 HX.out); go_simp; (try with_reducible rfl); done)); try simp only [Act.put, List.setIfInBounds_toArray, List.set_cons_zero, List.set_cons_succ])
                    refine ord_done ?_
                    go_wp2
                    go_ret
                    exact ⟨rfl, HI.out.1⟩
                  case neg =>
                    have g9 : (x.f2.f2 == x.f0.f0) = false := beq_eq_false_iff_ne.2 c56
                    obtain rfl : r = false := Bool.eq_false_iff.2 (fun e => c56 (HR.out.1 e).2.2.2.2.2.2.2.2)
                    (refine ord_take (v := ?_) (by rfl) ?_ ?_; rotate_left; (focus (intro w' hSw; have hk := fun i => blk_cell hSw.2.1 i; have hl := fun i => blk_cell hSw.2.2 i; (try have hc := pw_cell_below hSw.1 HX.out); go_simp; (try with_reducible rfl); done)); try simp only [Act.put, List.setIfInBounds_toArray, List.set_cons_zero, List.set_cons_succ])
                    iterate 2 (refine ord_take (v := ?_) (by rfl) ?_ ?_; rotate_left; (focus (intro w' hSw; have hk := fun i => blk_cell hSw.2.1 i; have hl := fun i => blk_cell hSw.2.2 i; (try have hc := pw_cell_below hSw.1 HX.out); go_simp; (try with_reducible rfl); done)); try simp only [Act.put, List.setIfInBounds_toArray, List.set_cons_zero, List.set_cons_succ])
                    refine ord_done ?_
                    go_wp2
                    go_ret
                    exact ⟨rfl, HI.out.1⟩
                case neg =>
                  have g8 : (eh == 0) = false := beq_eq_false_iff_ne.2 c48
                  obtain rfl : r = false := Bool.eq_false_iff.2 (fun e => c48 (EH.out.2.2 (HR.out.1 e).2.2.2.2.2.2.2.1))
                  (refine ord_take (v := ?_) (by rfl) ?_ ?_; rotate_left; (focus (intro w' hSw; have hk := fun i => blk_cell hSw.2.1 i; have hl := fun i => blk_cell hSw.2.2 i; (try have hc := pw_cell_below hSw.1 HX.out); go_simp; (try with_reducible rfl); done)); try simp only [Act.put, List.setIfInBounds_toArray, List.set_cons_zero, List.set_cons_succ])
                  repeat (first | (refine ord_skip (by rfl) ?_; try simp only [Act.put, List.setIfInBounds_toArray, List.set_cons_zero, List.set_cons_succ]) | (refine ord_pass (by rfl) ?_; try simp only [Act.put, List.setIfInBounds_toArray, List.set_cons_zero, List.set_cons_succ]) | (refine ord_take (v := ?_) (by rfl) ?_ ?_; rotate_left; (focus (intro w' hSw; have hk := fun i => blk_cell hSw.2.1 i; have hl := fun i => blk_cell hSw.2.2 i; (try have hc := pw_cell_below hSw.1 HX.out); go_simp; (try with_reducible rfl); done)); try simp only [Act.put, List.setIfInBounds_toArray, List.set_cons_zero, List.set_cons_succ]))
                  refine ord_done ?_
                  go_wp2
                  go_ret
                  exact ⟨rfl, HI.out.1⟩
              case neg =>
                have g7 : (rd x.f1 x.f0.f0 == x.f0.f1 - 1) = false := beq_eq_false_iff_ne.2 c42
                obtain rfl : r = false := Bool.eq_false_iff.2 (fun e => c42 (HR.out.1 e).2.2.2.2.2.2.1)
                (refine ord_take (v := ?_) (by rfl) ?_ ?_; rotate_left; (focus (intro w' hSw; have hk := fun i => blk_cell hSw.2.1 i; have hl := fun i => blk_cell hSw.2.2 i; (try have hc := pw_cell_below hSw.1 HX.out); go_simp; (try with_reducible rfl); done)); try simp only [Act.put, List.setIfInBounds_toArray, List.set_cons_zero, List.set_cons_succ])
                repeat (first | (refine ord_skip (by rfl) ?_; try simp only [Act.put, List.setIfInBounds_toArray, List.set_cons_zero, List.set_cons_succ]) | (refine ord_pass (by rfl) ?_; try simp only [Act.put, List.setIfInBounds_toArray, List.set_cons_zero, List.set_cons_succ]) | (refine ord_take (v := ?_) (by rfl) ?_ ?_; rotate_left; (focus (intro w' hSw; have hk := fun i => blk_cell hSw.2.1 i; have hl := fun i => blk_cell hSw.2.2 i; (try have hc := pw_cell_below hSw.1 HX.out); go_simp; (try with_reducible rfl); done)); try simp only [Act.put, List.setIfInBounds_toArray, List.set_cons_zero, List.set_cons_succ]))
                refine ord_done ?_
                go_wp2
                go_ret
                exact ⟨rfl, HI.out.1⟩
            case neg =>
              have g6 : (ev == 0) = false := beq_eq_false_iff_ne.2 c30
              obtain rfl : r = false := Bool.eq_false_iff.2 (fun e => c30 (EV.out.2.2 (HR.out.1 e).2.2.2.2.2.1))
              (refine ord_take (v := ?_) (by rfl) ?_ ?_; rotate_left; (focus (intro w' hSw; have hk := fun i => blk_cell hSw.2.1 i; have hl := fun i => blk_cell hSw.2.2 i; (try have hc := pw_cell_below hSw.1 HX.out); go_simp; (try with_reducible rfl); done)); try simp only [Act.put, List.setIfInBounds_toArray, List.set_cons_zero, List.set_cons_succ])
              repeat (first | (refine ord_skip (by rfl) ?_; try simp only [Act.put, List.setIfInBounds_toArray, List.set_cons_zero, List.set_cons_succ]) | (refine ord_pass (by rfl) ?_; try simp only [Act.put, List.setIfInBounds_toArray, List.set_cons_zero, List.set_cons_succ]) | (refine ord_take (v := ?_) (by rfl) ?_ ?_; rotate_left; (focus (intro w' hSw; have hk := fun i => blk_cell hSw.2.1 i; have hl := fun i => blk_cell hSw.2.2 i; (try have hc := pw_cell_below hSw.1 HX.out); go_simp; (try with_reducible rfl); done)); try simp only [Act.put, List.setIfInBounds_toArray, List.set_cons_zero, List.set_cons_succ]))
              refine ord_done ?_
              go_wp2
              go_ret
              exact ⟨rfl, HI.out.1⟩
          case neg =>
            have g5 : ((x.f1.length : Int) == n) = false := beq_eq_false_iff_ne.2 c24
            obtain rfl : r = false := Bool.eq_false_iff.2 (fun e => c24 (HR.out.1 e).2.2.2.2.1)
            (refine ord_take (v := ?_) (by rfl) ?_ ?_; rotate_left; (focus (intro w' hSw; have hk := fun i => blk_cell hSw.2.1 i; have hl := fun i => blk_cell hSw.2.2 i; (try have hc := pw_cell_below hSw.1 HX.out); go_simp; (try with_reducible rfl); done)); try simp only [Act.put, List.setIfInBounds_toArray, List.set_cons_zero, List.set_cons_succ])
            repeat (first | (refine ord_skip (by rfl) ?_; try simp only [Act.put, List.setIfInBounds_toArray, List.set_cons_zero, List.set_cons_succ]) | (refine ord_pass (by rfl) ?_; try simp only [Act.put, List.setIfInBounds_toArray, List.set_cons_zero, List.set_cons_succ]) | (refine ord_take (v := ?_) (by rfl) ?_ ?_; rotate_left; (focus (intro w' hSw; have hk := fun i => blk_cell hSw.2.1 i; have hl := fun i => blk_cell hSw.2.2 i; (try have hc := pw_cell_below hSw.1 HX.out); go_simp; (try with_reducible rfl); done)); try simp only [Act.put, List.setIfInBounds_toArray, List.set_cons_zero, List.set_cons_succ]))
            refine ord_done ?_
            go_wp2
            go_ret
            exact ⟨rfl, HI.out.1⟩
        case neg =>
          have g4 : decide (x.f0.f1 ≤ 1073741824) = false := decide_eq_false c17
          obtain rfl : r = false := Bool.eq_false_iff.2 (fun e => c17 (HR.out.1 e).2.2.2.1)
          (refine ord_take (v := ?_) (by rfl) ?_ ?_; rotate_left; (focus (intro w' hSw; have hk := fun i => blk_cell hSw.2.1 i; have hl := fun i => blk_cell hSw.2.2 i; (try have hc := pw_cell_below hSw.1 HX.out); go_simp; (try with_reducible rfl); done)); try simp only [Act.put, List.setIfInBounds_toArray, List.set_cons_zero, List.set_cons_succ])
          repeat (first | (refine ord_skip (by rfl) ?_; try simp only [Act.put, List.setIfInBounds_toArray, List.set_cons_zero, List.set_cons_succ]) | (refine ord_pass (by rfl) ?_; try simp only [Act.put, List.setIfInBounds_toArray, List.set_cons_zero, List.set_cons_succ]) | (refine ord_take (v := ?_) (by rfl) ?_ ?_; rotate_left; (focus (intro w' hSw; have hk := fun i => blk_cell hSw.2.1 i; have hl := fun i => blk_cell hSw.2.2 i; (try have hc := pw_cell_below hSw.1 HX.out); go_simp; (try with_reducible rfl); done)); try simp only [Act.put, List.setIfInBounds_toArray, List.set_cons_zero, List.set_cons_succ]))
          refine ord_done ?_
          go_wp2
          go_ret
          exact ⟨rfl, HI.out.1⟩
      case neg =>
        have g3 : decide (1 ≤ x.f0.f1) = false := decide_eq_false c12
        obtain rfl : r = false := Bool.eq_false_iff.2 (fun e => c12 (HR.out.1 e).2.2.1)
        (refine ord_take (v := ?_) (by rfl) ?_ ?_; rotate_left; (focus (intro w' hSw; have hk := fun i => blk_cell hSw.2.1 i; have hl := fun i => blk_cell hSw.2.2 i; (try have hc := pw_cell_below hSw.1 HX.out); go_simp; (try with_reducible rfl); done)); try simp only [Act.put, List.setIfInBounds_toArray, List.set_cons_zero, List.set_cons_succ])
        repeat (first | (refine ord_skip (by rfl) ?_; try simp only [Act.put, List.setIfInBounds_toArray, List.set_cons_zero, List.set_cons_succ]) | (refine ord_pass (by rfl) ?_; try simp only [Act.put, List.setIfInBounds_toArray, List.set_cons_zero, List.set_cons_succ]) | (refine ord_take (v := ?_) (by rfl) ?_ ?_; rotate_left; (focus (intro w' hSw; have hk := fun i => blk_cell hSw.2.1 i; have hl := fun i => blk_cell hSw.2.2 i; (try have hc := pw_cell_below hSw.1 HX.out); go_simp; (try with_reducible rfl); done)); try simp only [Act.put, List.setIfInBounds_toArray, List.set_cons_zero, List.set_cons_succ]))
        refine ord_done ?_
        go_wp2
        go_ret
        exact ⟨rfl, HI.out.1⟩
    case neg =>
      have g2 : decide (x.f0.f0 < n) = false := decide_eq_false c7
      obtain rfl : r = false := Bool.eq_false_iff.2 (fun e => c7 (HR.out.1 e).2.1)
      (refine ord_take (v := ?_) (by rfl) ?_ ?_; rotate_left; (focus (intro w' hSw; have hk := fun i => blk_cell hSw.2.1 i; have hl := fun i => blk_cell hSw.2.2 i; (try have hc := pw_cell_below hSw.1 HX.out); go_simp; (try with_reducible rfl); done)); try simp only [Act.put, List.setIfInBounds_toArray, List.set_cons_zero, List.set_cons_succ])
      repeat (first | (refine ord_skip (by rfl) ?_; try simp only [Act.put, List.setIfInBounds_toArray, List.set_cons_zero, List.set_cons_succ]) | (refine ord_pass (by rfl) ?_; try simp only [Act.put, List.setIfInBounds_toArray, List.set_cons_zero, List.set_cons_succ]) | (refine ord_take (v := ?_) (by rfl) ?_ ?_; rotate_left; (focus (intro w' hSw; have hk := fun i => blk_cell hSw.2.1 i; have hl := fun i => blk_cell hSw.2.2 i; (try have hc := pw_cell_below hSw.1 HX.out); go_simp; (try with_reducible rfl); done)); try simp only [Act.put, List.setIfInBounds_toArray, List.set_cons_zero, List.set_cons_succ]))
      refine ord_done ?_
      go_wp2
      go_ret
      exact ⟨rfl, HI.out.1⟩
  case neg =>
    have g1 : decide (0 ≤ x.f0.f0) = false := decide_eq_false c2
    obtain rfl : r = false := Bool.eq_false_iff.2 (fun e => c2 (HR.out.1 e).1)
    (refine ord_take (v := ?_) (by rfl) ?_ ?_; rotate_left; (focus (intro w' hSw; have hk := fun i => blk_cell hSw.2.1 i; have hl := fun i => blk_cell hSw.2.2 i; (try have hc := pw_cell_below hSw.1 HX.out); go_simp; (try with_reducible rfl); done)); try simp only [Act.put, List.setIfInBounds_toArray, List.set_cons_zero, List.set_cons_succ])
    repeat (first | (refine ord_skip (by rfl) ?_; try simp only [Act.put, List.setIfInBounds_toArray, List.set_cons_zero, List.set_cons_succ]) | (refine ord_pass (by rfl) ?_; try simp only [Act.put, List.setIfInBounds_toArray, List.set_cons_zero, List.set_cons_succ]) | (refine ord_take (v := ?_) (by rfl) ?_ ?_; rotate_left; (focus (intro w' hSw; have hk := fun i => blk_cell hSw.2.1 i; have hl := fun i => blk_cell hSw.2.2 i; (try have hc := pw_cell_below hSw.1 HX.out); go_simp; (try with_reducible rfl); done)); try simp only [Act.put, List.setIfInBounds_toArray, List.set_cons_zero, List.set_cons_succ]))
    refine ord_done ?_
    go_wp2
    go_ret
    exact ⟨rfl, HI.out.1⟩
def op_whole.f (a0 : Int) (a1_0 : Int) (a1_1 : Int) (l1_2 : List Int) (a1_3 : Int) (a1_4 : Int) (a1_5 : Int) (a1_6 : Int) (a1_7 : Int) (a1_8 : ByteArray) (a1_9 : Int) (l1_10 : List Val) (l1_11 : List Dt) : Option Bool := some (wholeB a0 ⟨⟨a1_0, a1_1⟩, l1_2, ⟨a1_3, a1_4, a1_5⟩, a1_6, a1_7, a1_8, a1_9, l1_10, l1_11⟩)
theorem op_whole.calls (a0 : Int) (a1_0 : Int) (a1_1 : Int) (A1_2 : Option Addr) (c1_2 : Nat) (l1_2 : List Int) (a1_3 : Int) (a1_4 : Int) (a1_5 : Int) (a1_6 : Int) (a1_7 : Int) (a1_8 : ByteArray) (a1_9 : Int) (A1_10 : Option Addr) (c1_10 : Nat) (l1_10 : List Val) (A1_11 : Option Addr) (c1_11 : Nat) (l1_11 : List Dt) (r : Bool) (w : World) (hr1_2 : Kd.C (Kd.int .i64) w A1_2 l1_2.length l1_2) (hc1_2 : l1_2.length ≤ c1_2) (_hr1_10 : Kd.C k92 w A1_10 l1_10.length l1_10) (_hc1_10 : l1_10.length ≤ c1_10) (_hr1_11 : Kd.C k46 w A1_11 l1_11.length l1_11) (_hc1_11 : l1_11.length ≤ c1_11) (h : op_whole.f a0 a1_0 a1_1 l1_2 a1_3 a1_4 a1_5 a1_6 a1_7 a1_8 a1_9 l1_10 l1_11 = some r) :
    Calls Tryz.prog 124 #[.int .i64 a0, .agg #[.int .i64 a1_0, .int .i64 a1_1, .slice A1_2 l1_2.length c1_2, .int .i64 a1_3, .int .i64 a1_4, .int .i64 a1_5, .int .i64 a1_6, .int .i64 a1_7, .string a1_8, .int .i64 a1_9, .slice A1_10 l1_10.length c1_10, .slice A1_11 l1_11.length c1_11]] w fun e w' => e = .returned (.bool r) ∧ Below w.heap.size w w' :=
  whole_core a0 ⟨⟨a1_0, a1_1⟩, l1_2, ⟨a1_3, a1_4, a1_5⟩, a1_6, a1_7, a1_8, a1_9, l1_10, l1_11⟩ A1_2 c1_2 A1_10 c1_10 A1_11 c1_11 r w ⟨hr1_2, hc1_2⟩ (by rw [← Option.some.inj h]; exact decide_eq_true_iff)
end Go.Proofs.YtnbjflcfdncocaaGreat.M
