/- The law MsgReads of the program's messages holds for every input (its row stands in the last of these texts): part 6 of 6. -/
import Derived.Test.YtnbjflcfdncocaaGreatMsgReads3
import Derived.Test.YtnbjflcfdncocaaGreatMsgReads5
import Derived.Test.YtnbjflcfdncocaaGreatMsgReads2
import Derived.Lib.Bytes
import Derived.SizedLaws
import Derived.ChangeSlices
import Derived.Test.YtnbjflcfdncocaaGreatRows
import Derived.WalkKit
import Derived.ProofKit
import Derived.OpenShut
import Derived.ShutString
import Derived.ChangeOld
import Derived.Below
namespace Go.Proofs.YtnbjflcfdncocaaGreat.M
open Go.RowKit Go.Proofs.YtnbjflcfdncocaaGreatW.PrintWords Go.Proofs.YtnbjflcfdncocaaGreatW.PrintLast Go.Proofs.YtnbjflcfdncocaaGreatW.PrintMore
def raddleref01_ReadMsg.f (l0 : List Int) : Option (Int × Int × Int × List Int × List Int × List (S52) × Int) := msg_Read.f l0
theorem rops_good (n : Nat) (st : List Int × Bool) (h : (rops n st).2.2 = false) : st.2 = false := by
  cases n with
  | zero => exact h
  | succ n =>
    by_cases hb : st.2 = true
    · rw [show rops (n + 1) st = ([], st) from if_pos hb] at h; exact h
    · simpa using hb
theorem rmany_bad (s : Nat) (m : Int) (h0 : 0 ≤ m) {st : List Int × Bool} (h : st.2 = true) : (rmany s m st).2 = st ∧ (rmany s m st).1 = 0 := by
  obtain ⟨r, b⟩ := st
  simp only at h
  subst h
  unfold rmany
  rw [show rnum s (r, true) = (0, (r, true)) from by unfold rnum; rw [if_pos (by simp)]]
  rw [if_neg (show ¬ (0 : Int) > m by omega)]
  exact ⟨rfl, rfl⟩
theorem rnums_bad {st : List Int × Bool} (h : st.2 = true) : (rnums st).2 = st := by
  unfold rnums
  rw [(rmany_bad 1 5 (by omega) h).1, (rmany_bad 1 5 (by omega) h).2]
  rfl
set_option maxHeartbeats 8000000 in
set_option maxRecDepth 100000 in
theorem raddleref01_ReadMsg.calls (A0 : Option Addr) (c0 : Nat) (l0 : List Int) (r1 r2 r3 : Int) (r4 r5 : List Int) (r6 : List (S52)) (r7 : Int) (w : World) (hr0 : Kd.C (Kd.int .u8) w A0 l0.length l0) (hc0 : l0.length ≤ c0) (h : raddleref01_ReadMsg.f l0 = some (r1, r2, r3, r4, r5, r6, r7)) :
    Calls Tryz.prog 19 #[.slice A0 l0.length c0] w fun e w' => ∃ v0_ v1_ v2_ : Value, e = .returned (.tuple #[.agg #[.int .i64 r1, .int .i64 r2, .int .i64 r3, v0_, v1_, v2_], .int .i64 r7]) ∧ Kd.R (Kd.int .i64) 3 w' w.heap.size (fun _ => True) v0_ r4 ∧ Kd.R (Kd.int .i64) 3 w' w.heap.size (fun _ => True) v1_ r5 ∧ Kd.S k52 52 w' w.heap.size (fun _ => True) v2_ r6 ∧ Below w.heap.size w w' := by
  unfold raddleref01_ReadMsg.f msg_Read.f at h
  by_cases hb : Bytes_ l0 ∧ l0.length < 1000000
  case neg => rw [if_neg hb] at h; cases h
  rw [if_pos hb] at h
  have h := Option.some.inj h
  simp only [Prod.mk.injEq] at h
  have HEq := Aside0.mk h
  have HR0 := Aside0.mk hr0
  have HC0 := Aside0.mk hc0
  have HP := Aside0.mk (refOpen_eq l0 (by omega) hb.1 (10 * l0.length + 11) (by omega))
  obtain ⟨bd, hbd⟩ : ∃ bd, bd = (openL l0).1 := ⟨_, rfl⟩
  obtain ⟨er, her⟩ : ∃ er, er = (openL l0).2 := ⟨_, rfl⟩
  have HBL := Aside0.mk (show bd.length ≤ 65536 from by rw [hbd]; exact openL_len l0)
  have HBB := Aside0.mk (show Bytes_ bd from by rw [hbd]; exact openL_bytes l0 hb.1)
  have HP2 := Aside0.mk (show raddleref01_Open.f (10 * l0.length + 11) l0 = some (bd, er) from by rw [hbd, her]; exact HP.out)
  clear h hb hr0 hc0 HP
  go_enter Tryz.func19, Tryz.ntmps19
  go_wp2_with fail
  refine (raddleref01_Open.calls (10 * l0.length + 11) A0 c0 l0 bd er _ (Kd.C_alloc HR0.out _) HC0.out HP2.out).mono ?_
  rintro e w1 ⟨v1, rfl, ho, hb⟩
  obtain ⟨Ab, cb, rfl⟩ := Kd.R_slice ho
  have HO1 := Aside0.mk ho
  have D1 := Aside0.mk (blk_below (heap_alloc_new w (.cells #[.int .i64 0, .int .i64 0, .int .i64 0, .slice none 0 0, .slice none 0 0, .slice none 0 0] 26)) hb)
  have HB1 := Aside0.mk (show Below w.heap.size w w1 from below_step (below_alloc (Below.refl _ w) _) hb)
  clear ho hb
  by_cases h0 : er = 0
  case neg =>
    have h1 : (er != 0) = true := bne_iff_ne.2 h0
    have HE := Aside0.mk (show readB l0 = (zMsg, er) from by rw [her]; exact if_neg (by rw [← her]; exact h0))
    have E2 := HEq.out
    rw [HE.out] at E2
    have E3 := Aside0.mk E2
    have hdc := fun i => blk_cell D1.out i
    have hdf := fun i => blk_frozen D1.out i
    clear E2 h0 her hbd
    go_wp2
    obtain ⟨rfl, rfl, rfl, rfl, rfl, rfl, rfl⟩ := E3.out
    refine bodyPost_ret (v := .tuple #[.agg #[.int .i64 0, .int .i64 0, .int .i64 0, .slice none 0 0, .slice none 0 0, .slice none 0 0], .int .i64 er]) ?_ rfl ⟨.slice none 0 0, .slice none 0 0, .slice none 0 0, rfl, Kd.R_nil _ _ _ _ _, Kd.R_nil _ _ _ _ _, Kd.S_nil _ _ _ _ _, by repeat (first | refine below_set ?_ (Nat.le_refl _) | exact HB1.out)⟩
    exact results_ct (p := 2) (u := 3) (ty := 26) rfl _ _ w.heap.size 26 #[.int .i64 0, .int .i64 0, .int .i64 0, .slice none 0 0, .slice none 0 0, .slice none 0 0] (0, 0) _ rfl (set6 D1.out _ _ _ _ _ _) Tryz.underlying26 rfl (by kernel_rfl)
  subst h0
  have HRB := Aside0.mk (show readB l0 = rmsg bd from by rw [hbd]; exact if_pos her.symm)
  clear her hbd
  obtain ⟨q1, hq1⟩ : ∃ q, q = rnum 1 (bd, false) := ⟨_, rfl⟩
  obtain ⟨q2, hq2⟩ : ∃ q, q = rnum 1 (q1.2.1, q1.2.2) := ⟨_, rfl⟩
  obtain ⟨q3, hq3⟩ : ∃ q, q = rnum 1 (q2.2.1, q2.2.2) := ⟨_, rfl⟩
  obtain ⟨q4, hq4⟩ : ∃ q, q = rnums (q3.2.1, q3.2.2) := ⟨_, rfl⟩
  obtain ⟨q5, hq5⟩ : ∃ q, q = rnums (q4.2.1, q4.2.2) := ⟨_, rfl⟩
  obtain ⟨q6, hq6⟩ : ∃ q, q = rnum 2 (q5.2.1, q5.2.2) := ⟨_, rfl⟩
  have HSB := Aside0.mk (show (rops q6.1.toNat q6.2).2.2 = false → q4.2.2 = false ∧ q5.2.2 = false from fun h => by
    have bad_of : ∀ {x : Bool}, (x = true → False) → x = false := fun {x} hx => by cases x <;> simp_all
    have h6 := rops_good _ _ h
    have h5 : q5.2.2 = false := bad_of fun hb => by rw [hq6, rnum_bad 2 (st := (q5.2.1, q5.2.2)) hb] at h6; rw [hb] at h6; cases h6
    refine ⟨bad_of fun hb => ?_, h5⟩
    rw [hq5, rnums_bad (st := (q4.2.1, q4.2.2)) hb] at h5; rw [hb] at h5; cases h5)
  have HS := Aside0.mk (show rmsg bd = rfin (q1.1, q2.1, q3.1, q4.1, q5.1, q6.1) (rops q6.1.toNat q6.2) from by rw [hq6, hq5, hq4, hq3, hq2, hq1]; rfl)
  have HQ1 := Aside0.mk hq1
  have HQ2 := Aside0.mk hq2
  have HQ3 := Aside0.mk hq3
  have HQ4 := Aside0.mk hq4
  have HQ5 := Aside0.mk hq5
  have HQ6 := Aside0.mk hq6
  clear hq1 hq2 hq3 hq4 hq5 hq6
  go_wp2_with fail
  obtain ⟨g, hgd⟩ : ∃ g, g = w1.heap.size := ⟨_, rfl⟩
  have H0 := Aside0.mk (show IsC w1 (w1.alloc (.cells #[.slice Ab bd.length cb, .int .i64 0, .bool false] 85)) g bd bd false from ⟨below_alloc (Below.refl _ w1) _, by omega, HBB.out, HBL.out, Ab, cb, 0, by rw [hgd]; exact heap_alloc_new w1 (.cells #[.slice Ab bd.length cb, .int .i64 0, .bool false] 85), (Kd.R_reads' HO1.out).2.2, (Kd.R_reads' HO1.out).2.1, by omega, rfl⟩)
  have D0 := Aside0.mk (blk_below D1.out (below_alloc (Below.refl _ w1) (.cells #[.slice Ab bd.length cb, .int .i64 0, .bool false] 85)))
  have HRG := Aside0.mk (show w.heap.size ≠ g from by have := blk_lt D1.out; omega)
  clear D1
  rw [← hgd]
  clear hgd
  refine (C_num w1 _ g bd bd false H0.out 1 1 rfl (by omega) (by omega)).mono ?_
  rintro e v1 ⟨rfl, hi, hk⟩
  rw [← HQ1.out] at hi
  rw [← HQ1.out]
  have D1 := Aside0.mk (hk.blk D0.out HRG.out (by simp))
  have H1 := Aside0.mk hi
  clear hi hk HQ1
  go_wp2_with fail
  refine (C_num w1 _ g bd q1.2.1 q1.2.2 H1.out 1 1 rfl (by omega) (by omega)).mono ?_
  rintro e v2 ⟨rfl, hi, hk⟩
  rw [← HQ2.out] at hi
  rw [← HQ2.out]
  have D2 := Aside0.mk (hk.blk D1.out HRG.out (by simp))
  have H2 := Aside0.mk hi
  clear hi hk HQ2
  go_wp2_with fail
  refine (C_num w1 _ g bd q2.2.1 q2.2.2 H2.out 1 1 rfl (by omega) (by omega)).mono ?_
  rintro e v3 ⟨rfl, hi, hk⟩
  rw [← HQ3.out] at hi
  rw [← HQ3.out]
  have D3 := Aside0.mk (hk.blk D2.out HRG.out (by simp))
  have H3 := Aside0.mk hi
  clear hi hk HQ3
  go_wp2_with fail
  refine (C_vector w1 _ g bd q3.2.1 q3.2.2 H3.out).mono ?_
  rintro e v4 ⟨v, l4, rfl, ho, he, hi, hk⟩
  rw [← HQ4.out] at hi he
  obtain ⟨A4, c4, rfl⟩ := Kd.R_slice ho
  have O4 := Aside0.mk (Kd.R_lower ho (below_size H3.out.1))
  have HL4 := Aside0.mk he
  clear he
  have D4 := Aside0.mk (hk.blk D3.out HRG.out (by simp))
  have H4 := Aside0.mk hi
  clear hi hk HQ4 ho
  go_wp2_with fail
  refine (C_vector w1 _ g bd q4.2.1 q4.2.2 H4.out).mono ?_
  rintro e v5 ⟨v, l5, rfl, ho, he, hi, hk⟩
  rw [← HQ5.out] at hi he
  obtain ⟨A5, c5, rfl⟩ := Kd.R_slice ho
  have O5 := Aside0.mk (Kd.R_lower ho (below_size H4.out.1))
  have HL5 := Aside0.mk he
  clear he
  have P5 := Aside0.mk (Kd.R_keep O4.out hk (fun _ h => h))
  have D5 := Aside0.mk (hk.blk D4.out HRG.out (by simp))
  have H5 := Aside0.mk hi
  clear hi hk HQ5 ho
  go_wp2_with fail
  have H6 := Aside0.mk (H5.out.alloc (.cells #[.int .i64 q1.1, .int .i64 q2.1, .int .i64 q3.1, .slice A4 l4.length c4, .slice A5 l5.length c5, .slice none 0 0] 26))
  have X6 := Aside0.mk (heap_alloc_new v5 (.cells #[.int .i64 q1.1, .int .i64 q2.1, .int .i64 q3.1, .slice A4 l4.length c4, .slice A5 l5.length c5, .slice none 0 0] 26))
  have D6 := Aside0.mk (blk_below D5.out (below_alloc (Below.refl _ v5) (.cells #[.int .i64 q1.1, .int .i64 q2.1, .int .i64 q3.1, .slice A4 l4.length c4, .slice A5 l5.length c5, .slice none 0 0] 26)))
  have OS6 := Aside0.mk (Kd.R_alloc O5.out (.cells #[.int .i64 q1.1, .int .i64 q2.1, .int .i64 q3.1, .slice A4 l4.length c4, .slice A5 l5.length c5, .slice none 0 0] 26))
  have OH6 := Aside0.mk (Kd.R_alloc P5.out (.cells #[.int .i64 q1.1, .int .i64 q2.1, .int .i64 q3.1, .slice A4 l4.length c4, .slice A5 l5.length c5, .slice none 0 0] 26))
  have hxg : v5.heap.size ≠ g := by have := H5.out.lt; omega
  have hxr : v5.heap.size ≠ w.heap.size := by have := blk_lt D5.out; omega
  have hxw : w1.heap.size ≤ v5.heap.size := below_size H5.out.1
  obtain ⟨v6, hv6⟩ : ∃ v6, v6 = v5.alloc (.cells #[.int .i64 q1.1, .int .i64 q2.1, .int .i64 q3.1, .slice A4 l4.length c4, .slice A5 l5.length c5, .slice none 0 0] 26) := ⟨_, rfl⟩
  rw [← hv6] at H6 X6 D6 OS6 OH6
  rw [← hv6]
  obtain ⟨xb, hxb⟩ : ∃ xb, xb = v5.heap.size := ⟨_, rfl⟩
  rw [← hxb] at X6 hxg hxr hxw
  rw [← hxb]
  have HXG := Aside0.mk hxg
  have HXR := Aside0.mk hxr
  have HXW := Aside0.mk hxw
  have HRX := Aside0.mk (fun e => HXR.out e.symm : w.heap.size ≠ xb)
  clear hv6 hxb hxg hxr hxw
  refine (C_num w1 _ g bd q5.2.1 q5.2.2 H6.out 2 2 rfl (by omega) (by omega)).mono ?_
  have hq6b := rnum_bound 2 (q5.2.1, q5.2.2) H6.out.bytes
  rw [← HQ6.out] at hq6b
  rintro e v7 ⟨rfl, hi, hk⟩
  rw [← HQ6.out] at hi
  rw [← HQ6.out]
  have H7 := Aside0.mk hi
  have X7 := Aside0.mk (hk.blk X6.out HXG.out (by simp))
  have D7 := Aside0.mk (hk.blk D6.out HRG.out (by simp))
  have OS7 := Aside0.mk (Kd.R_keep OS6.out hk (fun _ h => h))
  have OH7 := Aside0.mk (Kd.R_keep OH6.out hk (fun _ h => h))
  clear hi hk HQ6
  obtain ⟨N, hN⟩ : ∃ N : Nat, q6.1 = (N : Int) := ⟨q6.1.toNat, by omega⟩
  have HN := Aside0.mk (show N ≤ 65535 from by have := hq6b.2; rw [hN] at this; omega)
  have HS2 := Aside0.mk (show rmsg bd = rfin (q1.1, q2.1, q3.1, q4.1, q5.1, q6.1) (rops N q6.2) from by rw [HS.out]; congr 1; rw [hN, Int.toNat_natCast])
  rw [hN, Int.toNat_natCast] at HSB
  rw [hN]
  clear hq6b hN
  obtain ⟨FL, hFL⟩ : ∃ FL, FL = rops N q6.2 := ⟨_, rfl⟩
  rw [← hFL] at HSB
  rw [← hFL] at HS2
  have HFL := Aside0.mk hFL
  clear hFL
  go_wp2
  go_loopw [8] (fun v wr => ∃ (n : Nat) (L : List Opr) (st : List Int × Bool) (Ao : Option Addr) (co : Nat), n + L.length ≤ 65535 ∧ v = .int .i64 n ∧ Aside0 ((st.2 = false → L ++ (rops n st).1 = FL.1) ∧ (rops n st).2 = FL.2) ∧ Aside0 (IsC w1 wr g bd st.1 st.2) ∧ Aside0 (wr.heap[w.heap.size]? = some (.cells #[.int .i64 0, .int .i64 0, .int .i64 0, .slice none 0 0, .slice none 0 0, .slice none 0 0] 26 (0, 0))) ∧ Aside0 (wr.heap[xb]? = some (.cells #[.int .i64 q1.1, .int .i64 q2.1, .int .i64 q3.1, .slice A4 l4.length c4, .slice A5 l5.length c5, .slice Ao L.length co] 26 (0, 0))) ∧ Aside0 (Kd.R (Kd.int .i64) 3 wr w1.heap.size (fun k => k ≠ g) (.slice A4 l4.length c4) l4) ∧ Aside0 (Kd.R (Kd.int .i64) 3 wr w1.heap.size (fun k => k ≠ g) (.slice A5 l5.length c5) l5) ∧ Aside0 (Kd.S k52 52 wr w1.heap.size (fun k => k ≠ g) (.slice Ao L.length co) L)) (fun v _ => (intOf v).toNat)
  case atStart => exact ⟨N, [], q6.2, none, 0, by have := HN.out; simpa using this, rfl, ⟨fun _ => by rw [HFL.out]; rfl, by rw [HFL.out]⟩, H7, D7, X7, OH7, OS7, ⟨Kd.S_nil _ _ _ _ _⟩⟩
  case round =>
    obtain ⟨n, L, st, Ao, co, hn, rfl, HFL2, HI, HD, HX, HOH, HOS, HOL⟩ := hrel
    rcases n with _ | n
    · have HF := Aside0.mk (show (st.2 = false → L = FL.1) ∧ st = FL.2 from by have := HFL2.out; simpa [rops] using this)
      clear hn HFL2
      rcases hbq : st.2 with _ | _
      · have HBT := Aside0.mk hbq
        rw [hbq] at HI
        clear hbq
        obtain ⟨h0, hg, h2, h3, A, c, at_, hv, hC, hc, ha, hd⟩ := HI.out
        have hb2 := (blk_cell hv 2).trans rfl
        have hb1 := (blk_cell hv 1).trans rfl
        have hdc := fun i => blk_cell HD.out i
        have hdf := fun i => blk_frozen HD.out i
        have hxc := fun i => blk_cell HX.out i
        by_cases hr : st.1 = []
        · have hne : ((at_ : Int) != (bd.length : Int)) = false := by have h9 := congrArg List.length hd; rw [hr] at h9; simp at h9; simp; omega
          have HE := Aside0.mk (show readB l0 = ((q1.1, q2.1, q3.1, q4.1, q5.1, FL.1), 0) from by rw [HRB.out, HS2.out]; exact if_neg (by rw [← HF.out.2]; rintro (h | h); rw [HBT.out] at h; cases h; exact h hr))
          have E2 := HEq.out
          rw [HE.out, ← HF.out.1 HBT.out, ← HL4.out (HSB.out (by rw [← HF.out.2]; exact HBT.out)).1, ← HL5.out (HSB.out (by rw [← HF.out.2]; exact HBT.out)).2] at E2
          have E3 := Aside0.mk E2
          clear E2 hr h0 hg h2 h3 hv hC hc ha hd
          go_wp2
          obtain ⟨rfl, rfl, rfl, rfl, rfl, rfl, rfl⟩ := E3.out
          refine bodyPost_ret (v := .tuple #[.agg #[.int .i64 q1.1, .int .i64 q2.1, .int .i64 q3.1, .slice A4 l4.length c4, .slice A5 l5.length c5, .slice Ao L.length co], .int .i64 0]) ?_ rfl ⟨.slice A4 l4.length c4, .slice A5 l5.length c5, .slice Ao L.length co, rfl, (Kd.R_mono (Kd.R_lower (Kd.R_step (Kd.R_types HOH.out HD.out (by decide)) (fun k hk _ => by repeat (first | refine heap_set ?_ hk.2 | rfl))) (below_size HB1.out)) (fun _ _ => trivial)), (Kd.R_mono (Kd.R_lower (Kd.R_step (Kd.R_types HOS.out HD.out (by decide)) (fun k hk _ => by repeat (first | refine heap_set ?_ hk.2 | rfl))) (below_size HB1.out)) (fun _ _ => trivial)), (Kd.S_mono (Kd.S_lower (Kd.S_step (Kd.S_types HOL.out HD.out (by decide)) (fun k hk _ => by repeat (first | refine heap_set ?_ hk.2 | rfl))) (below_size HB1.out)) (fun _ _ => trivial)), by repeat (first | refine below_set ?_ (Nat.le_refl _) | exact (below_step HB1.out HI.out.1))⟩
          exact results_ct (p := 2) (u := 3) (ty := 26) rfl _ _ w.heap.size 26 #[.int .i64 q1.1, .int .i64 q2.1, .int .i64 q3.1, .slice A4 l4.length c4, .slice A5 l5.length c5, .slice Ao L.length co] (0, 0) _ rfl (set6 HD.out _ _ _ _ _ _) Tryz.underlying26 rfl (by kernel_rfl)
        · have hne : ((at_ : Int) != (bd.length : Int)) = true := by have h9 : st.1.length = bd.length - at_ := by { rw [← hd]; simp }; have h8 : 0 < st.1.length := List.length_pos_iff.2 hr; simp; omega
          have HE := Aside0.mk (show readB l0 = (zMsg, 3) from by rw [HRB.out, HS2.out]; exact if_pos (by rw [← HF.out.2]; exact .inr hr))
          have E2 := HEq.out
          rw [HE.out] at E2
          have E3 := Aside0.mk E2
          clear E2 h0 hg h2 h3 hv hC hc ha hd
          go_wp2
          obtain ⟨rfl, rfl, rfl, rfl, rfl, rfl, rfl⟩ := E3.out
          refine bodyPost_ret (v := .tuple #[.agg #[.int .i64 0, .int .i64 0, .int .i64 0, .slice none 0 0, .slice none 0 0, .slice none 0 0], .int .i64 3]) ?_ rfl ⟨.slice none 0 0, .slice none 0 0, .slice none 0 0, rfl, Kd.R_nil _ _ _ _ _, Kd.R_nil _ _ _ _ _, Kd.S_nil _ _ _ _ _, by repeat (first | refine below_set ?_ (Nat.le_refl _) | exact (below_step HB1.out HI.out.1))⟩
          exact results_ct (p := 2) (u := 3) (ty := 26) rfl _ _ w.heap.size 26 #[.int .i64 0, .int .i64 0, .int .i64 0, .slice none 0 0, .slice none 0 0, .slice none 0 0] (0, 0) _ rfl (set6 HD.out _ _ _ _ _ _) Tryz.underlying26 rfl (by kernel_rfl)
      · have HBT := Aside0.mk hbq
        rw [hbq] at HI
        clear hbq
        obtain ⟨h0, hg, h2, h3, A, c, at_, hv, hC, hc, ha, hd⟩ := HI.out
        have hb2 := (blk_cell hv 2).trans rfl
        have hb1 := (blk_cell hv 1).trans rfl
        have hdc := fun i => blk_cell HD.out i
        have hdf := fun i => blk_frozen HD.out i
        have hxc := fun i => blk_cell HX.out i
        have HE := Aside0.mk (show readB l0 = (zMsg, 3) from by rw [HRB.out, HS2.out]; exact if_pos (by rw [← HF.out.2]; exact .inl HBT.out))
        have E2 := HEq.out
        rw [HE.out] at E2
        have E3 := Aside0.mk E2
        clear E2 h0 hg h2 h3 hv hC hc ha hd
        go_wp2
        obtain ⟨rfl, rfl, rfl, rfl, rfl, rfl, rfl⟩ := E3.out
        refine bodyPost_ret (v := .tuple #[.agg #[.int .i64 0, .int .i64 0, .int .i64 0, .slice none 0 0, .slice none 0 0, .slice none 0 0], .int .i64 3]) ?_ rfl ⟨.slice none 0 0, .slice none 0 0, .slice none 0 0, rfl, Kd.R_nil _ _ _ _ _, Kd.R_nil _ _ _ _ _, Kd.S_nil _ _ _ _ _, by repeat (first | refine below_set ?_ (Nat.le_refl _) | exact (below_step HB1.out HI.out.1))⟩
        exact results_ct (p := 2) (u := 3) (ty := 26) rfl _ _ w.heap.size 26 #[.int .i64 0, .int .i64 0, .int .i64 0, .slice none 0 0, .slice none 0 0, .slice none 0 0] (0, 0) _ rfl (set6 HD.out _ _ _ _ _ _) Tryz.underlying26 rfl (by kernel_rfl)
    · rcases hbq : st.2 with _ | _
      · have HF := Aside0.mk (show L ++ [(rop st).1] ++ (rops n (rop st).2).1 = FL.1 ∧ (rops n (rop st).2).2 = FL.2 from by have := HFL2.out; rw [show rops (n + 1) st = ((rop st).1 :: (rops n (rop st).2).1, (rops n (rop st).2).2) from if_neg (by rw [hbq]; exact Bool.false_ne_true)] at this; simpa [hbq] using this)
        have hp : decide ((0 : Int) < ((n + 1 : Nat) : Int)) = true := decide_eq_true (by omega)
        have HLN := Aside0.mk hn
        have HWN := Aside0.mk (show wrap64 (n : Int) = (n : Int) from wrap_in _ (by omega) (by omega))
        obtain ⟨q9, hq9⟩ : ∃ q, q = rop (st.1, st.2) := ⟨_, rfl⟩
        have HQ9 := Aside0.mk hq9
        rw [show rop st = q9 from hq9.symm] at HF
        have hv2 : wr.cell? ⟨g, 2, none⟩ = some (.bool false) := by obtain ⟨_, _, _, _, A, c, at_, hv, _⟩ := HI.out; rw [hbq] at hv; exact (blk_cell hv 2).trans rfl
        have hxc := fun i => blk_cell HX.out i
        have hxf := fun i => blk_frozen HX.out i
        have HB12 := Aside0.mk (Kd.S_bound HOL.out)
        clear hbq hq9 hn HFL2
        go_wp2_with fail
        go_region_law (first | (go_simp; go_at_call 50; refine (C_op w1 _ g bd st.1 st.2 (HI.out.below (by first | exact Below.refl _ _ | exact below_drew (Below.refl _ _)))).mono ?_; rintro e w12 ⟨cs, x9, rfl, hM, hx, hi, hk2⟩; rw [← HQ9.out] at hi hx; have HX9 := Aside0.mk hx; obtain ⟨u2, u10, u11, rfl, m2, m10, m11⟩ := k52_openM hM; obtain ⟨B2, d2, rfl⟩ := Kd.R_slice m2; obtain ⟨B10, d10, rfl⟩ := Kd.R_slice m10; obtain ⟨B11, d11, rfl⟩ := Kd.R_slice m11; have hk3 : KeepBut wr w12 g none := hk2; have HM12 := Aside0.mk (show k52.M w12 wr.heap.size (fun k => k ≠ g) x9 _ from hM); have H12 := Aside0.mk hi; have HZ12 := Aside0.mk hk3.1; have D12 := Aside0.mk (hk3.blk HD.out HRG.out (by simp)); have X12 := Aside0.mk (hk3.blk HX.out HXG.out (by simp)); have OH12 := Aside0.mk (Kd.R_keep HOH.out hk3 (fun _ h => h)); have OS12 := Aside0.mk (Kd.R_keep HOS.out hk3 (fun _ h => h)); have OL12 := Aside0.mk (Kd.S_keep HB12.out hk3 (fun _ h => h.1)); have hxc2 := fun i => blk_cell X12.out i; have hxf2 := fun i => blk_frozen X12.out i; have X12a := Aside0.mk (blk_below X12.out (below_alloc (Below.refl _ w12) (.cells #[.int .i64 x9.f0.f0, .int .i64 x9.f0.f1, .slice B2 x9.f1.length d2, .int .i64 x9.f2.f0, .int .i64 x9.f2.f1, .int .i64 x9.f2.f2, .int .i64 x9.f3, .int .i64 x9.f4, .string x9.f5, .int .i64 x9.f6, .slice B10 x9.f7.length d10, .slice B11 x9.f8.length d11] 52))); have hxc2a := fun i => blk_cell X12a.out i; clear hi hk2 hk3 hM hx m2 m10 m11 X12a) | (refine Kd.S_append_step k52 (w0 := w12) w1.heap.size rfl (.tmp 46) (.tmp 49) 24 52 _ 152 rfl Tryz.underlying24 minfo52 rfl (by decide) (by omega) (.slice Ao L.length co) L x9 [.int .i64 x9.f0.f0, .int .i64 x9.f0.f1, .slice B2 x9.f1.length d2, .int .i64 x9.f2.f0, .int .i64 x9.f2.f1, .int .i64 x9.f2.f2, .int .i64 x9.f3, .int .i64 x9.f4, .string x9.f5, .int .i64 x9.f6, .slice B10 x9.f7.length d10, .slice B11 x9.f8.length d11] (fun k => k ≠ g) (fun k => k ≠ g ∧ wr.heap.size ≤ k) rfl rfl (k52.M_lower (below_size HI.out.1) (k52.M_mono (fun k hk => ⟨hk.1, hk.2.1⟩) (k52.M_bound HM12.out))) (fun k hk => ⟨hk.1, fun e_ => by have := Kd.S_lt HOL.out k e_.symm; omega⟩) (fun k hk e_ => by have := H12.out.lt; omega) (Kd.S_mono OL12.out (fun k hk => ⟨hk.1, fun h => by have := hk.2.2.1; omega⟩)) (Below.refl _ _) (below_size H12.out.1) (by have := HLN.out; omega) ?_; intro v3 w13 ho hb hgw hat; obtain ⟨A13, c13, rfl⟩ := Kd.R_slice (Kd.S_R ho); have O13 := Aside0.mk ho; have hb12 := fun k (hk : (Value.slice Ao L.length co).ownBlock = some k) => Kd.S_base HOL.out k hk; have hg12 : (Value.slice Ao L.length co).ownBlock ≠ some g := fun e_ => (Kd.S_R HOL.out).1 g e_ rfl; have H13 := Aside0.mk (H12.out.grown hgw hg12 (fun k hk => hb12 k hk)); have D13 := Aside0.mk (blk_grown D12.out hgw (Kd.R_ne (Kd.S_R OL12.out) D12.out (by decide))); have X13 := Aside0.mk (blk_grown X12.out hgw (Kd.R_ne (Kd.S_R OL12.out) X12.out (by decide))); have OH13 := Aside0.mk (Kd.R_over' OH12.out (Kd.S_typed OL12.out) (by decide) hgw); have OS13 := Aside0.mk (Kd.R_over' OS12.out (Kd.S_typed OL12.out) (by decide) hgw); have hxc3 := fun i => blk_cell X13.out i; have hxf3 := fun i => blk_frozen X13.out i; clear ho hb hgw hat hxc2 hxf2 hxc2a hb12 hg12))
        all_goals (go_wp2; go_roundw)
        case rel => exact ⟨n, L ++ [x9], q9.2, A13, c13, by have := HLN.out; simp; omega, by first | (rw [HWN.out]; done) | rw [HWN.out] | go_num, ⟨fun h => by rw [HX9.out h]; exact HF.out.1, HF.out.2⟩, ⟨H13.out.far HXG.out HXW.out 5 (.slice A13 (L.length + 1) c13)⟩, ⟨(Below.heap_setCell w13 ⟨xb, 5, none⟩ (.slice A13 (L.length + 1) c13) w.heap.size HRX.out).trans D13.out⟩, by rw [show (L ++ [x9]).length = L.length + 1 from by simp]; exact ⟨blk_set X13.out 5 (.slice A13 (L.length + 1) c13)⟩, ⟨Kd.R_set OH13.out X13.out (by decide) 5 (.slice A13 (L.length + 1) c13)⟩, ⟨Kd.R_set OS13.out X13.out (by decide) 5 (.slice A13 (L.length + 1) c13)⟩, ⟨Kd.S_set O13.out X13.out (by decide) 5 (.slice A13 (L.length + 1) c13)⟩⟩
        case measure => exact meas_down n HWN.out
        case rel => exact ⟨n, L ++ [x9], q9.2, A13, c13, by have := HLN.out; simp; omega, by first | (rw [HWN.out]; done) | rw [HWN.out] | go_num, ⟨fun h => by rw [HX9.out h]; exact HF.out.1, HF.out.2⟩, ⟨H13.out.far HXG.out HXW.out 5 (.slice A13 (L.length + 1) c13)⟩, ⟨(Below.heap_setCell w13 ⟨xb, 5, none⟩ (.slice A13 (L.length + 1) c13) w.heap.size HRX.out).trans D13.out⟩, by rw [show (L ++ [x9]).length = L.length + 1 from by simp]; exact ⟨blk_set X13.out 5 (.slice A13 (L.length + 1) c13)⟩, ⟨Kd.R_set OH13.out X13.out (by decide) 5 (.slice A13 (L.length + 1) c13)⟩, ⟨Kd.R_set OS13.out X13.out (by decide) 5 (.slice A13 (L.length + 1) c13)⟩, ⟨Kd.S_set O13.out X13.out (by decide) 5 (.slice A13 (L.length + 1) c13)⟩⟩
        case measure => exact meas_down n HWN.out
        case rel => exact ⟨n, L ++ [x9], q9.2, A13, c13, by have := HLN.out; simp; omega, by first | (rw [HWN.out]; done) | rw [HWN.out] | go_num, ⟨fun h => by rw [HX9.out h]; exact HF.out.1, HF.out.2⟩, ⟨H13.out.far HXG.out HXW.out 5 (.slice A13 (L.length + 1) c13)⟩, ⟨(Below.heap_setCell w13 ⟨xb, 5, none⟩ (.slice A13 (L.length + 1) c13) w.heap.size HRX.out).trans D13.out⟩, by rw [show (L ++ [x9]).length = L.length + 1 from by simp]; exact ⟨blk_set X13.out 5 (.slice A13 (L.length + 1) c13)⟩, ⟨Kd.R_set OH13.out X13.out (by decide) 5 (.slice A13 (L.length + 1) c13)⟩, ⟨Kd.R_set OS13.out X13.out (by decide) 5 (.slice A13 (L.length + 1) c13)⟩, ⟨Kd.S_set O13.out X13.out (by decide) 5 (.slice A13 (L.length + 1) c13)⟩⟩
        case measure => exact meas_down n HWN.out
      · have HF := Aside0.mk (show (st.2 = false → L = FL.1) ∧ st = FL.2 from by have := HFL2.out; rw [show rops (n + 1) st = ([], st) from if_pos hbq] at this; simpa using this)
        have hp : decide ((0 : Int) < ((n + 1 : Nat) : Int)) = true := decide_eq_true (by omega)
        have HBT := Aside0.mk hbq
        rw [hbq] at HI
        clear hbq HFL2 hn
        obtain ⟨h0, hg, h2, h3, A, c, at_, hv, hC, hc, ha, hd⟩ := HI.out
        have hb2 := (blk_cell hv 2).trans rfl
        have hb1 := (blk_cell hv 1).trans rfl
        have hdc := fun i => blk_cell HD.out i
        have hdf := fun i => blk_frozen HD.out i
        have hxc := fun i => blk_cell HX.out i
        have HE := Aside0.mk (show readB l0 = (zMsg, 3) from by rw [HRB.out, HS2.out]; exact if_pos (by rw [← HF.out.2]; exact .inl HBT.out))
        have E2 := HEq.out
        rw [HE.out] at E2
        have E3 := Aside0.mk E2
        clear E2 h0 hg h2 h3 hv hC hc ha hd
        go_wp2
        obtain ⟨rfl, rfl, rfl, rfl, rfl, rfl, rfl⟩ := E3.out
        refine bodyPost_ret (v := .tuple #[.agg #[.int .i64 0, .int .i64 0, .int .i64 0, .slice none 0 0, .slice none 0 0, .slice none 0 0], .int .i64 3]) ?_ rfl ⟨.slice none 0 0, .slice none 0 0, .slice none 0 0, rfl, Kd.R_nil _ _ _ _ _, Kd.R_nil _ _ _ _ _, Kd.S_nil _ _ _ _ _, by repeat (first | refine below_set ?_ (Nat.le_refl _) | exact (below_step HB1.out HI.out.1))⟩
        exact results_ct (p := 2) (u := 3) (ty := 26) rfl _ _ w.heap.size 26 #[.int .i64 0, .int .i64 0, .int .i64 0, .slice none 0 0, .slice none 0 0, .slice none 0 0] (0, 0) _ rfl (set6 HD.out _ _ _ _ _ _) Tryz.underlying26 rfl (by kernel_rfl)
set_option maxHeartbeats 1000000 in
set_option maxRecDepth 100000 in
theorem index_none (fv : Value) (w : World) : Calls Tryz.prog 106 #[.slice none 0 0, fv] w fun e w' => e = .returned (.int .i64 (-1)) ∧ w' = w := by
  go_enter Tryz.func106, Tryz.ntmps106
  go_wp2
  go_loopw [8] (fun v wr => v = .int .i64 0 ∧ wr = w) (fun _ _ => 0)
  case atStart => exact ⟨rfl, rfl⟩
  case round =>
    obtain ⟨rfl, rfl⟩ := hrel
    go_wp2
    go_ret
    exact ⟨rfl, rfl⟩
set_option maxHeartbeats 1000000 in
set_option maxRecDepth 100000 in
theorem contains_none (fv : Value) (w : World) : Calls Tryz.prog 78 #[.slice none 0 0, fv] w fun e w' => e = .returned (.bool false) ∧ w' = w := by
  go_enter Tryz.func78, Tryz.ntmps78
  go_wp2_with fail
  refine (index_none fv w).mono ?_
  rintro e w1 ⟨rfl, rfl⟩
  go_wp2
  go_ret
  exact ⟨rfl, rfl⟩
end Go.Proofs.YtnbjflcfdncocaaGreat.M
namespace Go.Proofs.YtnbjflcfdncocaaGreat.M
open Go.RowKit Go.Proofs.YtnbjflcfdncocaaGreatW.PrintWords Go.Proofs.YtnbjflcfdncocaaGreatW.PrintLast Go.Proofs.YtnbjflcfdncocaaGreatW.PrintMore
attribute [local go_sem] max2_int min2_int max_two min_two max_three min_three max_four min_four
set_option linter.unusedVariables false
set_option linter.unusedSimpArgs false
def op_Forms_1.f (l0_0 : List Int) : Option (Bool) := if (l0_0.length : Int) < 1 then (some true) else (some (decide ((l0_0.length : Int) > 4)))
set_option maxHeartbeats 8000000 in
set_option maxRecDepth 100000 in
theorem op_Forms_1.calls (A0_0 : Option Addr) (c0_0 : Nat) (l0_0 : List Int) (r : Bool) (w : World) (hr0_0 : Kd.C (Kd.int .i64) w A0_0 l0_0.length l0_0) (hc0_0 : l0_0.length ≤ c0_0) (h : op_Forms_1.f l0_0 = some r) :
  Calls Tryz.prog 75 #[.agg #[.slice A0_0 l0_0.length c0_0]] w fun e w' => e = .returned (.bool r) ∧ Below w.heap.size w w' := by
 have hu56 := Tryz.underlying56
 have HR0_0 := Aside0.mk hr0_0
 have HC0_0 := Aside0.mk hc0_0
 clear hr0_0 hc0_0
 have HB := Aside0.mk (Below.refl w.heap.size w)
 have H : (if (l0_0.length : Int) < 1 then (some true) else (some (decide ((l0_0.length : Int) > 4)))) = some r := h
 clear h
 by_cases c2 : (l0_0.length : Int) < 1
 ·rw [if_pos c2] at H
  have c2b0 : decide ((l0_0.length : Int) < 1) = true := decide_eq_true c2
  have c2b1 : decide (l0_0.length < 1) = true := decide_eq_true (by omega)
  clear c2
  obtain rfl := Option.some.inj H
  go_enter Tryz.func75, Tryz.ntmps75
  go_wp2_with (first | ((with_reducible refine gate_dst (N := 1) rfl ?_); (try (refine gate_guard (by rfl) ?_; dsimp only)); refine box_event ?hg (N := 1) ?hd (cs := #[.slice A0_0 l0_0.length c0_0]) (t := 56) ?hr ?_; (case hd => rfl); (case hg => rfl); (case hr => first | (go_simp; done) | (go_simp; rfl)); intro gb101 hg w3 hbox hb; have n0_ := Aside0.mk (below_step (by with_reducible repeat (first | exact HB.out | apply below_alloc | apply pw_below_drewN | apply below_drew1)) hb); have n1_ := Aside0.mk (hbox); have n2_ := Aside0.mk ((by rw [hg]; exact (below_size (by with_reducible repeat (first | exact HB.out | apply below_alloc | apply pw_below_drewN | apply below_drew1))) : w.heap.size ≤ gb101)); have n3_ := Aside0.mk ((by rw [hg]; exact (below_size (by with_reducible repeat (first | exact HB.out | apply below_alloc | apply pw_below_drewN | apply below_drew1))) : w.heap.size ≤ gb101)); clear HB; have HB := n0_; have BK101 := n1_; have GW101 := n2_; have GE101 := n3_; clear n0_ n1_ n2_ n3_; clear hb hbox hg; have hcz4_0 : w3.cell? ⟨gb101, 0, none⟩ = some (.slice A0_0 l0_0.length c0_0) := (blk_cell BK101.out 0).trans rfl; have hfz4_0 := blk_frozen BK101.out 0))
  go_ret
  exact ⟨by first | rfl | (simp [errW_none, errW_some] <;> rfl) | (simp [*, errW_none, errW_some] <;> rfl), by with_reducible repeat (first | exact HB.out | apply below_alloc | apply pw_below_drewN | apply below_drew1 | refine below_set ?_ GE101.out)⟩
 ·rw [if_neg c2] at H
  have c2b0 : decide ((l0_0.length : Int) < 1) = false := decide_eq_false c2
  have c2b1 : decide (l0_0.length < 1) = false := decide_eq_false (by omega)
  clear c2
  obtain rfl := Option.some.inj H
  go_enter Tryz.func75, Tryz.ntmps75
  go_wp2_with (first | ((with_reducible refine gate_dst (N := 1) rfl ?_); (try (refine gate_guard (by rfl) ?_; dsimp only)); refine box_event ?hg (N := 1) ?hd (cs := #[.slice A0_0 l0_0.length c0_0]) (t := 56) ?hr ?_; (case hd => rfl); (case hg => rfl); (case hr => first | (go_simp; done) | (go_simp; rfl)); intro gb101 hg w5 hbox hb; have n0_ := Aside0.mk (below_step (by with_reducible repeat (first | exact HB.out | apply below_alloc | apply pw_below_drewN | apply below_drew1)) hb); have n1_ := Aside0.mk (hbox); have n2_ := Aside0.mk ((by rw [hg]; exact (below_size (by with_reducible repeat (first | exact HB.out | apply below_alloc | apply pw_below_drewN | apply below_drew1))) : w.heap.size ≤ gb101)); have n3_ := Aside0.mk ((by rw [hg]; exact (below_size (by with_reducible repeat (first | exact HB.out | apply below_alloc | apply pw_below_drewN | apply below_drew1))) : w.heap.size ≤ gb101)); clear HB; have HB := n0_; have BK101 := n1_; have GW101 := n2_; have GE101 := n3_; clear n0_ n1_ n2_ n3_; clear hb hbox hg; have hcz6_0 : w5.cell? ⟨gb101, 0, none⟩ = some (.slice A0_0 l0_0.length c0_0) := (blk_cell BK101.out 0).trans rfl; have hfz6_0 := blk_frozen BK101.out 0))
  go_ret
  exact ⟨by first | rfl | (simp [errW_none, errW_some] <;> rfl) | (simp [*, errW_none, errW_some] <;> rfl), by with_reducible repeat (first | exact HB.out | apply below_alloc | apply pw_below_drewN | apply below_drew1 | refine below_set ?_ GE101.out)⟩
end Go.Proofs.YtnbjflcfdncocaaGreat.M
namespace Go.Proofs.YtnbjflcfdncocaaGreat.M
open Go.RowKit Go.Proofs.YtnbjflcfdncocaaGreatW.PrintWords Go.Proofs.YtnbjflcfdncocaaGreatW.PrintLast Go.Proofs.YtnbjflcfdncocaaGreatW.PrintMore
def contains_Forms_1.p (x : S56) : Bool := (op_Forms_1.f x.f0).getD false
theorem contains_Forms_1.p_eq (x : S56) : op_Forms_1.f x.f0 = some (contains_Forms_1.p x) := by
  have h : (op_Forms_1.f x.f0).isSome = true := by
    unfold op_Forms_1.f; split <;> rfl
  unfold contains_Forms_1.p
  obtain ⟨b, hb⟩ := Option.isSome_iff_exists.1 h
  rw [hb]; rfl
def contains_Forms_1.f (l0 : List S56) : Option Bool := some (l0.any contains_Forms_1.p)
theorem contains_Forms_1.calls (A0 : Option Addr) (c0 : Nat) (l0 : List S56) (r : Bool) (w : World) (hr0 : Kd.C k56 w A0 l0.length l0) (_hc0 : l0.length ≤ c0) (h : contains_Forms_1.f l0 = some r) :
    Calls Tryz.prog 74 #[.slice A0 l0.length c0, .func (.func 75) #[] #[]] w fun e w' => e = .returned (.bool r) ∧ Below w.heap.size w w' := by
  obtain rfl := Option.some.inj h
  exact ContainsFunc_Table 75 (enters_ Tryz.func75 (by kernel_rfl) (by kernel_rfl)) contains_Forms_1.p (fun x W A1 c1 hl1 hr1 => (op_Forms_1.calls A1 c1 x.f0 _ W hr1 hl1 (contains_Forms_1.p_eq x)).mono fun e w' ⟨he, hd⟩ => ⟨he, hd⟩) A0 c0 l0 w hr0
end Go.Proofs.YtnbjflcfdncocaaGreat.M
namespace Go.Proofs.YtnbjflcfdncocaaGreat.M
open Go.RowKit Go.Proofs.YtnbjflcfdncocaaGreatW.PrintWords Go.Proofs.YtnbjflcfdncocaaGreatW.PrintLast Go.Proofs.YtnbjflcfdncocaaGreatW.PrintMore
attribute [local go_sem] max2_int min2_int max_two min_two max_three min_three max_four min_four
set_option linter.unusedVariables false
set_option linter.unusedSimpArgs false
def op_Forms_2.f (a0 : Int) : Option (Bool) := if a0 < 2 then (some true) else (some (decide (a0 > 4)))
set_option maxHeartbeats 8000000 in
set_option maxRecDepth 100000 in
theorem op_Forms_2.calls (a0 : Int) (r : Bool) (w : World) (h : op_Forms_2.f a0 = some r) :
  Calls Tryz.prog 77 #[.int .i64 a0] w fun e w' => e = .returned (.bool r) ∧ Drawn0 w w' := by
 have H : (if a0 < 2 then (some true) else (some (decide (a0 > 4)))) = some r := h
 clear h
 by_cases c2 : a0 < 2
 ·rw [if_pos c2] at H
  have c2b0 : decide (a0 < 2) = true := decide_eq_true c2
  clear c2
  obtain rfl := Option.some.inj H
  go_enter Tryz.func77, Tryz.ntmps77
  go_wp2
  go_ret
  exact ⟨by first | rfl | (simp; done) | (simp [*]; done), by repeat (first | exact Drawn0.refl _ | apply Drawn0.step)⟩
 ·rw [if_neg c2] at H
  have c2b0 : decide (a0 < 2) = false := decide_eq_false c2
  clear c2
  obtain rfl := Option.some.inj H
  go_enter Tryz.func77, Tryz.ntmps77
  go_wp2
  go_ret
  exact ⟨by first | rfl | (simp; done) | (simp [*]; done), by repeat (first | exact Drawn0.refl _ | apply Drawn0.step)⟩
end Go.Proofs.YtnbjflcfdncocaaGreat.M
namespace Go.Proofs.YtnbjflcfdncocaaGreat.M
open Go.RowKit Go.Proofs.YtnbjflcfdncocaaGreatW.PrintWords Go.Proofs.YtnbjflcfdncocaaGreatW.PrintLast Go.Proofs.YtnbjflcfdncocaaGreatW.PrintMore
def contains_Forms_2.p (x : Int) : Bool := (op_Forms_2.f x).getD false
theorem contains_Forms_2.p_eq (x : Int) : op_Forms_2.f x = some (contains_Forms_2.p x) := by
  have h : (op_Forms_2.f x).isSome = true := by
    unfold op_Forms_2.f; split <;> rfl
  unfold contains_Forms_2.p
  obtain ⟨b, hb⟩ := Option.isSome_iff_exists.1 h
  rw [hb]; rfl
def contains_Forms_2.f (l0 : List Int) : Option Bool := some (l0.any contains_Forms_2.p)
theorem contains_Forms_2.calls (A0 : Option Addr) (c0 : Nat) (l0 : List Int) (r : Bool) (w : World) (hr0 : Kd.C (Kd.int .i64) w A0 l0.length l0) (_hc0 : l0.length ≤ c0) (h : contains_Forms_2.f l0 = some r) :
    Calls Tryz.prog 76 #[.slice A0 l0.length c0, .func (.func 77) #[] #[]] w fun e w' => e = .returned (.bool r) ∧ Below w.heap.size w w' := by
  obtain rfl := Option.some.inj h
  exact ContainsFunc_int 77 (enters_ Tryz.func77 (by kernel_rfl) (by kernel_rfl)) contains_Forms_2.p (fun x W => (op_Forms_2.calls x _ W (contains_Forms_2.p_eq x)).mono fun e w' ⟨he, hd⟩ => ⟨he, hd.below⟩) A0 c0 l0 w hr0
end Go.Proofs.YtnbjflcfdncocaaGreat.M
namespace Go.Proofs.YtnbjflcfdncocaaGreat.M
open Go.RowKit Go.Proofs.YtnbjflcfdncocaaGreatW.PrintWords Go.Proofs.YtnbjflcfdncocaaGreatW.PrintLast Go.Proofs.YtnbjflcfdncocaaGreatW.PrintMore
attribute [local go_sem] max2_int min2_int max_two min_two max_three min_three max_four min_four
set_option linter.unusedVariables false
set_option linter.unusedSimpArgs false
mutual
def op_Forms.j0 : Nat → List (S56) → Bool → Option (Int)
 | 0, _, _ => none
 | k + 1, x0, x12 => if x12 = true then (some 2) else ((contains_Forms_1.f x0).bind fun t102 => (if t102 = true then (some 2) else (op_Forms.l0 k x0 (x0.length : Int) 0)))
def op_Forms.l0 : Nat → List (S56) → Int → Int → Option (Int)
 | 0, _, _, _ => none
 | k + 1, x15, x16, x17 => if x17 < x16 then (if 0 ≤ x17 then (if x17 < (x15.length : Int) then ((contains_Forms_2.f ((rd_T56 x15 x17).f0)).bind fun t105 => (if t105 = true then (some 10) else (op_Forms.l0 k x15 x16 (wrap64 (x17 + 1))))) else (none)) else (none)) else (some 0)
end
def op_Forms.f (k : Nat) (l0 : List (S56)) : Option (Int) := if (l0.length : Int) < 1 then (op_Forms.j0 k l0 true) else (op_Forms.j0 k l0 (decide ((l0.length : Int) > 3)))
set_option maxHeartbeats 8000000 in
set_option maxRecDepth 100000 in
theorem op_Forms.calls (k : Nat) (A0 : Option Addr) (c0 : Nat) (l0 : List (S56)) (r : Int) (w : World) (hr0 : Kd.C k56 w A0 l0.length l0) (hc0 : l0.length ≤ c0) (h : op_Forms.f k l0 = some r) :
  Calls Tryz.prog 39 #[.slice A0 l0.length c0] w fun e w' => e = .returned (.int .i64 r) ∧ Below w.heap.size w w' := by
 have hu56 := Tryz.underlying56
 have HR0 := Aside0.mk hr0
 have HC0 := Aside0.mk hc0
 clear hr0 hc0
 have HB := Aside0.mk (Below.refl w.heap.size w)
 have H : (if (l0.length : Int) < 1 then (op_Forms.j0 k l0 true) else (op_Forms.j0 k l0 (decide ((l0.length : Int) > 3)))) = some r := h
 clear h
 have HC2 := Aside0.mk H
 clear H
 go_enter Tryz.func39, Tryz.ntmps39
 go_upto_region 1 with (fail)
 go_cut [12] (fun v12 wc => ∃ (kq : Nat) (x12_1 : Bool), v12 = .bool x12_1 ∧ Aside0 (op_Forms.j0 kq l0 x12_1 = some r) ∧ Aside0 (kq ≤ k) ∧ Aside0 (Below w.heap.size w wc))
 case first =>
  have H := HC2.out
  clear HC2
  by_cases c3 : (l0.length : Int) < 1
  ·rw [if_pos c3] at H
   have c3b0 : decide ((l0.length : Int) < 1) = true := decide_eq_true c3
   have c3b1 : decide (l0.length < 1) = true := decide_eq_true (by omega)
   clear c3
   (first | rw [c3b0] | (simp only [i64_w, i32_w]; rw [c3b0]) | skip)
   have H' := Aside0.mk H
   clear H
   go_wp2
   go_meet
   case rel => exact ⟨_, (true), (by first | rfl | (simp; done) | (simp [*]; done)), H', ⟨by first | omega | exact Nat.le_refl _⟩, ⟨by with_reducible repeat (first | exact HB.out | apply below_alloc | apply pw_below_drewN | apply below_drew1)⟩⟩
  ·rw [if_neg c3] at H
   have c3b0 : decide ((l0.length : Int) < 1) = false := decide_eq_false c3
   have c3b1 : decide (l0.length < 1) = false := decide_eq_false (by omega)
   clear c3
   (first | rw [c3b0] | (simp only [i64_w, i32_w]; rw [c3b0]) | skip)
   have H' := Aside0.mk H
   clear H
   go_wp2
   go_meet
   case rel => exact ⟨_, (decide ((l0.length : Int) > 3)), (by first | rfl | (simp; done) | (simp [*]; done)), H', ⟨by first | omega | exact Nat.le_refl _⟩, ⟨by with_reducible repeat (first | exact HB.out | apply below_alloc | apply pw_below_drewN | apply below_drew1)⟩⟩
 case rest =>
  clear HC2
  try clear p2
  try clear c3
  try clear c3b0
  try clear c3b1
  obtain ⟨kq, x12_1, rfl, HA, HJ1, HB⟩ := hcut
  cases kq with
  | zero => exact absurd HA.out (by simp [op_Forms.j0])
  | succ kj1 =>
   have H := HA.out
   clear HA
   simp only [op_Forms.j0] at H
   by_cases c4 : x12_1 = true
   ·subst c4
    rw [if_pos rfl] at H
    obtain rfl := Option.some.inj H
    go_wp2
    go_ret
    exact ⟨by first | rfl | (simp [errW_none, errW_some] <;> rfl) | (simp [*, errW_none, errW_some] <;> rfl), by with_reducible repeat (first | exact HB.out | apply below_alloc | apply pw_below_drewN | apply below_drew1)⟩
   ·replace c4 := Bool.eq_false_iff.mpr c4
    subst c4
    rw [if_neg (show ¬ (false = true) by decide)] at H
    replace H := Option.bind_eq_some_iff.mp H
    obtain ⟨t102, A50, H⟩ := H
    try dsimp only at H
    have A5 := Aside0.mk A50
    clear A50
    by_cases c6 : t102 = true
    ·subst c6
     rw [if_pos rfl] at H
     obtain rfl := Option.some.inj H
     go_wp2_with (first | (go_at_call 74; (with_reducible refine (contains_Forms_1.calls _ _ l0 true _ ?side1 ?side2 A5.out).mono ?_); (case side1 => repeat (first | exact (Kd.C_below HR0.out HB.out) | (with_reducible refine Kd.C_alloc ?_ _) | (with_reducible refine Kd.C_drewN ?_ _) | (with_reducible refine Kd.C_drew ?_))); (case side2 => exact HC0.out); rintro e w7 ⟨rfl, hb⟩; have n0_ := Aside0.mk (below_step (by with_reducible repeat (first | exact HB.out | apply below_alloc | apply pw_below_drewN | apply below_drew1)) hb); clear HB; have HB := n0_; clear n0_; (try clear hb); (try clear hb2); (try clear hk); (try clear hi)))
     go_ret
     exact ⟨by first | rfl | (simp [errW_none, errW_some] <;> rfl) | (simp [*, errW_none, errW_some] <;> rfl), by with_reducible repeat (first | exact HB.out | apply below_alloc | apply pw_below_drewN | apply below_drew1)⟩
    ·replace c6 := Bool.eq_false_iff.mpr c6
     subst c6
     rw [if_neg (show ¬ (false = true) by decide)] at H
     have H' := Aside0.mk H
     clear H
     go_wp2_with (first | (go_at_call 74; (with_reducible refine (contains_Forms_1.calls _ _ l0 false _ ?side1 ?side2 A5.out).mono ?_); (case side1 => repeat (first | exact (Kd.C_below HR0.out HB.out) | (with_reducible refine Kd.C_alloc ?_ _) | (with_reducible refine Kd.C_drewN ?_ _) | (with_reducible refine Kd.C_drew ?_))); (case side2 => exact HC0.out); rintro e w8 ⟨rfl, hb⟩; have n0_ := Aside0.mk (below_step (by with_reducible repeat (first | exact HB.out | apply below_alloc | apply pw_below_drewN | apply below_drew1)) hb); clear HB; have HB := n0_; clear n0_; (try clear hb); (try clear hb2); (try clear hk); (try clear hi)))
     go_loopg [17] kj1 (fun kq v17 w' => ∃ (x17_2 : Int), v17 = .int .i64 x17_2 ∧ Aside0 (op_Forms.l0 kq l0 (l0.length : Int) x17_2 = some r) ∧ Aside0 (kq ≤ kj1) ∧ Aside0 (Below w.heap.size w w'))
     case atStart => exact ⟨(0), (by first | rfl | (simp; done) | (simp [*]; done)), H', ⟨Nat.le_refl _⟩, ⟨by with_reducible repeat (first | exact HB.out | apply below_alloc | apply pw_below_drewN | apply below_drew1)⟩⟩
     case round =>
      clear H'
      try clear p2
      try clear c3
      try clear c3b0
      try clear c3b1
      try clear c4
      try clear c6
      try clear p2
      obtain ⟨x17_2, rfl, HA, HK2, HB⟩ := hrel
      cases gk with
      | zero => exact absurd HA.out (by simp [op_Forms.l0])
      | succ k2 =>
       have H := HA.out
       clear HA
       simp only [op_Forms.l0] at H
       by_cases c9 : x17_2 < (l0.length : Int)
       ·rw [if_pos c9] at H
        have c9b0 : decide (x17_2 < (l0.length : Int)) = true := decide_eq_true c9
        clear c9
        by_cases c10 : 0 ≤ x17_2
        ·rw [if_pos c10] at H
         have c10b0 : decide (0 ≤ x17_2) = true := decide_eq_true c10
         clear c10
         by_cases c11 : x17_2 < (l0.length : Int)
         ·rw [if_pos c11] at H
          have c11b0 : decide (x17_2 < (l0.length : Int)) = true := decide_eq_true c11
          clear c11
          replace H := Option.bind_eq_some_iff.mp H
          obtain ⟨t105, A120, H⟩ := H
          try dsimp only at H
          have A12 := Aside0.mk A120
          clear A120
          by_cases c13 : t105 = true
          ·subst c13
           rw [if_pos rfl] at H
           obtain rfl := Option.some.inj H
           have p103 : 0 ≤ (x17_2 : Int) := of_decide_eq_true (by first | (with_reducible assumption) | assumption)
           have q103 : x17_2 < (l0.length : Int) := of_decide_eq_true (by first | (with_reducible assumption) | assumption)
           obtain ⟨ad103, A103_0, c103_0, e103, hx103_0, hl103_0, hi103_0⟩ := at_T56 HR0.out x17_2 p103 q103
           cases e103
           replace hx103_0 := (HB.out.cell (World.block_lt_of_cell? w _ hx103_0)).trans hx103_0
           have HR103_0 := Aside0.mk hi103_0
           have HC103_0 := Aside0.mk hl103_0
           clear hi103_0 hl103_0
           replace p103 := eq_true p103
           replace q103 := eq_true q103
           go_wp2_with (first | ((with_reducible refine gate_dst (N := 4) rfl ?_); (try (refine gate_guard (by rfl) ?_; dsimp only)); refine box_event ?hg (N := 4) ?hd (cs := #[.slice none 0 0]) (t := 56) ?hr ?_; (case hd => rfl); (case hg => rfl); (case hr => first | (go_simp; done) | (go_simp; rfl)); intro gb104 hg w14 hbox hb; have n0_ := Aside0.mk (below_step (by with_reducible repeat (first | exact HB.out | apply below_alloc | apply pw_below_drewN | apply below_drew1)) hb); have n1_ := Aside0.mk (hbox); have n2_ := Aside0.mk ((by rw [hg]; exact (below_size (by with_reducible repeat (first | exact HB.out | apply below_alloc | apply pw_below_drewN | apply below_drew1))) : w.heap.size ≤ gb104)); have n3_ := Aside0.mk ((by rw [hg]; exact (below_size (by with_reducible repeat (first | exact HB.out | apply below_alloc | apply pw_below_drewN | apply below_drew1))) : w.heap.size ≤ gb104)); clear HB; have HB := n0_; have BK104 := n1_; have GW104 := n2_; have GE104 := n3_; clear n0_ n1_ n2_ n3_; clear hb hbox hg; have hcz15_0 : w14.cell? ⟨gb104, 0, none⟩ = some (.slice none 0 0) := (blk_cell BK104.out 0).trans rfl; have hfz15_0 := blk_frozen BK104.out 0) | (go_at_call 76; (with_reducible refine (contains_Forms_2.calls _ _ ((rd_T56 l0 x17_2).f0) true _ ?side1 ?side2 A12.out).mono ?_); (case side1 => exact Kd.C_below HR103_0.out (by with_reducible repeat (first | exact HB.out | apply below_alloc | apply pw_below_drewN | apply below_drew1 | refine below_set ?_ GE104.out))); (case side2 => exact HC103_0.out); rintro e w16 ⟨rfl, hb⟩; have n0_ := Aside0.mk (blk_below (g := gb104) (o := .cells #[.slice A103_0 ((rd_T56 l0 x17_2).f0).length c103_0] 56 (0, 0)) (by (with_reducible repeat (first | refine blk_drewN ?_ _ | refine blk_drew ?_ | refine blk_alloc ?_ _)); refine blk_put (cs := #[.slice none 0 0]) ?_ 0 _ rfl; (with_reducible repeat (first | refine blk_drewN ?_ _ | refine blk_drew ?_ | refine blk_alloc ?_ _)); exact BK104.out) hb); have n1_ := Aside0.mk (below_step (by with_reducible repeat (first | exact HB.out | apply below_alloc | apply pw_below_drewN | apply below_drew1 | refine below_set ?_ GE104.out)) hb); clear BK104; clear HB; have BK104 := n0_; have HB := n1_; clear n0_ n1_; (try clear hb); (try clear hb2); (try clear hk); (try clear hi)))
           go_ret
           exact ⟨by first | rfl | (simp [errW_none, errW_some] <;> rfl) | (simp [*, errW_none, errW_some] <;> rfl), by with_reducible repeat (first | exact HB.out | apply below_alloc | apply pw_below_drewN | apply below_drew1 | refine below_set ?_ GE104.out)⟩
          ·replace c13 := Bool.eq_false_iff.mpr c13
           subst c13
           rw [if_neg (show ¬ (false = true) by decide)] at H
           have H' := Aside0.mk H
           clear H
           have p103 : 0 ≤ (x17_2 : Int) := of_decide_eq_true (by first | (with_reducible assumption) | assumption)
           have q103 : x17_2 < (l0.length : Int) := of_decide_eq_true (by first | (with_reducible assumption) | assumption)
           obtain ⟨ad103, A103_0, c103_0, e103, hx103_0, hl103_0, hi103_0⟩ := at_T56 HR0.out x17_2 p103 q103
           cases e103
           replace hx103_0 := (HB.out.cell (World.block_lt_of_cell? w _ hx103_0)).trans hx103_0
           have HR103_0 := Aside0.mk hi103_0
           have HC103_0 := Aside0.mk hl103_0
           clear hi103_0 hl103_0
           replace p103 := eq_true p103
           replace q103 := eq_true q103
           go_wp2_with (first | ((with_reducible refine gate_dst (N := 4) rfl ?_); (try (refine gate_guard (by rfl) ?_; dsimp only)); refine box_event ?hg (N := 4) ?hd (cs := #[.slice none 0 0]) (t := 56) ?hr ?_; (case hd => rfl); (case hg => rfl); (case hr => first | (go_simp; done) | (go_simp; rfl)); intro gb104 hg w17 hbox hb; have n0_ := Aside0.mk (below_step (by with_reducible repeat (first | exact HB.out | apply below_alloc | apply pw_below_drewN | apply below_drew1)) hb); have n1_ := Aside0.mk (hbox); have n2_ := Aside0.mk ((by rw [hg]; exact (below_size (by with_reducible repeat (first | exact HB.out | apply below_alloc | apply pw_below_drewN | apply below_drew1))) : w.heap.size ≤ gb104)); have n3_ := Aside0.mk ((by rw [hg]; exact (below_size (by with_reducible repeat (first | exact HB.out | apply below_alloc | apply pw_below_drewN | apply below_drew1))) : w.heap.size ≤ gb104)); clear HB; have HB := n0_; have BK104 := n1_; have GW104 := n2_; have GE104 := n3_; clear n0_ n1_ n2_ n3_; clear hb hbox hg; have hcz18_0 : w17.cell? ⟨gb104, 0, none⟩ = some (.slice none 0 0) := (blk_cell BK104.out 0).trans rfl; have hfz18_0 := blk_frozen BK104.out 0) | (go_at_call 76; (with_reducible refine (contains_Forms_2.calls _ _ ((rd_T56 l0 x17_2).f0) false _ ?side1 ?side2 A12.out).mono ?_); (case side1 => exact Kd.C_below HR103_0.out (by with_reducible repeat (first | exact HB.out | apply below_alloc | apply pw_below_drewN | apply below_drew1 | refine below_set ?_ GE104.out))); (case side2 => exact HC103_0.out); rintro e w19 ⟨rfl, hb⟩; have n0_ := Aside0.mk (blk_below (g := gb104) (o := .cells #[.slice A103_0 ((rd_T56 l0 x17_2).f0).length c103_0] 56 (0, 0)) (by (with_reducible repeat (first | refine blk_drewN ?_ _ | refine blk_drew ?_ | refine blk_alloc ?_ _)); refine blk_put (cs := #[.slice none 0 0]) ?_ 0 _ rfl; (with_reducible repeat (first | refine blk_drewN ?_ _ | refine blk_drew ?_ | refine blk_alloc ?_ _)); exact BK104.out) hb); have n1_ := Aside0.mk (below_step (by with_reducible repeat (first | exact HB.out | apply below_alloc | apply pw_below_drewN | apply below_drew1 | refine below_set ?_ GE104.out)) hb); clear BK104; clear HB; have BK104 := n0_; have HB := n1_; clear n0_ n1_; (try clear hb); (try clear hb2); (try clear hk); (try clear hi)))
           go_roundg k2
           case measure => have := HJ1.out; have := HK2.out; omega
           case rel => exact ⟨(wrap64 (x17_2 + 1)), (by first | rfl | (simp; done) | (simp [*]; done)), H', ⟨by have := HJ1.out; have := HK2.out; omega⟩, ⟨by with_reducible repeat (first | exact HB.out | apply below_alloc | apply pw_below_drewN | apply below_drew1 | refine below_set ?_ GE104.out)⟩⟩
         ·rw [if_neg c11] at H
          exact absurd H (by simp)
        ·rw [if_neg c10] at H
         exact absurd H (by simp)
       ·rw [if_neg c9] at H
        have c9b0 : decide (x17_2 < (l0.length : Int)) = false := decide_eq_false c9
        clear c9
        obtain rfl := Option.some.inj H
        go_wp2
        go_ret
        exact ⟨by first | rfl | (simp [errW_none, errW_some] <;> rfl) | (simp [*, errW_none, errW_some] <;> rfl), by with_reducible repeat (first | exact HB.out | apply below_alloc | apply pw_below_drewN | apply below_drew1)⟩
def dot_Check_1.f (a0 : Int) : Option (Bool) := if a0 < 0 then (some true) else (some (decide (a0 > 1073741824)))
set_option maxHeartbeats 8000000 in
set_option maxRecDepth 100000 in
theorem dot_Check_1.calls (a0 : Int) (r : Bool) (w : World) (h : dot_Check_1.f a0 = some r) :
  Calls Tryz.prog 128 #[.int .i64 a0] w fun e w' => e = .returned (.bool r) ∧ Drawn0 w w' := by
 have H : (if a0 < 0 then (some true) else (some (decide (a0 > 1073741824)))) = some r := h
 clear h
 by_cases c2 : a0 < 0
 ·rw [if_pos c2] at H
  have c2b0 : decide (a0 < 0) = true := decide_eq_true c2
  clear c2
  obtain rfl := Option.some.inj H
  go_enter Tryz.func128, Tryz.ntmps128
  go_wp2
  go_ret
  exact ⟨by first | rfl | (simp; done) | (simp [*]; done), by repeat (first | exact Drawn0.refl _ | apply Drawn0.step)⟩
 ·rw [if_neg c2] at H
  have c2b0 : decide (a0 < 0) = false := decide_eq_false c2
  clear c2
  obtain rfl := Option.some.inj H
  go_enter Tryz.func128, Tryz.ntmps128
  go_wp2
  go_ret
  exact ⟨by first | rfl | (simp; done) | (simp [*]; done), by repeat (first | exact Drawn0.refl _ | apply Drawn0.step)⟩
end Go.Proofs.YtnbjflcfdncocaaGreat.M
namespace Go.Proofs.YtnbjflcfdncocaaGreat.M
open Go.RowKit Go.Proofs.YtnbjflcfdncocaaGreatW.PrintWords Go.Proofs.YtnbjflcfdncocaaGreatW.PrintLast Go.Proofs.YtnbjflcfdncocaaGreatW.PrintMore
def contains_Check_1.p (x : Int) : Bool := (dot_Check_1.f x).getD false
theorem contains_Check_1.p_eq (x : Int) : dot_Check_1.f x = some (contains_Check_1.p x) := by
  have h : (dot_Check_1.f x).isSome = true := by
    unfold dot_Check_1.f; split <;> rfl
  unfold contains_Check_1.p
  obtain ⟨b, hb⟩ := Option.isSome_iff_exists.1 h
  rw [hb]; rfl
def contains_Check_1.f (l0 : List Int) : Option Bool := some (l0.any contains_Check_1.p)
theorem contains_Check_1.calls (A0 : Option Addr) (c0 : Nat) (l0 : List Int) (r : Bool) (w : World) (hr0 : Kd.C (Kd.int .i64) w A0 l0.length l0) (_hc0 : l0.length ≤ c0) (h : contains_Check_1.f l0 = some r) :
    Calls Tryz.prog 76 #[.slice A0 l0.length c0, .func (.func 128) #[] #[]] w fun e w' => e = .returned (.bool r) ∧ Below w.heap.size w w' := by
  obtain rfl := Option.some.inj h
  exact ContainsFunc_int 128 (enters_ Tryz.func128 (by kernel_rfl) (by kernel_rfl)) contains_Check_1.p (fun x W => (dot_Check_1.calls x _ W (contains_Check_1.p_eq x)).mono fun e w' ⟨he, hd⟩ => ⟨he, hd.below⟩) A0 c0 l0 w hr0
end Go.Proofs.YtnbjflcfdncocaaGreat.M
namespace Go.Proofs.YtnbjflcfdncocaaGreat.M
open Go.RowKit Go.Proofs.YtnbjflcfdncocaaGreatW.PrintWords Go.Proofs.YtnbjflcfdncocaaGreatW.PrintLast Go.Proofs.YtnbjflcfdncocaaGreatW.PrintMore
attribute [local go_sem] max2_int min2_int max_two min_two max_three min_three max_four min_four
set_option linter.unusedVariables false
set_option linter.unusedSimpArgs false
def dot_Check.j0 : Nat → List Int → Bool → Option (Int)
 | 0, _, _ => none
 | k + 1, x0, x3 => if x3 = true then (some 2) else ((contains_Check_1.f x0).bind fun t106 => (if t106 = true then (some 1) else (some 0)))
def dot_Check.f (k : Nat) (l0 : List Int) : Option (Int) := if (l0.length : Int) < 1 then (dot_Check.j0 k l0 true) else (dot_Check.j0 k l0 (decide ((l0.length : Int) > 5)))
set_option maxHeartbeats 8000000 in
set_option maxRecDepth 100000 in
theorem dot_Check.calls (k : Nat) (A0 : Option Addr) (c0 : Nat) (l0 : List Int) (r : Int) (w : World) (hr0 : Kd.C (Kd.int .i64) w A0 l0.length l0) (hc0 : l0.length ≤ c0) (h : dot_Check.f k l0 = some r) :
  Calls Tryz.prog 108 #[.slice A0 l0.length c0] w fun e w' => e = .returned (.int .i64 r) ∧ Below w.heap.size w w' := by
 have HR0 := Aside0.mk hr0
 have HC0 := Aside0.mk hc0
 clear hr0 hc0
 have HB := Aside0.mk (Below.refl w.heap.size w)
 have H : (if (l0.length : Int) < 1 then (dot_Check.j0 k l0 true) else (dot_Check.j0 k l0 (decide ((l0.length : Int) > 5)))) = some r := h
 clear h
 have HC2 := Aside0.mk H
 clear H
 go_enter Tryz.func108, Tryz.ntmps108
 go_upto_region 1 with (fail)
 go_cut [3] (fun v3 wc => ∃ (kq : Nat) (x3_1 : Bool), v3 = .bool x3_1 ∧ Aside0 (dot_Check.j0 kq l0 x3_1 = some r) ∧ Aside0 (kq ≤ k) ∧ Aside0 (Below w.heap.size w wc))
 case first =>
  have H := HC2.out
  clear HC2
  by_cases c3 : (l0.length : Int) < 1
  ·rw [if_pos c3] at H
   have c3b0 : decide ((l0.length : Int) < 1) = true := decide_eq_true c3
   have c3b1 : decide (l0.length < 1) = true := decide_eq_true (by omega)
   clear c3
   (first | rw [c3b0] | (simp only [i64_w, i32_w]; rw [c3b0]) | skip)
   have H' := Aside0.mk H
   clear H
   go_wp2
   go_meet
   case rel => exact ⟨_, (true), (by first | rfl | (simp; done) | (simp [*]; done)), H', ⟨by first | omega | exact Nat.le_refl _⟩, ⟨by with_reducible repeat (first | exact HB.out | apply below_alloc | apply pw_below_drewN | apply below_drew1)⟩⟩
  ·rw [if_neg c3] at H
   have c3b0 : decide ((l0.length : Int) < 1) = false := decide_eq_false c3
   have c3b1 : decide (l0.length < 1) = false := decide_eq_false (by omega)
   clear c3
   (first | rw [c3b0] | (simp only [i64_w, i32_w]; rw [c3b0]) | skip)
   have H' := Aside0.mk H
   clear H
   go_wp2
   go_meet
   case rel => exact ⟨_, (decide ((l0.length : Int) > 5)), (by first | rfl | (simp; done) | (simp [*]; done)), H', ⟨by first | omega | exact Nat.le_refl _⟩, ⟨by with_reducible repeat (first | exact HB.out | apply below_alloc | apply pw_below_drewN | apply below_drew1)⟩⟩
 case rest =>
  clear HC2
  try clear c1
  try clear p2
  try clear c3
  try clear c3b0
  try clear c3b1
  obtain ⟨kq, x3_1, rfl, HA, HJ1, HB⟩ := hcut
  cases kq with
  | zero => exact absurd HA.out (by simp [dot_Check.j0])
  | succ kj1 =>
   have H := HA.out
   clear HA
   simp only [dot_Check.j0] at H
   by_cases c4 : x3_1 = true
   ·subst c4
    rw [if_pos rfl] at H
    obtain rfl := Option.some.inj H
    go_wp2
    go_ret
    exact ⟨by first | rfl | (simp [errW_none, errW_some] <;> rfl) | (simp [*, errW_none, errW_some] <;> rfl), by with_reducible repeat (first | exact HB.out | apply below_alloc | apply pw_below_drewN | apply below_drew1)⟩
   ·replace c4 := Bool.eq_false_iff.mpr c4
    subst c4
    rw [if_neg (show ¬ (false = true) by decide)] at H
    replace H := Option.bind_eq_some_iff.mp H
    obtain ⟨t106, A50, H⟩ := H
    try dsimp only at H
    have A5 := Aside0.mk A50
    clear A50
    by_cases c6 : t106 = true
    ·subst c6
     rw [if_pos rfl] at H
     obtain rfl := Option.some.inj H
     go_wp2_with (first | (go_at_call 76; (with_reducible refine (contains_Check_1.calls _ _ l0 true _ ?side1 ?side2 A5.out).mono ?_); (case side1 => repeat (first | exact (Kd.C_below HR0.out HB.out) | (with_reducible refine Kd.C_alloc ?_ _) | (with_reducible refine Kd.C_drewN ?_ _) | (with_reducible refine Kd.C_drew ?_))); (case side2 => exact HC0.out); rintro e w7 ⟨rfl, hb⟩; have n0_ := Aside0.mk (below_step (by with_reducible repeat (first | exact HB.out | apply below_alloc | apply pw_below_drewN | apply below_drew1)) hb); clear HB; have HB := n0_; clear n0_; (try clear hb); (try clear hb2); (try clear hk); (try clear hi)))
     go_ret
     exact ⟨by first | rfl | (simp [errW_none, errW_some] <;> rfl) | (simp [*, errW_none, errW_some] <;> rfl), by with_reducible repeat (first | exact HB.out | apply below_alloc | apply pw_below_drewN | apply below_drew1)⟩
    ·replace c6 := Bool.eq_false_iff.mpr c6
     subst c6
     rw [if_neg (show ¬ (false = true) by decide)] at H
     obtain rfl := Option.some.inj H
     go_wp2_with (first | (go_at_call 76; (with_reducible refine (contains_Check_1.calls _ _ l0 false _ ?side1 ?side2 A5.out).mono ?_); (case side1 => repeat (first | exact (Kd.C_below HR0.out HB.out) | (with_reducible refine Kd.C_alloc ?_ _) | (with_reducible refine Kd.C_drewN ?_ _) | (with_reducible refine Kd.C_drew ?_))); (case side2 => exact HC0.out); rintro e w8 ⟨rfl, hb⟩; have n0_ := Aside0.mk (below_step (by with_reducible repeat (first | exact HB.out | apply below_alloc | apply pw_below_drewN | apply below_drew1)) hb); clear HB; have HB := n0_; clear n0_; (try clear hb); (try clear hb2); (try clear hk); (try clear hi)))
     go_ret
     exact ⟨by first | rfl | (simp [errW_none, errW_some] <;> rfl) | (simp [*, errW_none, errW_some] <;> rfl), by with_reducible repeat (first | exact HB.out | apply below_alloc | apply pw_below_drewN | apply below_drew1)⟩
def dot_Le_1.f (a0 : Int) (a1 : Int) : Option (Bool) := some (decide (a0 ≤ a1))
set_option maxHeartbeats 8000000 in
set_option maxRecDepth 100000 in
theorem dot_Le_1.calls (a0 : Int) (a1 : Int) (r : Bool) (w : World) (h : dot_Le_1.f a0 a1 = some r) :
  Calls Tryz.prog 130 #[.int .i64 a0, .int .i64 a1] w fun e w' => e = .returned (.bool r) ∧ Drawn0 w w' := by
 have H : (some (decide (a0 ≤ a1))) = some r := h
 clear h
 obtain rfl := Option.some.inj H
 go_enter Tryz.func130, Tryz.ntmps130
 go_wp2
 go_ret
 exact ⟨by first | rfl | (simp; done) | (simp [*]; done), by repeat (first | exact Drawn0.refl _ | apply Drawn0.step)⟩
end Go.Proofs.YtnbjflcfdncocaaGreat.M
namespace Go.Proofs.YtnbjflcfdncocaaGreat.M
open Go.RowKit Go.Proofs.YtnbjflcfdncocaaGreatW.PrintWords Go.Proofs.YtnbjflcfdncocaaGreatW.PrintLast Go.Proofs.YtnbjflcfdncocaaGreatW.PrintMore
def equal_Le_1.p (x : Int) (y : Int) : Bool := (dot_Le_1.f x y).getD false
theorem equal_Le_1.p_eq (x : Int) (y : Int) : dot_Le_1.f x y = some (equal_Le_1.p x y) := by
  have h : (dot_Le_1.f x y).isSome = true := by
    rfl
  unfold equal_Le_1.p
  obtain ⟨b, hb⟩ := Option.isSome_iff_exists.1 h
  rw [hb]; rfl
def equal_Le_1.f (l0 : List Int) (l1 : List Int) : Option Bool := some (allF equal_Le_1.p l0 l1)
theorem equal_Le_1.calls (A0 : Option Addr) (c0 : Nat) (l0 : List Int) (A1 : Option Addr) (c1 : Nat) (l1 : List Int) (r : Bool) (w : World) (hr0 : Kd.C (Kd.int .i64) w A0 l0.length l0) (_hc0 : l0.length ≤ c0) (hr1 : Kd.C (Kd.int .i64) w A1 l1.length l1) (_hc1 : l1.length ≤ c1) (h : equal_Le_1.f l0 l1 = some r) :
    Calls Tryz.prog 129 #[.slice A0 l0.length c0, .slice A1 l1.length c1, .func (.func 130) #[] #[]] w fun e w' => e = .returned (.bool r) ∧ Below w.heap.size w w' := by
  obtain rfl := Option.some.inj h
  exact EqualFunc_int_int 130 (enters_ Tryz.func130 (by kernel_rfl) (by kernel_rfl)) equal_Le_1.p (fun x y W => (dot_Le_1.calls x y _ W (equal_Le_1.p_eq x y)).mono fun e w' ⟨he, hd⟩ => ⟨he, hd.below⟩) A0 c0 l0 A1 c1 l1 w hr0 hr1
end Go.Proofs.YtnbjflcfdncocaaGreat.M
namespace Go.Proofs.YtnbjflcfdncocaaGreat.M
open Go.RowKit Go.Proofs.YtnbjflcfdncocaaGreatW.PrintWords Go.Proofs.YtnbjflcfdncocaaGreatW.PrintLast Go.Proofs.YtnbjflcfdncocaaGreatW.PrintMore
attribute [local go_sem] max2_int min2_int max_two min_two max_three min_three max_four min_four
set_option linter.unusedVariables false
set_option linter.unusedSimpArgs false
def dot_Le.f (l0 : List Int) (l1 : List Int) : Option (Bool) := (equal_Le_1.f l0 l1).bind fun t159 => (some t159)
set_option maxHeartbeats 8000000 in
set_option maxRecDepth 100000 in
theorem dot_Le.calls (A0 : Option Addr) (c0 : Nat) (l0 : List Int) (A1 : Option Addr) (c1 : Nat) (l1 : List Int) (r : Bool) (w : World) (hr0 : Kd.C (Kd.int .i64) w A0 l0.length l0) (hc0 : l0.length ≤ c0) (hr1 : Kd.C (Kd.int .i64) w A1 l1.length l1) (hc1 : l1.length ≤ c1) (h : dot_Le.f l0 l1 = some r) :
  Calls Tryz.prog 109 #[.slice A0 l0.length c0, .slice A1 l1.length c1] w fun e w' => e = .returned (.bool r) ∧ Below w.heap.size w w' := by
 have HR0 := Aside0.mk hr0
 have HC0 := Aside0.mk hc0
 clear hr0 hc0
 have HR1 := Aside0.mk hr1
 have HC1 := Aside0.mk hc1
 clear hr1 hc1
 have HB := Aside0.mk (Below.refl w.heap.size w)
 have H : ((equal_Le_1.f l0 l1).bind fun t159 => (some t159)) = some r := h
 clear h
 replace H := Option.bind_eq_some_iff.mp H
 obtain ⟨t159, A30, H⟩ := H
 try dsimp only at H
 have A3 := Aside0.mk A30
 clear A30
 obtain rfl := Option.some.inj H
 go_enter Tryz.func109, Tryz.ntmps109
 go_wp2_with (first | (go_at_call 129; (with_reducible refine (equal_Le_1.calls _ _ l0 _ _ l1 t159 _ ?side1 ?side2 ?side3 ?side4 A3.out).mono ?_); (case side1 => repeat (first | exact HR0.out | (with_reducible refine Kd.C_alloc ?_ _) | (with_reducible refine Kd.C_drewN ?_ _) | (with_reducible refine Kd.C_drew ?_))); (case side2 => exact HC0.out); (case side3 => repeat (first | exact HR1.out | (with_reducible refine Kd.C_alloc ?_ _) | (with_reducible refine Kd.C_drewN ?_ _) | (with_reducible refine Kd.C_drew ?_))); (case side4 => exact HC1.out); rintro e w4 ⟨rfl, hb⟩; have n0_ := Aside0.mk (below_step (by with_reducible repeat (first | exact HB.out | apply below_alloc | apply pw_below_drewN | apply below_drew1)) hb); clear HB; have HB := n0_; clear n0_; (try clear hb); (try clear hb2); (try clear hk); (try clear hi)))
 go_ret
 exact ⟨by first | rfl | (simp [errW_none, errW_some] <;> rfl) | (simp [*, errW_none, errW_some] <;> rfl), by with_reducible repeat (first | exact HB.out | apply below_alloc | apply pw_below_drewN | apply below_drew1)⟩
def msg_tells.f (k : Nat) (a0 : Int) (a1_0 : Int) (a1_1 : Int) (a1_2 : Int) (l1_3 : List Int) (l1_4 : List Int) (l1_5 : List (S52)) : Option (Bool) := if (l1_3.length : Int) = a0 then ((dot_Check.f k l1_3).bind fun t161 => (if t161 = 0 then ((dot_Check.f k l1_4).bind fun t162 => (if t162 = 0 then ((dot_Le.f l1_4 l1_3).bind fun t163 => (some t163)) else (some false))) else (some false))) else (some false)
set_option maxHeartbeats 8000000 in
set_option maxRecDepth 100000 in
theorem msg_tells.calls (k : Nat) (a0 : Int) (a1_0 : Int) (a1_1 : Int) (a1_2 : Int) (A1_3 : Option Addr) (c1_3 : Nat) (l1_3 : List Int) (A1_4 : Option Addr) (c1_4 : Nat) (l1_4 : List Int) (A1_5 : Option Addr) (c1_5 : Nat) (l1_5 : List (S52)) (r : Bool) (w : World) (hr1_3 : Kd.C (Kd.int .i64) w A1_3 l1_3.length l1_3) (hc1_3 : l1_3.length ≤ c1_3) (hr1_4 : Kd.C (Kd.int .i64) w A1_4 l1_4.length l1_4) (hc1_4 : l1_4.length ≤ c1_4) (hr1_5 : Kd.C k52 w A1_5 l1_5.length l1_5) (hc1_5 : l1_5.length ≤ c1_5) (h : msg_tells.f k a0 a1_0 a1_1 a1_2 l1_3 l1_4 l1_5 = some r) :
  Calls Tryz.prog 81 #[.int .i64 a0, .agg #[.int .i64 a1_0, .int .i64 a1_1, .int .i64 a1_2, .slice A1_3 l1_3.length c1_3, .slice A1_4 l1_4.length c1_4, .slice A1_5 l1_5.length c1_5]] w fun e w' => e = .returned (.bool r) ∧ Below w.heap.size w w' := by
 have hu26 := Tryz.underlying26
 have HR1_3 := Aside0.mk hr1_3
 have HC1_3 := Aside0.mk hc1_3
 clear hr1_3 hc1_3
 have HR1_4 := Aside0.mk hr1_4
 have HC1_4 := Aside0.mk hc1_4
 clear hr1_4 hc1_4
 have HR1_5 := Aside0.mk hr1_5
 have HC1_5 := Aside0.mk hc1_5
 clear hr1_5 hc1_5
 have HB := Aside0.mk (Below.refl w.heap.size w)
 have H : (if (l1_3.length : Int) = a0 then ((dot_Check.f k l1_3).bind fun t161 => (if t161 = 0 then ((dot_Check.f k l1_4).bind fun t162 => (if t162 = 0 then ((dot_Le.f l1_4 l1_3).bind fun t163 => (some t163)) else (some false))) else (some false))) else (some false)) = some r := h
 clear h
 by_cases c3 : (l1_3.length : Int) = a0
 ·rw [if_pos c3] at H
  have c3b0 : ((l1_3.length : Int) == a0) = true := beq_iff_eq.mpr c3
  have c3b1 : ((l1_3.length : Int) != a0) = false := bne_eq_false_iff_eq.mpr c3
  clear c3
  replace H := Option.bind_eq_some_iff.mp H
  obtain ⟨t161, A40, H⟩ := H
  try dsimp only at H
  have A4 := Aside0.mk A40
  clear A40
  by_cases c5 : t161 = 0
  ·rw [if_pos c5] at H
   have c5b0 : (t161 == 0) = true := beq_iff_eq.mpr c5
   have c5b1 : (t161 != 0) = false := bne_eq_false_iff_eq.mpr c5
   clear c5
   replace H := Option.bind_eq_some_iff.mp H
   obtain ⟨t162, A60, H⟩ := H
   try dsimp only at H
   have A6 := Aside0.mk A60
   clear A60
   by_cases c7 : t162 = 0
   ·rw [if_pos c7] at H
    have c7b0 : (t162 == 0) = true := beq_iff_eq.mpr c7
    have c7b1 : (t162 != 0) = false := bne_eq_false_iff_eq.mpr c7
    clear c7
    replace H := Option.bind_eq_some_iff.mp H
    obtain ⟨t163, A80, H⟩ := H
    try dsimp only at H
    have A8 := Aside0.mk A80
    clear A80
    obtain rfl := Option.some.inj H
    go_enter Tryz.func81, Tryz.ntmps81
    go_wp2_with (first | ((with_reducible refine gate_dst (N := 3) rfl ?_); refine box_event ?hg (N := 3) ?hd (cs := #[.int .i64 a1_0, .int .i64 a1_1, .int .i64 a1_2, .slice A1_3 l1_3.length c1_3, .slice A1_4 l1_4.length c1_4, .slice A1_5 l1_5.length c1_5]) (t := 26) ?hr ?_; (case hd => rfl); (case hg => rfl); (case hr => first | (go_simp; done) | (go_simp; rfl)); intro gb160 hg w9 hbox hb; have n0_ := Aside0.mk (below_step (by with_reducible repeat (first | exact HB.out | apply below_alloc | apply pw_below_drewN | apply below_drew1)) hb); have n1_ := Aside0.mk (hbox); have n2_ := Aside0.mk ((by rw [hg]; exact (below_size (by with_reducible repeat (first | exact HB.out | apply below_alloc | apply pw_below_drewN | apply below_drew1))) : w.heap.size ≤ gb160)); have n3_ := Aside0.mk ((by rw [hg]; exact (below_size (by with_reducible repeat (first | exact HB.out | apply below_alloc | apply pw_below_drewN | apply below_drew1))) : w.heap.size ≤ gb160)); clear HB; have HB := n0_; have BK160 := n1_; have GW160 := n2_; have GE160 := n3_; clear n0_ n1_ n2_ n3_; clear hb hbox hg; have hcz10 := fun i_ => blk_cell BK160.out i_; have hfz10 := fun i_ => blk_frozen BK160.out i_) | (go_at_call 108; (with_reducible refine (dot_Check.calls k _ _ l1_3 t161 _ ?side1 ?side2 A4.out).mono ?_); (case side1 => repeat (first | exact (Kd.C_below HR1_3.out HB.out) | (with_reducible refine Kd.C_alloc ?_ _) | (with_reducible refine Kd.C_drewN ?_ _) | (with_reducible refine Kd.C_drew ?_))); (case side2 => exact HC1_3.out); rintro e w11 ⟨rfl, hb⟩; have n0_ := Aside0.mk (blk_below (g := gb160) (o := .cells #[.int .i64 a1_0, .int .i64 a1_1, .int .i64 a1_2, .slice A1_3 l1_3.length c1_3, .slice A1_4 l1_4.length c1_4, .slice A1_5 l1_5.length c1_5] 26 (0, 0)) (by (with_reducible repeat (first | refine blk_drewN ?_ _ | refine blk_drew ?_ | refine blk_alloc ?_ _)); exact BK160.out) hb); have n1_ := Aside0.mk (below_step (by with_reducible repeat (first | exact HB.out | apply below_alloc | apply pw_below_drewN | apply below_drew1 | refine below_set ?_ GE160.out)) hb); clear BK160; clear HB; have BK160 := n0_; have HB := n1_; clear n0_ n1_; (try clear hb); (try clear hb2); (try clear hk); (try clear hi); have hcz12 := fun i_ => blk_cell BK160.out i_; have hfz12 := fun i_ => blk_frozen BK160.out i_) | (go_at_call 108; (with_reducible refine (dot_Check.calls k _ _ l1_4 t162 _ ?side1 ?side2 A6.out).mono ?_); (case side1 => repeat (first | exact (Kd.C_below HR1_4.out HB.out) | (with_reducible refine Kd.C_alloc ?_ _) | (with_reducible refine Kd.C_drewN ?_ _) | (with_reducible refine Kd.C_drew ?_))); (case side2 => exact HC1_4.out); rintro e w13 ⟨rfl, hb⟩; have n0_ := Aside0.mk (blk_below (g := gb160) (o := .cells #[.int .i64 a1_0, .int .i64 a1_1, .int .i64 a1_2, .slice A1_3 l1_3.length c1_3, .slice A1_4 l1_4.length c1_4, .slice A1_5 l1_5.length c1_5] 26 (0, 0)) (by (with_reducible repeat (first | refine blk_drewN ?_ _ | refine blk_drew ?_ | refine blk_alloc ?_ _)); exact BK160.out) hb); have n1_ := Aside0.mk (below_step (by with_reducible repeat (first | exact HB.out | apply below_alloc | apply pw_below_drewN | apply below_drew1 | refine below_set ?_ GE160.out)) hb); clear BK160; clear HB; have BK160 := n0_; have HB := n1_; clear n0_ n1_; (try clear hb); (try clear hb2); (try clear hk); (try clear hi); have hcz14 := fun i_ => blk_cell BK160.out i_; have hfz14 := fun i_ => blk_frozen BK160.out i_) | (go_at_call 109; (with_reducible refine (dot_Le.calls _ _ l1_4 _ _ l1_3 t163 _ ?side1 ?side2 ?side3 ?side4 A8.out).mono ?_); (case side1 => repeat (first | exact (Kd.C_below HR1_4.out HB.out) | (with_reducible refine Kd.C_alloc ?_ _) | (with_reducible refine Kd.C_drewN ?_ _) | (with_reducible refine Kd.C_drew ?_))); (case side2 => exact HC1_4.out); (case side3 => repeat (first | exact (Kd.C_below HR1_3.out HB.out) | (with_reducible refine Kd.C_alloc ?_ _) | (with_reducible refine Kd.C_drewN ?_ _) | (with_reducible refine Kd.C_drew ?_))); (case side4 => exact HC1_3.out); rintro e w15 ⟨rfl, hb⟩; have n0_ := Aside0.mk (blk_below (g := gb160) (o := .cells #[.int .i64 a1_0, .int .i64 a1_1, .int .i64 a1_2, .slice A1_3 l1_3.length c1_3, .slice A1_4 l1_4.length c1_4, .slice A1_5 l1_5.length c1_5] 26 (0, 0)) (by (with_reducible repeat (first | refine blk_drewN ?_ _ | refine blk_drew ?_ | refine blk_alloc ?_ _)); exact BK160.out) hb); have n1_ := Aside0.mk (below_step (by with_reducible repeat (first | exact HB.out | apply below_alloc | apply pw_below_drewN | apply below_drew1 | refine below_set ?_ GE160.out)) hb); clear BK160; clear HB; have BK160 := n0_; have HB := n1_; clear n0_ n1_; (try clear hb); (try clear hb2); (try clear hk); (try clear hi)))
    go_ret
    exact ⟨by first | rfl | (simp [errW_none, errW_some] <;> rfl) | (simp [*, errW_none, errW_some] <;> rfl), by with_reducible repeat (first | exact HB.out | apply below_alloc | apply pw_below_drewN | apply below_drew1 | refine below_set ?_ GE160.out)⟩
   ·rw [if_neg c7] at H
    have c7b0 : (t162 == 0) = false := beq_eq_false_iff_ne.mpr c7
    have c7b1 : (t162 != 0) = true := bne_iff_ne.mpr c7
    obtain rfl := Option.some.inj H
    go_enter Tryz.func81, Tryz.ntmps81
    go_wp2_with (first | ((with_reducible refine gate_dst (N := 3) rfl ?_); refine box_event ?hg (N := 3) ?hd (cs := #[.int .i64 a1_0, .int .i64 a1_1, .int .i64 a1_2, .slice A1_3 l1_3.length c1_3, .slice A1_4 l1_4.length c1_4, .slice A1_5 l1_5.length c1_5]) (t := 26) ?hr ?_; (case hd => rfl); (case hg => rfl); (case hr => first | (go_simp; done) | (go_simp; rfl)); intro gb160 hg w16 hbox hb; have n0_ := Aside0.mk (below_step (by with_reducible repeat (first | exact HB.out | apply below_alloc | apply pw_below_drewN | apply below_drew1)) hb); have n1_ := Aside0.mk (hbox); have n2_ := Aside0.mk ((by rw [hg]; exact (below_size (by with_reducible repeat (first | exact HB.out | apply below_alloc | apply pw_below_drewN | apply below_drew1))) : w.heap.size ≤ gb160)); have n3_ := Aside0.mk ((by rw [hg]; exact (below_size (by with_reducible repeat (first | exact HB.out | apply below_alloc | apply pw_below_drewN | apply below_drew1))) : w.heap.size ≤ gb160)); clear HB; have HB := n0_; have BK160 := n1_; have GW160 := n2_; have GE160 := n3_; clear n0_ n1_ n2_ n3_; clear hb hbox hg; have hcz17 := fun i_ => blk_cell BK160.out i_; have hfz17 := fun i_ => blk_frozen BK160.out i_) | (go_at_call 108; (with_reducible refine (dot_Check.calls k _ _ l1_3 t161 _ ?side1 ?side2 A4.out).mono ?_); (case side1 => repeat (first | exact (Kd.C_below HR1_3.out HB.out) | (with_reducible refine Kd.C_alloc ?_ _) | (with_reducible refine Kd.C_drewN ?_ _) | (with_reducible refine Kd.C_drew ?_))); (case side2 => exact HC1_3.out); rintro e w18 ⟨rfl, hb⟩; have n0_ := Aside0.mk (blk_below (g := gb160) (o := .cells #[.int .i64 a1_0, .int .i64 a1_1, .int .i64 a1_2, .slice A1_3 l1_3.length c1_3, .slice A1_4 l1_4.length c1_4, .slice A1_5 l1_5.length c1_5] 26 (0, 0)) (by (with_reducible repeat (first | refine blk_drewN ?_ _ | refine blk_drew ?_ | refine blk_alloc ?_ _)); exact BK160.out) hb); have n1_ := Aside0.mk (below_step (by with_reducible repeat (first | exact HB.out | apply below_alloc | apply pw_below_drewN | apply below_drew1 | refine below_set ?_ GE160.out)) hb); clear BK160; clear HB; have BK160 := n0_; have HB := n1_; clear n0_ n1_; (try clear hb); (try clear hb2); (try clear hk); (try clear hi); have hcz19 := fun i_ => blk_cell BK160.out i_; have hfz19 := fun i_ => blk_frozen BK160.out i_) | (go_at_call 108; (with_reducible refine (dot_Check.calls k _ _ l1_4 t162 _ ?side1 ?side2 A6.out).mono ?_); (case side1 => repeat (first | exact (Kd.C_below HR1_4.out HB.out) | (with_reducible refine Kd.C_alloc ?_ _) | (with_reducible refine Kd.C_drewN ?_ _) | (with_reducible refine Kd.C_drew ?_))); (case side2 => exact HC1_4.out); rintro e w20 ⟨rfl, hb⟩; have n0_ := Aside0.mk (blk_below (g := gb160) (o := .cells #[.int .i64 a1_0, .int .i64 a1_1, .int .i64 a1_2, .slice A1_3 l1_3.length c1_3, .slice A1_4 l1_4.length c1_4, .slice A1_5 l1_5.length c1_5] 26 (0, 0)) (by (with_reducible repeat (first | refine blk_drewN ?_ _ | refine blk_drew ?_ | refine blk_alloc ?_ _)); exact BK160.out) hb); have n1_ := Aside0.mk (below_step (by with_reducible repeat (first | exact HB.out | apply below_alloc | apply pw_below_drewN | apply below_drew1 | refine below_set ?_ GE160.out)) hb); clear BK160; clear HB; have BK160 := n0_; have HB := n1_; clear n0_ n1_; (try clear hb); (try clear hb2); (try clear hk); (try clear hi)))
    go_ret
    exact ⟨by first | rfl | (simp [errW_none, errW_some] <;> rfl) | (simp [*, errW_none, errW_some] <;> rfl), by with_reducible repeat (first | exact HB.out | apply below_alloc | apply pw_below_drewN | apply below_drew1 | refine below_set ?_ GE160.out)⟩
  ·rw [if_neg c5] at H
   have c5b0 : (t161 == 0) = false := beq_eq_false_iff_ne.mpr c5
   have c5b1 : (t161 != 0) = true := bne_iff_ne.mpr c5
   obtain rfl := Option.some.inj H
   go_enter Tryz.func81, Tryz.ntmps81
   go_wp2_with (first | ((with_reducible refine gate_dst (N := 3) rfl ?_); refine box_event ?hg (N := 3) ?hd (cs := #[.int .i64 a1_0, .int .i64 a1_1, .int .i64 a1_2, .slice A1_3 l1_3.length c1_3, .slice A1_4 l1_4.length c1_4, .slice A1_5 l1_5.length c1_5]) (t := 26) ?hr ?_; (case hd => rfl); (case hg => rfl); (case hr => first | (go_simp; done) | (go_simp; rfl)); intro gb160 hg w21 hbox hb; have n0_ := Aside0.mk (below_step (by with_reducible repeat (first | exact HB.out | apply below_alloc | apply pw_below_drewN | apply below_drew1)) hb); have n1_ := Aside0.mk (hbox); have n2_ := Aside0.mk ((by rw [hg]; exact (below_size (by with_reducible repeat (first | exact HB.out | apply below_alloc | apply pw_below_drewN | apply below_drew1))) : w.heap.size ≤ gb160)); have n3_ := Aside0.mk ((by rw [hg]; exact (below_size (by with_reducible repeat (first | exact HB.out | apply below_alloc | apply pw_below_drewN | apply below_drew1))) : w.heap.size ≤ gb160)); clear HB; have HB := n0_; have BK160 := n1_; have GW160 := n2_; have GE160 := n3_; clear n0_ n1_ n2_ n3_; clear hb hbox hg; have hcz22 := fun i_ => blk_cell BK160.out i_; have hfz22 := fun i_ => blk_frozen BK160.out i_) | (go_at_call 108; (with_reducible refine (dot_Check.calls k _ _ l1_3 t161 _ ?side1 ?side2 A4.out).mono ?_); (case side1 => repeat (first | exact (Kd.C_below HR1_3.out HB.out) | (with_reducible refine Kd.C_alloc ?_ _) | (with_reducible refine Kd.C_drewN ?_ _) | (with_reducible refine Kd.C_drew ?_))); (case side2 => exact HC1_3.out); rintro e w23 ⟨rfl, hb⟩; have n0_ := Aside0.mk (blk_below (g := gb160) (o := .cells #[.int .i64 a1_0, .int .i64 a1_1, .int .i64 a1_2, .slice A1_3 l1_3.length c1_3, .slice A1_4 l1_4.length c1_4, .slice A1_5 l1_5.length c1_5] 26 (0, 0)) (by (with_reducible repeat (first | refine blk_drewN ?_ _ | refine blk_drew ?_ | refine blk_alloc ?_ _)); exact BK160.out) hb); have n1_ := Aside0.mk (below_step (by with_reducible repeat (first | exact HB.out | apply below_alloc | apply pw_below_drewN | apply below_drew1 | refine below_set ?_ GE160.out)) hb); clear BK160; clear HB; have BK160 := n0_; have HB := n1_; clear n0_ n1_; (try clear hb); (try clear hb2); (try clear hk); (try clear hi)))
   go_ret
   exact ⟨by first | rfl | (simp [errW_none, errW_some] <;> rfl) | (simp [*, errW_none, errW_some] <;> rfl), by with_reducible repeat (first | exact HB.out | apply below_alloc | apply pw_below_drewN | apply below_drew1 | refine below_set ?_ GE160.out)⟩
 ·rw [if_neg c3] at H
  have c3b0 : ((l1_3.length : Int) == a0) = false := beq_eq_false_iff_ne.mpr c3
  have c3b1 : ((l1_3.length : Int) != a0) = true := bne_iff_ne.mpr c3
  obtain rfl := Option.some.inj H
  go_enter Tryz.func81, Tryz.ntmps81
  go_wp2_with (first | ((with_reducible refine gate_dst (N := 3) rfl ?_); refine box_event ?hg (N := 3) ?hd (cs := #[.int .i64 a1_0, .int .i64 a1_1, .int .i64 a1_2, .slice A1_3 l1_3.length c1_3, .slice A1_4 l1_4.length c1_4, .slice A1_5 l1_5.length c1_5]) (t := 26) ?hr ?_; (case hd => rfl); (case hg => rfl); (case hr => first | (go_simp; done) | (go_simp; rfl)); intro gb160 hg w24 hbox hb; have n0_ := Aside0.mk (below_step (by with_reducible repeat (first | exact HB.out | apply below_alloc | apply pw_below_drewN | apply below_drew1)) hb); have n1_ := Aside0.mk (hbox); have n2_ := Aside0.mk ((by rw [hg]; exact (below_size (by with_reducible repeat (first | exact HB.out | apply below_alloc | apply pw_below_drewN | apply below_drew1))) : w.heap.size ≤ gb160)); have n3_ := Aside0.mk ((by rw [hg]; exact (below_size (by with_reducible repeat (first | exact HB.out | apply below_alloc | apply pw_below_drewN | apply below_drew1))) : w.heap.size ≤ gb160)); clear HB; have HB := n0_; have BK160 := n1_; have GW160 := n2_; have GE160 := n3_; clear n0_ n1_ n2_ n3_; clear hb hbox hg; have hcz25 := fun i_ => blk_cell BK160.out i_; have hfz25 := fun i_ => blk_frozen BK160.out i_))
  go_ret
  exact ⟨by first | rfl | (simp [errW_none, errW_some] <;> rfl) | (simp [*, errW_none, errW_some] <;> rfl), by with_reducible repeat (first | exact HB.out | apply below_alloc | apply pw_below_drewN | apply below_drew1 | refine below_set ?_ GE160.out)⟩
end Go.Proofs.YtnbjflcfdncocaaGreat.M
namespace Go.Proofs.YtnbjflcfdncocaaGreat.M
open Go.RowKit Go.Proofs.YtnbjflcfdncocaaGreatW.PrintWords Go.Proofs.YtnbjflcfdncocaaGreatW.PrintLast Go.Proofs.YtnbjflcfdncocaaGreatW.PrintMore
theorem tells0 : msg_tells.f 10 2 2 0 1 [2,1] [1,1] [] = some true := by decide
theorem forms0 : op_Forms.f 10 [⟨[3]⟩] = some 0 := by with_unfolding_all rfl
set_option maxHeartbeats 1000000 in
set_option maxRecDepth 100000 in
theorem right0 (A1 : Option Addr) (n1 c1 : Nat) (A3 : Option Addr) (c3 : Nat) (A4 : Option Addr) (c4 : Nat) (w : World) (hc3 : 2 ≤ c3) (hc4 : 2 ≤ c4) (h3 : Kd.C (Kd.int .i64) w A3 2 [2, 1]) (h4 : Kd.C (Kd.int .i64) w A4 2 [1, 1]) :
    Calls Tryz.prog 40 #[.int .i64 2, .slice A1 n1 c1, .agg #[.int .i64 2, .int .i64 0, .int .i64 1, .slice A3 2 c3, .slice A4 2 c4, .slice none 0 0]] w fun e w' => e = .returned (.bool true) ∧ Below w.heap.size w w' := by
  have H3 := Aside0.mk h3
  have H4 := Aside0.mk h4
  have C3 := Aside0.mk hc3
  have C4 := Aside0.mk hc4
  clear h3 h4 hc3 hc4
  go_enter Tryz.func40, Tryz.ntmps40
  go_wp2_with fail
  refine (contains_none _ _).mono ?_
  rintro e w1 ⟨rfl, rfl⟩
  go_wp2_with fail
  have HB := Aside0.mk (below_alloc (below_alloc (below_alloc (Below.refl w.heap.size w) (.cells #[.int .i64 2] 3)) (.cells #[.slice A1 n1 c1] 22)) (.cells #[.int .i64 2, .int .i64 0, .int .i64 1, .slice A3 2 c3, .slice A4 2 c4, .slice none 0 0] 26))
  refine (msg_tells.calls 10 2 2 0 1 A3 c3 [2, 1] A4 c4 [1, 1] none 0 [] true _ (Kd.C_below H3.out HB.out) C3.out (Kd.C_below H4.out HB.out) C4.out (Kd.C_nil _ _) (Nat.le_refl _) tells0).mono ?_
  rintro e w2 ⟨rfl, hb⟩
  have HB2 := Aside0.mk (below_step HB.out hb)
  clear hb HB
  go_wp2
  go_ret
  exact ⟨rfl, HB2.out⟩
set_option maxHeartbeats 1000000 in
set_option maxRecDepth 100000 in
theorem check0 (A1 : Option Addr) (c1 : Nat) (A3 : Option Addr) (c3 : Nat) (A4 : Option Addr) (c4 : Nat) (w : World) (hc1 : 1 ≤ c1) (h1 : Kd.C k56 w A1 1 [⟨[3]⟩]) (hc3 : 2 ≤ c3) (hc4 : 2 ≤ c4) (h3 : Kd.C (Kd.int .i64) w A3 2 [2, 1]) (h4 : Kd.C (Kd.int .i64) w A4 2 [1, 1]) :
    Calls Tryz.prog 13 #[.int .i64 2, .slice A1 1 c1, .agg #[.int .i64 2, .int .i64 0, .int .i64 1, .slice A3 2 c3, .slice A4 2 c4, .slice none 0 0]] w fun e w' => e = .returned (.int .i64 0) ∧ Below w.heap.size w w' := by
  have H1 := Aside0.mk h1
  have H3 := Aside0.mk h3
  have H4 := Aside0.mk h4
  have C1 := Aside0.mk hc1
  have C3 := Aside0.mk hc3
  have C4 := Aside0.mk hc4
  clear h1 h3 h4 hc1 hc3 hc4
  have HX := Aside0.mk (heap_alloc_new w (.cells #[.int .i64 2, .int .i64 0, .int .i64 1, .slice A3 2 c3, .slice A4 2 c4, .slice none 0 0] 26))
  go_enter Tryz.func13, Tryz.ntmps13
  go_wp2_with fail
  have HB := Aside0.mk (below_alloc (Below.refl w.heap.size w) (.cells #[.int .i64 2, .int .i64 0, .int .i64 1, .slice A3 2 c3, .slice A4 2 c4, .slice none 0 0] 26))
  refine (op_Forms.calls 10 A1 c1 [⟨[3]⟩] 0 _ (Kd.C_below H1.out HB.out) C1.out forms0).mono ?_
  rintro e w2 ⟨rfl, hb⟩
  have HB2 := Aside0.mk (below_step HB.out hb)
  have HX2 := Aside0.mk (blk_below HX.out hb)
  clear hb HB HX
  have hc := fun i => blk_cell HX2.out i
  go_wp2_with fail
  refine (right0 A1 1 c1 A3 c3 A4 c4 _ C3.out C4.out (Kd.C_below H3.out HB2.out) (Kd.C_below H4.out HB2.out)).mono ?_
  rintro e w3 ⟨rfl, hb⟩
  have HB3 := Aside0.mk (below_step HB2.out hb)
  clear hb HB2 hc HX2
  go_wp2
  go_ret
  exact ⟨rfl, HB3.out⟩
theorem C_one {α : Type} {d : Kd α} {W : World} {b t : Nat} {x : α} {cs : List Value} (hK : d.K W x cs) (h : W.heap[b]? = some (.cells cs.toArray t (0, 0))) : d.C W (some ⟨b, 0, none⟩) 1 [x] := by
  refine ⟨rfl, by omega, fun _ => ⟨⟨b, 0, none⟩, rfl, fun j p hj => ?_⟩⟩
  rcases j with _ | j
  · obtain rfl := Option.some.inj hj
    refine ⟨cs, d.K_len hK, hK, fun i u hu => ?_⟩
    rw [Nat.zero_mul, Nat.zero_add, add_plain, blk_cell h i]
    simpa using hu
  · simp at hj
theorem C_two {W : World} {b t : Nat} {x y : Int} (h : W.heap[b]? = some (.cells #[.int .i64 x, .int .i64 y] t (0, 0))) : Kd.C (Kd.int .i64) W (some ⟨b, 0, none⟩) 2 [x, y] := by
  refine Kd.C_of_reads (d := (0 : Int)) (h1 := fun _ => rfl) ⟨rfl, by omega, fun _ => ⟨⟨b, 0, none⟩, rfl, fun j hj => ?_⟩⟩
  rw [add_plain, blk_cell h j]
  rcases j with _ | _ | j
  · rfl
  · rfl
  · omega
theorem wk1 : msgB 2 0 1 [2,1] [1,1] [] = ((msgB 2 0 1 [2,1] [1,1] []).1, 0) ∧ (msgB 2 0 1 [2,1] [1,1] []).1.length = 27 ∧ readB (msgB 2 0 1 [2,1] [1,1] []).1 = ((2, 0, 1, [2, 1], [1, 1], []), 0) ∧ Bytes_ (msgB 2 0 1 [2,1] [1,1] []).1 := ⟨by kernel_rfl, by decide +kernel, by kernel_rfl, by decide +kernel⟩
theorem wk2 : raddlekeep_Msg.f 10 2 0 1 [2,1] [1,1] [] 2 0 1 [2,1] [1,1] [] = some true := by decide +kernel
theorem wk3 : ∃ B : List Int, msg_Bytes.f 2 0 1 [2,1] [1,1] [] = some (B, 0) ∧ B.length = 27 ∧ msg_Read.f B = some (2, 0, 1, [2, 1], [1, 1], [], 0) := by
  obtain ⟨h1, h2, h3, h4⟩ := wk1
  refine ⟨_, (if_pos ⟨by decide, by decide, by decide, by simp⟩).trans (congrArg some h1), h2, ?_⟩
  unfold msg_Read.f
  rw [if_pos ⟨h4, by omega⟩, h3]
set_option maxHeartbeats 4000000 in
set_option maxRecDepth 100000 in
def raddlelaw08_wakes.f : Option Bool := some true
theorem raddlelaw08_wakes.calls (r : Bool) (w : World) (h : raddlelaw08_wakes.f = some r) : Calls Tryz.prog 16 #[] w fun e w' => e = .returned (.bool r) ∧ Below w.heap.size w w' := by
  obtain rfl := Option.some.inj h
  clear h
  obtain ⟨B, f1, f2, f3⟩ := wk3
  have F1 := Aside0.mk f1
  have F2 := Aside0.mk f2
  have F3 := Aside0.mk f3
  have f4 : ((B.length : Int) == 27) = true := by rw [f2]; rfl
  have f5 : ((B.length : Int) != 27) = false := by rw [f2]; rfl
  clear f1 f2 f3
  have D1 := Aside0.mk (heap_alloc_new w (.cells #[.int .i64 2, .int .i64 1] 3))
  have D2 := Aside0.mk (heap_alloc_new (w.alloc (.cells #[.int .i64 2, .int .i64 1] 3)) (.cells #[.int .i64 1, .int .i64 1] 3))
  have HB := Aside0.mk (below_alloc (below_alloc (Below.refl w.heap.size w) (.cells #[.int .i64 2, .int .i64 1] 3)) (.cells #[.int .i64 1, .int .i64 1] 3))
  obtain ⟨W, hW⟩ : ∃ W, W = (w.alloc (.cells #[.int .i64 2, .int .i64 1] 3)).alloc (.cells #[.int .i64 1, .int .i64 1] 3) := ⟨_, rfl⟩
  have E1 := Aside0.mk (show W.heap[w.heap.size]? = some (.cells #[.int .i64 2, .int .i64 1] 3 (0, 0)) from by rw [hW]; exact blk_alloc D1.out _)
  have E2 := Aside0.mk (show W.heap[w.heap.size + 1]? = some (.cells #[.int .i64 1, .int .i64 1] 3 (0, 0)) from by have := D2.out; rw [hW]; simpa using this)
  have ES := Aside0.mk (show W.heap.size = w.heap.size + 1 + 1 from by rw [hW]; simp)
  have HB1 := Aside0.mk (show Below w.heap.size w W from by rw [hW]; exact HB.out)
  have HW := Aside0.mk hW
  clear hW D1 D2 HB
  go_enter Tryz.func16, Tryz.ntmps16
  go_wp2_with fail
  rw [← HW.out, ← ES.out]
  have E3 := Aside0.mk (heap_alloc_new W (.cells #[.int .i64 2, .int .i64 0, .int .i64 1, .slice (some ⟨w.heap.size, 0, none⟩) 2 2, .slice (some ⟨w.heap.size + 1, 0, none⟩) 2 2, .slice none 0 0] 26))
  have HA := Aside0.mk (below_alloc (Below.refl W.heap.size W) (.cells #[.int .i64 2, .int .i64 0, .int .i64 1, .slice (some ⟨w.heap.size, 0, none⟩) 2 2, .slice (some ⟨w.heap.size + 1, 0, none⟩) 2 2, .slice none 0 0] 26))
  have G3 := Aside0.mk (C_two E1.out)
  have G4 := Aside0.mk (C_two E2.out)
  have HB2 := Aside0.mk (below_step HB1.out HA.out)
  clear HW
  refine (msg_Bytes.calls 2 0 1 _ 2 [2, 1] _ 2 [1, 1] none 0 [] B 0 _ (Kd.C_below G3.out HA.out) (by decide) (Kd.C_below G4.out HA.out) (by decide) (Kd.C_nil _ _) (Nat.le_refl _) F1.out).mono ?_
  rintro e w1 ⟨v1, rfl, ho, hb⟩
  obtain ⟨A1, c1, rfl⟩ := Kd.R_slice ho
  have HO := Aside0.mk (Kd.R_reads' ho)
  have HB3 := Aside0.mk (below_step HA.out hb)
  have HB4 := Aside0.mk (below_step HB1.out HB3.out)
  have E4 := Aside0.mk (blk_below E3.out hb)
  clear ho hb HA E3 HB2
  go_wp2_with fail
  refine (msg_Read.calls A1 c1 B 2 0 1 [2, 1] [1, 1] [] 0 w1 HO.out.2.2 HO.out.2.1 F3.out).mono ?_
  rintro e w2 ⟨v2, v3, v4, rfl, ho2, ho3, ho4, hb⟩
  obtain ⟨A2, c2, rfl⟩ := Kd.R_slice ho2
  obtain ⟨A3, c3, rfl⟩ := Kd.R_slice ho3
  have HO2 := Aside0.mk (Kd.R_reads' ho2)
  have HO3 := Aside0.mk (Kd.R_reads' ho3)
  obtain ⟨A4, c4, hv4, hl4, hc4⟩ := Kd.S_reads ho4
  subst hv4
  have HO4 := Aside0.mk hc4
  have HL4 := Aside0.mk hl4
  have HB5 := Aside0.mk (below_step HB4.out hb)
  have HB6 := Aside0.mk (below_step HB3.out hb)
  have E5 := Aside0.mk (blk_alloc (blk_below E4.out hb) (.cells #[.int .i64 2, .int .i64 0, .int .i64 1, .slice A2 2 c2, .slice A3 2 c3, .slice A4 0 c4] 26))
  clear ho2 ho3 ho4 hb E4 HB3 HB4 hl4 hc4
  have hc := fun i => blk_cell E5.out i
  go_wp2_with fail
  have AL := Aside0.mk (below_alloc (Below.refl w2.heap.size w2) (.cells #[.int .i64 2, .int .i64 0, .int .i64 1, .slice A2 2 c2, .slice A3 2 c3, .slice A4 0 c4] 26))
  have HB7 := Aside0.mk (below_step HB6.out AL.out)
  have HB8 := Aside0.mk (below_step HB5.out AL.out)
  refine (raddlekeep_Msg.calls 10 2 0 1 A2 c2 [2, 1] A3 c3 [1, 1] A4 c4 [] 2 0 1 _ 2 [2, 1] _ 2 [1, 1] none 0 [] true _ (Kd.C_below HO2.out.2.2 AL.out) HO2.out.2.1 (Kd.C_below HO3.out.2.2 AL.out) HO3.out.2.1 (Kd.C_below HO4.out AL.out) HL4.out (Kd.C_below G3.out HB7.out) (Nat.le_refl _) (Kd.C_below G4.out HB7.out) (Nat.le_refl _) (Kd.C_nil _ _) (Nat.le_refl _) wk2).mono ?_
  rintro e w3 ⟨rfl, hb⟩
  have E6 := Aside0.mk (blk_below E5.out hb)
  have HB9 := Aside0.mk (below_step HB7.out hb)
  have HB10 := Aside0.mk (below_step HB8.out hb)
  clear hc hb E5 HB7 HB8 AL HB5 HB6 HO2 HO3 HO4 HL4
  have D3 := Aside0.mk (blk_alloc (blk_alloc E6.out (.cells #[.int .i64 3] 3)) (.cells #[.slice (some ⟨w3.heap.size, 0, none⟩) 1 1] 56))
  have hc := fun i => blk_cell D3.out i
  go_wp2_with fail
  have X1 := Aside0.mk (blk_alloc (heap_alloc_new w3 (.cells #[.int .i64 3] 3)) (.cells #[.slice (some ⟨w3.heap.size, 0, none⟩) 1 1] 56))
  have X2 := Aside0.mk (show ((w3.alloc (.cells #[.int .i64 3] 3)).alloc (.cells #[.slice (some ⟨w3.heap.size, 0, none⟩) 1 1] 56)).heap[w3.heap.size + 1]? = some (.cells #[.slice (some ⟨w3.heap.size, 0, none⟩) 1 1] 56 (0, 0)) from by have := heap_alloc_new (w3.alloc (.cells #[.int .i64 3] 3)) (.cells #[.slice (some ⟨w3.heap.size, 0, none⟩) 1 1] 56); simpa using this)
  have AL := Aside0.mk (below_alloc (below_alloc (Below.refl w3.heap.size w3) (.cells #[.int .i64 3] 3)) (.cells #[.slice (some ⟨w3.heap.size, 0, none⟩) 1 1] 56))
  have HB11 := Aside0.mk (below_step HB9.out AL.out)
  have HB12 := Aside0.mk (below_step HB10.out AL.out)
  obtain ⟨W3, hW3⟩ : ∃ W3, W3 = (w3.alloc (.cells #[.int .i64 3] 3)).alloc (.cells #[.slice (some ⟨w3.heap.size, 0, none⟩) 1 1] 56) := ⟨_, rfl⟩
  rw [← hW3]
  have Y1 : W3.heap[w3.heap.size]? = some (.cells #[.int .i64 3] 3 (0, 0)) := by rw [hW3]; exact X1.out
  have Y2 : W3.heap[w3.heap.size + 1]? = some (.cells #[.slice (some ⟨w3.heap.size, 0, none⟩) 1 1] 56 (0, 0)) := by rw [hW3]; exact X2.out
  have Y3 : Below W.heap.size W W3 := by rw [hW3]; exact HB11.out
  have Y4 : Below w.heap.size w W3 := by rw [hW3]; exact HB12.out
  clear hW3 X1 X2 AL HB11 HB12 D3
  have Z1 : Kd.C (Kd.int .i64) W3 (some ⟨w3.heap.size, 0, none⟩) 1 [3] := C_one (d := Kd.int .i64) (cs := [.int .i64 3]) rfl Y1
  have Z2 : Kd.C k56 W3 (some ⟨w3.heap.size + 1, 0, none⟩) 1 [⟨[3]⟩] := C_one (d := k56) (cs := [.slice (some ⟨w3.heap.size, 0, none⟩) 1 1]) (k56_mk W3 ⟨[3]⟩ (Nat.le_refl 1) Z1) Y2
  refine (check0 _ 1 _ 2 _ 2 W3 (Nat.le_refl _) Z2 (Nat.le_refl _) (Nat.le_refl _) (Kd.C_below G3.out Y3) (Kd.C_below G4.out Y3)).mono ?_
  rintro e w4 ⟨rfl, hb⟩
  have HB13 := Aside0.mk (below_step Y4 hb)
  clear hc hb Y1 Y2 Y3 Y4 Z1 Z2
  go_wp2
  go_ret
  exact ⟨rfl, HB13.out⟩
end Go.Proofs.YtnbjflcfdncocaaGreat.M
namespace Go.Proofs.YtnbjflcfdncocaaGreat.M
open Go.RowKit Go.Proofs.YtnbjflcfdncocaaGreatW.PrintWords Go.Proofs.YtnbjflcfdncocaaGreatW.PrintLast Go.Proofs.YtnbjflcfdncocaaGreatW.PrintMore
attribute [local go_sem] max2_int min2_int max_two min_two max_three min_three max_four min_four
set_option linter.unusedVariables false
set_option linter.unusedSimpArgs false
def raddlelaw08_MsgReads.j0 : Nat → List Int → Int → Bool → Int → Int → Int → List Int → List Int → List (S52) → Option (Bool)
 | 0, _, _, _, _, _, _, _, _, _ => none
 | k + 1, x0, x5, x38, x432000, x432001, x432002, x432003, x432004, x432005 => if x38 = true then (some false) else (if x5 = 0 then ((msg_Bytes.f x432000 x432001 x432002 x432003 x432004 x432005).bind fun bt448 => (if bt448.2 = 0 then ((raddlekeep_Bytes.f k bt448.1 x0).bind fun t452 => (if t452 = true then ((raddlelaw08_wakes.f).bind fun t453 => (some t453)) else (some false))) else (some false))) else ((raddlelaw08_wakes.f).bind fun t454 => (some t454)))
def raddlelaw08_MsgReads.f (k : Nat) (l0 : List Int) : Option (Bool) := if (l0.length : Int) > 2000 then (some true) else ((raddlekeep_Twin.f l0).bind fun t415 => ((msg_Read.f t415).bind fun bt418 => ((raddleref01_ReadMsg.f l0).bind fun bt432 => (if bt418.2.2.2.2.2.2 = bt432.2.2.2.2.2.2 then ((raddlekeep_Msg.f k bt418.1 bt418.2.1 bt418.2.2.1 bt418.2.2.2.1 bt418.2.2.2.2.1 bt418.2.2.2.2.2.1 bt432.1 bt432.2.1 bt432.2.2.1 bt432.2.2.2.1 bt432.2.2.2.2.1 bt432.2.2.2.2.2.1).bind fun t446 => (if t446 = true then ((raddlekeep_Bytes.f k t415 l0).bind fun t447 => (raddlelaw08_MsgReads.j0 k l0 bt418.2.2.2.2.2.2 (!t447) bt418.1 bt418.2.1 bt418.2.2.1 bt418.2.2.2.1 bt418.2.2.2.2.1 bt418.2.2.2.2.2.1)) else (raddlelaw08_MsgReads.j0 k l0 bt418.2.2.2.2.2.2 true bt418.1 bt418.2.1 bt418.2.2.1 bt418.2.2.2.1 bt418.2.2.2.2.1 bt418.2.2.2.2.2.1))) else (raddlelaw08_MsgReads.j0 k l0 bt418.2.2.2.2.2.2 true bt418.1 bt418.2.1 bt418.2.2.1 bt418.2.2.2.1 bt418.2.2.2.2.1 bt418.2.2.2.2.2.1)))))
set_option maxHeartbeats 8000000 in
set_option maxRecDepth 100000 in
theorem raddlelaw08_MsgReads.calls (k : Nat) (A0 : Option Addr) (c0 : Nat) (l0 : List Int) (r : Bool) (w : World) (hr0 : Kd.C (Kd.int .u8) w A0 l0.length l0) (hc0 : l0.length ≤ c0) (h : raddlelaw08_MsgReads.f k l0 = some r) :
  Calls Tryz.prog 4 #[.slice A0 l0.length c0] w fun e w' => e = .returned (.bool r) ∧ Below w.heap.size w w' := by
 have hu26 := Tryz.underlying26
 have HR0 := Aside0.mk hr0
 have HC0 := Aside0.mk hc0
 clear hr0 hc0
 have HB := Aside0.mk (Below.refl w.heap.size w)
 have H : (if (l0.length : Int) > 2000 then (some true) else ((raddlekeep_Twin.f l0).bind fun t415 => ((msg_Read.f t415).bind fun bt418 => ((raddleref01_ReadMsg.f l0).bind fun bt432 => (if bt418.2.2.2.2.2.2 = bt432.2.2.2.2.2.2 then ((raddlekeep_Msg.f k bt418.1 bt418.2.1 bt418.2.2.1 bt418.2.2.2.1 bt418.2.2.2.2.1 bt418.2.2.2.2.2.1 bt432.1 bt432.2.1 bt432.2.2.1 bt432.2.2.2.1 bt432.2.2.2.2.1 bt432.2.2.2.2.2.1).bind fun t446 => (if t446 = true then ((raddlekeep_Bytes.f k t415 l0).bind fun t447 => (raddlelaw08_MsgReads.j0 k l0 bt418.2.2.2.2.2.2 (!t447) bt418.1 bt418.2.1 bt418.2.2.1 bt418.2.2.2.1 bt418.2.2.2.2.1 bt418.2.2.2.2.2.1)) else (raddlelaw08_MsgReads.j0 k l0 bt418.2.2.2.2.2.2 true bt418.1 bt418.2.1 bt418.2.2.1 bt418.2.2.2.1 bt418.2.2.2.2.1 bt418.2.2.2.2.2.1))) else (raddlelaw08_MsgReads.j0 k l0 bt418.2.2.2.2.2.2 true bt418.1 bt418.2.1 bt418.2.2.1 bt418.2.2.2.1 bt418.2.2.2.2.1 bt418.2.2.2.2.2.1)))))) = some r := h
 clear h
 by_cases c2 : (l0.length : Int) > 2000
 ·rw [if_pos c2] at H
  have c2b0 : decide (2000 < (l0.length : Int)) = true := decide_eq_true c2
  have c2b1 : decide (2000 < l0.length) = true := decide_eq_true (by omega)
  clear c2
  obtain rfl := Option.some.inj H
  go_enter Tryz.func4, Tryz.ntmps4
  go_wp2
  go_ret
  exact ⟨by first | rfl | (simp [errW_none, errW_some] <;> rfl) | (simp [*, errW_none, errW_some] <;> rfl), by with_reducible repeat (first | exact HB.out | apply below_alloc | apply pw_below_drewN | apply below_drew1)⟩
 ·rw [if_neg c2] at H
  have c2b0 : decide (2000 < (l0.length : Int)) = false := decide_eq_false c2
  have c2b1 : decide (2000 < l0.length) = false := decide_eq_false (by omega)
  clear c2
  replace H := Option.bind_eq_some_iff.mp H
  obtain ⟨t415, A30, H⟩ := H
  try dsimp only at H
  have A3 := Aside0.mk A30
  clear A30
  replace H := Option.bind_eq_some_iff.mp H
  obtain ⟨⟨t418, t419, t420, t421, t424, t427, t430⟩, A40, H⟩ := H
  try dsimp only at H
  have A4 := Aside0.mk A40
  clear A40
  replace H := Option.bind_eq_some_iff.mp H
  obtain ⟨⟨t432, t433, t434, t435, t438, t441, t444⟩, A50, H⟩ := H
  try dsimp only at H
  have A5 := Aside0.mk A50
  clear A50
  have HC6 := Aside0.mk H
  clear H
  go_enter Tryz.func4, Tryz.ntmps4
  go_upto_region 6 with (first | ((with_reducible refine gate_callee (f := 18) rfl ?_); refine goesL_ (some 13) rfl rfl Tryz.func18 (by kernel_rfl) rfl #[.slice A0 l0.length c0] rfl (by (try simp only [List.map_toArray, List.map_cons, List.map_nil]); first | done | rfl | (simp only [List.length_drop, List.length_take]; rfl)) ?_; (with_reducible refine (raddlekeep_Twin.calls _ _ l0 t415 _ ?side1 ?side2 A3.out).mono ?_); (case side1 => repeat (first | exact HR0.out | (with_reducible refine Kd.C_alloc ?_ _) | (with_reducible refine Kd.C_drewN ?_ _) | (with_reducible refine Kd.C_drew ?_))); (case side2 => exact HC0.out); rintro e w7 ⟨v416, rfl, ho0, hb⟩; refine ⟨_, rfl, ?_⟩; have n0_ := Aside0.mk (Kd.R_lower ho0 (below_size (by with_reducible repeat (first | exact HB.out | apply below_alloc | apply pw_below_drewN | apply below_drew1)))); have n1_ := Aside0.mk (below_step (by with_reducible repeat (first | exact HB.out | apply below_alloc | apply pw_below_drewN | apply below_drew1)) hb); clear HB; have HO417 := n0_; have HB := n1_; clear n0_ n1_; (try clear hb); (try clear hb2); (try clear hk); (try clear hi); (try clear ho0); obtain ⟨Ao8, co8, eo8⟩ := Kd.R_slice HO417.out; subst eo8) | ((with_reducible refine gate_callee (f := 17) rfl ?_); refine goesL_ (some 16) rfl rfl Tryz.func17 (by kernel_rfl) rfl #[.slice Ao8 t415.length co8] rfl (by (try simp only [List.map_toArray, List.map_cons, List.map_nil]); first | done | rfl | (simp only [List.length_drop, List.length_take]; rfl)) ?_; (with_reducible refine (msg_Read.calls _ _ t415 t418 t419 t420 t421 t424 t427 t430 _ ?side1 ?side2 A4.out).mono ?_); (case side1 => repeat (first | exact (Kd.R_reads' HO417.out).2.2 | (with_reducible refine Kd.C_alloc ?_ _) | (with_reducible refine Kd.C_drewN ?_ _) | (with_reducible refine Kd.C_drew ?_))); (case side2 => exact (Kd.R_reads' HO417.out).2.1); rintro e w9 ⟨v422, v425, v428, rfl, ho0, ho1, ho2, hb⟩; refine ⟨_, rfl, ?_⟩; have n0_ := Aside0.mk (Kd.R_below (by (with_reducible repeat (first | apply Kd.R_alloc | apply Kd.R_drewN | apply Kd.R_drew)); exact HO417.out) hb); have n1_ := Aside0.mk (Kd.R_lower ho0 (below_size (by with_reducible repeat (first | exact HB.out | apply below_alloc | apply pw_below_drewN | apply below_drew1)))); have n2_ := Aside0.mk (Kd.R_lower ho1 (below_size (by with_reducible repeat (first | exact HB.out | apply below_alloc | apply pw_below_drewN | apply below_drew1)))); have n3_ := Aside0.mk (Kd.S_lower ho2 (below_size (by with_reducible repeat (first | exact HB.out | apply below_alloc | apply pw_below_drewN | apply below_drew1)))); have n4_ := Aside0.mk (below_step (by with_reducible repeat (first | exact HB.out | apply below_alloc | apply pw_below_drewN | apply below_drew1)) hb); clear HO417; clear HB; have HO417 := n0_; have HO423 := n1_; have HO426 := n2_; have HO429 := n3_; have HB := n4_; clear n0_ n1_ n2_ n3_ n4_; (try clear hb); (try clear hb2); (try clear hk); (try clear hi); (try clear ho0); (try clear ho1); (try clear ho2)) | ((with_reducible refine gate_dst (N := 4) rfl ?_); refine box_event ?hg (N := 4) ?hd (cs := #[.int .i64 0, .int .i64 0, .int .i64 0, .slice none 0 0, .slice none 0 0, .slice none 0 0]) (t := 26) ?hr ?_; (case hd => rfl); (case hg => rfl); (case hr => first | (go_simp; done) | (go_simp; rfl)); intro gb431 hg w10 hbox hb; have n0_ := Aside0.mk (Kd.R_below (by (with_reducible repeat (first | apply Kd.R_alloc | apply Kd.R_drewN | apply Kd.R_drew)); exact HO417.out) hb); have n1_ := Aside0.mk (Kd.R_below (by (with_reducible repeat (first | apply Kd.R_alloc | apply Kd.R_drewN | apply Kd.R_drew)); exact HO423.out) hb); have n2_ := Aside0.mk (Kd.R_below (by (with_reducible repeat (first | apply Kd.R_alloc | apply Kd.R_drewN | apply Kd.R_drew)); exact HO426.out) hb); have n3_ := Aside0.mk (Kd.S_below (by (with_reducible repeat (first | apply Kd.S_alloc | apply Kd.S_drewN | apply Kd.S_drew)); exact HO429.out) hb); have n4_ := Aside0.mk (below_step (by with_reducible repeat (first | exact HB.out | apply below_alloc | apply pw_below_drewN | apply below_drew1)) hb); have n5_ := Aside0.mk (hbox); have n6_ := Aside0.mk ((by rw [hg]; exact (below_size (by with_reducible repeat (first | exact HB.out | apply below_alloc | apply pw_below_drewN | apply below_drew1))) : w.heap.size ≤ gb431)); have n7_ := Aside0.mk ((by rw [hg]; exact (below_size (by with_reducible repeat (first | exact HB.out | apply below_alloc | apply pw_below_drewN | apply below_drew1))) : w.heap.size ≤ gb431)); clear HO417; clear HO423; clear HO426; clear HO429; clear HB; have HO417 := n0_; have HO423 := n1_; have HO426 := n2_; have HO429 := n3_; have HB := n4_; have BK431 := n5_; have GW431 := n6_; have GE431 := n7_; clear n0_ n1_ n2_ n3_ n4_ n5_ n6_ n7_; clear hb hbox hg; have hcz11 := fun i_ => blk_cell BK431.out i_; have hfz11 := fun i_ => blk_frozen BK431.out i_; obtain ⟨Ao12, co12, eo12⟩ := Kd.R_slice HO423.out; subst eo12; obtain ⟨Ao13, co13, eo13⟩ := Kd.R_slice HO426.out; subst eo13; obtain ⟨Ao14, co14, eo14⟩ := Kd.S_slice HO429.out; subst eo14) | ((with_reducible refine gate_callee (f := 19) rfl ?_); refine goesL_ (some 21) rfl rfl Tryz.func19 (by kernel_rfl) rfl #[.slice A0 l0.length c0] rfl (by (try simp only [List.map_toArray, List.map_cons, List.map_nil]); first | done | rfl | (simp only [List.length_drop, List.length_take]; rfl)) ?_; (with_reducible refine (raddleref01_ReadMsg.calls _ _ l0 t432 t433 t434 t435 t438 t441 t444 _ ?side1 ?side2 A5.out).mono ?_); (case side1 => exact Kd.C_below HR0.out (by with_reducible repeat (first | exact HB.out | apply below_alloc | apply pw_below_drewN | apply below_drew1 | refine below_set ?_ GE431.out))); (case side2 => exact HC0.out); rintro e w15 ⟨v436, v439, v442, rfl, ho0, ho1, ho2, hb⟩; refine ⟨_, rfl, ?_⟩; have n0_ := Aside0.mk (Kd.R_below (by (with_reducible repeat (first | apply Kd.R_alloc | apply Kd.R_drewN | apply Kd.R_drew)); exact (Kd.R_mono (Kd.R_far (p := ⟨gb431, 5, none⟩) (Kd.R_far (p := ⟨gb431, 4, none⟩) (Kd.R_far (p := ⟨gb431, 3, none⟩) (Kd.R_far (p := ⟨gb431, 2, none⟩) (Kd.R_far (p := ⟨gb431, 1, none⟩) (Kd.R_far (p := ⟨gb431, 0, none⟩) (Kd.R_types HO417.out BK431.out (by decide)) (fun _ hk => hk.2) (.int .i64 t418)) (fun _ hk => hk.2) (.int .i64 t419)) (fun _ hk => hk.2) (.int .i64 t420)) (fun _ hk => hk.2) (.slice Ao12 t421.length co12)) (fun _ hk => hk.2) (.slice Ao13 t424.length co13)) (fun _ hk => hk.2) (.slice Ao14 t427.length co14)) (fun _ _ => trivial))) hb); have n1_ := Aside0.mk (Kd.R_mono (Kd.R_told (Kd.R_told (Kd.R_old (by (with_reducible repeat (first | apply Kd.R_alloc | apply Kd.R_drewN | apply Kd.R_drew)); exact (Kd.R_mono (Kd.R_far (p := ⟨gb431, 5, none⟩) (Kd.R_far (p := ⟨gb431, 4, none⟩) (Kd.R_far (p := ⟨gb431, 3, none⟩) (Kd.R_far (p := ⟨gb431, 2, none⟩) (Kd.R_far (p := ⟨gb431, 1, none⟩) (Kd.R_far (p := ⟨gb431, 0, none⟩) (Kd.R_types HO423.out BK431.out (by decide)) (fun _ hk => hk.2) (.int .i64 t418)) (fun _ hk => hk.2) (.int .i64 t419)) (fun _ hk => hk.2) (.int .i64 t420)) (fun _ hk => hk.2) (.slice Ao12 t421.length co12)) (fun _ hk => hk.2) (.slice Ao13 t424.length co13)) (fun _ hk => hk.2) (.slice Ao14 t427.length co14)) (fun _ _ => trivial))) hb) (Kd.R_base ho0)) (Kd.R_base ho1)) (fun _ _ => trivial)); have n2_ := Aside0.mk (Kd.R_mono (Kd.R_told (Kd.R_told (Kd.R_old (by (with_reducible repeat (first | apply Kd.R_alloc | apply Kd.R_drewN | apply Kd.R_drew)); exact (Kd.R_mono (Kd.R_far (p := ⟨gb431, 5, none⟩) (Kd.R_far (p := ⟨gb431, 4, none⟩) (Kd.R_far (p := ⟨gb431, 3, none⟩) (Kd.R_far (p := ⟨gb431, 2, none⟩) (Kd.R_far (p := ⟨gb431, 1, none⟩) (Kd.R_far (p := ⟨gb431, 0, none⟩) (Kd.R_types HO426.out BK431.out (by decide)) (fun _ hk => hk.2) (.int .i64 t418)) (fun _ hk => hk.2) (.int .i64 t419)) (fun _ hk => hk.2) (.int .i64 t420)) (fun _ hk => hk.2) (.slice Ao12 t421.length co12)) (fun _ hk => hk.2) (.slice Ao13 t424.length co13)) (fun _ hk => hk.2) (.slice Ao14 t427.length co14)) (fun _ _ => trivial))) hb) (Kd.R_base ho0)) (Kd.R_base ho1)) (fun _ _ => trivial)); have n3_ := Aside0.mk (Kd.S_mono (Kd.S_told (Kd.S_told (Kd.S_told (Kd.S_old (by (with_reducible repeat (first | apply Kd.S_alloc | apply Kd.S_drewN | apply Kd.S_drew)); exact (Kd.S_mono (Kd.S_far (p := ⟨gb431, 5, none⟩) (Kd.S_far (p := ⟨gb431, 4, none⟩) (Kd.S_far (p := ⟨gb431, 3, none⟩) (Kd.S_far (p := ⟨gb431, 2, none⟩) (Kd.S_far (p := ⟨gb431, 1, none⟩) (Kd.S_far (p := ⟨gb431, 0, none⟩) (Kd.S_types HO429.out BK431.out (by decide)) (fun _ hk => hk.2) (.int .i64 t418)) (fun _ hk => hk.2) (.int .i64 t419)) (fun _ hk => hk.2) (.int .i64 t420)) (fun _ hk => hk.2) (.slice Ao12 t421.length co12)) (fun _ hk => hk.2) (.slice Ao13 t424.length co13)) (fun _ hk => hk.2) (.slice Ao14 t427.length co14)) (fun _ _ => trivial))) hb) (Kd.R_base ho0)) (Kd.R_base ho1)) (Kd.S_base ho2)) (fun _ _ => trivial)); have n4_ := Aside0.mk (Kd.R_lower (Kd.R_new' (Kd.R_new' ho0 (Kd.R_lt (by (with_reducible repeat (first | apply Kd.R_alloc | apply Kd.R_drewN | apply Kd.R_drew)); exact (Kd.R_mono (Kd.R_far (p := ⟨gb431, 5, none⟩) (Kd.R_far (p := ⟨gb431, 4, none⟩) (Kd.R_far (p := ⟨gb431, 3, none⟩) (Kd.R_far (p := ⟨gb431, 2, none⟩) (Kd.R_far (p := ⟨gb431, 1, none⟩) (Kd.R_far (p := ⟨gb431, 0, none⟩) (Kd.R_types HO423.out BK431.out (by decide)) (fun _ hk => hk.2) (.int .i64 t418)) (fun _ hk => hk.2) (.int .i64 t419)) (fun _ hk => hk.2) (.int .i64 t420)) (fun _ hk => hk.2) (.slice Ao12 t421.length co12)) (fun _ hk => hk.2) (.slice Ao13 t424.length co13)) (fun _ hk => hk.2) (.slice Ao14 t427.length co14)) (fun _ _ => trivial))))) (Kd.R_lt (by (with_reducible repeat (first | apply Kd.R_alloc | apply Kd.R_drewN | apply Kd.R_drew)); exact (Kd.R_mono (Kd.R_far (p := ⟨gb431, 5, none⟩) (Kd.R_far (p := ⟨gb431, 4, none⟩) (Kd.R_far (p := ⟨gb431, 3, none⟩) (Kd.R_far (p := ⟨gb431, 2, none⟩) (Kd.R_far (p := ⟨gb431, 1, none⟩) (Kd.R_far (p := ⟨gb431, 0, none⟩) (Kd.R_types HO426.out BK431.out (by decide)) (fun _ hk => hk.2) (.int .i64 t418)) (fun _ hk => hk.2) (.int .i64 t419)) (fun _ hk => hk.2) (.int .i64 t420)) (fun _ hk => hk.2) (.slice Ao12 t421.length co12)) (fun _ hk => hk.2) (.slice Ao13 t424.length co13)) (fun _ hk => hk.2) (.slice Ao14 t427.length co14)) (fun _ _ => trivial))))) (below_size (by with_reducible repeat (first | exact HB.out | apply below_alloc | apply pw_below_drewN | apply below_drew1 | refine below_set ?_ GE431.out)))); have n5_ := Aside0.mk (Kd.R_lower (Kd.R_new' (Kd.R_new' ho1 (Kd.R_lt (by (with_reducible repeat (first | apply Kd.R_alloc | apply Kd.R_drewN | apply Kd.R_drew)); exact (Kd.R_mono (Kd.R_far (p := ⟨gb431, 5, none⟩) (Kd.R_far (p := ⟨gb431, 4, none⟩) (Kd.R_far (p := ⟨gb431, 3, none⟩) (Kd.R_far (p := ⟨gb431, 2, none⟩) (Kd.R_far (p := ⟨gb431, 1, none⟩) (Kd.R_far (p := ⟨gb431, 0, none⟩) (Kd.R_types HO423.out BK431.out (by decide)) (fun _ hk => hk.2) (.int .i64 t418)) (fun _ hk => hk.2) (.int .i64 t419)) (fun _ hk => hk.2) (.int .i64 t420)) (fun _ hk => hk.2) (.slice Ao12 t421.length co12)) (fun _ hk => hk.2) (.slice Ao13 t424.length co13)) (fun _ hk => hk.2) (.slice Ao14 t427.length co14)) (fun _ _ => trivial))))) (Kd.R_lt (by (with_reducible repeat (first | apply Kd.R_alloc | apply Kd.R_drewN | apply Kd.R_drew)); exact (Kd.R_mono (Kd.R_far (p := ⟨gb431, 5, none⟩) (Kd.R_far (p := ⟨gb431, 4, none⟩) (Kd.R_far (p := ⟨gb431, 3, none⟩) (Kd.R_far (p := ⟨gb431, 2, none⟩) (Kd.R_far (p := ⟨gb431, 1, none⟩) (Kd.R_far (p := ⟨gb431, 0, none⟩) (Kd.R_types HO426.out BK431.out (by decide)) (fun _ hk => hk.2) (.int .i64 t418)) (fun _ hk => hk.2) (.int .i64 t419)) (fun _ hk => hk.2) (.int .i64 t420)) (fun _ hk => hk.2) (.slice Ao12 t421.length co12)) (fun _ hk => hk.2) (.slice Ao13 t424.length co13)) (fun _ hk => hk.2) (.slice Ao14 t427.length co14)) (fun _ _ => trivial))))) (below_size (by with_reducible repeat (first | exact HB.out | apply below_alloc | apply pw_below_drewN | apply below_drew1 | refine below_set ?_ GE431.out)))); have n6_ := Aside0.mk (Kd.S_lower (Kd.S_new' (Kd.S_new' (Kd.S_new' ho2 (Kd.R_lt (by (with_reducible repeat (first | apply Kd.R_alloc | apply Kd.R_drewN | apply Kd.R_drew)); exact (Kd.R_mono (Kd.R_far (p := ⟨gb431, 5, none⟩) (Kd.R_far (p := ⟨gb431, 4, none⟩) (Kd.R_far (p := ⟨gb431, 3, none⟩) (Kd.R_far (p := ⟨gb431, 2, none⟩) (Kd.R_far (p := ⟨gb431, 1, none⟩) (Kd.R_far (p := ⟨gb431, 0, none⟩) (Kd.R_types HO423.out BK431.out (by decide)) (fun _ hk => hk.2) (.int .i64 t418)) (fun _ hk => hk.2) (.int .i64 t419)) (fun _ hk => hk.2) (.int .i64 t420)) (fun _ hk => hk.2) (.slice Ao12 t421.length co12)) (fun _ hk => hk.2) (.slice Ao13 t424.length co13)) (fun _ hk => hk.2) (.slice Ao14 t427.length co14)) (fun _ _ => trivial))))) (Kd.R_lt (by (with_reducible repeat (first | apply Kd.R_alloc | apply Kd.R_drewN | apply Kd.R_drew)); exact (Kd.R_mono (Kd.R_far (p := ⟨gb431, 5, none⟩) (Kd.R_far (p := ⟨gb431, 4, none⟩) (Kd.R_far (p := ⟨gb431, 3, none⟩) (Kd.R_far (p := ⟨gb431, 2, none⟩) (Kd.R_far (p := ⟨gb431, 1, none⟩) (Kd.R_far (p := ⟨gb431, 0, none⟩) (Kd.R_types HO426.out BK431.out (by decide)) (fun _ hk => hk.2) (.int .i64 t418)) (fun _ hk => hk.2) (.int .i64 t419)) (fun _ hk => hk.2) (.int .i64 t420)) (fun _ hk => hk.2) (.slice Ao12 t421.length co12)) (fun _ hk => hk.2) (.slice Ao13 t424.length co13)) (fun _ hk => hk.2) (.slice Ao14 t427.length co14)) (fun _ _ => trivial))))) (Kd.S_lt (by (with_reducible repeat (first | apply Kd.S_alloc | apply Kd.S_drewN | apply Kd.S_drew)); exact (Kd.S_mono (Kd.S_far (p := ⟨gb431, 5, none⟩) (Kd.S_far (p := ⟨gb431, 4, none⟩) (Kd.S_far (p := ⟨gb431, 3, none⟩) (Kd.S_far (p := ⟨gb431, 2, none⟩) (Kd.S_far (p := ⟨gb431, 1, none⟩) (Kd.S_far (p := ⟨gb431, 0, none⟩) (Kd.S_types HO429.out BK431.out (by decide)) (fun _ hk => hk.2) (.int .i64 t418)) (fun _ hk => hk.2) (.int .i64 t419)) (fun _ hk => hk.2) (.int .i64 t420)) (fun _ hk => hk.2) (.slice Ao12 t421.length co12)) (fun _ hk => hk.2) (.slice Ao13 t424.length co13)) (fun _ hk => hk.2) (.slice Ao14 t427.length co14)) (fun _ _ => trivial))))) (below_size (by with_reducible repeat (first | exact HB.out | apply below_alloc | apply pw_below_drewN | apply below_drew1 | refine below_set ?_ GE431.out)))); have n7_ := Aside0.mk (blk_below (g := gb431) (o := .cells #[.int .i64 t418, .int .i64 t419, .int .i64 t420, .slice Ao12 t421.length co12, .slice Ao13 t424.length co13, .slice Ao14 t427.length co14] 26 (0, 0)) (by (with_reducible repeat (first | refine blk_drewN ?_ _ | refine blk_drew ?_ | refine blk_alloc ?_ _)); refine blk_put (cs := #[.int .i64 t418, .int .i64 t419, .int .i64 t420, .slice Ao12 t421.length co12, .slice Ao13 t424.length co13, .slice none 0 0]) ?_ 5 _ rfl; (with_reducible repeat (first | refine blk_drewN ?_ _ | refine blk_drew ?_ | refine blk_alloc ?_ _)); refine blk_put (cs := #[.int .i64 t418, .int .i64 t419, .int .i64 t420, .slice Ao12 t421.length co12, .slice none 0 0, .slice none 0 0]) ?_ 4 _ rfl; (with_reducible repeat (first | refine blk_drewN ?_ _ | refine blk_drew ?_ | refine blk_alloc ?_ _)); refine blk_put (cs := #[.int .i64 t418, .int .i64 t419, .int .i64 t420, .slice none 0 0, .slice none 0 0, .slice none 0 0]) ?_ 3 _ rfl; (with_reducible repeat (first | refine blk_drewN ?_ _ | refine blk_drew ?_ | refine blk_alloc ?_ _)); refine blk_put (cs := #[.int .i64 t418, .int .i64 t419, .int .i64 0, .slice none 0 0, .slice none 0 0, .slice none 0 0]) ?_ 2 _ rfl; (with_reducible repeat (first | refine blk_drewN ?_ _ | refine blk_drew ?_ | refine blk_alloc ?_ _)); refine blk_put (cs := #[.int .i64 t418, .int .i64 0, .int .i64 0, .slice none 0 0, .slice none 0 0, .slice none 0 0]) ?_ 1 _ rfl; (with_reducible repeat (first | refine blk_drewN ?_ _ | refine blk_drew ?_ | refine blk_alloc ?_ _)); refine blk_put (cs := #[.int .i64 0, .int .i64 0, .int .i64 0, .slice none 0 0, .slice none 0 0, .slice none 0 0]) ?_ 0 _ rfl; (with_reducible repeat (first | refine blk_drewN ?_ _ | refine blk_drew ?_ | refine blk_alloc ?_ _)); exact BK431.out) hb); have n8_ := Aside0.mk (below_step (by with_reducible repeat (first | exact HB.out | apply below_alloc | apply pw_below_drewN | apply below_drew1 | refine below_set ?_ GE431.out)) hb); clear HO417; clear HO423; clear HO426; clear HO429; clear BK431; clear HB; have HO417 := n0_; have HO423 := n1_; have HO426 := n2_; have HO429 := n3_; have HO437 := n4_; have HO440 := n5_; have HO443 := n6_; have BK431 := n7_; have HB := n8_; clear n0_ n1_ n2_ n3_ n4_ n5_ n6_ n7_ n8_; (try clear hb); (try clear hb2); (try clear hk); (try clear hi); (try clear ho0); (try clear ho1); (try clear ho2)) | ((with_reducible refine gate_dst (N := 6) rfl ?_); refine box_event ?hg (N := 6) ?hd (cs := #[.int .i64 0, .int .i64 0, .int .i64 0, .slice none 0 0, .slice none 0 0, .slice none 0 0]) (t := 26) ?hr ?_; (case hd => rfl); (case hg => rfl); (case hr => first | (go_simp; done) | (go_simp; rfl)); intro gb445 hg w16 hbox hb; have n0_ := Aside0.mk (Kd.R_below (by (with_reducible repeat (first | apply Kd.R_alloc | apply Kd.R_drewN | apply Kd.R_drew)); exact HO417.out) hb); have n1_ := Aside0.mk (Kd.R_below (by (with_reducible repeat (first | apply Kd.R_alloc | apply Kd.R_drewN | apply Kd.R_drew)); exact HO423.out) hb); have n2_ := Aside0.mk (Kd.R_below (by (with_reducible repeat (first | apply Kd.R_alloc | apply Kd.R_drewN | apply Kd.R_drew)); exact HO426.out) hb); have n3_ := Aside0.mk (Kd.S_below (by (with_reducible repeat (first | apply Kd.S_alloc | apply Kd.S_drewN | apply Kd.S_drew)); exact HO429.out) hb); have n4_ := Aside0.mk (Kd.R_below (by (with_reducible repeat (first | apply Kd.R_alloc | apply Kd.R_drewN | apply Kd.R_drew)); exact HO437.out) hb); have n5_ := Aside0.mk (Kd.R_below (by (with_reducible repeat (first | apply Kd.R_alloc | apply Kd.R_drewN | apply Kd.R_drew)); exact HO440.out) hb); have n6_ := Aside0.mk (Kd.S_below (by (with_reducible repeat (first | apply Kd.S_alloc | apply Kd.S_drewN | apply Kd.S_drew)); exact HO443.out) hb); have n7_ := Aside0.mk (blk_below (g := gb431) (o := .cells #[.int .i64 t418, .int .i64 t419, .int .i64 t420, .slice Ao12 t421.length co12, .slice Ao13 t424.length co13, .slice Ao14 t427.length co14] 26 (0, 0)) (by (with_reducible repeat (first | refine blk_drewN ?_ _ | refine blk_drew ?_ | refine blk_alloc ?_ _)); exact BK431.out) hb); have n8_ := Aside0.mk (below_step (by with_reducible repeat (first | exact HB.out | apply below_alloc | apply pw_below_drewN | apply below_drew1 | refine below_set ?_ GE431.out)) hb); have n9_ := Aside0.mk (hbox); have n10_ := Aside0.mk ((by rw [hg]; exact (below_size (by with_reducible repeat (first | exact HB.out | apply below_alloc | apply pw_below_drewN | apply below_drew1 | refine below_set ?_ GE431.out))) : w.heap.size ≤ gb445)); have n11_ := Aside0.mk ((by rw [hg]; exact (below_size (by with_reducible repeat (first | exact HB.out | apply below_alloc | apply pw_below_drewN | apply below_drew1 | refine below_set ?_ GE431.out))) : w.heap.size ≤ gb445)); have n12_ := Aside0.mk ((by rw [hg]; exact Nat.ne_of_lt (blk_lt (g := gb431) (o := .cells #[.int .i64 t418, .int .i64 t419, .int .i64 t420, .slice Ao12 t421.length co12, .slice Ao13 t424.length co13, .slice Ao14 t427.length co14] 26 (0, 0)) (by (with_reducible repeat (first | refine blk_drewN ?_ _ | refine blk_drew ?_ | refine blk_alloc ?_ _)); exact BK431.out)) : gb431 ≠ gb445)); have n13_ := Aside0.mk ((by rw [hg]; exact Nat.ne_of_gt (blk_lt (g := gb431) (o := .cells #[.int .i64 t418, .int .i64 t419, .int .i64 t420, .slice Ao12 t421.length co12, .slice Ao13 t424.length co13, .slice Ao14 t427.length co14] 26 (0, 0)) (by (with_reducible repeat (first | refine blk_drewN ?_ _ | refine blk_drew ?_ | refine blk_alloc ?_ _)); exact BK431.out)) : gb445 ≠ gb431)); clear HO417; clear HO423; clear HO426; clear HO429; clear HO437; clear HO440; clear HO443; clear BK431; clear HB; have HO417 := n0_; have HO423 := n1_; have HO426 := n2_; have HO429 := n3_; have HO437 := n4_; have HO440 := n5_; have HO443 := n6_; have BK431 := n7_; have HB := n8_; have BK445 := n9_; have GW445 := n10_; have GE445 := n11_; have NB431_445 := n12_; have NB445_431 := n13_; clear n0_ n1_ n2_ n3_ n4_ n5_ n6_ n7_ n8_ n9_ n10_ n11_ n12_ n13_; clear hb hbox hg; have hnb17 := NB445_431.out; have hnc17 := NB431_445.out; have hcz18 := fun i_ => blk_cell BK445.out i_; have hfz18 := fun i_ => blk_frozen BK445.out i_; obtain ⟨Ao19, co19, eo19⟩ := Kd.R_slice HO437.out; subst eo19; obtain ⟨Ao20, co20, eo20⟩ := Kd.R_slice HO440.out; subst eo20; obtain ⟨Ao21, co21, eo21⟩ := Kd.S_slice HO443.out; subst eo21))
  (try simp only [Act.put, List.setIfInBounds_toArray, List.set_cons_zero, List.set_cons_succ])
  go_cut [38] (fun v38 wc => ∃ (kq : Nat) (x38_5 : Bool), v38 = .bool x38_5 ∧ Aside0 (raddlelaw08_MsgReads.j0 kq l0 t430 x38_5 t418 t419 t420 t421 t424 t427 = some r) ∧ Aside0 (kq ≤ k) ∧ Aside0 (Kd.R (Kd.int .i64) 3 wc w.heap.size (fun _ => True) (.slice Ao12 t421.length co12) t421) ∧ Aside0 (Kd.R (Kd.int .i64) 3 wc w.heap.size (fun _ => True) (.slice Ao13 t424.length co13) t424) ∧ Aside0 (Kd.S k52 52 wc w.heap.size (fun _ => True) (.slice Ao14 t427.length co14) t427) ∧ Aside0 (Kd.R (Kd.int .i64) 3 wc w.heap.size (fun _ => True) (.slice Ao19 t435.length co19) t435) ∧ Aside0 (Kd.R (Kd.int .i64) 3 wc w.heap.size (fun _ => True) (.slice Ao20 t438.length co20) t438) ∧ Aside0 (Kd.S k52 52 wc w.heap.size (fun _ => True) (.slice Ao21 t441.length co21) t441) ∧ Aside0 (wc.heap[gb431]? = some (.cells #[.int .i64 t418, .int .i64 t419, .int .i64 t420, (.slice Ao12 t421.length co12), (.slice Ao13 t424.length co13), (.slice Ao14 t427.length co14)] 26 (0, 0))) ∧ Aside0 (wc.heap[gb445]? = some (.cells #[.int .i64 t432, .int .i64 t433, .int .i64 t434, (.slice Ao19 t435.length co19), (.slice Ao20 t438.length co20), (.slice Ao21 t441.length co21)] 26 (0, 0))) ∧ Aside0 (Below w.heap.size w wc))
  case first =>
   have H := HC6.out
   clear HC6
   by_cases c22 : t430 = t444
   ·rw [if_pos c22] at H
    have c22b0 : (t430 == t444) = true := beq_iff_eq.mpr c22
    have c22b1 : (t430 != t444) = false := bne_eq_false_iff_eq.mpr c22
    clear c22
    (first | rw [c22b0] | (simp only [i64_w, i32_w]; rw [c22b0]) | skip)
    replace H := Option.bind_eq_some_iff.mp H
    obtain ⟨t446, A230, H⟩ := H
    try dsimp only at H
    have A23 := Aside0.mk A230
    clear A230
    by_cases c24 : t446 = true
    ·subst c24
     rw [if_pos rfl] at H
     replace H := Option.bind_eq_some_iff.mp H
     obtain ⟨t447, A250, H⟩ := H
     try dsimp only at H
     have A25 := Aside0.mk A250
     clear A250
     have H' := Aside0.mk H
     clear H
     have hnb26 := NB431_445.out
     have hnc26 := NB445_431.out
     have hcz27 := fun i_ => blk_cell BK431.out i_
     have hfz27 := fun i_ => blk_frozen BK431.out i_
     have hcz28 := fun i_ => blk_cell BK445.out i_
     have hfz28 := fun i_ => blk_frozen BK445.out i_
     go_wp2_with (first | (go_at_call 15; (with_reducible refine (raddlekeep_Msg.calls k t418 t419 t420 _ _ t421 _ _ t424 _ _ t427 t432 t433 t434 _ _ t435 _ _ t438 _ _ t441 true _ ?side1 ?side2 ?side3 ?side4 ?side5 ?side6 ?side7 ?side8 ?side9 ?side10 ?side11 ?side12 A23.out).mono ?_); (case side1 => refine (Kd.R_reads' (e := 3) (base := w.heap.size) (ok := fun _ => True) (n := t421.length) (c := co12) ?_).2.2; exact (by (with_reducible repeat (first | apply Kd.R_alloc | apply Kd.R_drewN | apply Kd.R_drew)); exact (Kd.R_mono (Kd.R_far (p := ⟨gb445, 5, none⟩) (Kd.R_far (p := ⟨gb445, 4, none⟩) (Kd.R_far (p := ⟨gb445, 3, none⟩) (Kd.R_far (p := ⟨gb445, 2, none⟩) (Kd.R_far (p := ⟨gb445, 1, none⟩) (Kd.R_far (p := ⟨gb445, 0, none⟩) (Kd.R_types HO423.out BK445.out (by decide)) (fun _ hk => hk.2) (.int .i64 t432)) (fun _ hk => hk.2) (.int .i64 t433)) (fun _ hk => hk.2) (.int .i64 t434)) (fun _ hk => hk.2) (.slice Ao19 t435.length co19)) (fun _ hk => hk.2) (.slice Ao20 t438.length co20)) (fun _ hk => hk.2) (.slice Ao21 t441.length co21)) (fun _ _ => trivial)))); (case side2 => exact (Kd.R_reads' HO423.out).2.1); (case side3 => refine (Kd.R_reads' (e := 3) (base := w.heap.size) (ok := fun _ => True) (n := t424.length) (c := co13) ?_).2.2; exact (by (with_reducible repeat (first | apply Kd.R_alloc | apply Kd.R_drewN | apply Kd.R_drew)); exact (Kd.R_mono (Kd.R_far (p := ⟨gb445, 5, none⟩) (Kd.R_far (p := ⟨gb445, 4, none⟩) (Kd.R_far (p := ⟨gb445, 3, none⟩) (Kd.R_far (p := ⟨gb445, 2, none⟩) (Kd.R_far (p := ⟨gb445, 1, none⟩) (Kd.R_far (p := ⟨gb445, 0, none⟩) (Kd.R_types HO426.out BK445.out (by decide)) (fun _ hk => hk.2) (.int .i64 t432)) (fun _ hk => hk.2) (.int .i64 t433)) (fun _ hk => hk.2) (.int .i64 t434)) (fun _ hk => hk.2) (.slice Ao19 t435.length co19)) (fun _ hk => hk.2) (.slice Ao20 t438.length co20)) (fun _ hk => hk.2) (.slice Ao21 t441.length co21)) (fun _ _ => trivial)))); (case side4 => exact (Kd.R_reads' HO426.out).2.1); (case side5 => refine (Kd.S_reads' (e := 52) (base := w.heap.size) (ok := fun _ => True) (n := t427.length) (c := co14) ?_).2.2; exact (by (with_reducible repeat (first | apply Kd.S_alloc | apply Kd.S_drewN | apply Kd.S_drew)); exact (Kd.S_mono (Kd.S_far (p := ⟨gb445, 5, none⟩) (Kd.S_far (p := ⟨gb445, 4, none⟩) (Kd.S_far (p := ⟨gb445, 3, none⟩) (Kd.S_far (p := ⟨gb445, 2, none⟩) (Kd.S_far (p := ⟨gb445, 1, none⟩) (Kd.S_far (p := ⟨gb445, 0, none⟩) (Kd.S_types HO429.out BK445.out (by decide)) (fun _ hk => hk.2) (.int .i64 t432)) (fun _ hk => hk.2) (.int .i64 t433)) (fun _ hk => hk.2) (.int .i64 t434)) (fun _ hk => hk.2) (.slice Ao19 t435.length co19)) (fun _ hk => hk.2) (.slice Ao20 t438.length co20)) (fun _ hk => hk.2) (.slice Ao21 t441.length co21)) (fun _ _ => trivial)))); (case side6 => exact (Kd.S_reads' HO429.out).2.1); (case side7 => refine (Kd.R_reads' (e := 3) (base := w.heap.size) (ok := fun _ => True) (n := t435.length) (c := co19) ?_).2.2; exact (by (with_reducible repeat (first | apply Kd.R_alloc | apply Kd.R_drewN | apply Kd.R_drew)); exact (Kd.R_mono (Kd.R_far (p := ⟨gb445, 5, none⟩) (Kd.R_far (p := ⟨gb445, 4, none⟩) (Kd.R_far (p := ⟨gb445, 3, none⟩) (Kd.R_far (p := ⟨gb445, 2, none⟩) (Kd.R_far (p := ⟨gb445, 1, none⟩) (Kd.R_far (p := ⟨gb445, 0, none⟩) (Kd.R_types HO437.out BK445.out (by decide)) (fun _ hk => hk.2) (.int .i64 t432)) (fun _ hk => hk.2) (.int .i64 t433)) (fun _ hk => hk.2) (.int .i64 t434)) (fun _ hk => hk.2) (.slice Ao19 t435.length co19)) (fun _ hk => hk.2) (.slice Ao20 t438.length co20)) (fun _ hk => hk.2) (.slice Ao21 t441.length co21)) (fun _ _ => trivial)))); (case side8 => exact (Kd.R_reads' HO437.out).2.1); (case side9 => refine (Kd.R_reads' (e := 3) (base := w.heap.size) (ok := fun _ => True) (n := t438.length) (c := co20) ?_).2.2; exact (by (with_reducible repeat (first | apply Kd.R_alloc | apply Kd.R_drewN | apply Kd.R_drew)); exact (Kd.R_mono (Kd.R_far (p := ⟨gb445, 5, none⟩) (Kd.R_far (p := ⟨gb445, 4, none⟩) (Kd.R_far (p := ⟨gb445, 3, none⟩) (Kd.R_far (p := ⟨gb445, 2, none⟩) (Kd.R_far (p := ⟨gb445, 1, none⟩) (Kd.R_far (p := ⟨gb445, 0, none⟩) (Kd.R_types HO440.out BK445.out (by decide)) (fun _ hk => hk.2) (.int .i64 t432)) (fun _ hk => hk.2) (.int .i64 t433)) (fun _ hk => hk.2) (.int .i64 t434)) (fun _ hk => hk.2) (.slice Ao19 t435.length co19)) (fun _ hk => hk.2) (.slice Ao20 t438.length co20)) (fun _ hk => hk.2) (.slice Ao21 t441.length co21)) (fun _ _ => trivial)))); (case side10 => exact (Kd.R_reads' HO440.out).2.1); (case side11 => refine (Kd.S_reads' (e := 52) (base := w.heap.size) (ok := fun _ => True) (n := t441.length) (c := co21) ?_).2.2; exact (by (with_reducible repeat (first | apply Kd.S_alloc | apply Kd.S_drewN | apply Kd.S_drew)); exact (Kd.S_mono (Kd.S_far (p := ⟨gb445, 5, none⟩) (Kd.S_far (p := ⟨gb445, 4, none⟩) (Kd.S_far (p := ⟨gb445, 3, none⟩) (Kd.S_far (p := ⟨gb445, 2, none⟩) (Kd.S_far (p := ⟨gb445, 1, none⟩) (Kd.S_far (p := ⟨gb445, 0, none⟩) (Kd.S_types HO443.out BK445.out (by decide)) (fun _ hk => hk.2) (.int .i64 t432)) (fun _ hk => hk.2) (.int .i64 t433)) (fun _ hk => hk.2) (.int .i64 t434)) (fun _ hk => hk.2) (.slice Ao19 t435.length co19)) (fun _ hk => hk.2) (.slice Ao20 t438.length co20)) (fun _ hk => hk.2) (.slice Ao21 t441.length co21)) (fun _ _ => trivial)))); (case side12 => exact (Kd.S_reads' HO443.out).2.1); rintro e w29 ⟨rfl, hb⟩; have n0_ := Aside0.mk (Kd.R_below (by (with_reducible repeat (first | apply Kd.R_alloc | apply Kd.R_drewN | apply Kd.R_drew)); exact (Kd.R_mono (Kd.R_far (p := ⟨gb445, 5, none⟩) (Kd.R_far (p := ⟨gb445, 4, none⟩) (Kd.R_far (p := ⟨gb445, 3, none⟩) (Kd.R_far (p := ⟨gb445, 2, none⟩) (Kd.R_far (p := ⟨gb445, 1, none⟩) (Kd.R_far (p := ⟨gb445, 0, none⟩) (Kd.R_types HO417.out BK445.out (by decide)) (fun _ hk => hk.2) (.int .i64 t432)) (fun _ hk => hk.2) (.int .i64 t433)) (fun _ hk => hk.2) (.int .i64 t434)) (fun _ hk => hk.2) (.slice Ao19 t435.length co19)) (fun _ hk => hk.2) (.slice Ao20 t438.length co20)) (fun _ hk => hk.2) (.slice Ao21 t441.length co21)) (fun _ _ => trivial))) hb); have n1_ := Aside0.mk (Kd.R_below (by (with_reducible repeat (first | apply Kd.R_alloc | apply Kd.R_drewN | apply Kd.R_drew)); exact (Kd.R_mono (Kd.R_far (p := ⟨gb445, 5, none⟩) (Kd.R_far (p := ⟨gb445, 4, none⟩) (Kd.R_far (p := ⟨gb445, 3, none⟩) (Kd.R_far (p := ⟨gb445, 2, none⟩) (Kd.R_far (p := ⟨gb445, 1, none⟩) (Kd.R_far (p := ⟨gb445, 0, none⟩) (Kd.R_types HO423.out BK445.out (by decide)) (fun _ hk => hk.2) (.int .i64 t432)) (fun _ hk => hk.2) (.int .i64 t433)) (fun _ hk => hk.2) (.int .i64 t434)) (fun _ hk => hk.2) (.slice Ao19 t435.length co19)) (fun _ hk => hk.2) (.slice Ao20 t438.length co20)) (fun _ hk => hk.2) (.slice Ao21 t441.length co21)) (fun _ _ => trivial))) hb); have n2_ := Aside0.mk (Kd.R_below (by (with_reducible repeat (first | apply Kd.R_alloc | apply Kd.R_drewN | apply Kd.R_drew)); exact (Kd.R_mono (Kd.R_far (p := ⟨gb445, 5, none⟩) (Kd.R_far (p := ⟨gb445, 4, none⟩) (Kd.R_far (p := ⟨gb445, 3, none⟩) (Kd.R_far (p := ⟨gb445, 2, none⟩) (Kd.R_far (p := ⟨gb445, 1, none⟩) (Kd.R_far (p := ⟨gb445, 0, none⟩) (Kd.R_types HO426.out BK445.out (by decide)) (fun _ hk => hk.2) (.int .i64 t432)) (fun _ hk => hk.2) (.int .i64 t433)) (fun _ hk => hk.2) (.int .i64 t434)) (fun _ hk => hk.2) (.slice Ao19 t435.length co19)) (fun _ hk => hk.2) (.slice Ao20 t438.length co20)) (fun _ hk => hk.2) (.slice Ao21 t441.length co21)) (fun _ _ => trivial))) hb); have n3_ := Aside0.mk (Kd.S_below (by (with_reducible repeat (first | apply Kd.S_alloc | apply Kd.S_drewN | apply Kd.S_drew)); exact (Kd.S_mono (Kd.S_far (p := ⟨gb445, 5, none⟩) (Kd.S_far (p := ⟨gb445, 4, none⟩) (Kd.S_far (p := ⟨gb445, 3, none⟩) (Kd.S_far (p := ⟨gb445, 2, none⟩) (Kd.S_far (p := ⟨gb445, 1, none⟩) (Kd.S_far (p := ⟨gb445, 0, none⟩) (Kd.S_types HO429.out BK445.out (by decide)) (fun _ hk => hk.2) (.int .i64 t432)) (fun _ hk => hk.2) (.int .i64 t433)) (fun _ hk => hk.2) (.int .i64 t434)) (fun _ hk => hk.2) (.slice Ao19 t435.length co19)) (fun _ hk => hk.2) (.slice Ao20 t438.length co20)) (fun _ hk => hk.2) (.slice Ao21 t441.length co21)) (fun _ _ => trivial))) hb); have n4_ := Aside0.mk (Kd.R_below (by (with_reducible repeat (first | apply Kd.R_alloc | apply Kd.R_drewN | apply Kd.R_drew)); exact (Kd.R_mono (Kd.R_far (p := ⟨gb445, 5, none⟩) (Kd.R_far (p := ⟨gb445, 4, none⟩) (Kd.R_far (p := ⟨gb445, 3, none⟩) (Kd.R_far (p := ⟨gb445, 2, none⟩) (Kd.R_far (p := ⟨gb445, 1, none⟩) (Kd.R_far (p := ⟨gb445, 0, none⟩) (Kd.R_types HO437.out BK445.out (by decide)) (fun _ hk => hk.2) (.int .i64 t432)) (fun _ hk => hk.2) (.int .i64 t433)) (fun _ hk => hk.2) (.int .i64 t434)) (fun _ hk => hk.2) (.slice Ao19 t435.length co19)) (fun _ hk => hk.2) (.slice Ao20 t438.length co20)) (fun _ hk => hk.2) (.slice Ao21 t441.length co21)) (fun _ _ => trivial))) hb); have n5_ := Aside0.mk (Kd.R_below (by (with_reducible repeat (first | apply Kd.R_alloc | apply Kd.R_drewN | apply Kd.R_drew)); exact (Kd.R_mono (Kd.R_far (p := ⟨gb445, 5, none⟩) (Kd.R_far (p := ⟨gb445, 4, none⟩) (Kd.R_far (p := ⟨gb445, 3, none⟩) (Kd.R_far (p := ⟨gb445, 2, none⟩) (Kd.R_far (p := ⟨gb445, 1, none⟩) (Kd.R_far (p := ⟨gb445, 0, none⟩) (Kd.R_types HO440.out BK445.out (by decide)) (fun _ hk => hk.2) (.int .i64 t432)) (fun _ hk => hk.2) (.int .i64 t433)) (fun _ hk => hk.2) (.int .i64 t434)) (fun _ hk => hk.2) (.slice Ao19 t435.length co19)) (fun _ hk => hk.2) (.slice Ao20 t438.length co20)) (fun _ hk => hk.2) (.slice Ao21 t441.length co21)) (fun _ _ => trivial))) hb); have n6_ := Aside0.mk (Kd.S_below (by (with_reducible repeat (first | apply Kd.S_alloc | apply Kd.S_drewN | apply Kd.S_drew)); exact (Kd.S_mono (Kd.S_far (p := ⟨gb445, 5, none⟩) (Kd.S_far (p := ⟨gb445, 4, none⟩) (Kd.S_far (p := ⟨gb445, 3, none⟩) (Kd.S_far (p := ⟨gb445, 2, none⟩) (Kd.S_far (p := ⟨gb445, 1, none⟩) (Kd.S_far (p := ⟨gb445, 0, none⟩) (Kd.S_types HO443.out BK445.out (by decide)) (fun _ hk => hk.2) (.int .i64 t432)) (fun _ hk => hk.2) (.int .i64 t433)) (fun _ hk => hk.2) (.int .i64 t434)) (fun _ hk => hk.2) (.slice Ao19 t435.length co19)) (fun _ hk => hk.2) (.slice Ao20 t438.length co20)) (fun _ hk => hk.2) (.slice Ao21 t441.length co21)) (fun _ _ => trivial))) hb); have n7_ := Aside0.mk (blk_below (g := gb431) (o := .cells #[.int .i64 t418, .int .i64 t419, .int .i64 t420, .slice Ao12 t421.length co12, .slice Ao13 t424.length co13, .slice Ao14 t427.length co14] 26 (0, 0)) (by (with_reducible repeat (first | refine blk_drewN ?_ _ | refine blk_drew ?_ | refine blk_alloc ?_ _)); refine blk_far ?_ NB431_445.out _; (with_reducible repeat (first | refine blk_drewN ?_ _ | refine blk_drew ?_ | refine blk_alloc ?_ _)); refine blk_far ?_ NB431_445.out _; (with_reducible repeat (first | refine blk_drewN ?_ _ | refine blk_drew ?_ | refine blk_alloc ?_ _)); refine blk_far ?_ NB431_445.out _; (with_reducible repeat (first | refine blk_drewN ?_ _ | refine blk_drew ?_ | refine blk_alloc ?_ _)); refine blk_far ?_ NB431_445.out _; (with_reducible repeat (first | refine blk_drewN ?_ _ | refine blk_drew ?_ | refine blk_alloc ?_ _)); refine blk_far ?_ NB431_445.out _; (with_reducible repeat (first | refine blk_drewN ?_ _ | refine blk_drew ?_ | refine blk_alloc ?_ _)); refine blk_far ?_ NB431_445.out _; (with_reducible repeat (first | refine blk_drewN ?_ _ | refine blk_drew ?_ | refine blk_alloc ?_ _)); exact BK431.out) hb); have n8_ := Aside0.mk (blk_below (g := gb445) (o := .cells #[.int .i64 t432, .int .i64 t433, .int .i64 t434, .slice Ao19 t435.length co19, .slice Ao20 t438.length co20, .slice Ao21 t441.length co21] 26 (0, 0)) (by (with_reducible repeat (first | refine blk_drewN ?_ _ | refine blk_drew ?_ | refine blk_alloc ?_ _)); refine blk_put (cs := #[.int .i64 t432, .int .i64 t433, .int .i64 t434, .slice Ao19 t435.length co19, .slice Ao20 t438.length co20, .slice none 0 0]) ?_ 5 _ rfl; (with_reducible repeat (first | refine blk_drewN ?_ _ | refine blk_drew ?_ | refine blk_alloc ?_ _)); refine blk_put (cs := #[.int .i64 t432, .int .i64 t433, .int .i64 t434, .slice Ao19 t435.length co19, .slice none 0 0, .slice none 0 0]) ?_ 4 _ rfl; (with_reducible repeat (first | refine blk_drewN ?_ _ | refine blk_drew ?_ | refine blk_alloc ?_ _)); refine blk_put (cs := #[.int .i64 t432, .int .i64 t433, .int .i64 t434, .slice none 0 0, .slice none 0 0, .slice none 0 0]) ?_ 3 _ rfl; (with_reducible repeat (first | refine blk_drewN ?_ _ | refine blk_drew ?_ | refine blk_alloc ?_ _)); refine blk_put (cs := #[.int .i64 t432, .int .i64 t433, .int .i64 0, .slice none 0 0, .slice none 0 0, .slice none 0 0]) ?_ 2 _ rfl; (with_reducible repeat (first | refine blk_drewN ?_ _ | refine blk_drew ?_ | refine blk_alloc ?_ _)); refine blk_put (cs := #[.int .i64 t432, .int .i64 0, .int .i64 0, .slice none 0 0, .slice none 0 0, .slice none 0 0]) ?_ 1 _ rfl; (with_reducible repeat (first | refine blk_drewN ?_ _ | refine blk_drew ?_ | refine blk_alloc ?_ _)); refine blk_put (cs := #[.int .i64 0, .int .i64 0, .int .i64 0, .slice none 0 0, .slice none 0 0, .slice none 0 0]) ?_ 0 _ rfl; (with_reducible repeat (first | refine blk_drewN ?_ _ | refine blk_drew ?_ | refine blk_alloc ?_ _)); exact BK445.out) hb); have n9_ := Aside0.mk (below_step (by with_reducible repeat (first | exact HB.out | apply below_alloc | apply pw_below_drewN | apply below_drew1 | refine below_set ?_ GE431.out | refine below_set ?_ GE445.out)) hb); clear HO417; clear HO423; clear HO426; clear HO429; clear HO437; clear HO440; clear HO443; clear BK431; clear BK445; clear HB; have HO417 := n0_; have HO423 := n1_; have HO426 := n2_; have HO429 := n3_; have HO437 := n4_; have HO440 := n5_; have HO443 := n6_; have BK431 := n7_; have BK445 := n8_; have HB := n9_; clear n0_ n1_ n2_ n3_ n4_ n5_ n6_ n7_ n8_ n9_; (try clear hb); (try clear hb2); (try clear hk); (try clear hi)) | (go_at_call 14; (with_reducible refine (raddlekeep_Bytes.calls k _ _ t415 _ _ l0 t447 _ ?side1 ?side2 ?side3 ?side4 A25.out).mono ?_); (case side1 => repeat (first | exact (Kd.R_reads' HO417.out).2.2 | (with_reducible refine Kd.C_alloc ?_ _) | (with_reducible refine Kd.C_drewN ?_ _) | (with_reducible refine Kd.C_drew ?_))); (case side2 => exact (Kd.R_reads' HO417.out).2.1); (case side3 => repeat (first | exact (Kd.C_below HR0.out HB.out) | (with_reducible refine Kd.C_alloc ?_ _) | (with_reducible refine Kd.C_drewN ?_ _) | (with_reducible refine Kd.C_drew ?_))); (case side4 => exact HC0.out); rintro e w' ⟨rfl, ⟨nd, rfl⟩⟩))
     go_meet
     case rel => exact ⟨_, (!t447), (by first | rfl | (simp; done) | (simp [*]; done)), H', ⟨by first | omega | exact Nat.le_refl _⟩, ⟨by (with_reducible repeat (first | apply Kd.R_alloc | apply Kd.R_drewN | apply Kd.R_drew)); exact Kd.R_mono HO423.out (fun _ _ => trivial)⟩, ⟨by (with_reducible repeat (first | apply Kd.R_alloc | apply Kd.R_drewN | apply Kd.R_drew)); exact Kd.R_mono HO426.out (fun _ _ => trivial)⟩, ⟨by (with_reducible repeat (first | apply Kd.S_alloc | apply Kd.S_drewN | apply Kd.S_drew)); exact Kd.S_mono HO429.out (fun _ _ => trivial)⟩, ⟨by (with_reducible repeat (first | apply Kd.R_alloc | apply Kd.R_drewN | apply Kd.R_drew)); exact Kd.R_mono HO437.out (fun _ _ => trivial)⟩, ⟨by (with_reducible repeat (first | apply Kd.R_alloc | apply Kd.R_drewN | apply Kd.R_drew)); exact Kd.R_mono HO440.out (fun _ _ => trivial)⟩, ⟨by (with_reducible repeat (first | apply Kd.S_alloc | apply Kd.S_drewN | apply Kd.S_drew)); exact Kd.S_mono HO443.out (fun _ _ => trivial)⟩, ⟨by (with_reducible repeat (first | refine blk_drewN ?_ _ | refine blk_drew ?_ | refine blk_alloc ?_ _)); exact BK431.out⟩, ⟨by (with_reducible repeat (first | refine blk_drewN ?_ _ | refine blk_drew ?_ | refine blk_alloc ?_ _)); exact BK445.out⟩, ⟨by with_reducible repeat (first | exact HB.out | apply below_alloc | apply pw_below_drewN | apply below_drew1 | refine below_set ?_ GE431.out | refine below_set ?_ GE445.out)⟩⟩
    ·replace c24 := Bool.eq_false_iff.mpr c24
     subst c24
     rw [if_neg (show ¬ (false = true) by decide)] at H
     have H' := Aside0.mk H
     clear H
     have hnb30 := NB431_445.out
     have hnc30 := NB445_431.out
     have hcz31 := fun i_ => blk_cell BK431.out i_
     have hfz31 := fun i_ => blk_frozen BK431.out i_
     have hcz32 := fun i_ => blk_cell BK445.out i_
     have hfz32 := fun i_ => blk_frozen BK445.out i_
     go_wp2_with (first | (go_at_call 15; (with_reducible refine (raddlekeep_Msg.calls k t418 t419 t420 _ _ t421 _ _ t424 _ _ t427 t432 t433 t434 _ _ t435 _ _ t438 _ _ t441 false _ ?side1 ?side2 ?side3 ?side4 ?side5 ?side6 ?side7 ?side8 ?side9 ?side10 ?side11 ?side12 A23.out).mono ?_); (case side1 => refine (Kd.R_reads' (e := 3) (base := w.heap.size) (ok := fun _ => True) (n := t421.length) (c := co12) ?_).2.2; exact (by (with_reducible repeat (first | apply Kd.R_alloc | apply Kd.R_drewN | apply Kd.R_drew)); exact (Kd.R_mono (Kd.R_far (p := ⟨gb445, 5, none⟩) (Kd.R_far (p := ⟨gb445, 4, none⟩) (Kd.R_far (p := ⟨gb445, 3, none⟩) (Kd.R_far (p := ⟨gb445, 2, none⟩) (Kd.R_far (p := ⟨gb445, 1, none⟩) (Kd.R_far (p := ⟨gb445, 0, none⟩) (Kd.R_types HO423.out BK445.out (by decide)) (fun _ hk => hk.2) (.int .i64 t432)) (fun _ hk => hk.2) (.int .i64 t433)) (fun _ hk => hk.2) (.int .i64 t434)) (fun _ hk => hk.2) (.slice Ao19 t435.length co19)) (fun _ hk => hk.2) (.slice Ao20 t438.length co20)) (fun _ hk => hk.2) (.slice Ao21 t441.length co21)) (fun _ _ => trivial)))); (case side2 => exact (Kd.R_reads' HO423.out).2.1); (case side3 => refine (Kd.R_reads' (e := 3) (base := w.heap.size) (ok := fun _ => True) (n := t424.length) (c := co13) ?_).2.2; exact (by (with_reducible repeat (first | apply Kd.R_alloc | apply Kd.R_drewN | apply Kd.R_drew)); exact (Kd.R_mono (Kd.R_far (p := ⟨gb445, 5, none⟩) (Kd.R_far (p := ⟨gb445, 4, none⟩) (Kd.R_far (p := ⟨gb445, 3, none⟩) (Kd.R_far (p := ⟨gb445, 2, none⟩) (Kd.R_far (p := ⟨gb445, 1, none⟩) (Kd.R_far (p := ⟨gb445, 0, none⟩) (Kd.R_types HO426.out BK445.out (by decide)) (fun _ hk => hk.2) (.int .i64 t432)) (fun _ hk => hk.2) (.int .i64 t433)) (fun _ hk => hk.2) (.int .i64 t434)) (fun _ hk => hk.2) (.slice Ao19 t435.length co19)) (fun _ hk => hk.2) (.slice Ao20 t438.length co20)) (fun _ hk => hk.2) (.slice Ao21 t441.length co21)) (fun _ _ => trivial)))); (case side4 => exact (Kd.R_reads' HO426.out).2.1); (case side5 => refine (Kd.S_reads' (e := 52) (base := w.heap.size) (ok := fun _ => True) (n := t427.length) (c := co14) ?_).2.2; exact (by (with_reducible repeat (first | apply Kd.S_alloc | apply Kd.S_drewN | apply Kd.S_drew)); exact (Kd.S_mono (Kd.S_far (p := ⟨gb445, 5, none⟩) (Kd.S_far (p := ⟨gb445, 4, none⟩) (Kd.S_far (p := ⟨gb445, 3, none⟩) (Kd.S_far (p := ⟨gb445, 2, none⟩) (Kd.S_far (p := ⟨gb445, 1, none⟩) (Kd.S_far (p := ⟨gb445, 0, none⟩) (Kd.S_types HO429.out BK445.out (by decide)) (fun _ hk => hk.2) (.int .i64 t432)) (fun _ hk => hk.2) (.int .i64 t433)) (fun _ hk => hk.2) (.int .i64 t434)) (fun _ hk => hk.2) (.slice Ao19 t435.length co19)) (fun _ hk => hk.2) (.slice Ao20 t438.length co20)) (fun _ hk => hk.2) (.slice Ao21 t441.length co21)) (fun _ _ => trivial)))); (case side6 => exact (Kd.S_reads' HO429.out).2.1); (case side7 => refine (Kd.R_reads' (e := 3) (base := w.heap.size) (ok := fun _ => True) (n := t435.length) (c := co19) ?_).2.2; exact (by (with_reducible repeat (first | apply Kd.R_alloc | apply Kd.R_drewN | apply Kd.R_drew)); exact (Kd.R_mono (Kd.R_far (p := ⟨gb445, 5, none⟩) (Kd.R_far (p := ⟨gb445, 4, none⟩) (Kd.R_far (p := ⟨gb445, 3, none⟩) (Kd.R_far (p := ⟨gb445, 2, none⟩) (Kd.R_far (p := ⟨gb445, 1, none⟩) (Kd.R_far (p := ⟨gb445, 0, none⟩) (Kd.R_types HO437.out BK445.out (by decide)) (fun _ hk => hk.2) (.int .i64 t432)) (fun _ hk => hk.2) (.int .i64 t433)) (fun _ hk => hk.2) (.int .i64 t434)) (fun _ hk => hk.2) (.slice Ao19 t435.length co19)) (fun _ hk => hk.2) (.slice Ao20 t438.length co20)) (fun _ hk => hk.2) (.slice Ao21 t441.length co21)) (fun _ _ => trivial)))); (case side8 => exact (Kd.R_reads' HO437.out).2.1); (case side9 => refine (Kd.R_reads' (e := 3) (base := w.heap.size) (ok := fun _ => True) (n := t438.length) (c := co20) ?_).2.2; exact (by (with_reducible repeat (first | apply Kd.R_alloc | apply Kd.R_drewN | apply Kd.R_drew)); exact (Kd.R_mono (Kd.R_far (p := ⟨gb445, 5, none⟩) (Kd.R_far (p := ⟨gb445, 4, none⟩) (Kd.R_far (p := ⟨gb445, 3, none⟩) (Kd.R_far (p := ⟨gb445, 2, none⟩) (Kd.R_far (p := ⟨gb445, 1, none⟩) (Kd.R_far (p := ⟨gb445, 0, none⟩) (Kd.R_types HO440.out BK445.out (by decide)) (fun _ hk => hk.2) (.int .i64 t432)) (fun _ hk => hk.2) (.int .i64 t433)) (fun _ hk => hk.2) (.int .i64 t434)) (fun _ hk => hk.2) (.slice Ao19 t435.length co19)) (fun _ hk => hk.2) (.slice Ao20 t438.length co20)) (fun _ hk => hk.2) (.slice Ao21 t441.length co21)) (fun _ _ => trivial)))); (case side10 => exact (Kd.R_reads' HO440.out).2.1); (case side11 => refine (Kd.S_reads' (e := 52) (base := w.heap.size) (ok := fun _ => True) (n := t441.length) (c := co21) ?_).2.2; exact (by (with_reducible repeat (first | apply Kd.S_alloc | apply Kd.S_drewN | apply Kd.S_drew)); exact (Kd.S_mono (Kd.S_far (p := ⟨gb445, 5, none⟩) (Kd.S_far (p := ⟨gb445, 4, none⟩) (Kd.S_far (p := ⟨gb445, 3, none⟩) (Kd.S_far (p := ⟨gb445, 2, none⟩) (Kd.S_far (p := ⟨gb445, 1, none⟩) (Kd.S_far (p := ⟨gb445, 0, none⟩) (Kd.S_types HO443.out BK445.out (by decide)) (fun _ hk => hk.2) (.int .i64 t432)) (fun _ hk => hk.2) (.int .i64 t433)) (fun _ hk => hk.2) (.int .i64 t434)) (fun _ hk => hk.2) (.slice Ao19 t435.length co19)) (fun _ hk => hk.2) (.slice Ao20 t438.length co20)) (fun _ hk => hk.2) (.slice Ao21 t441.length co21)) (fun _ _ => trivial)))); (case side12 => exact (Kd.S_reads' HO443.out).2.1); rintro e w33 ⟨rfl, hb⟩; have n0_ := Aside0.mk (Kd.R_below (by (with_reducible repeat (first | apply Kd.R_alloc | apply Kd.R_drewN | apply Kd.R_drew)); exact (Kd.R_mono (Kd.R_far (p := ⟨gb445, 5, none⟩) (Kd.R_far (p := ⟨gb445, 4, none⟩) (Kd.R_far (p := ⟨gb445, 3, none⟩) (Kd.R_far (p := ⟨gb445, 2, none⟩) (Kd.R_far (p := ⟨gb445, 1, none⟩) (Kd.R_far (p := ⟨gb445, 0, none⟩) (Kd.R_types HO417.out BK445.out (by decide)) (fun _ hk => hk.2) (.int .i64 t432)) (fun _ hk => hk.2) (.int .i64 t433)) (fun _ hk => hk.2) (.int .i64 t434)) (fun _ hk => hk.2) (.slice Ao19 t435.length co19)) (fun _ hk => hk.2) (.slice Ao20 t438.length co20)) (fun _ hk => hk.2) (.slice Ao21 t441.length co21)) (fun _ _ => trivial))) hb); have n1_ := Aside0.mk (Kd.R_below (by (with_reducible repeat (first | apply Kd.R_alloc | apply Kd.R_drewN | apply Kd.R_drew)); exact (Kd.R_mono (Kd.R_far (p := ⟨gb445, 5, none⟩) (Kd.R_far (p := ⟨gb445, 4, none⟩) (Kd.R_far (p := ⟨gb445, 3, none⟩) (Kd.R_far (p := ⟨gb445, 2, none⟩) (Kd.R_far (p := ⟨gb445, 1, none⟩) (Kd.R_far (p := ⟨gb445, 0, none⟩) (Kd.R_types HO423.out BK445.out (by decide)) (fun _ hk => hk.2) (.int .i64 t432)) (fun _ hk => hk.2) (.int .i64 t433)) (fun _ hk => hk.2) (.int .i64 t434)) (fun _ hk => hk.2) (.slice Ao19 t435.length co19)) (fun _ hk => hk.2) (.slice Ao20 t438.length co20)) (fun _ hk => hk.2) (.slice Ao21 t441.length co21)) (fun _ _ => trivial))) hb); have n2_ := Aside0.mk (Kd.R_below (by (with_reducible repeat (first | apply Kd.R_alloc | apply Kd.R_drewN | apply Kd.R_drew)); exact (Kd.R_mono (Kd.R_far (p := ⟨gb445, 5, none⟩) (Kd.R_far (p := ⟨gb445, 4, none⟩) (Kd.R_far (p := ⟨gb445, 3, none⟩) (Kd.R_far (p := ⟨gb445, 2, none⟩) (Kd.R_far (p := ⟨gb445, 1, none⟩) (Kd.R_far (p := ⟨gb445, 0, none⟩) (Kd.R_types HO426.out BK445.out (by decide)) (fun _ hk => hk.2) (.int .i64 t432)) (fun _ hk => hk.2) (.int .i64 t433)) (fun _ hk => hk.2) (.int .i64 t434)) (fun _ hk => hk.2) (.slice Ao19 t435.length co19)) (fun _ hk => hk.2) (.slice Ao20 t438.length co20)) (fun _ hk => hk.2) (.slice Ao21 t441.length co21)) (fun _ _ => trivial))) hb); have n3_ := Aside0.mk (Kd.S_below (by (with_reducible repeat (first | apply Kd.S_alloc | apply Kd.S_drewN | apply Kd.S_drew)); exact (Kd.S_mono (Kd.S_far (p := ⟨gb445, 5, none⟩) (Kd.S_far (p := ⟨gb445, 4, none⟩) (Kd.S_far (p := ⟨gb445, 3, none⟩) (Kd.S_far (p := ⟨gb445, 2, none⟩) (Kd.S_far (p := ⟨gb445, 1, none⟩) (Kd.S_far (p := ⟨gb445, 0, none⟩) (Kd.S_types HO429.out BK445.out (by decide)) (fun _ hk => hk.2) (.int .i64 t432)) (fun _ hk => hk.2) (.int .i64 t433)) (fun _ hk => hk.2) (.int .i64 t434)) (fun _ hk => hk.2) (.slice Ao19 t435.length co19)) (fun _ hk => hk.2) (.slice Ao20 t438.length co20)) (fun _ hk => hk.2) (.slice Ao21 t441.length co21)) (fun _ _ => trivial))) hb); have n4_ := Aside0.mk (Kd.R_below (by (with_reducible repeat (first | apply Kd.R_alloc | apply Kd.R_drewN | apply Kd.R_drew)); exact (Kd.R_mono (Kd.R_far (p := ⟨gb445, 5, none⟩) (Kd.R_far (p := ⟨gb445, 4, none⟩) (Kd.R_far (p := ⟨gb445, 3, none⟩) (Kd.R_far (p := ⟨gb445, 2, none⟩) (Kd.R_far (p := ⟨gb445, 1, none⟩) (Kd.R_far (p := ⟨gb445, 0, none⟩) (Kd.R_types HO437.out BK445.out (by decide)) (fun _ hk => hk.2) (.int .i64 t432)) (fun _ hk => hk.2) (.int .i64 t433)) (fun _ hk => hk.2) (.int .i64 t434)) (fun _ hk => hk.2) (.slice Ao19 t435.length co19)) (fun _ hk => hk.2) (.slice Ao20 t438.length co20)) (fun _ hk => hk.2) (.slice Ao21 t441.length co21)) (fun _ _ => trivial))) hb); have n5_ := Aside0.mk (Kd.R_below (by (with_reducible repeat (first | apply Kd.R_alloc | apply Kd.R_drewN | apply Kd.R_drew)); exact (Kd.R_mono (Kd.R_far (p := ⟨gb445, 5, none⟩) (Kd.R_far (p := ⟨gb445, 4, none⟩) (Kd.R_far (p := ⟨gb445, 3, none⟩) (Kd.R_far (p := ⟨gb445, 2, none⟩) (Kd.R_far (p := ⟨gb445, 1, none⟩) (Kd.R_far (p := ⟨gb445, 0, none⟩) (Kd.R_types HO440.out BK445.out (by decide)) (fun _ hk => hk.2) (.int .i64 t432)) (fun _ hk => hk.2) (.int .i64 t433)) (fun _ hk => hk.2) (.int .i64 t434)) (fun _ hk => hk.2) (.slice Ao19 t435.length co19)) (fun _ hk => hk.2) (.slice Ao20 t438.length co20)) (fun _ hk => hk.2) (.slice Ao21 t441.length co21)) (fun _ _ => trivial))) hb); have n6_ := Aside0.mk (Kd.S_below (by (with_reducible repeat (first | apply Kd.S_alloc | apply Kd.S_drewN | apply Kd.S_drew)); exact (Kd.S_mono (Kd.S_far (p := ⟨gb445, 5, none⟩) (Kd.S_far (p := ⟨gb445, 4, none⟩) (Kd.S_far (p := ⟨gb445, 3, none⟩) (Kd.S_far (p := ⟨gb445, 2, none⟩) (Kd.S_far (p := ⟨gb445, 1, none⟩) (Kd.S_far (p := ⟨gb445, 0, none⟩) (Kd.S_types HO443.out BK445.out (by decide)) (fun _ hk => hk.2) (.int .i64 t432)) (fun _ hk => hk.2) (.int .i64 t433)) (fun _ hk => hk.2) (.int .i64 t434)) (fun _ hk => hk.2) (.slice Ao19 t435.length co19)) (fun _ hk => hk.2) (.slice Ao20 t438.length co20)) (fun _ hk => hk.2) (.slice Ao21 t441.length co21)) (fun _ _ => trivial))) hb); have n7_ := Aside0.mk (blk_below (g := gb431) (o := .cells #[.int .i64 t418, .int .i64 t419, .int .i64 t420, .slice Ao12 t421.length co12, .slice Ao13 t424.length co13, .slice Ao14 t427.length co14] 26 (0, 0)) (by (with_reducible repeat (first | refine blk_drewN ?_ _ | refine blk_drew ?_ | refine blk_alloc ?_ _)); refine blk_far ?_ NB431_445.out _; (with_reducible repeat (first | refine blk_drewN ?_ _ | refine blk_drew ?_ | refine blk_alloc ?_ _)); refine blk_far ?_ NB431_445.out _; (with_reducible repeat (first | refine blk_drewN ?_ _ | refine blk_drew ?_ | refine blk_alloc ?_ _)); refine blk_far ?_ NB431_445.out _; (with_reducible repeat (first | refine blk_drewN ?_ _ | refine blk_drew ?_ | refine blk_alloc ?_ _)); refine blk_far ?_ NB431_445.out _; (with_reducible repeat (first | refine blk_drewN ?_ _ | refine blk_drew ?_ | refine blk_alloc ?_ _)); refine blk_far ?_ NB431_445.out _; (with_reducible repeat (first | refine blk_drewN ?_ _ | refine blk_drew ?_ | refine blk_alloc ?_ _)); refine blk_far ?_ NB431_445.out _; (with_reducible repeat (first | refine blk_drewN ?_ _ | refine blk_drew ?_ | refine blk_alloc ?_ _)); exact BK431.out) hb); have n8_ := Aside0.mk (blk_below (g := gb445) (o := .cells #[.int .i64 t432, .int .i64 t433, .int .i64 t434, .slice Ao19 t435.length co19, .slice Ao20 t438.length co20, .slice Ao21 t441.length co21] 26 (0, 0)) (by (with_reducible repeat (first | refine blk_drewN ?_ _ | refine blk_drew ?_ | refine blk_alloc ?_ _)); refine blk_put (cs := #[.int .i64 t432, .int .i64 t433, .int .i64 t434, .slice Ao19 t435.length co19, .slice Ao20 t438.length co20, .slice none 0 0]) ?_ 5 _ rfl; (with_reducible repeat (first | refine blk_drewN ?_ _ | refine blk_drew ?_ | refine blk_alloc ?_ _)); refine blk_put (cs := #[.int .i64 t432, .int .i64 t433, .int .i64 t434, .slice Ao19 t435.length co19, .slice none 0 0, .slice none 0 0]) ?_ 4 _ rfl; (with_reducible repeat (first | refine blk_drewN ?_ _ | refine blk_drew ?_ | refine blk_alloc ?_ _)); refine blk_put (cs := #[.int .i64 t432, .int .i64 t433, .int .i64 t434, .slice none 0 0, .slice none 0 0, .slice none 0 0]) ?_ 3 _ rfl; (with_reducible repeat (first | refine blk_drewN ?_ _ | refine blk_drew ?_ | refine blk_alloc ?_ _)); refine blk_put (cs := #[.int .i64 t432, .int .i64 t433, .int .i64 0, .slice none 0 0, .slice none 0 0, .slice none 0 0]) ?_ 2 _ rfl; (with_reducible repeat (first | refine blk_drewN ?_ _ | refine blk_drew ?_ | refine blk_alloc ?_ _)); refine blk_put (cs := #[.int .i64 t432, .int .i64 0, .int .i64 0, .slice none 0 0, .slice none 0 0, .slice none 0 0]) ?_ 1 _ rfl; (with_reducible repeat (first | refine blk_drewN ?_ _ | refine blk_drew ?_ | refine blk_alloc ?_ _)); refine blk_put (cs := #[.int .i64 0, .int .i64 0, .int .i64 0, .slice none 0 0, .slice none 0 0, .slice none 0 0]) ?_ 0 _ rfl; (with_reducible repeat (first | refine blk_drewN ?_ _ | refine blk_drew ?_ | refine blk_alloc ?_ _)); exact BK445.out) hb); have n9_ := Aside0.mk (below_step (by with_reducible repeat (first | exact HB.out | apply below_alloc | apply pw_below_drewN | apply below_drew1 | refine below_set ?_ GE431.out | refine below_set ?_ GE445.out)) hb); clear HO417; clear HO423; clear HO426; clear HO429; clear HO437; clear HO440; clear HO443; clear BK431; clear BK445; clear HB; have HO417 := n0_; have HO423 := n1_; have HO426 := n2_; have HO429 := n3_; have HO437 := n4_; have HO440 := n5_; have HO443 := n6_; have BK431 := n7_; have BK445 := n8_; have HB := n9_; clear n0_ n1_ n2_ n3_ n4_ n5_ n6_ n7_ n8_ n9_; (try clear hb); (try clear hb2); (try clear hk); (try clear hi)))
     go_meet
     case rel => exact ⟨_, (true), (by first | rfl | (simp; done) | (simp [*]; done)), H', ⟨by first | omega | exact Nat.le_refl _⟩, ⟨by (with_reducible repeat (first | apply Kd.R_alloc | apply Kd.R_drewN | apply Kd.R_drew)); exact Kd.R_mono HO423.out (fun _ _ => trivial)⟩, ⟨by (with_reducible repeat (first | apply Kd.R_alloc | apply Kd.R_drewN | apply Kd.R_drew)); exact Kd.R_mono HO426.out (fun _ _ => trivial)⟩, ⟨by (with_reducible repeat (first | apply Kd.S_alloc | apply Kd.S_drewN | apply Kd.S_drew)); exact Kd.S_mono HO429.out (fun _ _ => trivial)⟩, ⟨by (with_reducible repeat (first | apply Kd.R_alloc | apply Kd.R_drewN | apply Kd.R_drew)); exact Kd.R_mono HO437.out (fun _ _ => trivial)⟩, ⟨by (with_reducible repeat (first | apply Kd.R_alloc | apply Kd.R_drewN | apply Kd.R_drew)); exact Kd.R_mono HO440.out (fun _ _ => trivial)⟩, ⟨by (with_reducible repeat (first | apply Kd.S_alloc | apply Kd.S_drewN | apply Kd.S_drew)); exact Kd.S_mono HO443.out (fun _ _ => trivial)⟩, ⟨by (with_reducible repeat (first | refine blk_drewN ?_ _ | refine blk_drew ?_ | refine blk_alloc ?_ _)); exact BK431.out⟩, ⟨by (with_reducible repeat (first | refine blk_drewN ?_ _ | refine blk_drew ?_ | refine blk_alloc ?_ _)); exact BK445.out⟩, ⟨by with_reducible repeat (first | exact HB.out | apply below_alloc | apply pw_below_drewN | apply below_drew1 | refine below_set ?_ GE431.out | refine below_set ?_ GE445.out)⟩⟩
   ·rw [if_neg c22] at H
    have c22b0 : (t430 == t444) = false := beq_eq_false_iff_ne.mpr c22
    have c22b1 : (t430 != t444) = true := bne_iff_ne.mpr c22
    (first | rw [c22b0] | (simp only [i64_w, i32_w]; rw [c22b0]) | skip)
    have H' := Aside0.mk H
    clear H
    go_wp2
    go_meet
    case rel => exact ⟨_, (true), (by first | rfl | (simp; done) | (simp [*]; done)), H', ⟨by first | omega | exact Nat.le_refl _⟩, ⟨by (with_reducible repeat (first | apply Kd.R_alloc | apply Kd.R_drewN | apply Kd.R_drew)); exact Kd.R_mono (Kd.R_far (p := ⟨gb445, 5, none⟩) (Kd.R_far (p := ⟨gb445, 4, none⟩) (Kd.R_far (p := ⟨gb445, 3, none⟩) (Kd.R_far (p := ⟨gb445, 2, none⟩) (Kd.R_far (p := ⟨gb445, 1, none⟩) (Kd.R_far (p := ⟨gb445, 0, none⟩) (Kd.R_types HO423.out BK445.out (by decide)) (fun _ hk => hk.2) (.int .i64 t432)) (fun _ hk => hk.2) (.int .i64 t433)) (fun _ hk => hk.2) (.int .i64 t434)) (fun _ hk => hk.2) (.slice Ao19 t435.length co19)) (fun _ hk => hk.2) (.slice Ao20 t438.length co20)) (fun _ hk => hk.2) (.slice Ao21 t441.length co21)) (fun _ _ => trivial)⟩, ⟨by (with_reducible repeat (first | apply Kd.R_alloc | apply Kd.R_drewN | apply Kd.R_drew)); exact Kd.R_mono (Kd.R_far (p := ⟨gb445, 5, none⟩) (Kd.R_far (p := ⟨gb445, 4, none⟩) (Kd.R_far (p := ⟨gb445, 3, none⟩) (Kd.R_far (p := ⟨gb445, 2, none⟩) (Kd.R_far (p := ⟨gb445, 1, none⟩) (Kd.R_far (p := ⟨gb445, 0, none⟩) (Kd.R_types HO426.out BK445.out (by decide)) (fun _ hk => hk.2) (.int .i64 t432)) (fun _ hk => hk.2) (.int .i64 t433)) (fun _ hk => hk.2) (.int .i64 t434)) (fun _ hk => hk.2) (.slice Ao19 t435.length co19)) (fun _ hk => hk.2) (.slice Ao20 t438.length co20)) (fun _ hk => hk.2) (.slice Ao21 t441.length co21)) (fun _ _ => trivial)⟩, ⟨by (with_reducible repeat (first | apply Kd.S_alloc | apply Kd.S_drewN | apply Kd.S_drew)); exact Kd.S_mono (Kd.S_far (p := ⟨gb445, 5, none⟩) (Kd.S_far (p := ⟨gb445, 4, none⟩) (Kd.S_far (p := ⟨gb445, 3, none⟩) (Kd.S_far (p := ⟨gb445, 2, none⟩) (Kd.S_far (p := ⟨gb445, 1, none⟩) (Kd.S_far (p := ⟨gb445, 0, none⟩) (Kd.S_types HO429.out BK445.out (by decide)) (fun _ hk => hk.2) (.int .i64 t432)) (fun _ hk => hk.2) (.int .i64 t433)) (fun _ hk => hk.2) (.int .i64 t434)) (fun _ hk => hk.2) (.slice Ao19 t435.length co19)) (fun _ hk => hk.2) (.slice Ao20 t438.length co20)) (fun _ hk => hk.2) (.slice Ao21 t441.length co21)) (fun _ _ => trivial)⟩, ⟨by (with_reducible repeat (first | apply Kd.R_alloc | apply Kd.R_drewN | apply Kd.R_drew)); exact Kd.R_mono (Kd.R_far (p := ⟨gb445, 5, none⟩) (Kd.R_far (p := ⟨gb445, 4, none⟩) (Kd.R_far (p := ⟨gb445, 3, none⟩) (Kd.R_far (p := ⟨gb445, 2, none⟩) (Kd.R_far (p := ⟨gb445, 1, none⟩) (Kd.R_far (p := ⟨gb445, 0, none⟩) (Kd.R_types HO437.out BK445.out (by decide)) (fun _ hk => hk.2) (.int .i64 t432)) (fun _ hk => hk.2) (.int .i64 t433)) (fun _ hk => hk.2) (.int .i64 t434)) (fun _ hk => hk.2) (.slice Ao19 t435.length co19)) (fun _ hk => hk.2) (.slice Ao20 t438.length co20)) (fun _ hk => hk.2) (.slice Ao21 t441.length co21)) (fun _ _ => trivial)⟩, ⟨by (with_reducible repeat (first | apply Kd.R_alloc | apply Kd.R_drewN | apply Kd.R_drew)); exact Kd.R_mono (Kd.R_far (p := ⟨gb445, 5, none⟩) (Kd.R_far (p := ⟨gb445, 4, none⟩) (Kd.R_far (p := ⟨gb445, 3, none⟩) (Kd.R_far (p := ⟨gb445, 2, none⟩) (Kd.R_far (p := ⟨gb445, 1, none⟩) (Kd.R_far (p := ⟨gb445, 0, none⟩) (Kd.R_types HO440.out BK445.out (by decide)) (fun _ hk => hk.2) (.int .i64 t432)) (fun _ hk => hk.2) (.int .i64 t433)) (fun _ hk => hk.2) (.int .i64 t434)) (fun _ hk => hk.2) (.slice Ao19 t435.length co19)) (fun _ hk => hk.2) (.slice Ao20 t438.length co20)) (fun _ hk => hk.2) (.slice Ao21 t441.length co21)) (fun _ _ => trivial)⟩, ⟨by (with_reducible repeat (first | apply Kd.S_alloc | apply Kd.S_drewN | apply Kd.S_drew)); exact Kd.S_mono (Kd.S_far (p := ⟨gb445, 5, none⟩) (Kd.S_far (p := ⟨gb445, 4, none⟩) (Kd.S_far (p := ⟨gb445, 3, none⟩) (Kd.S_far (p := ⟨gb445, 2, none⟩) (Kd.S_far (p := ⟨gb445, 1, none⟩) (Kd.S_far (p := ⟨gb445, 0, none⟩) (Kd.S_types HO443.out BK445.out (by decide)) (fun _ hk => hk.2) (.int .i64 t432)) (fun _ hk => hk.2) (.int .i64 t433)) (fun _ hk => hk.2) (.int .i64 t434)) (fun _ hk => hk.2) (.slice Ao19 t435.length co19)) (fun _ hk => hk.2) (.slice Ao20 t438.length co20)) (fun _ hk => hk.2) (.slice Ao21 t441.length co21)) (fun _ _ => trivial)⟩, ⟨by (with_reducible repeat (first | refine blk_drewN ?_ _ | refine blk_drew ?_ | refine blk_alloc ?_ _)); refine blk_far ?_ NB431_445.out _; (with_reducible repeat (first | refine blk_drewN ?_ _ | refine blk_drew ?_ | refine blk_alloc ?_ _)); refine blk_far ?_ NB431_445.out _; (with_reducible repeat (first | refine blk_drewN ?_ _ | refine blk_drew ?_ | refine blk_alloc ?_ _)); refine blk_far ?_ NB431_445.out _; (with_reducible repeat (first | refine blk_drewN ?_ _ | refine blk_drew ?_ | refine blk_alloc ?_ _)); refine blk_far ?_ NB431_445.out _; (with_reducible repeat (first | refine blk_drewN ?_ _ | refine blk_drew ?_ | refine blk_alloc ?_ _)); refine blk_far ?_ NB431_445.out _; (with_reducible repeat (first | refine blk_drewN ?_ _ | refine blk_drew ?_ | refine blk_alloc ?_ _)); refine blk_far ?_ NB431_445.out _; (with_reducible repeat (first | refine blk_drewN ?_ _ | refine blk_drew ?_ | refine blk_alloc ?_ _)); exact BK431.out⟩, ⟨by (with_reducible repeat (first | refine blk_drewN ?_ _ | refine blk_drew ?_ | refine blk_alloc ?_ _)); refine blk_put (cs := #[.int .i64 t432, .int .i64 t433, .int .i64 t434, .slice Ao19 t435.length co19, .slice Ao20 t438.length co20, .slice none 0 0]) ?_ 5 _ rfl; (with_reducible repeat (first | refine blk_drewN ?_ _ | refine blk_drew ?_ | refine blk_alloc ?_ _)); refine blk_put (cs := #[.int .i64 t432, .int .i64 t433, .int .i64 t434, .slice Ao19 t435.length co19, .slice none 0 0, .slice none 0 0]) ?_ 4 _ rfl; (with_reducible repeat (first | refine blk_drewN ?_ _ | refine blk_drew ?_ | refine blk_alloc ?_ _)); refine blk_put (cs := #[.int .i64 t432, .int .i64 t433, .int .i64 t434, .slice none 0 0, .slice none 0 0, .slice none 0 0]) ?_ 3 _ rfl; (with_reducible repeat (first | refine blk_drewN ?_ _ | refine blk_drew ?_ | refine blk_alloc ?_ _)); refine blk_put (cs := #[.int .i64 t432, .int .i64 t433, .int .i64 0, .slice none 0 0, .slice none 0 0, .slice none 0 0]) ?_ 2 _ rfl; (with_reducible repeat (first | refine blk_drewN ?_ _ | refine blk_drew ?_ | refine blk_alloc ?_ _)); refine blk_put (cs := #[.int .i64 t432, .int .i64 0, .int .i64 0, .slice none 0 0, .slice none 0 0, .slice none 0 0]) ?_ 1 _ rfl; (with_reducible repeat (first | refine blk_drewN ?_ _ | refine blk_drew ?_ | refine blk_alloc ?_ _)); refine blk_put (cs := #[.int .i64 0, .int .i64 0, .int .i64 0, .slice none 0 0, .slice none 0 0, .slice none 0 0]) ?_ 0 _ rfl; (with_reducible repeat (first | refine blk_drewN ?_ _ | refine blk_drew ?_ | refine blk_alloc ?_ _)); exact BK445.out⟩, ⟨by with_reducible repeat (first | exact HB.out | apply below_alloc | apply pw_below_drewN | apply below_drew1 | refine below_set ?_ GE431.out | refine below_set ?_ GE445.out)⟩⟩
  case rest =>
   clear HC6
   try clear c1
   try clear c2
   try clear c2b0
   try clear c2b1
   try clear p2
   try clear c3
   try clear c4
   try clear c17
   try clear c18
   try clear c19
   try clear c22
   try clear c22b0
   try clear c22b1
   try clear c24
   try clear c26
   try clear c30
   try clear hcz11_0
   try clear hcz11_1
   try clear hcz11_2
   try clear hcz11_3
   try clear hcz11_4
   try clear hcz11_5
   try clear hcz18_0
   try clear hcz18_1
   try clear hcz18_2
   try clear hcz18_3
   try clear hcz18_4
   try clear hcz18_5
   try clear hcz27_0
   try clear hcz27_1
   try clear hcz27_2
   try clear hcz27_3
   try clear hcz27_4
   try clear hcz27_5
   try clear hcz28_0
   try clear hcz28_1
   try clear hcz28_2
   try clear hcz28_3
   try clear hcz28_4
   try clear hcz28_5
   try clear hcz31_0
   try clear hcz31_1
   try clear hcz31_2
   try clear hcz31_3
   try clear hcz31_4
   try clear hcz31_5
   try clear hcz32_0
   try clear hcz32_1
   try clear hcz32_2
   try clear hcz32_3
   try clear hcz32_4
   try clear hcz32_5
   try clear hfz11_0
   try clear hfz11_1
   try clear hfz11_2
   try clear hfz11_3
   try clear hfz11_4
   try clear hfz11_5
   try clear hfz18_0
   try clear hfz18_1
   try clear hfz18_2
   try clear hfz18_3
   try clear hfz18_4
   try clear hfz18_5
   try clear hfz27_0
   try clear hfz27_1
   try clear hfz27_2
   try clear hfz27_3
   try clear hfz27_4
   try clear hfz27_5
   try clear hfz28_0
   try clear hfz28_1
   try clear hfz28_2
   try clear hfz28_3
   try clear hfz28_4
   try clear hfz28_5
   try clear hfz31_0
   try clear hfz31_1
   try clear hfz31_2
   try clear hfz31_3
   try clear hfz31_4
   try clear hfz31_5
   try clear hfz32_0
   try clear hfz32_1
   try clear hfz32_2
   try clear hfz32_3
   try clear hfz32_4
   try clear hfz32_5
   obtain ⟨kq, x38_5, rfl, HA, HJ5, HO_432003, HO_432004, HO_432005, HO_446003, HO_446004, HO_446005, BK431, BK445, HB⟩ := hcut
   cases kq with
   | zero => exact absurd HA.out (by simp [raddlelaw08_MsgReads.j0])
   | succ kj5 =>
    have H := HA.out
    clear HA
    simp only [raddlelaw08_MsgReads.j0] at H
    by_cases c34 : x38_5 = true
    ·subst c34
     rw [if_pos rfl] at H
     obtain rfl := Option.some.inj H
     go_wp2
     go_ret
     exact ⟨by first | rfl | (simp [errW_none, errW_some] <;> rfl) | (simp [*, errW_none, errW_some] <;> rfl), by with_reducible repeat (first | exact HB.out | apply below_alloc | apply pw_below_drewN | apply below_drew1 | refine below_set ?_ GE431.out | refine below_set ?_ GE445.out)⟩
    ·replace c34 := Bool.eq_false_iff.mpr c34
     subst c34
     rw [if_neg (show ¬ (false = true) by decide)] at H
     by_cases c35 : t430 = 0
     ·rw [if_pos c35] at H
      have c35b0 : (t430 == 0) = true := beq_iff_eq.mpr c35
      have c35b1 : (t430 != 0) = false := bne_eq_false_iff_eq.mpr c35
      clear c35
      replace H := Option.bind_eq_some_iff.mp H
      obtain ⟨⟨t448, t451⟩, A360, H⟩ := H
      try dsimp only at H
      have A36 := Aside0.mk A360
      clear A360
      by_cases c37 : t451 = 0
      ·rw [if_pos c37] at H
       have c37b0 : (t451 == 0) = true := beq_iff_eq.mpr c37
       have c37b1 : (t451 != 0) = false := bne_eq_false_iff_eq.mpr c37
       clear c37
       replace H := Option.bind_eq_some_iff.mp H
       obtain ⟨t452, A380, H⟩ := H
       try dsimp only at H
       have A38 := Aside0.mk A380
       clear A380
       by_cases c39 : t452 = true
       ·subst c39
        rw [if_pos rfl] at H
        replace H := Option.bind_eq_some_iff.mp H
        obtain ⟨t453, A400, H⟩ := H
        try dsimp only at H
        have A40 := Aside0.mk A400
        clear A400
        obtain rfl := Option.some.inj H
        have hnb41 := NB431_445.out
        have hnc41 := NB445_431.out
        have hcz42 := fun i_ => blk_cell BK431.out i_
        have hfz42 := fun i_ => blk_frozen BK431.out i_
        go_wp2_with (first | ((with_reducible refine gate_callee (f := 11) rfl ?_); refine goesL_ (some 44) rfl rfl Tryz.func11 (by kernel_rfl) rfl #[.agg #[.int .i64 t418, .int .i64 t419, .int .i64 t420, .slice Ao12 t421.length co12, .slice Ao13 t424.length co13, .slice Ao14 t427.length co14]] rfl (by (try simp only [List.map_toArray, List.map_cons, List.map_nil]); first | done | rfl | (simp only [List.length_drop, List.length_take]; rfl)) ?_; (with_reducible refine (msg_Bytes.calls t418 t419 t420 _ _ t421 _ _ t424 _ _ t427 t448 t451 _ ?side1 ?side2 ?side3 ?side4 ?side5 ?side6 A36.out).mono ?_); (case side1 => repeat (first | exact (Kd.R_reads' HO_432003.out).2.2 | (with_reducible refine Kd.C_alloc ?_ _) | (with_reducible refine Kd.C_drewN ?_ _) | (with_reducible refine Kd.C_drew ?_))); (case side2 => exact (Kd.R_reads' HO_432003.out).2.1); (case side3 => repeat (first | exact (Kd.R_reads' HO_432004.out).2.2 | (with_reducible refine Kd.C_alloc ?_ _) | (with_reducible refine Kd.C_drewN ?_ _) | (with_reducible refine Kd.C_drew ?_))); (case side4 => exact (Kd.R_reads' HO_432004.out).2.1); (case side5 => repeat (first | exact (Kd.S_reads' HO_432005.out).2.2 | (with_reducible refine Kd.C_alloc ?_ _) | (with_reducible refine Kd.C_drewN ?_ _) | (with_reducible refine Kd.C_drew ?_))); (case side6 => exact (Kd.S_reads' HO_432005.out).2.1); rintro e w43 ⟨v449, rfl, ho0, hb⟩; refine ⟨_, rfl, ?_⟩; have n0_ := Aside0.mk (Kd.R_below (by (with_reducible repeat (first | apply Kd.R_alloc | apply Kd.R_drewN | apply Kd.R_drew)); exact HO_432003.out) hb); have n1_ := Aside0.mk (Kd.R_below (by (with_reducible repeat (first | apply Kd.R_alloc | apply Kd.R_drewN | apply Kd.R_drew)); exact HO_432004.out) hb); have n2_ := Aside0.mk (Kd.S_below (by (with_reducible repeat (first | apply Kd.S_alloc | apply Kd.S_drewN | apply Kd.S_drew)); exact HO_432005.out) hb); have n3_ := Aside0.mk (Kd.R_below (by (with_reducible repeat (first | apply Kd.R_alloc | apply Kd.R_drewN | apply Kd.R_drew)); exact HO_446003.out) hb); have n4_ := Aside0.mk (Kd.R_below (by (with_reducible repeat (first | apply Kd.R_alloc | apply Kd.R_drewN | apply Kd.R_drew)); exact HO_446004.out) hb); have n5_ := Aside0.mk (Kd.S_below (by (with_reducible repeat (first | apply Kd.S_alloc | apply Kd.S_drewN | apply Kd.S_drew)); exact HO_446005.out) hb); have n6_ := Aside0.mk (Kd.R_lower ho0 (below_size (by with_reducible repeat (first | exact HB.out | apply below_alloc | apply pw_below_drewN | apply below_drew1 | refine below_set ?_ GE431.out | refine below_set ?_ GE445.out)))); have n7_ := Aside0.mk (blk_below (g := gb431) (o := .cells #[.int .i64 t418, .int .i64 t419, .int .i64 t420, .slice Ao12 t421.length co12, .slice Ao13 t424.length co13, .slice Ao14 t427.length co14] 26 (0, 0)) (by (with_reducible repeat (first | refine blk_drewN ?_ _ | refine blk_drew ?_ | refine blk_alloc ?_ _)); exact BK431.out) hb); have n8_ := Aside0.mk (blk_below (g := gb445) (o := .cells #[.int .i64 t432, .int .i64 t433, .int .i64 t434, .slice Ao19 t435.length co19, .slice Ao20 t438.length co20, .slice Ao21 t441.length co21] 26 (0, 0)) (by (with_reducible repeat (first | refine blk_drewN ?_ _ | refine blk_drew ?_ | refine blk_alloc ?_ _)); exact BK445.out) hb); have n9_ := Aside0.mk (below_step (by with_reducible repeat (first | exact HB.out | apply below_alloc | apply pw_below_drewN | apply below_drew1 | refine below_set ?_ GE431.out | refine below_set ?_ GE445.out)) hb); clear HO_432003; clear HO_432004; clear HO_432005; clear HO_446003; clear HO_446004; clear HO_446005; clear BK431; clear BK445; clear HB; have HO_432003 := n0_; have HO_432004 := n1_; have HO_432005 := n2_; have HO_446003 := n3_; have HO_446004 := n4_; have HO_446005 := n5_; have HO450 := n6_; have BK431 := n7_; have BK445 := n8_; have HB := n9_; clear n0_ n1_ n2_ n3_ n4_ n5_ n6_ n7_ n8_ n9_; (try clear hb); (try clear hb2); (try clear hk); (try clear hi); (try clear ho0); obtain ⟨Ao44, co44, eo44⟩ := Kd.R_slice HO450.out; subst eo44) | (go_at_call 14; (with_reducible refine (raddlekeep_Bytes.calls kj5 _ _ t448 _ _ l0 true _ ?side1 ?side2 ?side3 ?side4 A38.out).mono ?_); (case side1 => repeat (first | exact (Kd.R_reads' HO450.out).2.2 | (with_reducible refine Kd.C_alloc ?_ _) | (with_reducible refine Kd.C_drewN ?_ _) | (with_reducible refine Kd.C_drew ?_))); (case side2 => exact (Kd.R_reads' HO450.out).2.1); (case side3 => repeat (first | exact (Kd.C_below HR0.out HB.out) | (with_reducible refine Kd.C_alloc ?_ _) | (with_reducible refine Kd.C_drewN ?_ _) | (with_reducible refine Kd.C_drew ?_))); (case side4 => exact HC0.out); rintro e w' ⟨rfl, ⟨nd, rfl⟩⟩) | (go_at_call 16; (with_reducible refine (raddlelaw08_wakes.calls  t453 _ A40.out).mono ?_); rintro e w45 ⟨rfl, hb⟩; have n0_ := Aside0.mk (Kd.R_below (by (with_reducible repeat (first | apply Kd.R_alloc | apply Kd.R_drewN | apply Kd.R_drew)); exact HO_432003.out) hb); have n1_ := Aside0.mk (Kd.R_below (by (with_reducible repeat (first | apply Kd.R_alloc | apply Kd.R_drewN | apply Kd.R_drew)); exact HO_432004.out) hb); have n2_ := Aside0.mk (Kd.S_below (by (with_reducible repeat (first | apply Kd.S_alloc | apply Kd.S_drewN | apply Kd.S_drew)); exact HO_432005.out) hb); have n3_ := Aside0.mk (Kd.R_below (by (with_reducible repeat (first | apply Kd.R_alloc | apply Kd.R_drewN | apply Kd.R_drew)); exact HO_446003.out) hb); have n4_ := Aside0.mk (Kd.R_below (by (with_reducible repeat (first | apply Kd.R_alloc | apply Kd.R_drewN | apply Kd.R_drew)); exact HO_446004.out) hb); have n5_ := Aside0.mk (Kd.S_below (by (with_reducible repeat (first | apply Kd.S_alloc | apply Kd.S_drewN | apply Kd.S_drew)); exact HO_446005.out) hb); have n6_ := Aside0.mk (Kd.R_below (by (with_reducible repeat (first | apply Kd.R_alloc | apply Kd.R_drewN | apply Kd.R_drew)); exact HO450.out) hb); have n7_ := Aside0.mk (blk_below (g := gb431) (o := .cells #[.int .i64 t418, .int .i64 t419, .int .i64 t420, .slice Ao12 t421.length co12, .slice Ao13 t424.length co13, .slice Ao14 t427.length co14] 26 (0, 0)) (by (with_reducible repeat (first | refine blk_drewN ?_ _ | refine blk_drew ?_ | refine blk_alloc ?_ _)); exact BK431.out) hb); have n8_ := Aside0.mk (blk_below (g := gb445) (o := .cells #[.int .i64 t432, .int .i64 t433, .int .i64 t434, .slice Ao19 t435.length co19, .slice Ao20 t438.length co20, .slice Ao21 t441.length co21] 26 (0, 0)) (by (with_reducible repeat (first | refine blk_drewN ?_ _ | refine blk_drew ?_ | refine blk_alloc ?_ _)); exact BK445.out) hb); have n9_ := Aside0.mk (below_step (by with_reducible repeat (first | exact HB.out | apply below_alloc | apply pw_below_drewN | apply below_drew1 | refine below_set ?_ GE431.out | refine below_set ?_ GE445.out)) hb); clear HO_432003; clear HO_432004; clear HO_432005; clear HO_446003; clear HO_446004; clear HO_446005; clear HO450; clear BK431; clear BK445; clear HB; have HO_432003 := n0_; have HO_432004 := n1_; have HO_432005 := n2_; have HO_446003 := n3_; have HO_446004 := n4_; have HO_446005 := n5_; have HO450 := n6_; have BK431 := n7_; have BK445 := n8_; have HB := n9_; clear n0_ n1_ n2_ n3_ n4_ n5_ n6_ n7_ n8_ n9_; (try clear hb); (try clear hb2); (try clear hk); (try clear hi)))
        go_ret
        exact ⟨by first | rfl | (simp [errW_none, errW_some] <;> rfl) | (simp [*, errW_none, errW_some] <;> rfl), by with_reducible repeat (first | exact HB.out | apply below_alloc | apply pw_below_drewN | apply below_drew1 | refine below_set ?_ GE431.out | refine below_set ?_ GE445.out)⟩
       ·replace c39 := Bool.eq_false_iff.mpr c39
        subst c39
        rw [if_neg (show ¬ (false = true) by decide)] at H
        obtain rfl := Option.some.inj H
        have hnb46 := NB431_445.out
        have hnc46 := NB445_431.out
        have hcz47 := fun i_ => blk_cell BK431.out i_
        have hfz47 := fun i_ => blk_frozen BK431.out i_
        go_wp2_with (first | ((with_reducible refine gate_callee (f := 11) rfl ?_); refine goesL_ (some 44) rfl rfl Tryz.func11 (by kernel_rfl) rfl #[.agg #[.int .i64 t418, .int .i64 t419, .int .i64 t420, .slice Ao12 t421.length co12, .slice Ao13 t424.length co13, .slice Ao14 t427.length co14]] rfl (by (try simp only [List.map_toArray, List.map_cons, List.map_nil]); first | done | rfl | (simp only [List.length_drop, List.length_take]; rfl)) ?_; (with_reducible refine (msg_Bytes.calls t418 t419 t420 _ _ t421 _ _ t424 _ _ t427 t448 t451 _ ?side1 ?side2 ?side3 ?side4 ?side5 ?side6 A36.out).mono ?_); (case side1 => repeat (first | exact (Kd.R_reads' HO_432003.out).2.2 | (with_reducible refine Kd.C_alloc ?_ _) | (with_reducible refine Kd.C_drewN ?_ _) | (with_reducible refine Kd.C_drew ?_))); (case side2 => exact (Kd.R_reads' HO_432003.out).2.1); (case side3 => repeat (first | exact (Kd.R_reads' HO_432004.out).2.2 | (with_reducible refine Kd.C_alloc ?_ _) | (with_reducible refine Kd.C_drewN ?_ _) | (with_reducible refine Kd.C_drew ?_))); (case side4 => exact (Kd.R_reads' HO_432004.out).2.1); (case side5 => repeat (first | exact (Kd.S_reads' HO_432005.out).2.2 | (with_reducible refine Kd.C_alloc ?_ _) | (with_reducible refine Kd.C_drewN ?_ _) | (with_reducible refine Kd.C_drew ?_))); (case side6 => exact (Kd.S_reads' HO_432005.out).2.1); rintro e w48 ⟨v449, rfl, ho0, hb⟩; refine ⟨_, rfl, ?_⟩; have n0_ := Aside0.mk (Kd.R_below (by (with_reducible repeat (first | apply Kd.R_alloc | apply Kd.R_drewN | apply Kd.R_drew)); exact HO_432003.out) hb); have n1_ := Aside0.mk (Kd.R_below (by (with_reducible repeat (first | apply Kd.R_alloc | apply Kd.R_drewN | apply Kd.R_drew)); exact HO_432004.out) hb); have n2_ := Aside0.mk (Kd.S_below (by (with_reducible repeat (first | apply Kd.S_alloc | apply Kd.S_drewN | apply Kd.S_drew)); exact HO_432005.out) hb); have n3_ := Aside0.mk (Kd.R_below (by (with_reducible repeat (first | apply Kd.R_alloc | apply Kd.R_drewN | apply Kd.R_drew)); exact HO_446003.out) hb); have n4_ := Aside0.mk (Kd.R_below (by (with_reducible repeat (first | apply Kd.R_alloc | apply Kd.R_drewN | apply Kd.R_drew)); exact HO_446004.out) hb); have n5_ := Aside0.mk (Kd.S_below (by (with_reducible repeat (first | apply Kd.S_alloc | apply Kd.S_drewN | apply Kd.S_drew)); exact HO_446005.out) hb); have n6_ := Aside0.mk (Kd.R_lower ho0 (below_size (by with_reducible repeat (first | exact HB.out | apply below_alloc | apply pw_below_drewN | apply below_drew1 | refine below_set ?_ GE431.out | refine below_set ?_ GE445.out)))); have n7_ := Aside0.mk (blk_below (g := gb431) (o := .cells #[.int .i64 t418, .int .i64 t419, .int .i64 t420, .slice Ao12 t421.length co12, .slice Ao13 t424.length co13, .slice Ao14 t427.length co14] 26 (0, 0)) (by (with_reducible repeat (first | refine blk_drewN ?_ _ | refine blk_drew ?_ | refine blk_alloc ?_ _)); exact BK431.out) hb); have n8_ := Aside0.mk (blk_below (g := gb445) (o := .cells #[.int .i64 t432, .int .i64 t433, .int .i64 t434, .slice Ao19 t435.length co19, .slice Ao20 t438.length co20, .slice Ao21 t441.length co21] 26 (0, 0)) (by (with_reducible repeat (first | refine blk_drewN ?_ _ | refine blk_drew ?_ | refine blk_alloc ?_ _)); exact BK445.out) hb); have n9_ := Aside0.mk (below_step (by with_reducible repeat (first | exact HB.out | apply below_alloc | apply pw_below_drewN | apply below_drew1 | refine below_set ?_ GE431.out | refine below_set ?_ GE445.out)) hb); clear HO_432003; clear HO_432004; clear HO_432005; clear HO_446003; clear HO_446004; clear HO_446005; clear BK431; clear BK445; clear HB; have HO_432003 := n0_; have HO_432004 := n1_; have HO_432005 := n2_; have HO_446003 := n3_; have HO_446004 := n4_; have HO_446005 := n5_; have HO450 := n6_; have BK431 := n7_; have BK445 := n8_; have HB := n9_; clear n0_ n1_ n2_ n3_ n4_ n5_ n6_ n7_ n8_ n9_; (try clear hb); (try clear hb2); (try clear hk); (try clear hi); (try clear ho0); obtain ⟨Ao49, co49, eo49⟩ := Kd.R_slice HO450.out; subst eo49) | (go_at_call 14; (with_reducible refine (raddlekeep_Bytes.calls kj5 _ _ t448 _ _ l0 false _ ?side1 ?side2 ?side3 ?side4 A38.out).mono ?_); (case side1 => repeat (first | exact (Kd.R_reads' HO450.out).2.2 | (with_reducible refine Kd.C_alloc ?_ _) | (with_reducible refine Kd.C_drewN ?_ _) | (with_reducible refine Kd.C_drew ?_))); (case side2 => exact (Kd.R_reads' HO450.out).2.1); (case side3 => repeat (first | exact (Kd.C_below HR0.out HB.out) | (with_reducible refine Kd.C_alloc ?_ _) | (with_reducible refine Kd.C_drewN ?_ _) | (with_reducible refine Kd.C_drew ?_))); (case side4 => exact HC0.out); rintro e w' ⟨rfl, ⟨nd, rfl⟩⟩))
        go_ret
        exact ⟨by first | rfl | (simp [errW_none, errW_some] <;> rfl) | (simp [*, errW_none, errW_some] <;> rfl), by with_reducible repeat (first | exact HB.out | apply below_alloc | apply pw_below_drewN | apply below_drew1 | refine below_set ?_ GE431.out | refine below_set ?_ GE445.out)⟩
      ·rw [if_neg c37] at H
       have c37b0 : (t451 == 0) = false := beq_eq_false_iff_ne.mpr c37
       have c37b1 : (t451 != 0) = true := bne_iff_ne.mpr c37
       obtain rfl := Option.some.inj H
       have hnb50 := NB431_445.out
       have hnc50 := NB445_431.out
       have hcz51 := fun i_ => blk_cell BK431.out i_
       have hfz51 := fun i_ => blk_frozen BK431.out i_
       go_wp2_with (first | ((with_reducible refine gate_callee (f := 11) rfl ?_); refine goesL_ (some 44) rfl rfl Tryz.func11 (by kernel_rfl) rfl #[.agg #[.int .i64 t418, .int .i64 t419, .int .i64 t420, .slice Ao12 t421.length co12, .slice Ao13 t424.length co13, .slice Ao14 t427.length co14]] rfl (by (try simp only [List.map_toArray, List.map_cons, List.map_nil]); first | done | rfl | (simp only [List.length_drop, List.length_take]; rfl)) ?_; (with_reducible refine (msg_Bytes.calls t418 t419 t420 _ _ t421 _ _ t424 _ _ t427 t448 t451 _ ?side1 ?side2 ?side3 ?side4 ?side5 ?side6 A36.out).mono ?_); (case side1 => repeat (first | exact (Kd.R_reads' HO_432003.out).2.2 | (with_reducible refine Kd.C_alloc ?_ _) | (with_reducible refine Kd.C_drewN ?_ _) | (with_reducible refine Kd.C_drew ?_))); (case side2 => exact (Kd.R_reads' HO_432003.out).2.1); (case side3 => repeat (first | exact (Kd.R_reads' HO_432004.out).2.2 | (with_reducible refine Kd.C_alloc ?_ _) | (with_reducible refine Kd.C_drewN ?_ _) | (with_reducible refine Kd.C_drew ?_))); (case side4 => exact (Kd.R_reads' HO_432004.out).2.1); (case side5 => repeat (first | exact (Kd.S_reads' HO_432005.out).2.2 | (with_reducible refine Kd.C_alloc ?_ _) | (with_reducible refine Kd.C_drewN ?_ _) | (with_reducible refine Kd.C_drew ?_))); (case side6 => exact (Kd.S_reads' HO_432005.out).2.1); rintro e w52 ⟨v449, rfl, ho0, hb⟩; refine ⟨_, rfl, ?_⟩; have n0_ := Aside0.mk (Kd.R_below (by (with_reducible repeat (first | apply Kd.R_alloc | apply Kd.R_drewN | apply Kd.R_drew)); exact HO_432003.out) hb); have n1_ := Aside0.mk (Kd.R_below (by (with_reducible repeat (first | apply Kd.R_alloc | apply Kd.R_drewN | apply Kd.R_drew)); exact HO_432004.out) hb); have n2_ := Aside0.mk (Kd.S_below (by (with_reducible repeat (first | apply Kd.S_alloc | apply Kd.S_drewN | apply Kd.S_drew)); exact HO_432005.out) hb); have n3_ := Aside0.mk (Kd.R_below (by (with_reducible repeat (first | apply Kd.R_alloc | apply Kd.R_drewN | apply Kd.R_drew)); exact HO_446003.out) hb); have n4_ := Aside0.mk (Kd.R_below (by (with_reducible repeat (first | apply Kd.R_alloc | apply Kd.R_drewN | apply Kd.R_drew)); exact HO_446004.out) hb); have n5_ := Aside0.mk (Kd.S_below (by (with_reducible repeat (first | apply Kd.S_alloc | apply Kd.S_drewN | apply Kd.S_drew)); exact HO_446005.out) hb); have n6_ := Aside0.mk (Kd.R_lower ho0 (below_size (by with_reducible repeat (first | exact HB.out | apply below_alloc | apply pw_below_drewN | apply below_drew1 | refine below_set ?_ GE431.out | refine below_set ?_ GE445.out)))); have n7_ := Aside0.mk (blk_below (g := gb431) (o := .cells #[.int .i64 t418, .int .i64 t419, .int .i64 t420, .slice Ao12 t421.length co12, .slice Ao13 t424.length co13, .slice Ao14 t427.length co14] 26 (0, 0)) (by (with_reducible repeat (first | refine blk_drewN ?_ _ | refine blk_drew ?_ | refine blk_alloc ?_ _)); exact BK431.out) hb); have n8_ := Aside0.mk (blk_below (g := gb445) (o := .cells #[.int .i64 t432, .int .i64 t433, .int .i64 t434, .slice Ao19 t435.length co19, .slice Ao20 t438.length co20, .slice Ao21 t441.length co21] 26 (0, 0)) (by (with_reducible repeat (first | refine blk_drewN ?_ _ | refine blk_drew ?_ | refine blk_alloc ?_ _)); exact BK445.out) hb); have n9_ := Aside0.mk (below_step (by with_reducible repeat (first | exact HB.out | apply below_alloc | apply pw_below_drewN | apply below_drew1 | refine below_set ?_ GE431.out | refine below_set ?_ GE445.out)) hb); clear HO_432003; clear HO_432004; clear HO_432005; clear HO_446003; clear HO_446004; clear HO_446005; clear BK431; clear BK445; clear HB; have HO_432003 := n0_; have HO_432004 := n1_; have HO_432005 := n2_; have HO_446003 := n3_; have HO_446004 := n4_; have HO_446005 := n5_; have HO450 := n6_; have BK431 := n7_; have BK445 := n8_; have HB := n9_; clear n0_ n1_ n2_ n3_ n4_ n5_ n6_ n7_ n8_ n9_; (try clear hb); (try clear hb2); (try clear hk); (try clear hi); (try clear ho0)))
       go_ret
       exact ⟨by first | rfl | (simp [errW_none, errW_some] <;> rfl) | (simp [*, errW_none, errW_some] <;> rfl), by with_reducible repeat (first | exact HB.out | apply below_alloc | apply pw_below_drewN | apply below_drew1 | refine below_set ?_ GE431.out | refine below_set ?_ GE445.out)⟩
     ·rw [if_neg c35] at H
      have c35b0 : (t430 == 0) = false := beq_eq_false_iff_ne.mpr c35
      have c35b1 : (t430 != 0) = true := bne_iff_ne.mpr c35
      replace H := Option.bind_eq_some_iff.mp H
      obtain ⟨t454, A530, H⟩ := H
      try dsimp only at H
      have A53 := Aside0.mk A530
      clear A530
      obtain rfl := Option.some.inj H
      go_wp2_with (first | ((with_reducible refine gate_callee (f := 16) rfl ?_); refine goesL_ (some 41) rfl rfl Tryz.func16 (by kernel_rfl) rfl #[] rfl (by (try simp only [List.map_toArray, List.map_cons, List.map_nil]); first | done | rfl | (simp only [List.length_drop, List.length_take]; rfl)) ?_; (with_reducible refine (raddlelaw08_wakes.calls  t454 _ A53.out).mono ?_); rintro e w54 ⟨rfl, hb⟩; refine ⟨_, rfl, ?_⟩; have n0_ := Aside0.mk (Kd.R_below (by (with_reducible repeat (first | apply Kd.R_alloc | apply Kd.R_drewN | apply Kd.R_drew)); exact HO_432003.out) hb); have n1_ := Aside0.mk (Kd.R_below (by (with_reducible repeat (first | apply Kd.R_alloc | apply Kd.R_drewN | apply Kd.R_drew)); exact HO_432004.out) hb); have n2_ := Aside0.mk (Kd.S_below (by (with_reducible repeat (first | apply Kd.S_alloc | apply Kd.S_drewN | apply Kd.S_drew)); exact HO_432005.out) hb); have n3_ := Aside0.mk (Kd.R_below (by (with_reducible repeat (first | apply Kd.R_alloc | apply Kd.R_drewN | apply Kd.R_drew)); exact HO_446003.out) hb); have n4_ := Aside0.mk (Kd.R_below (by (with_reducible repeat (first | apply Kd.R_alloc | apply Kd.R_drewN | apply Kd.R_drew)); exact HO_446004.out) hb); have n5_ := Aside0.mk (Kd.S_below (by (with_reducible repeat (first | apply Kd.S_alloc | apply Kd.S_drewN | apply Kd.S_drew)); exact HO_446005.out) hb); have n6_ := Aside0.mk (blk_below (g := gb431) (o := .cells #[.int .i64 t418, .int .i64 t419, .int .i64 t420, .slice Ao12 t421.length co12, .slice Ao13 t424.length co13, .slice Ao14 t427.length co14] 26 (0, 0)) (by (with_reducible repeat (first | refine blk_drewN ?_ _ | refine blk_drew ?_ | refine blk_alloc ?_ _)); exact BK431.out) hb); have n7_ := Aside0.mk (blk_below (g := gb445) (o := .cells #[.int .i64 t432, .int .i64 t433, .int .i64 t434, .slice Ao19 t435.length co19, .slice Ao20 t438.length co20, .slice Ao21 t441.length co21] 26 (0, 0)) (by (with_reducible repeat (first | refine blk_drewN ?_ _ | refine blk_drew ?_ | refine blk_alloc ?_ _)); exact BK445.out) hb); have n8_ := Aside0.mk (below_step (by with_reducible repeat (first | exact HB.out | apply below_alloc | apply pw_below_drewN | apply below_drew1 | refine below_set ?_ GE431.out | refine below_set ?_ GE445.out)) hb); clear HO_432003; clear HO_432004; clear HO_432005; clear HO_446003; clear HO_446004; clear HO_446005; clear BK431; clear BK445; clear HB; have HO_432003 := n0_; have HO_432004 := n1_; have HO_432005 := n2_; have HO_446003 := n3_; have HO_446004 := n4_; have HO_446005 := n5_; have BK431 := n6_; have BK445 := n7_; have HB := n8_; clear n0_ n1_ n2_ n3_ n4_ n5_ n6_ n7_ n8_; (try clear hb); (try clear hb2); (try clear hk); (try clear hi)))
      go_ret
      exact ⟨by first | rfl | (simp [errW_none, errW_some] <;> rfl) | (simp [*, errW_none, errW_some] <;> rfl), by with_reducible repeat (first | exact HB.out | apply below_alloc | apply pw_below_drewN | apply below_drew1 | refine below_set ?_ GE431.out | refine below_set ?_ GE445.out)⟩
def raddlelaw08_MsgReads.Pure : Prop := ∀ (l0 : List Int), l0.length ≤ maxLen → l0.length * 1 ≤ 140737488351232 → (∀ x ∈ l0, (Lit.int .u8 x).wf = true) → ∃ k, raddlelaw08_MsgReads.f k l0 = some true
theorem raddlelaw08_MsgReads.walk (P : raddlelaw08_MsgReads.Pure) (a0 : Option Addr) (len0 cap0 : Nat) (z0 : List Int) (w : World) (w0 : (a0 = none ∧ len0 = 0 ∧ cap0 = 0 ∧ z0 = []) ∨ ∃ x, a0 = some x ∧ len0 ≤ cap0 ∧ cap0 ≤ maxLen ∧ z0.length = cap0 ∧ (∀ i, i < z0.length → w.cell? (x.add i) = some (.int .u8 (z0.getD i 0))) ∧ ∀ n ∈ z0, (Lit.int .u8 n).wf = true) (y0 : len0 * 1 ≤ 140737488351232) :
  Calls Tryz.prog 4 #[.slice a0 len0 cap0] w fun e w' => e = .returned (.bool true) ∧ Below w.heap.size w w' := by
 obtain ⟨l0, rfl, hr0, hm0, hw0, hc0⟩ := ReadsInt.ofRowC w0
 obtain ⟨k, h⟩ := P l0 hm0 y0 hw0
 refine (raddlelaw08_MsgReads.calls k _ _ l0 true w (Kd.C_of_reads (d := (0 : Int)) (h1 := fun _ => rfl) hr0) hc0 h).mono ?_
 rintro e w' ⟨rfl, hd⟩
 exact ⟨rfl, hd⟩
end Go.Proofs.YtnbjflcfdncocaaGreat.M
namespace Go.Proofs.YtnbjflcfdncocaaGreat.M
open Go.RowKit Go.Proofs.YtnbjflcfdncocaaGreatW.PrintWords Go.Proofs.YtnbjflcfdncocaaGreatW.PrintLast Go.Proofs.YtnbjflcfdncocaaGreatW.PrintMore
abbrev Ws := List Int × Bool
def Adds (w : Ws → Ws) : Prop := ∀ st, w st = (st.1 ++ (w ([], false)).1, st.2 || (w ([], false)).2)
theorem Adds.add (b : List Int × Int) : Adds (wadd b) := fun st => by simp [wadd]
theorem Adds.bad (b : Bool) : Adds (wbad b) := fun st => by simp [wbad]
theorem Adds.id : Adds (fun st => st) := fun st => by simp
theorem Adds.comp {w v : Ws → Ws} (hw : Adds w) (hv : Adds v) : Adds (fun st => w (v st)) := by
  intro st
  show w (v st) = (st.1 ++ (w (v ([], false))).1, st.2 || (w (v ([], false))).2)
  rw [hw (v st), hw (v ([], false)), hv st]
  simp [Bool.or_assoc]
theorem Adds.num (s : Nat) (n : Int) : Adds (wnum s n) := Adds.add _
theorem Adds.text (t : ByteArray) : Adds (wtext t) := Adds.add _
theorem Adds.dot (a b : Int) : Adds (wdot a b) := (Adds.num 4 b).comp (Adds.num 1 a)
theorem Adds.stamp (a b c : Int) : Adds (wstamp a b c) := (Adds.num 1 c).comp ((Adds.num 3 b).comp (Adds.num 6 a))
theorem Adds.ints : ∀ l : List Int, Adds (wints l)
  | [] => Adds.id
  | n :: l => (Adds.ints l).comp (Adds.num 4 n)
theorem Adds.nums (l : List Int) : Adds (wnums l) := (Adds.ints l).comp ((Adds.num 1 _).comp (Adds.bad _))
theorem Adds.dots : ∀ l : List Dt, Adds (wdots l)
  | [] => Adds.id
  | d :: l => (Adds.dots l).comp (Adds.dot d.f0 d.f1)
theorem Adds.row (l : List Val) : Adds (wrow l) := Adds.add _
theorem Adds.op (x : Opr) : Adds (wop x) :=
  (Adds.dots x.f8).comp ((Adds.num 1 _).comp ((Adds.bad _).comp ((Adds.row x.f7).comp ((Adds.num 1 x.f6).comp ((Adds.text x.f5).comp ((Adds.num 1 x.f4).comp ((Adds.stamp x.f2.f0 x.f2.f1 x.f2.f2).comp ((Adds.nums x.f1).comp ((Adds.dot x.f0.f0 x.f0.f1).comp (Adds.num 1 x.f3))))))))))
theorem Adds.ops : ∀ l : List Opr, Adds (wops l)
  | [] => Adds.id
  | x :: l => (Adds.ops l).comp (Adds.op x)
def E (w : Ws → Ws) : List Int := (w ([], false)).1
def Bd (w : Ws → Ws) : Bool := (w ([], false)).2
theorem be_step (n a p : Int) (hp : 0 < p) : (a * 256 + n / p % 256) * p + n % p = a * (p * 256) + n % (p * 256) := by
  have h1 := Int.mul_ediv_add_emod n p
  have h2 := Int.mul_ediv_add_emod (n / p) 256
  have h3 : n % (p * 256) = p * (n / p % 256) + n % p := by
    have e : n = (p * (n / p % 256) + n % p) + (p * 256) * (n / p / 256) := by
      have : p * (n / p) = p * (256 * (n / p / 256) + n / p % 256) := by rw [h2]
      rw [Int.mul_add, ← Int.mul_assoc] at this
      omega
    have h4 : 0 ≤ n / p % 256 := Int.emod_nonneg _ (by omega)
    have h5 : n / p % 256 < 256 := Int.emod_lt_of_pos _ (by omega)
    have h6 : 0 ≤ n % p := Int.emod_nonneg _ (by omega)
    have h7 : n % p < p := Int.emod_lt_of_pos _ hp
    have h8 : 0 ≤ p * (n / p % 256) := Int.mul_nonneg (by omega) h4
    have h9 : p * (n / p % 256) ≤ p * 255 := Int.mul_le_mul_of_nonneg_left (by omega) (by omega)
    calc n % (p * 256) = ((p * (n / p % 256) + n % p) + (p * 256) * (n / p / 256)) % (p * 256) := by rw [← e]
      _ = (p * (n / p % 256) + n % p) % (p * 256) := Int.add_mul_emod_self_left _ _ _
      _ = p * (n / p % 256) + n % p := Int.emod_eq_of_lt (by omega) (by omega)
  rw [h3, Int.add_mul, Int.mul_assoc, Int.mul_comm 256 p, Int.mul_comm (n / p % 256) p]
  omega
theorem be_fold (n : Int) : ∀ (s : Nat) (a : Int), (be s n).foldl (fun n c => n * 256 + c) a = a * 2 ^ (8 * s) + n % 2 ^ (8 * s)
  | 0, a => by simp [be, Int.emod_one]
  | s + 1, a => by
    simp only [be, List.foldl_cons]
    rw [be_fold n s, be_step n a (2 ^ (8 * s)) (Int.pow_pos (by omega)), show 8 * (s + 1) = 8 * s + 8 from by omega, Int.pow_add]
    rfl
theorem numL_be (s : Nat) (n : Int) (h0 : 0 ≤ n) (h1 : n < 2 ^ (8 * s)) : numL (be s n) = n := by
  unfold numL
  rw [be_fold, Int.emod_eq_of_lt h0 h1]
  simp
theorem numL_inj : ∀ (k : Nat) (l m : List Int), l.length = k → m.length = k → Bytes_ l → Bytes_ m → numL l = numL m → l = m
  | 0, l, m, h1, h2, _, _, _ => by rw [List.eq_nil_of_length_eq_zero h1, List.eq_nil_of_length_eq_zero h2]
  | k + 1, l, m, h1, h2, b1, b2, e => by
    have n1 : l ≠ [] := by intro e; rw [e] at h1; simp at h1
    have n2 : m ≠ [] := by intro e; rw [e] at h2; simp at h2
    obtain ⟨l, c, rfl⟩ : ∃ a b, l = a ++ [b] := ⟨l.dropLast, l.getLast n1, (List.dropLast_concat_getLast n1).symm⟩
    obtain ⟨m, d, rfl⟩ : ∃ a b, m = a ++ [b] := ⟨m.dropLast, m.getLast n2, (List.dropLast_concat_getLast n2).symm⟩
    rw [numL_snoc, numL_snoc] at e
    have hc := b1 c (by simp)
    have hd := b2 d (by simp)
    unfold Byte at hc hd
    have ih := numL_inj k l m (by simpa using h1) (by simpa using h2) (fun x hx => b1 x (by simp [hx])) (fun x hx => b2 x (by simp [hx])) (by omega)
    rw [ih, show c = d by omega]
theorem be_numL (l : List Int) (hb : Bytes_ l) : be l.length (numL l) = l := by
  have h := numL_bound l.length l rfl hb
  have e : (256 : Int) ^ l.length = 2 ^ (8 * l.length) := by rw [Int.pow_mul]; rfl
  rw [e] at h
  exact numL_inj l.length _ _ (be_length _ _) rfl (be_bytes _ _) hb (numL_be _ _ h.1 h.2)
theorem Bd_num (s : Nat) (n : Int) : Bd (wnum s n) = decide (n < 0 ∨ 2 ^ (8 * s) ≤ n) := by
  unfold Bd wnum wadd putL
  by_cases h : n < 0 ∨ 2 ^ (8 * s) ≤ n
  · rw [if_pos h, decide_eq_true h]; rfl
  · rw [if_neg h, decide_eq_false h]; rfl
theorem E_num (s : Nat) (n : Int) (h : ¬ (n < 0 ∨ 2 ^ (8 * s) ≤ n)) : E (wnum s n) = be s n := by
  unfold E wnum wadd putL
  rw [if_neg h]; rfl
theorem str_bytes (s : ByteArray) : strOfNums (bytesOf s) = s := by
  apply ByteArray.ext
  apply Array.ext'
  rw [strOfNums_data]
  unfold bytesOf
  rw [List.map_map]
  conv => rhs; rw [← List.map_id s.data.toList]
  apply List.map_congr_left
  intro c _
  simp
theorem bytes_str (l : List Int) (h : Bytes_ l) : bytesOf (strOfNums l) = l := by
  have e : (strOfNums l).data.toList = l.map fun n => UInt8.ofNat n.toNat := strOfNums_data l
  unfold bytesOf
  first | rw [e, List.map_map] | (show ((strOfNums l).data.toList).map _ = _; rw [e, List.map_map])
  conv => rhs; rw [← List.map_id l]
  apply List.map_congr_left
  intro c hc
  have := h c hc
  unfold Byte at this
  simp only [Function.comp, id]
  have : (UInt8.ofNat c.toNat).toNat = c.toNat := by
    rw [UInt8.toNat_ofNat']; omega
  rw [this]; omega
theorem Bd_comp {w v : Ws → Ws} (hw : Adds w) : Bd (fun st => w (v st)) = (Bd v || Bd w) := by
  show (w (v ([], false))).2 = _
  rw [hw (v ([], false))]; rfl
theorem E_comp {w v : Ws → Ws} (hw : Adds w) : E (fun st => w (v st)) = E v ++ E w := by
  show (w (v ([], false))).1 = _
  rw [hw (v ([], false))]; rfl
theorem rints_front (st : Ws) : ∀ k, rints (k + 1) st = ((rnum 4 st).1 :: (rints k (rnum 4 st).2).1, (rints k (rnum 4 st).2).2)
  | 0 => rfl
  | k + 1 => by
    have ih := rints_front st k
    show ((rints (k + 1) st).1 ++ [(rnum 4 (rints (k + 1) st).2).1], (rnum 4 (rints (k + 1) st).2).2) = _
    rw [ih]; rfl
theorem rdots_front (st : Ws) : ∀ k, rdots (k + 1) st = ((rdot st).1 :: (rdots k (rdot st).2).1, (rdots k (rdot st).2).2)
  | 0 => rfl
  | k + 1 => by
    have ih := rdots_front st k
    show ((rdots (k + 1) st).1 ++ [(rdot (rdots (k + 1) st).2).1], (rdot (rdots (k + 1) st).2).2) = _
    rw [ih]; rfl
theorem Bd_bad (b : Bool) : Bd (wbad b) = b := by simp [Bd, wbad]
theorem E_bad (b : Bool) : E (wbad b) = [] := rfl
theorem nums_parts (l : List Int) (h : Bd (wnums l) = false) : l.length ≤ 5 ∧ Bd (wnum 1 (l.length : Int)) = false ∧ Bd (wints l) = false := by
  rw [show Bd (wnums l) = Bd (fun st => wints l ((fun st => wnum 1 (l.length : Int) (wbad (decide ((l.length : Int) > 5)) st)) st)) from rfl, Bd_comp (Adds.ints l), Bd_comp (Adds.num 1 _), Bd_bad, Bool.or_eq_false_iff, Bool.or_eq_false_iff, decide_eq_false_iff_not] at h
  exact ⟨by omega, h.1.2, h.2⟩
theorem E_nums (l : List Int) : E (wnums l) = E (wnum 1 (l.length : Int)) ++ E (wints l) := by
  rw [show E (wnums l) = E (fun st => wints l ((fun st => wnum 1 (l.length : Int) (wbad (decide ((l.length : Int) > 5)) st)) st)) from rfl, E_comp (Adds.ints l), E_comp (Adds.num 1 _), E_bad, List.nil_append]
theorem row_parts (l : List Val) (h : Bd (wrow l) = false) : l.length ≤ 12 ∧ (∀ v ∈ l, goodV v) ∧ E (wrow l) = rowL l := by
  unfold Bd wrow wadd rowB at h
  by_cases h1 : l.length > 12
  · rw [if_pos h1] at h; exact absurd h (by decide)
  · rw [if_neg h1] at h
    by_cases h2 : ∀ v ∈ l, goodV v
    · refine ⟨by omega, h2, ?_⟩
      unfold E wrow wadd rowB
      rw [if_neg h1, if_pos h2]; rfl
    · rw [if_neg h2] at h; exact absurd h (by decide)
theorem op_parts (x : Opr) (h : Bd (wop x) = false) : (Bd (wnum 1 x.f3) = false ∧ Bd (wdot x.f0.f0 x.f0.f1) = false ∧ Bd (wnums x.f1) = false ∧ Bd (wstamp x.f2.f0 x.f2.f1 x.f2.f2) = false) ∧ (Bd (wnum 1 x.f4) = false ∧ Bd (wtext x.f5) = false ∧ Bd (wnum 1 x.f6) = false ∧ Bd (wrow x.f7) = false) ∧
    x.f8.length ≤ 64 ∧ Bd (wnum 1 (x.f8.length : Int)) = false ∧ Bd (wdots x.f8) = false := by
  rw [show Bd (wop x) = Bd (fun st => wdots x.f8 ((fun st => wnum 1 (x.f8.length : Int) ((fun st => wbad (decide ((x.f8.length : Int) > 64)) ((fun st => wrow x.f7 ((fun st => wnum 1 x.f6 ((fun st => wtext x.f5 ((fun st => wnum 1 x.f4 ((fun st => wstamp x.f2.f0 x.f2.f1 x.f2.f2 ((fun st => wnums x.f1 ((fun st => wdot x.f0.f0 x.f0.f1 (wnum 1 x.f3 st)) st)) st)) st)) st)) st)) st)) st)) st)) st)) from rfl] at h
  rw [Bd_comp (Adds.dots _), Bd_comp (Adds.num 1 _), Bd_comp (Adds.bad _), Bd_comp (Adds.row _), Bd_comp (Adds.num 1 _), Bd_comp (Adds.text _), Bd_comp (Adds.num 1 _), Bd_comp (Adds.stamp _ _ _), Bd_comp (Adds.nums _), Bd_comp (Adds.dot _ _), Bd_bad] at h
  simp only [Bool.or_eq_false_iff, decide_eq_false_iff_not] at h
  obtain ⟨⟨⟨⟨⟨⟨⟨⟨⟨⟨a1, a2⟩, a3⟩, a4⟩, a5⟩, a6⟩, a7⟩, a8⟩, a9⟩, a10⟩, a11⟩ := h
  exact ⟨⟨a1, a2, a3, a4⟩, ⟨a5, a6, a7, a8⟩, by omega, a10, a11⟩
theorem E_op (x : Opr) : E (wop x) = E (wnum 1 x.f3) ++ (E (wdot x.f0.f0 x.f0.f1) ++ (E (wnums x.f1) ++ (E (wstamp x.f2.f0 x.f2.f1 x.f2.f2) ++ (E (wnum 1 x.f4) ++ (E (wtext x.f5) ++ (E (wnum 1 x.f6) ++ (E (wrow x.f7) ++ (E (wnum 1 (x.f8.length : Int)) ++ E (wdots x.f8))))))))) := by
  rw [show E (wop x) = E (fun st => wdots x.f8 ((fun st => wnum 1 (x.f8.length : Int) ((fun st => wbad (decide ((x.f8.length : Int) > 64)) ((fun st => wrow x.f7 ((fun st => wnum 1 x.f6 ((fun st => wtext x.f5 ((fun st => wnum 1 x.f4 ((fun st => wstamp x.f2.f0 x.f2.f1 x.f2.f2 ((fun st => wnums x.f1 ((fun st => wdot x.f0.f0 x.f0.f1 (wnum 1 x.f3 st)) st)) st)) st)) st)) st)) st)) st)) st)) st)) from rfl]
  rw [E_comp (Adds.dots _), E_comp (Adds.num 1 _), E_comp (Adds.bad _), E_comp (Adds.row _), E_comp (Adds.num 1 _), E_comp (Adds.text _), E_comp (Adds.num 1 _), E_comp (Adds.stamp _ _ _), E_comp (Adds.nums _), E_comp (Adds.dot _ _), E_bad, List.append_nil]
  simp only [List.append_assoc]
def wmsg (a b c : Int) (h s : List Int) (l : List Opr) (st : Ws) : Ws := wops l (wnum 2 (l.length : Int) (wnums s (wnums h (wnum 1 c (wnum 1 b (wnum 1 a st))))))
theorem msg_parts (a b c : Int) (h s : List Int) (l : List Opr) (hb : Bd (wmsg a b c h s l) = false) : (Bd (wnum 1 a) = false ∧ Bd (wnum 1 b) = false ∧ Bd (wnum 1 c) = false) ∧ Bd (wnums h) = false ∧ Bd (wnums s) = false ∧ Bd (wnum 2 (l.length : Int)) = false ∧ Bd (wops l) = false := by
  rw [show Bd (wmsg a b c h s l) = Bd (fun st => wops l ((fun st => wnum 2 (l.length : Int) ((fun st => wnums s ((fun st => wnums h ((fun st => wnum 1 c ((fun st => wnum 1 b (wnum 1 a st)) st)) st)) st)) st)) st)) from rfl] at hb
  rw [Bd_comp (Adds.ops _), Bd_comp (Adds.num 2 _), Bd_comp (Adds.nums _), Bd_comp (Adds.nums _), Bd_comp (Adds.num 1 _), Bd_comp (Adds.num 1 _)] at hb
  simp only [Bool.or_eq_false_iff] at hb
  obtain ⟨⟨⟨⟨⟨⟨a1, a2⟩, a3⟩, a4⟩, a5⟩, a6⟩, a7⟩ := hb
  exact ⟨⟨a1, a2, a3⟩, a4, a5, a6, a7⟩
theorem E_msg (a b c : Int) (h s : List Int) (l : List Opr) : E (wmsg a b c h s l) = E (wnum 1 a) ++ (E (wnum 1 b) ++ (E (wnum 1 c) ++ (E (wnums h) ++ (E (wnums s) ++ (E (wnum 2 (l.length : Int)) ++ E (wops l)))))) := by
  rw [show E (wmsg a b c h s l) = E (fun st => wops l ((fun st => wnum 2 (l.length : Int) ((fun st => wnums s ((fun st => wnums h ((fun st => wnum 1 c ((fun st => wnum 1 b (wnum 1 a st)) st)) st)) st)) st)) st)) from rfl]
  rw [E_comp (Adds.ops _), E_comp (Adds.num 2 _), E_comp (Adds.nums _), E_comp (Adds.nums _), E_comp (Adds.num 1 _), E_comp (Adds.num 1 _)]
  simp only [List.append_assoc]
theorem msgW_eq (a b c : Int) (h s : List Int) (l : List Opr) : msgW a b c h s l = (E (wmsg a b c h s l), Bd (wmsg a b c h s l)) := rfl
theorem len_num (s : Nat) (n : Int) (h : Bd (wnum s n) = false) : (E (wnum s n)).length = s := by
  rw [Bd_num, decide_eq_false_iff_not] at h
  rw [E_num s n h, be_length]
theorem len_ints : ∀ l : List Int, Bd (wints l) = false → (E (wints l)).length = 4 * l.length
  | [], _ => rfl
  | n :: l, h => by
    rw [show Bd (wints (n :: l)) = Bd (fun st => wints l (wnum 4 n st)) from rfl, Bd_comp (Adds.ints l), Bool.or_eq_false_iff] at h
    rw [show E (wints (n :: l)) = E (fun st => wints l (wnum 4 n st)) from rfl, E_comp (Adds.ints l), List.length_append, len_num 4 n h.1, len_ints l h.2, List.length_cons]
    omega
theorem len_nums (l : List Int) (h : Bd (wnums l) = false) : (E (wnums l)).length = 1 + 4 * l.length := by
  obtain ⟨_, h2, h3⟩ := nums_parts l h
  rw [E_nums, List.length_append, len_num 1 _ h2, len_ints l h3]
theorem len_msg (a b c : Int) (h s : List Int) (l : List Opr) (hb : Bd (wmsg a b c h s l) = false) : (E (wmsg a b c h s l)).length = 7 + 4 * h.length + 4 * s.length + (E (wops l)).length := by
  obtain ⟨⟨a1, a2, a3⟩, a4, a5, a6, a7⟩ := msg_parts a b c h s l hb
  rw [E_msg]
  simp only [List.length_append]
  rw [len_num 1 _ a1, len_num 1 _ a2, len_num 1 _ a3, len_nums _ a4, len_nums _ a5, len_num 2 _ a6]
  omega
theorem ops_bad : ∀ (l : List Opr), Bd (wops l) = false → ∀ x ∈ l, Bd (wop x) = false
  | [], _, x, hx => by simp at hx
  | y :: l, h, x, hx => by
    rw [show Bd (wops (y :: l)) = Bd (fun st => wops l (wop y st)) from rfl, Bd_comp (Adds.ops l), Bool.or_eq_false_iff] at h
    rcases List.mem_cons.1 hx with rfl | hx
    · exact h.1
    · exact ops_bad l h.2 x hx
structure Forth {α : Type} (r : Ws → α × Ws) (w : α → Ws → Ws) : Prop where
  st : ∀ st, (r st).2.2 = false → st.2 = false
  eq : ∀ st, Bytes_ st.1 → (r st).2.2 = false → Bd (w (r st).1) = false ∧ st.1 = E (w (r st).1) ++ (r st).2.1
theorem Bytes_right {a b : List Int} (h : Bytes_ (a ++ b)) : Bytes_ b := fun c hc => h c (by simp [hc])
theorem Forth.rest {α : Type} {r : Ws → α × Ws} {w : α → Ws → Ws} (h : Forth r w) (st : Ws) (hb : Bytes_ st.1) (hr : (r st).2.2 = false) : Bytes_ (r st).2.1 := by
  have := (h.eq st hb hr).2
  rw [this] at hb
  exact Bytes_right hb
theorem Forth.num (s : Nat) : Forth (rnum s) (wnum s) := by
  constructor
  · intro st hr
    unfold rnum at hr
    by_cases h : st.2 = true ∨ st.1.length < s
    · rw [if_pos h] at hr; cases hr
    · cases hx : st.2
      · rfl
      · exact absurd (.inl hx) h
  · intro st hb hr
    unfold rnum at hr ⊢
    by_cases h : st.2 = true ∨ st.1.length < s
    · rw [if_pos h] at hr; cases hr
    · rw [if_neg h]
      have hl : (st.1.take s).length = s := by rw [List.length_take]; omega
      have h1 := numL_bound s (st.1.take s) hl (Bytes_take hb s)
      have h3 := be_numL (st.1.take s) (Bytes_take hb s)
      rw [hl] at h3
      have e : (256 : Int) ^ s = 2 ^ (8 * s) := by rw [Int.pow_mul]; rfl
      rw [e] at h1
      have h2 : ¬ (numL (st.1.take s) < 0 ∨ 2 ^ (8 * s) ≤ numL (st.1.take s)) := by omega
      exact ⟨by rw [Bd_num]; exact decide_eq_false h2, by rw [E_num s _ h2, h3, List.take_append_drop]⟩
theorem Forth.many (s : Nat) (m : Int) : Forth (rmany s m) (wnum s) := by
  constructor
  · intro st hr
    unfold rmany at hr
    by_cases h : (rnum s st).1 > m
    · rw [if_pos h] at hr; cases hr
    · rw [if_neg h] at hr; exact (Forth.num s).st st hr
  · intro st hb hr
    unfold rmany at hr ⊢
    by_cases h : (rnum s st).1 > m
    · rw [if_pos h] at hr; cases hr
    · rw [if_neg h] at hr ⊢
      exact (Forth.num s).eq st hb hr
theorem many_le (s : Nat) (m : Int) (st : Ws) (hb : Bytes_ st.1) (hr : (rmany s m st).2.2 = false) : 0 ≤ (rmany s m st).1 ∧ (rmany s m st).1 ≤ m := by
  unfold rmany at hr ⊢
  by_cases h : (rnum s st).1 > m
  · rw [if_pos h] at hr; cases hr
  · rw [if_neg h]
    exact ⟨(rnum_bound s st hb).1, by omega⟩
theorem Forth.step {α β : Type} {w : α → Ws → Ws} {v : β → Ws → Ws} {r : Ws → α × Ws} {q : Ws → β × Ws} (hr : Forth r w) (hq : Forth q v) (hv : ∀ y, Adds (v y)) : Forth (fun st => (((r st).1, (q (r st).2).1), (q (r st).2).2)) (fun p st => v p.2 (w p.1 st)) := by
  constructor
  · intro st h
    exact hr.st st (hq.st _ h)
  · intro st hb h
    have h1 := hq.st _ h
    obtain ⟨a1, a2⟩ := hr.eq st hb h1
    obtain ⟨b1, b2⟩ := hq.eq _ (hr.rest st hb h1) h
    simp only
    refine ⟨?_, ?_⟩
    · rw [Bd_comp (hv _), a1, b1]; rfl
    · rw [E_comp (hv _), List.append_assoc, ← b2, ← a2]
theorem Forth.dot : Forth rdot (fun d : Dt => wdot d.f0 d.f1) := by
  have h := Forth.step (Forth.num 1) (Forth.num 4) (fun y => Adds.num 4 y)
  exact ⟨fun st hr => h.st st hr, fun st hb hr => h.eq st hb hr⟩
theorem Forth.stamp : Forth rstamp (fun t : S48 => wstamp t.f0 t.f1 t.f2) := by
  have h := Forth.step (Forth.step (Forth.num 6) (Forth.num 3) (fun y => Adds.num 3 y)) (Forth.num 1) (fun y => Adds.num 1 y)
  exact ⟨fun st hr => h.st st hr, fun st hb hr => h.eq st hb hr⟩
theorem Forth.text : Forth rtext wtext := by
  constructor
  · intro st hr
    obtain ⟨l, b⟩ := st
    cases l with
    | nil => cases hr
    | cons c tl =>
      unfold rtext at hr
      simp only at hr ⊢
      by_cases h : b = true ∨ c > 24 ∨ (tl.length : Int) < c
      · rw [if_pos h] at hr; cases hr
      · cases b
        · rfl
        · exact absurd (.inl rfl) h
  · intro st hb hr
    obtain ⟨l, b⟩ := st
    cases l with
    | nil => cases hr
    | cons c tl =>
      unfold rtext at hr ⊢
      simp only at hr hb ⊢
      by_cases h : b = true ∨ c > 24 ∨ (tl.length : Int) < c
      · rw [if_pos h] at hr; cases hr
      · rw [if_neg h]
        have hc := hb c (by simp)
        unfold Byte at hc
        have ht : Bytes_ (tl.take c.toNat) := Bytes_take (fun x hx => hb x (by simp [hx])) _
        have e1 := bytes_str (tl.take c.toNat) ht
        have e2 : ((strOfNums (tl.take c.toNat)).size : Int) = c := by
          have := bytesOf_length (strOfNums (tl.take c.toNat))
          rw [e1, List.length_take] at this
          omega
        have h5 : ¬ ((strOfNums (tl.take c.toNat)).size : Int) > 24 := by omega
        refine ⟨?_, ?_⟩
        · show Bd (wtext (strOfNums (tl.take c.toNat))) = false
          unfold Bd wtext wadd putT
          rw [if_neg h5]; rfl
        · have e3 : E (wtext (strOfNums (tl.take c.toNat))) = c :: tl.take c.toNat := by
            unfold E wtext wadd putT
            rw [if_neg h5, e2, e1, Int.emod_eq_of_lt hc.1 (by omega)]; rfl
          show c :: tl = E (wtext (strOfNums (tl.take c.toNat))) ++ tl.drop c.toNat
          rw [e3, List.cons_append, List.take_append_drop]
theorem Forth.ints : ∀ k, Forth (rints k) wints
  | 0 => ⟨fun st h => h, fun st _ _ => ⟨rfl, rfl⟩⟩
  | k + 1 => by
    have h := Forth.step (Forth.num 4) (Forth.ints k) (fun y => Adds.ints y)
    refine ⟨fun st hr => h.st st (by rw [rints_front] at hr; exact hr), fun st hb hr => ?_⟩
    rw [rints_front] at hr ⊢
    exact h.eq st hb hr
theorem Forth.dots : ∀ k, Forth (rdots k) wdots
  | 0 => ⟨fun st h => h, fun st _ _ => ⟨rfl, rfl⟩⟩
  | k + 1 => by
    have h := Forth.step Forth.dot (Forth.dots k) (fun y => Adds.dots y)
    refine ⟨fun st hr => h.st st (by rw [rdots_front] at hr; exact hr), fun st hb hr => ?_⟩
    rw [rdots_front] at hr ⊢
    exact h.eq st hb hr
theorem Bd_nums (l : List Int) : Bd (wnums l) = ((decide ((l.length : Int) > 5) || Bd (wnum 1 (l.length : Int))) || Bd (wints l)) := by
  rw [show Bd (wnums l) = Bd (fun st => wints l ((fun st => wnum 1 (l.length : Int) (wbad (decide ((l.length : Int) > 5)) st)) st)) from rfl, Bd_comp (Adds.ints l), Bd_comp (Adds.num 1 _), Bd_bad]
theorem Forth.nums : Forth rnums wnums := by
  constructor
  · intro st hr
    exact (Forth.many 1 5).st st ((Forth.ints _).st _ hr)
  · intro st hb hr
    unfold rnums at hr ⊢
    have h1 := (Forth.ints _).st _ hr
    obtain ⟨a1, a2⟩ := (Forth.many 1 5).eq st hb h1
    have a3 := many_le 1 5 st hb h1
    obtain ⟨b1, b2⟩ := (Forth.ints (rmany 1 5 st).1.toNat).eq _ ((Forth.many 1 5).rest st hb h1) hr
    have hl := rints_length (rmany 1 5 st).2 (rmany 1 5 st).1.toNat
    have hn : ((rints (rmany 1 5 st).1.toNat (rmany 1 5 st).2).1.length : Int) = (rmany 1 5 st).1 := by rw [hl]; omega
    refine ⟨?_, ?_⟩
    · rw [Bd_nums, hn, a1, b1, decide_eq_false (by omega)]; rfl
    · rw [E_nums, hn, List.append_assoc, ← b2, ← a2]
theorem ok_some {v w : Val} {t tl : List Int} (h : ok v t = some (w, tl)) : goodV v ∧ w = v ∧ tl = t := by
  by_cases hg : goodV v
  · rw [ok_pos hg] at h
    have := Option.some.inj h
    exact ⟨hg, (congrArg Prod.fst this).symm, (congrArg Prod.snd this).symm⟩
  · rw [ok_neg hg] at h; cases h
theorem forth_int (l : List Int) (n : Int) (tl : List Int) (hb : Bytes_ l) (h : gint l = some (n, tl)) : l = intL n ++ tl := by
  unfold gint at h
  by_cases h1 : l.length < 9 ∨ l.getD 0 0 > 1
  · rw [if_pos h1] at h; cases h
  rw [if_neg h1] at h
  obtain ⟨c, t, rfl⟩ : ∃ c t, l = c :: t := by
    rcases l with _ | ⟨c, t⟩
    · simp at h1
    · exact ⟨c, t, rfl⟩
  have e0 : (c :: t).getD 0 0 = c := rfl
  have e1 : (c :: t).drop 1 = t := rfl
  have e9 : (c :: t).drop 9 = t.drop 8 := rfl
  rw [e0, e1, e9] at h
  rw [e0] at h1
  have hl : (t.take 8).length = 8 := by rw [List.length_take]; simp only [List.length_cons] at h1; omega
  have hbt : Bytes_ (t.take 8) := Bytes_take (fun x hx => hb x (by simp [hx])) 8
  have h8 := be_numL (t.take 8) hbt
  rw [hl] at h8
  have h9 := numL_bound 8 (t.take 8) hl hbt
  have hc := hb c (by simp)
  unfold Byte at hc
  obtain ⟨z, hz⟩ : ∃ z, z = numL (t.take 8) := ⟨_, rfl⟩
  rw [← hz] at h h8 h9
  by_cases h2 : z > 1152921504606846976 ∨ (c = 1 ∧ z = 0)
  · rw [if_pos h2] at h; cases h
  rw [if_neg h2] at h
  have h3 := Option.some.inj h
  have en : (if c = 1 then -z else z) = n := congrArg Prod.fst h3
  have et : t.drop 8 = tl := congrArg Prod.snd h3
  subst et
  unfold intL
  by_cases h4 : c = 1
  · rw [if_pos h4] at en
    rw [if_pos (by omega), ← en, Int.neg_neg, h8, h4, List.cons_append, List.take_append_drop]
  · rw [if_neg h4] at en
    rw [if_neg (by omega), ← en, h8, show c = 0 by omega, List.cons_append, List.take_append_drop]
theorem forth_val (l : List Int) (v : Val) (tl : List Int) (hb : Bytes_ l) (h : rval l = some (v, tl)) : goodV v ∧ l = valL v ++ tl := by
  rcases l with _ | ⟨c, t⟩
  · cases h
  have hbt : Bytes_ t := fun x hx => hb x (by simp [hx])
  by_cases h2 : c = 2
  · subst h2
    have h : rval2 t = some (v, tl) := h
    rcases t with _ | ⟨b, t⟩
    · cases h
    · obtain ⟨hg, rfl, rfl⟩ := ok_some h
      have hbb := hbt b (by simp)
      unfold Byte at hbb
      refine ⟨hg, ?_⟩
      show _ = (2 : Int) % 256 :: (if (2 : Int) = 2 then [b % 256] else _) ++ tl
      rw [if_pos rfl, Int.emod_eq_of_lt hbb.1 (by omega)]; rfl
  by_cases h3 : c = 3
  · subst h3
    have h : rval3 t = some (v, tl) := h
    unfold rval3 at h
    rcases hg : gint t with _ | ⟨n, t2⟩
    · rw [hg] at h; cases h
    · rw [hg] at h
      obtain ⟨hg2, rfl, rfl⟩ := ok_some (v := ⟨3, n, ⟨#[]⟩⟩) (t := t2) h
      refine ⟨hg2, ?_⟩
      show _ = (3 : Int) % 256 :: intL n ++ tl
      rw [forth_int t n tl hbt hg]; rfl
  by_cases h4 : c = 4
  · subst h4
    have h : rval4 t = some (v, tl) := h
    rcases t with _ | ⟨b, t⟩
    · cases h
    · unfold rval4 at h
      simp only at h
      by_cases h5 : b > 24 ∨ (t.length : Int) < b
      · rw [if_pos h5] at h; cases h
      · rw [if_neg h5] at h
        obtain ⟨hg2, rfl, rfl⟩ := ok_some h
        refine ⟨hg2, ?_⟩
        have hc := hbt b (by simp)
        unfold Byte at hc
        have ht : Bytes_ (t.take b.toNat) := Bytes_take (fun x hx => hbt x (by simp [hx])) _
        have e1 := bytes_str (t.take b.toNat) ht
        have e2 : ((strOfNums (t.take b.toNat)).size : Int) = b := by
          have := bytesOf_length (strOfNums (t.take b.toNat))
          rw [e1, List.length_take] at this
          omega
        show _ = (4 : Int) % 256 :: (((strOfNums (t.take b.toNat)).size : Int) % 256 :: bytesOf (strOfNums (t.take b.toNat))) ++ t.drop b.toNat
        rw [e1, e2, Int.emod_eq_of_lt hc.1 (by omega), List.cons_append, List.cons_append, List.take_append_drop]; rfl
  have h : ok ⟨c, 0, ⟨#[]⟩⟩ t = some (v, tl) := by
    unfold rval at h
    simp only at h
    rw [if_neg h2, if_neg h3, if_neg h4] at h
    exact h
  obtain ⟨hg, rfl, rfl⟩ := ok_some h
  refine ⟨hg, ?_⟩
  rcases hg with ⟨h1, _⟩ | ⟨h1, _⟩ | ⟨h1, _⟩ | ⟨h1, _⟩
  · simp only at h1
    subst h1; rfl
  · exact absurd h1 h2
  · exact absurd h1 h3
  · exact absurd h1 h4
theorem forth_vals : ∀ (n : Nat) (l : List Int) (vs : List Val) (tl : List Int), Bytes_ l → rvals n l = some (vs, tl) → (∀ v ∈ vs, goodV v) ∧ vs.length = n ∧ l = valsL vs ++ tl
  | 0, l, vs, tl, _, h => by
    have := Option.some.inj h
    obtain rfl : [] = vs := congrArg Prod.fst this
    obtain rfl : l = tl := congrArg Prod.snd this
    exact ⟨by simp, rfl, rfl⟩
  | n + 1, l, vs, tl, hb, h => by
    unfold rvals at h
    obtain ⟨⟨v, t⟩, h1, h⟩ := Option.bind_eq_some_iff.1 h
    obtain ⟨⟨us, t2⟩, h2, h⟩ := Option.bind_eq_some_iff.1 h
    obtain ⟨g1, g2⟩ := forth_val l v t hb h1
    obtain ⟨k1, k2, k3⟩ := forth_vals n t us t2 (by rw [g2] at hb; exact Bytes_right hb) h2
    have h3 := Option.some.inj h
    obtain rfl : v :: us = vs := congrArg Prod.fst h3
    obtain rfl : t2 = tl := congrArg Prod.snd h3
    refine ⟨?_, by simp [k2], ?_⟩
    · intro u hu
      rcases List.mem_cons.1 hu with rfl | hu
      · exact g1
      · exact k1 u hu
    · rw [show valsL (v :: us) = valL v ++ valsL us by simp [valsL], List.append_assoc, ← k3, ← g2]
theorem forth_row (l : List Int) (vs : List Val) (tl : List Int) (hb : Bytes_ l) (h : rrow l = some (vs, tl)) : Bd (wrow vs) = false ∧ l = E (wrow vs) ++ tl := by
  rcases l with _ | ⟨c, t⟩
  · cases h
  have hc := hb c (by simp)
  unfold Byte at hc
  unfold rrow at h
  simp only at h
  by_cases h1 : c > 12
  · rw [if_pos h1] at h; cases h
  rw [if_neg h1] at h
  obtain ⟨k1, k2, k3⟩ := forth_vals c.toNat t vs tl (fun x hx => hb x (by simp [hx])) h
  have e : rowB vs = (rowL vs, 0) := by
    unfold rowB
    rw [if_neg (by omega), if_pos k1]
  refine ⟨?_, ?_⟩
  · unfold Bd wrow wadd; rw [e]; rfl
  · have : E (wrow vs) = rowL vs := by unfold E wrow wadd; rw [e]; rfl
    rw [this]
    show c :: t = (vs.length : Int) % 256 :: valsL vs ++ tl
    rw [show (vs.length : Int) % 256 = c by omega, List.cons_append, ← k3]
theorem Forth.op : Forth rop wop := by
  have hh1 := Forth.step (Forth.num 1) Forth.dot (fun d => Adds.dot d.f0 d.f1)
  have hh2 := Forth.step hh1 Forth.nums (fun l => Adds.nums l)
  have hh3 := Forth.step hh2 Forth.stamp (fun t => Adds.stamp t.f0 t.f1 t.f2)
  have hh4 := Forth.step hh3 (Forth.num 1) (fun y => Adds.num 1 y)
  have hh5 := Forth.step hh4 Forth.text (fun t => Adds.text t)
  have hh6 := Forth.step hh5 (Forth.num 1) (fun y => Adds.num 1 y)
  have key : ∀ st : Ws, (rop st).2.2 = false → (rhead st).2.2 = false ∧ ∃ vs tl, rrow (rhead st).2.1 = some (vs, tl) ∧ rop st = (mkOp (rhead st).1 vs (rdl (tl, false)).1, (rdl (tl, false)).2) := by
    intro st hr
    unfold rop at hr ⊢
    rcases h1 : rrow (rhead st).2.1 with _ | ⟨vs, tl⟩
    · rw [h1] at hr; cases hr
    · rw [h1] at hr
      unfold rtail at hr ⊢
      simp only at hr ⊢
      by_cases h2 : (rhead st).2.2 = true
      · rw [if_pos h2] at hr; cases hr
      · rw [if_neg h2] at hr ⊢
        exact ⟨by simpa using h2, vs, tl, rfl, rfl⟩
  constructor
  · intro st hr
    exact hh6.st st (key st hr).1
  · intro st hb hr
    obtain ⟨k1, vs, tl, k2, k3⟩ := key st hr
    obtain ⟨a1, a2⟩ := hh6.eq st hb k1
    obtain ⟨b1, b2⟩ := forth_row _ vs tl (hh6.rest st hb k1) k2
    have hbt : Bytes_ tl := by
      have : Bytes_ (rhead st).2.1 := hh6.rest st hb k1
      rw [show (rhead st).2.1 = E (wrow vs) ++ tl from b2] at this
      exact Bytes_right this
    rw [k3] at hr ⊢
    have c0 := (Forth.dots _).st _ hr
    obtain ⟨c1, c2⟩ := (Forth.many 1 64).eq (tl, false) hbt c0
    have c3 := many_le 1 64 (tl, false) hbt c0
    obtain ⟨d1, d2⟩ := (Forth.dots (rmany 1 64 (tl, false)).1.toNat).eq _ ((Forth.many 1 64).rest (tl, false) hbt c0) hr
    have hl := rdots_length (rmany 1 64 (tl, false)).2 (rmany 1 64 (tl, false)).1.toNat
    obtain ⟨ds, hds⟩ : ∃ ds, ds = (rdl (tl, false)).1 := ⟨_, rfl⟩
    have hn : (ds.length : Int) = (rmany 1 64 (tl, false)).1 := by
      rw [hds]; unfold rdl; rw [hl]; omega
    have d1 : Bd (wdots ds) = false := by rw [hds]; exact d1
    have d2 : (rmany 1 64 (tl, false)).2.1 = E (wdots ds) ++ (rdl (tl, false)).2.1 := by rw [hds]; exact d2
    rw [← hds]
    clear hds
    rw [← hn] at c1 c2
    obtain ⟨t2, ht2⟩ : ∃ t2, t2 = (rmany 1 64 (tl, false)).2.1 := ⟨_, rfl⟩
    rw [← ht2] at c2 d2
    simp only at c2
    obtain ⟨R, hR⟩ : ∃ R, R = (rdl (tl, false)).2.1 := ⟨_, rfl⟩
    rw [← hR] at d2
    -- the head's writer, and what stands behind it
    have e0 : ∀ h : Head, wop (mkOp h vs ds) = fun st => wdots ds ((fun st => wnum 1 (ds.length : Int) ((fun st => wbad (decide ((ds.length : Int) > 64)) ((fun st => wrow vs ((fun st => wnum 1 h.col ((fun st => wtext h.key ((fun st => wnum 1 h.table ((fun st => wstamp h.stamp.f0 h.stamp.f1 h.stamp.f2 ((fun st => wnums h.deps ((fun st => wdot h.dot.f0 h.dot.f1 (wnum 1 h.kind st)) st)) st)) st)) st)) st)) st)) st)) st)) st) := fun h => rfl
    refine ⟨?_, ?_⟩
    · show Bd (wop (mkOp (rhead st).1 vs ds)) = false
      rw [e0, Bd_comp (Adds.dots _), Bd_comp (Adds.num 1 _), Bd_comp (Adds.bad _), Bd_comp (Adds.row _), b1, c1, d1, Bd_bad, decide_eq_false (by omega)]
      have : Bd (fun st_1 => wnum 1 (rhead st).1.col ((fun st_2 => wtext (rhead st).1.key ((fun st_3 => wnum 1 (rhead st).1.table ((fun st_4 => wstamp (rhead st).1.stamp.f0 (rhead st).1.stamp.f1 (rhead st).1.stamp.f2 ((fun st_5 => wnums (rhead st).1.deps ((fun st_6 => wdot (rhead st).1.dot.f0 (rhead st).1.dot.f1 (wnum 1 (rhead st).1.kind st_6)) st_5)) st_4)) st_3)) st_2)) st_1)) = false := a1
      rw [this]; rfl
    · show st.1 = E (wop (mkOp (rhead st).1 vs ds)) ++ (rdl (tl, false)).2.1
      rw [← hR]
      rw [e0, E_comp (Adds.dots _), E_comp (Adds.num 1 _), E_comp (Adds.bad _), E_comp (Adds.row _), E_bad, List.append_nil]
      have : st.1 = E (fun st_1 => wnum 1 (rhead st).1.col ((fun st_2 => wtext (rhead st).1.key ((fun st_3 => wnum 1 (rhead st).1.table ((fun st_4 => wstamp (rhead st).1.stamp.f0 (rhead st).1.stamp.f1 (rhead st).1.stamp.f2 ((fun st_5 => wnums (rhead st).1.deps ((fun st_6 => wdot (rhead st).1.dot.f0 (rhead st).1.dot.f1 (wnum 1 (rhead st).1.kind st_6)) st_5)) st_4)) st_3)) st_2)) st_1)) ++ (rhead st).2.1 := a2
      rw [this, show (rhead st).2.1 = E (wrow vs) ++ tl from b2, c2, d2]
      simp only [List.append_assoc]
theorem Forth.ops : ∀ n (st : Ws), (rops n st).2.2 = false → st.2 = false ∧ (rops n st).1.length = n ∧ (Bytes_ st.1 → Bd (wops (rops n st).1) = false ∧ st.1 = E (wops (rops n st).1) ++ (rops n st).2.1)
  | 0, st, h => ⟨h, rfl, fun _ => ⟨rfl, rfl⟩⟩
  | n + 1, st, h => by
    by_cases hb : st.2 = true
    · rw [show rops (n + 1) st = ([], st) from if_pos hb] at h
      rw [hb] at h; cases h
    · have e : rops (n + 1) st = ((rop st).1 :: (rops n (rop st).2).1, (rops n (rop st).2).2) := if_neg hb
      rw [e] at h ⊢
      obtain ⟨i1, i2, i3⟩ := Forth.ops n (rop st).2 h
      refine ⟨by simpa using hb, by simp [i2], fun hby => ?_⟩
      obtain ⟨a1, a2⟩ := Forth.op.eq st hby i1
      obtain ⟨b1, b2⟩ := i3 (Forth.op.rest st hby i1)
      refine ⟨?_, ?_⟩
      · show Bd (fun s => wops (rops n (rop st).2).1 (wop (rop st).1 s)) = false
        rw [Bd_comp (Adds.ops _), a1, b1]; rfl
      · show st.1 = E (fun s => wops (rops n (rop st).2).1 (wop (rop st).1 s)) ++ _
        rw [E_comp (Adds.ops _), List.append_assoc, ← b2, ← a2]
theorem forth_msg (B : List Int) (hb : Bytes_ B) (h : (rmsg B).2 = 0) : Bd (wmsg (rmsg B).1.1 (rmsg B).1.2.1 (rmsg B).1.2.2.1 (rmsg B).1.2.2.2.1 (rmsg B).1.2.2.2.2.1 (rmsg B).1.2.2.2.2.2) = false ∧ B = E (wmsg (rmsg B).1.1 (rmsg B).1.2.1 (rmsg B).1.2.2.1 (rmsg B).1.2.2.2.1 (rmsg B).1.2.2.2.2.1 (rmsg B).1.2.2.2.2.2) := by
  have hh1 := Forth.step (Forth.step (Forth.num 1) (Forth.num 1) (fun y => Adds.num 1 y)) (Forth.num 1) (fun y => Adds.num 1 y)
  have hh2 := Forth.step hh1 Forth.nums (fun l => Adds.nums l)
  have hh3 := Forth.step hh2 Forth.nums (fun l => Adds.nums l)
  have hh4 := Forth.step hh3 (Forth.num 2) (fun y => Adds.num 2 y)
  unfold rmsg rfin at h ⊢
  obtain ⟨H, hH⟩ : ∃ H, H = rheadM (B, false) := ⟨_, rfl⟩
  rw [← hH] at h ⊢
  by_cases hc : (rops H.1.2.2.2.2.2.toNat H.2).2.2 = true ∨ (rops H.1.2.2.2.2.2.toNat H.2).2.1 ≠ []
  · rw [if_pos hc] at h; exact absurd h (by decide)
  rw [if_neg hc]
  have hf : (rops H.1.2.2.2.2.2.toNat H.2).2.2 = false := by
    cases hx : (rops H.1.2.2.2.2.2.toNat H.2).2.2
    · rfl
    · exact absurd (.inl hx) hc
  have he : (rops H.1.2.2.2.2.2.toNat H.2).2.1 = [] := by
    by_cases hx : (rops H.1.2.2.2.2.2.toNat H.2).2.1 = []
    · exact hx
    · exact absurd (.inr hx) hc
  obtain ⟨o1, o2, o3⟩ := Forth.ops _ _ hf
  rw [hH] at o1
  obtain ⟨a1, a2⟩ := hh4.eq (B, false) hb o1
  have hr := hh4.rest (B, false) hb o1
  have hr : Bytes_ H.2.1 := by rw [hH]; exact hr
  obtain ⟨b1, b2⟩ := o3 hr
  have hn0 : 0 ≤ H.1.2.2.2.2.2 := by
    rw [hH]
    have hq : (hh3.rest (B, false) hb ((Forth.num 2).st _ o1)) = (hh3.rest (B, false) hb ((Forth.num 2).st _ o1)) := rfl
    exact (rnum_bound 2 _ (hh3.rest (B, false) hb ((Forth.num 2).st _ o1))).1
  have hn : ((rops H.1.2.2.2.2.2.toNat H.2).1.length : Int) = H.1.2.2.2.2.2 := by rw [o2]; omega
  rw [he, List.append_nil] at b2
  obtain ⟨L, hL⟩ : ∃ L, L = (rops H.1.2.2.2.2.2.toNat H.2).1 := ⟨_, rfl⟩
  rw [← hL] at hn b1 b2 ⊢
  simp only
  have e0 : ∀ (a b c : Int) (hh ss : List Int), wmsg a b c hh ss L = fun st => wops L ((fun st => wnum 2 (L.length : Int) (wnums ss (wnums hh (wnum 1 c (wnum 1 b (wnum 1 a st)))))) st) := fun _ _ _ _ _ => rfl
  have a1 : Bd (fun st => wnum 2 H.1.2.2.2.2.2 (wnums H.1.2.2.2.2.1 (wnums H.1.2.2.2.1 (wnum 1 H.1.2.2.1 (wnum 1 H.1.2.1 (wnum 1 H.1.1 st)))))) = false := by rw [hH]; exact a1
  have a2 : B = E (fun st => wnum 2 H.1.2.2.2.2.2 (wnums H.1.2.2.2.2.1 (wnums H.1.2.2.2.1 (wnum 1 H.1.2.2.1 (wnum 1 H.1.2.1 (wnum 1 H.1.1 st)))))) ++ H.2.1 := by rw [hH]; exact a2
  rw [← hn] at a1 a2
  refine ⟨?_, ?_⟩
  · rw [e0, Bd_comp (Adds.ops _), a1, b1]; rfl
  · rw [e0, E_comp (Adds.ops _), ← b2]; exact a2
theorem msgB_readB (b : List Int) (hb : Bytes_ b) (h : (readB b).2 = 0) : Bd (wmsg (readB b).1.1 (readB b).1.2.1 (readB b).1.2.2.1 (readB b).1.2.2.2.1 (readB b).1.2.2.2.2.1 (readB b).1.2.2.2.2.2) = false ∧ (E (wmsg (readB b).1.1 (readB b).1.2.1 (readB b).1.2.2.1 (readB b).1.2.2.2.1 (readB b).1.2.2.2.2.1 (readB b).1.2.2.2.2.2)).length ≤ b.length ∧
    msgB (readB b).1.1 (readB b).1.2.1 (readB b).1.2.2.1 (readB b).1.2.2.2.1 (readB b).1.2.2.2.2.1 (readB b).1.2.2.2.2.2 = (b, 0) := by
  have ho : (openL b).2 = 0 := by
    unfold readB at h
    by_cases h0 : (openL b).2 = 0
    · exact h0
    · rw [if_neg h0] at h; exact absurd h h0
  have e : readB b = rmsg (openL b).1 := if_pos ho
  rw [e] at h ⊢
  obtain ⟨f1, f2⟩ := forth_msg _ (openL_bytes b hb) h
  obtain ⟨g1, g2, g3⟩ : (openL b).1.length ≤ 65532 ∧ sealL (openL b).1 = b ∧ (openL b).1.length ≤ b.length := by
    unfold openL at ho ⊢
    by_cases h1 : b.length < 4 ∨ 65536 < b.length
    · rw [if_pos h1] at ho; exact absurd ho (by decide)
    · rw [if_neg h1] at ho ⊢
      by_cases h2 : sealL (b.take (b.length - 4)) = b
      · rw [if_pos h2]
        exact ⟨by rw [List.length_take]; omega, h2, by rw [List.length_take]; omega⟩
      · rw [if_neg h2] at ho; exact absurd ho (by decide)
  refine ⟨f1, by rw [← f2]; exact g3, ?_⟩
  unfold msgB
  rw [msgW_eq]
  simp only [f1, Bool.false_eq_true, if_false]
  rw [← f2]
  unfold sealB
  rw [if_pos g1, g2]
theorem op_least (x : Opr) (h : Bd (wop x) = false) : 7 ≤ (E (wop x)).length := by
  obtain ⟨⟨a1, a2, a3, a4⟩, ⟨a5, a6, a7, a8⟩, a9, a10, a11⟩ := op_parts x h
  have h2 : (E (wdot x.f0.f0 x.f0.f1)).length = 5 := by
    have hp : Bd (wnum 1 x.f0.f0) = false ∧ Bd (wnum 4 x.f0.f1) = false := by
      rw [show Bd (wdot x.f0.f0 x.f0.f1) = Bd (fun st => wnum 4 x.f0.f1 (wnum 1 x.f0.f0 st)) from rfl, Bd_comp (Adds.num 4 _), Bool.or_eq_false_iff] at a2
      exact a2
    rw [show E (wdot x.f0.f0 x.f0.f1) = E (fun st => wnum 4 x.f0.f1 (wnum 1 x.f0.f0 st)) from rfl, E_comp (Adds.num 4 _), List.length_append, len_num 1 _ hp.1, len_num 4 _ hp.2]
  rw [E_op]
  simp only [List.length_append]
  rw [len_num 1 _ a1, h2, len_num 1 _ a5]
  omega
theorem ops_least : ∀ (l : List Opr), Bd (wops l) = false → 7 * l.length ≤ (E (wops l)).length
  | [], _ => by simp
  | x :: l, h => by
    have h2 : Bd (wop x) = false ∧ Bd (wops l) = false := by
      rw [show Bd (wops (x :: l)) = Bd (fun st => wops l (wop x st)) from rfl, Bd_comp (Adds.ops l), Bool.or_eq_false_iff] at h
      exact h
    have h3 := op_least x h2.1
    have h4 := ops_least l h2.2
    rw [show E (wops (x :: l)) = E (fun st => wops l (wop x st)) from rfl, E_comp (Adds.ops l), List.length_append, List.length_cons]
    omega
theorem str_list (s : ByteArray) : s.toList = s.data.toList := by
  have h1 := Go.Lib.strOfNums_toList (bytesOf s)
  rw [str_bytes] at h1
  rw [h1]
  unfold Go.Lib.bytesOf bytesOf
  rw [List.map_map]
  conv => rhs; rw [← List.map_id s.data.toList]
  apply List.map_congr_left
  intro c _
  simp
theorem str_inj {s t : ByteArray} : s.toList = t.toList ↔ s = t := by
  constructor
  · intro h
    rw [str_list, str_list] at h
    exact ByteArray.ext (Array.ext' h)
  · intro h; rw [h]
def Tells (o : Option Bool) (p : Prop) : Prop := ∃ r, o = some r ∧ (r = true ↔ p)
theorem Tells.of {p : Prop} (r : Bool) (h : r = true ↔ p) : Tells (some r) p := ⟨r, rfl, h⟩
theorem Tells.yes {p : Prop} (h : p) : Tells (some true) p := ⟨true, rfl, by simp [h]⟩
theorem Tells.no {p : Prop} (h : ¬ p) : Tells (some false) p := ⟨false, rfl, by simp [h]⟩
theorem Tells.iff {o : Option Bool} {p q : Prop} (h : Tells o p) (e : p ↔ q) : Tells o q := by
  obtain ⟨r, h1, h2⟩ := h
  exact ⟨r, h1, h2.trans e⟩
theorem Tells.and {o : Option Bool} {p q : Prop} {g : Bool → Option Bool} (h : Tells o p) (hg : Tells (g true) q) (hf : g false = some false) : Tells (o.bind g) (p ∧ q) := by
  obtain ⟨r, rfl, h2⟩ := h
  rw [Option.bind_some]
  cases r
  · rw [hf]; exact Tells.no (fun ⟨a, _⟩ => by simpa using h2.2 a)
  · exact hg.iff ⟨fun x => ⟨h2.1 rfl, x⟩, fun x => x.2⟩
theorem Tells.if_ {c p : Prop} [Decidable c] {o : Option Bool} (h : Tells o p) : Tells (if c then o else some false) (c ∧ p) := by
  by_cases hc : c
  · rw [if_pos hc]; exact h.iff ⟨fun x => ⟨hc, x⟩, fun x => x.2⟩
  · rw [if_neg hc]; exact Tells.no (fun x => hc x.1)
theorem tells_list {α : Type} (z : α) (l0 : Nat → List α → List α → Int → Option Bool) (step : Nat → α → α → Option Bool) (extra : Nat)
    (h : ∀ (k : Nat) (a b : List α) (i : Nat), i < 9223372036854775807 → l0 (k + 1) a b (i : Int) = if (i : Int) < (a.length : Int) then (if (0 : Int) ≤ (i : Int) then (if (i : Int) < (b.length : Int) then ((step k (a.getD i z) (b.getD i z)).bind fun t => (if t = true then l0 k a b ((i + 1 : Nat) : Int) else some false)) else none) else none) else some true)
    (hs : ∀ (k : Nat) (x y : α), extra < k → (∀ a : List α, x ∈ a → a = a) → Tells (step k x y) (x = y)) (a b : List α) (hl : a.length = b.length) (hm : a.length ≤ 140737488355328) :
    ∀ (d k i : Nat), i ≤ a.length → a.length - i = d → d + extra + 1 < k → Tells (l0 k a b (i : Int)) (a.drop i = b.drop i) := by
  intro d
  induction d with
  | zero =>
    intro k i h1 hd hk
    obtain ⟨k, rfl⟩ : ∃ m, k = m + 1 := ⟨k - 1, by omega⟩
    rw [h k a b i (by omega), if_neg (by omega), List.drop_of_length_le (by omega), List.drop_of_length_le (by omega)]
    exact Tells.yes rfl
  | succ d ih =>
    intro k i h1 hd hk
    obtain ⟨k, rfl⟩ : ∃ m, k = m + 1 := ⟨k - 1, by omega⟩
    rw [h k a b i (by omega), if_pos (by omega), if_pos (by omega), if_pos (by omega)]
    have e1 : a.drop i = a.getD i z :: a.drop (i + 1) := by
      rw [List.drop_eq_getElem_cons (show i < a.length by omega), List.getD_eq_getElem?_getD, List.getElem?_eq_getElem (show i < a.length by omega)]; rfl
    have e2 : b.drop i = b.getD i z :: b.drop (i + 1) := by
      rw [List.drop_eq_getElem_cons (show i < b.length by omega), List.getD_eq_getElem?_getD, List.getElem?_eq_getElem (show i < b.length by omega)]; rfl
    rw [e1, e2]
    refine (Tells.and (hs k _ _ (by omega) (fun _ _ => rfl)) (g := fun t => if t = true then l0 k a b ((i + 1 : Nat) : Int) else some false) (q := a.drop (i + 1) = b.drop (i + 1)) ?_ rfl).iff (by simp)
    rw [if_pos rfl]
    exact ih k (i + 1) (by omega) (by omega) (by omega)
theorem wrap_nat (i : Nat) (h : i < 9223372036854775807) : wrap64 ((i : Int) + 1) = ((i + 1 : Nat) : Int) := by rw [wrap_in _ (by omega) (by omega)]; omega
theorem tells_len {α : Type} {o : Option Bool} (a b : List α) (h : a.length = b.length → Tells o (a.drop 0 = b.drop 0)) : Tells (if (a.length : Int) = (b.length : Int) then o else some false) (a = b) := by
  by_cases e : (a.length : Int) = (b.length : Int)
  · rw [if_pos e]; exact (h (by omega)).iff (by simp)
  · rw [if_neg e]; exact Tells.no (fun h => e (by rw [h]))
theorem Ints_eq (a b : List Int) (hm : a.length ≤ 140737488355328) (k : Nat) (hk : a.length + 1 < k) : Tells (raddlekeep_Ints.f k a b) (a = b) := by
  unfold raddlekeep_Ints.f
  refine tells_len a b (fun hl => tells_list 0 raddlekeep_Ints.l0 (fun _ x y => some (decide (x = y))) 0 ?_ (fun k x y _ _ => Tells.of _ (by simp)) a b hl hm a.length k 0 (by omega) (by omega) (by omega))
  intro k a b i hi
  simp only [raddlekeep_Ints.l0]
  rw [rd_nat, rd_nat, wrap_nat i hi, Option.bind_some]
  simp only [decide_eq_true_eq]
theorem Value_eq (x y : Val) : Tells (raddlekeep_Value.f x.f0 x.f1 x.f2 y.f0 y.f1 y.f2) (x = y) := by
  obtain ⟨a, b, s⟩ := x
  obtain ⟨c, d, t⟩ := y
  unfold raddlekeep_Value.f
  refine (Tells.if_ (Tells.if_ (Tells.of _ (p := s = t) ?_))).iff (by simp)
  simp only [beq_iff_eq]
  exact str_inj
theorem Row_eq (a b : List Val) (hm : a.length ≤ 140737488355328) (k : Nat) (hk : a.length + 1 < k) : Tells (raddlekeep_Row.f k a b) (a = b) := by
  unfold raddlekeep_Row.f
  refine tells_len a b (fun hl => tells_list z92 raddlekeep_Row.l0 (fun _ x y => raddlekeep_Value.f x.f0 x.f1 x.f2 y.f0 y.f1 y.f2) 0 ?_ (fun k x y _ _ => Value_eq x y) a b hl hm a.length k 0 (by omega) (by omega) (by omega))
  intro k a b i hi
  simp only [raddlekeep_Row.l0]
  rw [wrap_nat i hi, show rd_T92 a (i : Int) = a.getD i z92 by simp [rd_T92], show rd_T92 b (i : Int) = b.getD i z92 by simp [rd_T92]]
theorem Dot_eq (x y : Dt) : Tells (raddlekeep_Dot.f x.f0 x.f1 y.f0 y.f1) (x = y) := by
  obtain ⟨a, b⟩ := x
  obtain ⟨c, d⟩ := y
  unfold raddlekeep_Dot.f
  exact (Tells.if_ (Tells.of _ (p := b = d) (by simp))).iff (by simp)
theorem Dots_eq (a b : List Dt) (hm : a.length ≤ 140737488355328) (k : Nat) (hk : a.length + 1 < k) : Tells (raddlekeep_Dots.f k a b) (a = b) := by
  unfold raddlekeep_Dots.f
  refine tells_len a b (fun hl => tells_list z46 raddlekeep_Dots.l0 (fun _ x y => raddlekeep_Dot.f x.f0 x.f1 y.f0 y.f1) 0 ?_ (fun k x y _ _ => Dot_eq x y) a b hl hm a.length k 0 (by omega) (by omega) (by omega))
  intro k a b i hi
  simp only [raddlekeep_Dots.l0]
  rw [wrap_nat i hi, show rd_T46 a (i : Int) = a.getD i z46 by simp [rd_T46], show rd_T46 b (i : Int) = b.getD i z46 by simp [rd_T46]]
theorem Stamp_eq (x y : S48) : Tells (raddlekeep_Stamp.f x.f0 x.f1 x.f2 y.f0 y.f1 y.f2) (x = y) := by
  obtain ⟨a, b, s⟩ := x
  obtain ⟨c, d, t⟩ := y
  unfold raddlekeep_Stamp.f
  exact (Tells.if_ (Tells.if_ (Tells.of _ (p := s = t) (by simp)))).iff (by simp)
def slim (n : Nat) (x : Opr) : Prop := x.f1.length ≤ n ∧ x.f7.length ≤ n ∧ x.f8.length ≤ n
theorem Tells.seq {o A : Option Bool} {p q : Prop} (h : Tells o p) (hA : Tells A q) : Tells (o.bind fun t => if t = true then A else some false) (p ∧ q) :=
  h.and (g := fun t => if t = true then A else some false) (by rw [if_pos rfl]; exact hA) rfl
theorem Tells.tail {o : Option Bool} {p : Prop} (h : Tells o p) : Tells (o.bind fun t => some t) p := by
  obtain ⟨r, rfl, h2⟩ := h
  exact ⟨r, rfl, h2⟩
theorem opr_ext (x y : Opr) : (x.f0 = y.f0 ∧ x.f1 = y.f1 ∧ x.f2 = y.f2 ∧ x.f3 = y.f3 ∧ x.f4 = y.f4 ∧ x.f5.toList = y.f5.toList ∧ x.f6 = y.f6 ∧ x.f7 = y.f7 ∧ x.f8 = y.f8) ↔ x = y := by
  obtain ⟨a0, a1, a2, a3, a4, a5, a6, a7, a8⟩ := x
  obtain ⟨b0, b1, b2, b3, b4, b5, b6, b7, b8⟩ := y
  simp only [S52.mk.injEq, str_inj]
theorem Op_eq (x y : Opr) (n : Nat) (hx : slim n x) (hn : n ≤ 140737488355328) (k : Nat) (hk : n + 1 < k) : Tells (raddlekeep_Op.f k x.f0.f0 x.f0.f1 x.f1 x.f2.f0 x.f2.f1 x.f2.f2 x.f3 x.f4 x.f5 x.f6 x.f7 x.f8 y.f0.f0 y.f0.f1 y.f1 y.f2.f0 y.f2.f1 y.f2.f2 y.f3 y.f4 y.f5 y.f6 y.f7 y.f8) (x = y) := by
  obtain ⟨h1, h2, h3⟩ := hx
  unfold raddlekeep_Op.f
  exact ((Dot_eq x.f0 y.f0).seq ((Ints_eq x.f1 y.f1 (by omega) k (by omega)).seq ((Stamp_eq x.f2 y.f2).seq (Tells.if_ (Tells.if_ (Tells.if_ (Tells.if_ ((Row_eq x.f7 y.f7 (by omega) k (by omega)).seq (Dots_eq x.f8 y.f8 (by omega) k (by omega)).tail)))))))).iff (opr_ext x y)
theorem ops_l0 (n : Nat) (hn : n ≤ 140737488355328) (a b : List Opr) (hl : a.length = b.length) (hm : a.length ≤ 140737488355328) (ha : ∀ x ∈ a, slim n x) :
    ∀ (d k i : Nat), i ≤ a.length → a.length - i = d → d + n + 2 < k → Tells (raddlekeep_Ops.l0 k a b (i : Int)) (a.drop i = b.drop i) := by
  intro d
  induction d with
  | zero =>
    intro k i h1 hd hk
    obtain ⟨k, rfl⟩ : ∃ m, k = m + 1 := ⟨k - 1, by omega⟩
    simp only [raddlekeep_Ops.l0]
    rw [if_neg (by omega), List.drop_of_length_le (by omega), List.drop_of_length_le (by omega)]
    exact Tells.yes rfl
  | succ d ih =>
    intro k i h1 hd hk
    obtain ⟨k, rfl⟩ : ∃ m, k = m + 1 := ⟨k - 1, by omega⟩
    have hi : i < a.length := by omega
    have hj : i < b.length := by omega
    have hra : rd_T52 a (i : Int) = a[i] := by simp [rd_T52, hi]
    have hrb : rd_T52 b (i : Int) = b[i] := by simp [rd_T52, hj]
    simp only [raddlekeep_Ops.l0]
    rw [if_pos (by omega), if_pos (by omega), if_pos (by omega), wrap_nat i (by omega), hra, hrb, List.drop_eq_getElem_cons hi, List.drop_eq_getElem_cons hj]
    exact ((Op_eq a[i] b[i] n (ha _ (List.getElem_mem hi)) hn k (by omega)).seq (ih k (i + 1) (by omega) (by omega) (by omega))).iff (by rw [List.cons.injEq])
theorem Ops_eq (a b : List Opr) (n : Nat) (ha : ∀ x ∈ a, slim n x) (hn : n ≤ 140737488355328) (hm : a.length ≤ 140737488355328) (k : Nat) (hk : a.length + n + 3 < k) : Tells (raddlekeep_Ops.f k a b) (a = b) := by
  unfold raddlekeep_Ops.f
  exact tells_len a b (fun hl => ops_l0 n hn a b hl hm ha a.length k 0 (by omega) (by omega) (by omega))
theorem Msg_eq (a0 a1 a2 : Int) (a3 a4 : List Int) (a5 : List Opr) (b0 b1 b2 : Int) (b3 b4 : List Int) (b5 : List Opr) (n : Nat) (hn : n ≤ 1000000) (h3 : a3.length ≤ n) (h4 : a4.length ≤ n) (h5 : a5.length ≤ n) (ha : ∀ x ∈ a5, slim n x) (k : Nat) (hk : 2 * n + 3 < k) :
    Tells (raddlekeep_Msg.f k a0 a1 a2 a3 a4 a5 b0 b1 b2 b3 b4 b5) ((a0, a1, a2, a3, a4, a5) = (b0, b1, b2, b3, b4, b5)) := by
  unfold raddlekeep_Msg.f
  exact (Tells.if_ (Tells.if_ (Tells.if_ ((Ints_eq a3 b3 (by omega) k (by omega)).seq ((Ints_eq a4 b4 (by omega) k (by omega)).seq (Ops_eq a5 b5 n ha (by omega) (by omega) k (by omega)).tail))))).iff (by simp)
end Go.Proofs.YtnbjflcfdncocaaGreat.M
namespace Go.Proofs.YtnbjflcfdncocaaGreat.Pure
open Go.RowKit Go.Proofs.YtnbjflcfdncocaaGreat.M Go.Proofs.YtnbjflcfdncocaaGreatW.PrintWords Go.Proofs.YtnbjflcfdncocaaGreatW.PrintLast
theorem reads_end (b : List Int) (hb : Bytes_ b) (hl : b.length ≤ 2000) (e : Int) (he : e = (readB b).2) (k : Nat) (hk : 2001 < k) :
    raddlelaw08_MsgReads.j0 k b e false (readB b).1.1 (readB b).1.2.1 (readB b).1.2.2.1 (readB b).1.2.2.2.1 (readB b).1.2.2.2.2.1 (readB b).1.2.2.2.2.2 = some true := by
  subst he
  obtain ⟨k, rfl⟩ : ∃ m, k = m + 1 := ⟨k - 1, by omega⟩
  simp only [raddlelaw08_MsgReads.j0]
  rw [if_neg (show ¬ (false = true) by decide)]
  have hw : (raddlelaw08_wakes.f.bind fun t => some t) = some true := rfl
  by_cases h0 : (readB b).2 = 0
  · rw [if_pos h0]
    obtain ⟨f1, f2, f3⟩ := msgB_readB b hb h0
    obtain ⟨p1, p2, p3, p4, p5, p6, hm⟩ : ∃ p1 p2 p3 p4 p5 p6, (readB b).1 = (p1, p2, p3, p4, p5, p6) := ⟨_, _, _, _, _, _, rfl⟩
    rw [hm] at f1 f2 f3 ⊢
    simp only at f1 f2 f3 ⊢
    obtain ⟨_, n1, n2, n3, n4⟩ := msg_parts _ _ _ _ _ _ f1
    have l1 := (nums_parts _ n1).1
    have l2 := (nums_parts _ n2).1
    have l3 := len_msg _ _ _ _ _ _ f1
    have l4 := ops_least _ n4
    have hok : ∀ x ∈ p6, okOp x := fun x hx => by
      have hx := ops_bad _ n4 x hx
      obtain ⟨⟨_, _, a3, _⟩, _, a9, _⟩ := op_parts x hx
      have := (nums_parts _ a3).1
      exact ⟨by omega, by omega⟩
    have e1 : msg_Bytes.f p1 p2 p3 p4 p5 p6 = some (b, 0) := by
      unfold msg_Bytes.f
      rw [if_pos ⟨by omega, by omega, by omega, hok⟩, f3]
    rw [e1, Option.bind_some]
    simp only
    rw [if_pos trivial, Bytes_eq b b (by omega) k (by omega), Option.bind_some, decide_eq_true rfl, if_pos rfl]
    exact hw
  · rw [if_neg h0]
    exact hw
theorem MsgReads : raddlelaw08_MsgReads.Pure := by
  intro l0 _ _ hwf
  refine ⟨6000, ?_⟩
  have hb : Bytes_ l0 := byte_of hwf
  unfold raddlelaw08_MsgReads.f
  by_cases hl : (l0.length : Int) > 2000
  · rw [if_pos hl]
  rw [if_neg hl, Twin_eq l0 (by omega), Option.bind_some]
  have hr : msg_Read.f l0 = some ((readB l0).1.1, (readB l0).1.2.1, (readB l0).1.2.2.1, (readB l0).1.2.2.2.1, (readB l0).1.2.2.2.2.1, (readB l0).1.2.2.2.2.2, (readB l0).2) := by
    unfold msg_Read.f
    rw [if_pos ⟨hb, by omega⟩]
  have hend := reads_end l0 hb (by omega) (readB l0).2 rfl 6000 (by omega)
  have hsz : ∃ n : Nat, n ≤ 300 ∧ (readB l0).1.2.2.2.1.length ≤ n ∧ (readB l0).1.2.2.2.2.1.length ≤ n ∧ (readB l0).1.2.2.2.2.2.length ≤ n ∧ ∀ x ∈ (readB l0).1.2.2.2.2.2, slim n x := by
    by_cases h0 : (readB l0).2 = 0
    · obtain ⟨f1, f2, f3⟩ := msgB_readB l0 hb h0
      obtain ⟨_, n1, n2, n3, n4⟩ := msg_parts _ _ _ _ _ _ f1
      have l1 := (nums_parts _ n1).1
      have l2 := (nums_parts _ n2).1
      have l3 := len_msg _ _ _ _ _ _ f1
      have l4 := ops_least _ n4
      refine ⟨300, by omega, by omega, by omega, by omega, fun x hx => ?_⟩
      have hx := ops_bad _ n4 x hx
      obtain ⟨⟨_, _, a3, _⟩, ⟨_, _, _, a8⟩, a9, _⟩ := op_parts x hx
      have := (nums_parts _ a3).1
      have := (row_parts _ a8).1
      exact ⟨by omega, by omega, by omega⟩
    · have hz : (readB l0).1 = zMsg := by
        unfold readB at h0 ⊢
        by_cases h1 : (openL l0).2 = 0
        · rw [if_pos h1] at h0 ⊢
          unfold rmsg rfin at h0 ⊢
          split
          · rfl
          · rename_i h2
            rw [if_neg h2] at h0
            exact absurd rfl h0
        · rw [if_neg h1]
      rw [hz]
      exact ⟨0, by omega, by simp [zMsg], by simp [zMsg], by simp [zMsg], fun x hx => by simp [zMsg] at hx⟩
  obtain ⟨n, hn, z3, z4, z5, z6⟩ := hsz
  rw [hr, Option.bind_some, show raddleref01_ReadMsg.f l0 = msg_Read.f l0 from rfl, hr, Option.bind_some]
  obtain ⟨p1, p2, p3, p4, p5, p6, hm⟩ : ∃ p1 p2 p3 p4 p5 p6, (readB l0).1 = (p1, p2, p3, p4, p5, p6) := ⟨_, _, _, _, _, _, rfl⟩
  rw [hm] at hend z3 z4 z5 z6 ⊢
  simp only at hend z3 z4 z5 z6 ⊢
  obtain ⟨t, ht, hiff⟩ := Msg_eq p1 p2 p3 p4 p5 p6 p1 p2 p3 p4 p5 p6 n (by omega) z3 z4 z5 z6 6000 (by omega)
  obtain rfl : t = true := hiff.2 rfl
  rw [if_pos trivial, ht, Option.bind_some, if_pos rfl, Bytes_eq l0 l0 (by omega) 6000 (by omega), Option.bind_some, decide_eq_true rfl]
  exact hend
end Go.Proofs.YtnbjflcfdncocaaGreat.Pure
namespace Go.Proofs.YtnbjflcfdncocaaGreatW.PrintWords
open Go.ChangeShapes Go.WideShapes
theorem sized_ints {H : Type} {enc : TypeId × Value → H} {P : Program} {W : World} {base : Nat} {spare : Nat → Bool} {held : Bool} {t e : TypeId} {k : IntKind} {a : Option Addr} {len cap : Nat} {d : DataW H} {ps : List MemPlace} {ts : List TypeId} {ds : List (DataW H)} {j : Nat}
    (hsz : (DataW.weightsEach P ts ds).all (· ≤ reachBytes) = true) (ht : ts[j]? = some t) (hd : ds[j]? = some d) (hu : P.underlying t = some (.slice e)) (he : P.underlying e = some (.int k)) (hc : P.cellsOf e = 1) {B : Nat} (hB : P.bytesOf e = B)
    (h : DataW.Trod enc P W base spare held t (.slice a len cap) d ps) : len * B ≤ 140737488351232 := by
  obtain ⟨fuel, hf⟩ := h
  rcases open_ints hu he hc hf with ⟨hcs, _⟩ | ⟨x, l, c, zs, hcs, _, hl, _, hz, hx, _, _⟩
  · simp [Value.cells] at hcs
    obtain ⟨rfl, rfl, rfl⟩ := hcs
    simp
  · simp [Value.cells] at hcs
    obtain ⟨rfl, rfl, rfl⟩ := hcs
    obtain ⟨hx, _⟩ := Prod.mk.inj hx
    subst hx
    have z := sized_slice hsz ht hd hu
    rw [hB] at z
    have hl2 : len ≤ zs.length := by
      rw [hz]
      split
      · exact hl
      · exact Nat.le_refl _
    have h1 : (lits (H := H) k (zs.take len)).length + (lits (H := H) k (zs.drop len)).length = zs.length := by
      simp [lits]
      omega
    rw [h1] at z
    exact Nat.le_trans (Nat.mul_le_mul_right _ hl2) z
end Go.Proofs.YtnbjflcfdncocaaGreatW.PrintWords
namespace Go.Proofs.YtnbjflcfdncocaaGreat.msgReads
open Go.ChangeShapes Go.WideShapes Go.ChangeAt Go.RowKit
open Go.ChangeMaps (open_string shut_string)
set_option linter.unusedVariables false
theorem own : ownKnob Tryz.prog.godebug = none := by kernel_rfl
theorem laidOut : laidOutB Tryz.prog = true := by kernel_rfl
def IsRow (k : IntKind) (w : World) (a : Option Addr) (len cap : Nat) (zs : List Int) : Prop :=
  (a = none ∧ len = 0 ∧ cap = 0 ∧ zs = []) ∨
  ∃ x, a = some x ∧ len ≤ cap ∧ cap ≤ maxLen ∧ zs.length = cap ∧ (∀ i, i < zs.length → w.cell? (x.add i) = some (.int k (zs.getD i 0))) ∧ ∀ n ∈ zs, (Lit.int k n).wf = true
set_option maxRecDepth 100000 in
theorem lifted (os : Os) (started : os.Started) (H : Type) (enc : TypeId × Value → H) :
    ReturnsInHanded {} Tryz.checked os 4 .any (Rows.msgReadsSpec.pre6 enc Tryz.prog Tryz.f4 Rows.msgReadsRow.domain false) (Rows.msgReadsSpec.post enc Tryz.prog Tryz.f4 false true false false) := by
  refine returnsInHanded_of_change_sized (C := Tryz.checked) own started (by kernel_rfl) Tryz.func4
    (ChangeSpec.witness6 (enc := enc) (C := Tryz.checked) false ⟨#[], #[.slice none 0 0], []⟩ 8 (by kernel_rfl) (by kernel_rfl) (by kernel_rfl) (by kernel_rfl)) ?_
  intro W base args ds gs before hval0 hW hcnd hsz0 _
  have hsz : (DataW.weightsEach Tryz.prog (Tryz.f4.params.toList ++ Rows.msgReadsSpec.plain.varTypes Tryz.prog) (ds ++ gs)).all (· ≤ reachBytes) = true := hsz0
  have hval : ∀ (j : Nat) t v, Tryz.f4.params[j]? = some t → args[j]? = some v → Value.okWide Tryz.prog W .any base t v := hval0
  have hW' := hW
  obtain ⟨p, q, hA0, hV, rfl, hfz, hnd⟩ := hW
  have hA : DataW.TrodAll enc Tryz.prog W 0 (fun _ => true) true Tryz.f4.params.toList args.toList ds p := hA0
  rw [Tryz.params4] at hA hval hsz
  obtain ⟨v0, vs0, d0, ds0, p0, q0, hargs, rfl, rfl, h0, r0⟩ := trodAll_cons hA
  obtain ⟨rfl, rfl, rfl⟩ := trodAll_nil r0
  obtain rfl : args = #[v0] := by cases args; simp_all
  obtain ⟨rfl, rfl⟩ := trodVars_none hV
  obtain ⟨a0, len0, cap0, rfl⟩ := okWide_slice Tryz.underlying33 (hval 0 33 v0 rfl rfl)
  have k0 := h0
  have lt0 : ∀ x ∈ p0, x.block < W.heap.size := by obtain ⟨m, hm⟩ := k0; exact DataW.trod_lt m _ _ _ hm
  obtain ⟨z0, w0⟩ : ∃ zs, IsRow .u8 W a0 len0 cap0 zs := by
    obtain ⟨fuel, hf⟩ := h0
    rcases open_ints Tryz.underlying33 Tryz.underlying5 (by kernel_rfl) hf with ⟨hcs, _⟩ | ⟨x, l, c, zs, hcs, _, hl, hm, hz, _, hcell, hwz⟩
    · simp [Value.cells] at hcs
      obtain ⟨rfl, rfl, rfl⟩ := hcs
      exact ⟨[], .inl ⟨rfl, rfl, rfl, rfl⟩⟩
    · simp [Value.cells] at hcs
      obtain ⟨rfl, rfl, rfl⟩ := hcs
      exact ⟨zs, .inr ⟨_, rfl, hl, hm, by simpa using hz, hcell, hwz⟩⟩
  have y0 : len0 * 1 ≤ 140737488351232 := Go.Proofs.YtnbjflcfdncocaaGreatW.PrintWords.sized_ints hsz (j := 0) (t := 33) rfl rfl Tryz.underlying33 Tryz.underlying5 (by kernel_rfl) (by kernel_rfl) h0
  clear hA0 hval0 hsz0 hsz
  refine (M.raddlelaw08_MsgReads.walk Pure.MsgReads a0 len0 cap0 z0 W w0 y0).mono fun e W' ⟨he, bel⟩ => ?_
  subst he
  exact ⟨_, rfl, _, _, _, [], _, [], hW', trodAll_mk1 (shut_bool Tryz.underlying4 _), (trodAll_cons_mk (Below.trod laidOut (by kernel_rfl) (of_decide_eq_true (by kernel_rfl)) k0 bel lt0) trodAll_mk0), rfl, bel.frame _, fun h => by cases h⟩
theorem over : Rows.msgReadsRow.holds Tryz.pinned (OpenSpec.ofChange Rows.msgReadsSpec) :=
  OpenClaim.holds_of_wide 4 Tryz.f4 rfl rfl rfl rfl rfl rfl rfl ⟨rfl, rfl, rfl, rfl, rfl⟩ rfl rfl rfl rfl rfl (by kernel_rfl) Tryz.func4 (by kernel_rfl)
    (of_decide_eq_true (by kernel_rfl)) (by unfold Func.isWrapper; first | (rw [if_pos (by decide +kernel)]; kernel_rfl) | (rw [if_neg (by decide +kernel)]; exact ⟨rfl, rfl⟩))
    (fun os started H enc _ => lifted os started H enc)
theorem proved : Rows.MsgReadsSaid := over
#print axioms proved
end Go.Proofs.YtnbjflcfdncocaaGreat.msgReads
namespace Go.Proofs.YtnbjflcfdncocaaGreat
theorem msgReads_holds : Rows.MsgReadsSaid := msgReads.proved
end Go.Proofs.YtnbjflcfdncocaaGreat
