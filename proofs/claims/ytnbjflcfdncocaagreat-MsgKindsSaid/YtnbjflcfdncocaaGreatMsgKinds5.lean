/- The law MsgKinds of the program's messages holds for every input (its row stands in the last of these texts): part 5 of 6. -/
import Derived.Test.YtnbjflcfdncocaaGreatMsgKinds4
import Derived.Test.YtnbjflcfdncocaaGreatMsgKinds2
import Derived.Test.YtnbjflcfdncocaaGreatMsgKinds3
namespace Go.Proofs.YtnbjflcfdncocaaGreat.M
open Go.RowKit Go.Proofs.YtnbjflcfdncocaaGreatW.PrintWords Go.Proofs.YtnbjflcfdncocaaGreatW.PrintLast Go.Proofs.YtnbjflcfdncocaaGreatW.PrintMore
theorem cut_one (A : Option Addr) (c : Nat) (l : List Int) (i : Int) (w : World) (h0 : 0 ≤ i) (h1 : i < (l.length : Int)) (h : Kd.C (Kd.int .i64) w A l.length l ∧ l.length ≤ c) :
    ∃ A' : Option Addr, (∀ W : World, (Instr.slice 23 (.slice A l.length c) (some (.int .i64 i)) (some (.int .i64 (i + 1))) none).run Tryz.prog W = .ok (.slice A' 1 (c - i.toNat)) W) ∧ Aside0 (Kd.C (Kd.int .i64) w A' [rd l i].length [rd l i] ∧ [rd l i].length ≤ c - i.toNat) := by
  have info3 : (Tryz.prog.info? 3).map (fun i => (i.zero, i.size, i.bytes)) = some (some (.int .i64 0), 1, 8) := by kernel_rfl
  obtain ⟨i0, hi, _, hsz, _⟩ := info_parts info3
  obtain ⟨A', hcut, hA, hC⟩ := print_mid_of (P := Tryz.prog) (Value.int .i64) 0 23 3 .i64 .i64 Tryz.underlying23 hi hsz A c l i (i + 1) h0 (by omega) (by omega) h.2
  have hl : (l.take (i + 1).toNat).drop i.toNat = [rd l i] := by
    obtain ⟨n, rfl⟩ := Int.eq_ofNat_of_zero_le h0
    have hn : n < l.length := by omega
    rw [show ((n : Int) + 1).toNat = n + 1 by omega, Int.toNat_natCast, List.drop_take, show n + 1 - n = 1 by omega, List.drop_eq_getElem_cons hn, rd_nat, List.getD_eq_getElem?_getD, List.getElem?_eq_getElem hn]
    rfl
  rw [hl] at hcut hA hC
  exact ⟨A', hcut, ⟨Kd.C_of_reads (h1 := fun _ => rfl) (hA _ (Kd.reads_of_C h.1)), hC⟩⟩
set_option maxHeartbeats 4000000 in
set_option maxRecDepth 100000 in
theorem right_core (n : Int) (A1 : Option Addr) (c1 : Nat) (f : List Tbl) (x : Opr) (A2 : Option Addr) (c2 : Nat) (A10 : Option Addr) (c10 : Nat) (A11 : Option Addr) (c11 : Nat) (r : Bool) (w : World) (h1 : Kd.C k56 w A1 f.length f ∧ f.length ≤ c1) (h2 : Kd.C (Kd.int .i64) w A2 x.f1.length x.f1 ∧ x.f1.length ≤ c2) (h10 : Kd.C k92 w A10 x.f7.length x.f7 ∧ x.f7.length ≤ c10) (h11 : Kd.C k46 w A11 x.f8.length x.f8 ∧ x.f8.length ≤ c11) (hr : some (opB n f x) = some r) :
    Calls Tryz.prog 107 #[.int .i64 n, .slice A1 f.length c1, .agg #[.int .i64 x.f0.f0, .int .i64 x.f0.f1, .slice A2 x.f1.length c2, .int .i64 x.f2.f0, .int .i64 x.f2.f1, .int .i64 x.f2.f2, .int .i64 x.f3, .int .i64 x.f4, .string x.f5, .int .i64 x.f6, .slice A10 x.f7.length c10, .slice A11 x.f8.length c11]] w fun e w' => e = .returned (.bool r) ∧ Below w.heap.size w w' := by
  have H1 := Aside0.mk h1; have H2 := Aside0.mk h2; have H10 := Aside0.mk h10; have H11 := Aside0.mk h11
  have HR := Aside0.mk (opB_is hr); clear h1 h2 h10 h11 hr
  obtain ⟨b, hb, E⟩ : ∃ b, op_whole.f n x.f0.f0 x.f0.f1 x.f1 x.f2.f0 x.f2.f1 x.f2.f2 x.f3 x.f4 x.f5 x.f6 x.f7 x.f8 = some b ∧ (b = true ↔ wholeP n x) := ⟨_, rfl, decide_eq_true_iff⟩
  have EH := Aside0.mk hb; have EI := Aside0.mk E; clear hb E
  go_enter Tryz.func107, Tryz.ntmps107
  go_wp2_with fail
  obtain ⟨W, hW, HI⟩ := One.start w (.cells #[.int .i64 x.f0.f0, .int .i64 x.f0.f1, .slice A2 x.f1.length c2, .int .i64 x.f2.f0, .int .i64 x.f2.f1, .int .i64 x.f2.f2, .int .i64 x.f3, .int .i64 x.f4, .string x.f5, .int .i64 x.f6, .slice A10 x.f7.length c10, .slice A11 x.f8.length c11] 52)
  rw [← hW]; clear hW
  refine (op_whole.calls n x.f0.f0 x.f0.f1 A2 c2 x.f1 x.f2.f0 x.f2.f1 x.f2.f2 x.f3 x.f4 x.f5 x.f6 A10 c10 x.f7 A11 c11 x.f8 b _ (Kd.C_below H2.out.1 HI.out.1) H2.out.2 (Kd.C_below H10.out.1 HI.out.1) H10.out.2 (Kd.C_below H11.out.1 HI.out.1) H11.out.2 EH.out).mono ?_
  rintro e w1 ⟨rfl, hb⟩
  replace HI := Aside0.mk (HI.out.step hb); clear hb
  have hk := fun i => blk_cell HI.out.2 i
  cases b with
  | false => (obtain rfl : r = false := Bool.eq_false_iff.2 (fun e => Bool.noConfusion (EI.out.2 (HR.out.1 e).1)); go_wp2_with fail; go_ret; exact ⟨rfl, HI.out.1⟩)
  | true =>
    have hw := EI.out.1 rfl; clear EI EH
    by_cases t0 : 0 ≤ x.f4
    case neg => (have u0 : decide (x.f4 < 0) = true := decide_eq_true (by omega); obtain rfl : r = false := Bool.eq_false_iff.2 (fun e => t0 (HR.out.1 e).2.1.1); clear t0; go_wp2_with fail; go_ret; exact ⟨rfl, HI.out.1⟩)
    have u0 : decide (x.f4 < 0) = false := decide_eq_false (by omega)
    by_cases t1 : x.f4 < (f.length : Int)
    case neg => (have u1 : decide ((f.length : Int) ≤ x.f4) = true := decide_eq_true (by omega); obtain rfl : r = false := Bool.eq_false_iff.2 (fun e => t1 (HR.out.1 e).2.1.2); clear t1; go_wp2_with fail; go_ret; exact ⟨rfl, HI.out.1⟩)
    have u1 : decide ((f.length : Int) ≤ x.f4) = false := decide_eq_false (by omega)
    obtain ⟨b, E⟩ := opKey_at x.f5
    go_wp2_with fail
    refine (op_Key.calls x.f5 b _ E.out.1).mono ?_
    rintro e w1 ⟨rfl, hb⟩
    clear hk; replace HI := Aside0.mk (HI.out.step (by first | exact hb | exact hb.below)); clear hb
    have hk := fun i => blk_cell HI.out.2 i
    cases b with
    | false => (obtain rfl : r = false := Bool.eq_false_iff.2 (fun e => Bool.noConfusion (E.out.2.2 (HR.out.1 e).2.2.1)); go_wp2_with fail; go_ret; exact ⟨rfl, HI.out.1⟩)
    | true =>
      have h9 := E.out.2.1 rfl; clear E
      have HK0 := Aside0.mk (HR.out.trans ⟨fun h => h.2.2.2, fun h => ⟨hw, ⟨t0, t1⟩, h9, h⟩⟩)
      clear HR hw h9
      obtain ⟨af, A7, c7, eF, hd0, hl7, hq7⟩ := at_T56 H1.out.1 x.f4 t0 t1
      subst eF
      have q3 := eq_true t0; have q4 := eq_true t1; clear t0 t1
      obtain ⟨cols, hcols⟩ : ∃ cols, cols = colsOf f x := ⟨_, rfl⟩
      rw [show (rd_T56 f x.f4).f0 = cols from hcols.symm] at hd0 hl7 hq7
      have HK : Aside0 (r = true ↔ (x.f3 = 1 ∧ x.f6 = 0 ∧ x.f8.length = 0 ∧ cellV x.f7 cols) ∨ (x.f3 = 2 ∧ (0 ≤ x.f6 ∧ x.f6 < (cols.length : Int)) ∧ x.f8.length = 0 ∧ cellV x.f7 [rd cols x.f6]) ∨ (x.f3 = 3 ∧ x.f6 = 0 ∧ x.f7.length = 0 ∧ (1 ≤ x.f8.length ∧ x.f8.length ≤ 64) ∧ hadFrom x.f1 x.f8 0)) := ⟨by rw [hcols]; exact HK0.out⟩
      clear HK0 hcols
      have H7 := Aside0.mk (And.intro hq7 hl7); clear hq7 hl7
      replace hd0 := pw_cell_below HI.out.1 hd0
      by_cases k1 : x.f3 = 1
      case pos =>
        have m1 : (x.f3 == 1) = true := beq_iff_eq.2 k1
        have HC : Aside0 (r = true ↔ x.f6 = 0 ∧ x.f8.length = 0 ∧ cellV x.f7 cols) := ⟨HK.out.trans ⟨fun h => by rcases h with h | h | h; exact h.2; omega; omega, fun h => .inl ⟨k1, h⟩⟩⟩
        clear HK k1
        obtain ⟨b, E⟩ := opSmall_at x.f7 cols
        go_wp2_with fail
        refine (op_small.calls A10 c10 x.f7 A7 c7 cols b _ (Kd.C_below H10.out.1 HI.out.1) H10.out.2 (Kd.C_below H7.out.1 HI.out.1) H7.out.2 E.out.1).mono ?_
        rintro e w1 ⟨rfl, hb⟩
        clear hk; replace HI := Aside0.mk (HI.out.step (by first | exact hb | exact hb.below)); clear hb
        have hk := fun i => blk_cell HI.out.2 i
        cases b with
        | false => (obtain rfl : r = false := Bool.eq_false_iff.2 (fun e => Bool.noConfusion (E.out.2.2 (HC.out.1 e).2.2)); go_wp2_with fail; go_ret; exact ⟨rfl, HI.out.1⟩)
        | true =>
          have s1 := E.out.2.1 rfl; clear E
          by_cases i2 : x.f6 = 0
          case neg => (have v2 : (x.f6 == 0) = false := beq_eq_false_iff_ne.2 i2; obtain rfl : r = false := Bool.eq_false_iff.2 (fun e => i2 (HC.out.1 e).1); clear i2; go_wp2_with fail; go_ret; exact ⟨rfl, HI.out.1⟩)
          have v2 : (x.f6 == 0) = true := beq_iff_eq.2 i2
          by_cases i3 : x.f8.length = 0
          case neg => (have v3 : ((x.f8.length : Int) == 0) = false := beq_eq_false_iff_ne.2 (by omega); obtain rfl : r = false := Bool.eq_false_iff.2 (fun e => i3 (HC.out.1 e).2.1); clear i3; go_wp2_with fail; go_ret; exact ⟨rfl, HI.out.1⟩)
          have v3 : ((x.f8.length : Int) == 0) = true := beq_iff_eq.2 (by omega)
          obtain rfl : r = true := HC.out.2 ⟨i2, i3, s1⟩
          clear i2 i3
          go_wp2_with fail
          go_ret
          exact ⟨rfl, HI.out.1⟩
      have m1 : (x.f3 == 1) = false := beq_eq_false_iff_ne.2 k1
      by_cases k2 : x.f3 = 2
      case pos =>
        have m2 : (x.f3 == 2) = true := beq_iff_eq.2 k2
        have HC : Aside0 (r = true ↔ (0 ≤ x.f6 ∧ x.f6 < (cols.length : Int)) ∧ x.f8.length = 0 ∧ cellV x.f7 [rd cols x.f6]) := ⟨HK.out.trans ⟨fun h => by rcases h with h | h | h; omega; exact h.2; omega, fun h => .inr (.inl ⟨k2, h⟩)⟩⟩
        clear HK k1 k2
        have hmx := Kd.C_max H7.out.1
        go_wp2_with fail
        clear hk hd0
        refine wp_ord (S := One w (.cells #[.int .i64 x.f0.f0, .int .i64 x.f0.f1, .slice A2 x.f1.length c2, .int .i64 x.f2.f0, .int .i64 x.f2.f1, .int .i64 x.f2.f2, .int .i64 x.f3, .int .i64 x.f4, .string x.f5, .int .i64 x.f6, .slice A10 x.f7.length c10, .slice A11 x.f8.length c11] 52 (0, 0))) [false, false, false, false, false, false, false, false, false, false, false, false, false, false, false, false, false, false, false, false, true, false, false, false, false, false, false, false, false] (by kernel_rfl) (by kernel_rfl) (fun _ _ d _ _ h => by cases d <;> exact h) ?_ (fun hHeld => ?_)
        · (first | exact HI.out.drew | exact HI.out)
        replace HI := Aside0.mk hHeld; clear hHeld
        iterate 2 (refine ord_take (v := ?_) (by rfl) ?_ ?_; rotate_left; (focus (intro w' hSw; have hk := fun i => blk_cell hSw.2 i; go_simp; (try with_reducible rfl); done)); try simp only [Act.put, List.setIfInBounds_toArray, List.set_cons_zero, List.set_cons_succ])
        by_cases c2 : 0 ≤ x.f6
        case pos =>
          have v1 : decide (0 ≤ x.f6) = true := decide_eq_true c2
          (refine ord_take (v := ?_) (by rfl) ?_ ?_; rotate_left; (focus (intro w' hSw; have hk := fun i => blk_cell hSw.2 i; go_simp; (try with_reducible rfl); done)); try simp only [Act.put, List.setIfInBounds_toArray, List.set_cons_zero, List.set_cons_succ])
          iterate 5 (refine ord_take (v := ?_) (by rfl) ?_ ?_; rotate_left; (focus (intro w' hSw; have hk := fun i => blk_cell hSw.2 i; go_simp; (try with_reducible rfl); done)); try simp only [Act.put, List.setIfInBounds_toArray, List.set_cons_zero, List.set_cons_succ])
          by_cases c8 : x.f6 < (cols.length : Int)
          case pos =>
            have v2 : decide (x.f6 < (cols.length : Int)) = true := decide_eq_true c8
            have gw : IntKind.i64.wrap (x.f6 + 1) = x.f6 + 1 := (i64_w _).trans (wrap_in _ (by omega) (by omega))
            obtain ⟨A', hcut, HCUT⟩ := cut_one A7 c7 cols x.f6 w c2 c8 H7.out
            obtain ⟨b, E⟩ := opSmall_at x.f7 [rd cols x.f6]
            (refine ord_take (v := ?_) (by rfl) ?_ ?_; rotate_left; (focus (intro w' hSw; have hk := fun i => blk_cell hSw.2 i; go_simp; (try with_reducible rfl); done)); try simp only [Act.put, List.setIfInBounds_toArray, List.set_cons_zero, List.set_cons_succ])
            iterate 11 (refine ord_take (v := ?_) (by rfl) ?_ ?_; rotate_left; (focus (intro w' hSw; have hk := fun i => blk_cell hSw.2 i; go_simp; (try with_reducible rfl); done)); try simp only [Act.put, List.setIfInBounds_toArray, List.set_cons_zero, List.set_cons_succ])
            refine ord_call (by rfl) (fun K hK => ?_)
            go_simp; go_at_call 126
            refine (op_small.calls A10 c10 x.f7 A' (c7 - x.f6.toNat) [rd cols x.f6] b _ (Kd.C_below H10.out.1 HI.out.1) H10.out.2 (Kd.C_below HCUT.out.1 HI.out.1) HCUT.out.2 E.out.1).mono ?_; rintro e w1 ⟨rfl, hb⟩; replace HI := Aside0.mk (HI.out.step (by first | exact hb | exact hb.below)); clear hb
            refine hK.out _ _ ?_ (fun hHeld => ?_)
            · (first | exact HI.out.drew | exact HI.out)
            clear hK K
            try simp only [Act.put, List.setIfInBounds_toArray, List.set_cons_zero, List.set_cons_succ]
            clear hHeld
            cases b with
            | true =>
              have s1 := E.out.2.1 rfl
              clear E
              iterate 5 (refine ord_take (v := ?_) (by rfl) ?_ ?_; rotate_left; (focus (intro w' hSw; have hk := fun i => blk_cell hSw.2 i; go_simp; (try with_reducible rfl); done)); try simp only [Act.put, List.setIfInBounds_toArray, List.set_cons_zero, List.set_cons_succ])
              by_cases c26 : x.f8.length = 0
              case pos =>
                have v3 : ((x.f8.length : Int) == 0) = true := beq_iff_eq.2 (by omega)
                obtain rfl : r = true := HC.out.2 ⟨⟨c2, c8⟩, c26, s1⟩
                (refine ord_take (v := ?_) (by rfl) ?_ ?_; rotate_left; (focus (intro w' hSw; have hk := fun i => blk_cell hSw.2 i; go_simp; (try with_reducible rfl); done)); try simp only [Act.put, List.setIfInBounds_toArray, List.set_cons_zero, List.set_cons_succ])
                iterate 2 (refine ord_take (v := ?_) (by rfl) ?_ ?_; rotate_left; (focus (intro w' hSw; have hk := fun i => blk_cell hSw.2 i; go_simp; (try with_reducible rfl); done)); try simp only [Act.put, List.setIfInBounds_toArray, List.set_cons_zero, List.set_cons_succ])
                refine ord_done ?_
                go_wp2
                go_ret
                exact ⟨rfl, HI.out.1⟩
              case neg =>
                have v3 : ((x.f8.length : Int) == 0) = false := beq_eq_false_iff_ne.2 (by omega)
                obtain rfl : r = false := Bool.eq_false_iff.2 (fun e => c26 (HC.out.1 e).2.1)
                (refine ord_take (v := ?_) (by rfl) ?_ ?_; rotate_left; (focus (intro w' hSw; have hk := fun i => blk_cell hSw.2 i; go_simp; (try with_reducible rfl); done)); try simp only [Act.put, List.setIfInBounds_toArray, List.set_cons_zero, List.set_cons_succ])
                iterate 2 (refine ord_take (v := ?_) (by rfl) ?_ ?_; rotate_left; (focus (intro w' hSw; have hk := fun i => blk_cell hSw.2 i; go_simp; (try with_reducible rfl); done)); try simp only [Act.put, List.setIfInBounds_toArray, List.set_cons_zero, List.set_cons_succ])
                refine ord_done ?_
                go_wp2
                go_ret
                exact ⟨rfl, HI.out.1⟩
            | false =>
              obtain rfl : r = false := Bool.eq_false_iff.2 (fun e => Bool.noConfusion (E.out.2.2 (HC.out.1 e).2.2))
              repeat (first | (refine ord_skip (by rfl) ?_; try simp only [Act.put, List.setIfInBounds_toArray, List.set_cons_zero, List.set_cons_succ]) | (refine ord_pass (by rfl) ?_; try simp only [Act.put, List.setIfInBounds_toArray, List.set_cons_zero, List.set_cons_succ]) | (refine ord_take (v := ?_) (by rfl) ?_ ?_; rotate_left; (focus (intro w' hSw; have hk := fun i => blk_cell hSw.2 i; go_simp; (try with_reducible rfl); done)); try simp only [Act.put, List.setIfInBounds_toArray, List.set_cons_zero, List.set_cons_succ]))
              refine ord_done ?_
              go_wp2
              go_ret
              exact ⟨rfl, HI.out.1⟩
          case neg =>
            have v2 : decide (x.f6 < (cols.length : Int)) = false := decide_eq_false c8
            obtain rfl : r = false := Bool.eq_false_iff.2 (fun e => c8 (HC.out.1 e).1.2)
            (refine ord_take (v := ?_) (by rfl) ?_ ?_; rotate_left; (focus (intro w' hSw; have hk := fun i => blk_cell hSw.2 i; go_simp; (try with_reducible rfl); done)); try simp only [Act.put, List.setIfInBounds_toArray, List.set_cons_zero, List.set_cons_succ])
            repeat (first | (refine ord_skip (by rfl) ?_; try simp only [Act.put, List.setIfInBounds_toArray, List.set_cons_zero, List.set_cons_succ]) | (refine ord_pass (by rfl) ?_; try simp only [Act.put, List.setIfInBounds_toArray, List.set_cons_zero, List.set_cons_succ]) | (refine ord_take (v := ?_) (by rfl) ?_ ?_; rotate_left; (focus (intro w' hSw; have hk := fun i => blk_cell hSw.2 i; go_simp; (try with_reducible rfl); done)); try simp only [Act.put, List.setIfInBounds_toArray, List.set_cons_zero, List.set_cons_succ]))
            refine ord_done ?_
            go_wp2
            go_ret
            exact ⟨rfl, HI.out.1⟩
        case neg =>
          have v1 : decide (0 ≤ x.f6) = false := decide_eq_false c2
          obtain rfl : r = false := Bool.eq_false_iff.2 (fun e => c2 (HC.out.1 e).1.1)
          (refine ord_take (v := ?_) (by rfl) ?_ ?_; rotate_left; (focus (intro w' hSw; have hk := fun i => blk_cell hSw.2 i; go_simp; (try with_reducible rfl); done)); try simp only [Act.put, List.setIfInBounds_toArray, List.set_cons_zero, List.set_cons_succ])
          repeat (first | (refine ord_skip (by rfl) ?_; try simp only [Act.put, List.setIfInBounds_toArray, List.set_cons_zero, List.set_cons_succ]) | (refine ord_pass (by rfl) ?_; try simp only [Act.put, List.setIfInBounds_toArray, List.set_cons_zero, List.set_cons_succ]) | (refine ord_take (v := ?_) (by rfl) ?_ ?_; rotate_left; (focus (intro w' hSw; have hk := fun i => blk_cell hSw.2 i; go_simp; (try with_reducible rfl); done)); try simp only [Act.put, List.setIfInBounds_toArray, List.set_cons_zero, List.set_cons_succ]))
          refine ord_done ?_
          go_wp2
          go_ret
          exact ⟨rfl, HI.out.1⟩
      have m2 : (x.f3 == 2) = false := beq_eq_false_iff_ne.2 k2
      by_cases k3 : x.f3 = 3
      case pos =>
        have m3 : (x.f3 == 3) = true := beq_iff_eq.2 k3
        have HC : Aside0 (r = true ↔ x.f6 = 0 ∧ x.f7.length = 0 ∧ (1 ≤ x.f8.length ∧ x.f8.length ≤ 64) ∧ hadFrom x.f1 x.f8 0) := ⟨HK.out.trans ⟨fun h => by rcases h with h | h | h; omega; omega; exact h.2, fun h => .inr (.inr ⟨k3, h⟩)⟩⟩
        clear HK k1 k2 k3
        by_cases i1 : 1 ≤ x.f8.length
        case neg => (have v1 : decide (1 ≤ (x.f8.length : Int)) = false := decide_eq_false (by omega); have v1' : decide (1 ≤ x.f8.length) = false := decide_eq_false (by omega); have v1'' : decide (0 < x.f8.length) = false := decide_eq_false (by omega); obtain rfl : r = false := Bool.eq_false_iff.2 (fun e => i1 (HC.out.1 e).2.2.1.1); clear i1; go_wp2_with fail; go_ret; exact ⟨rfl, HI.out.1⟩)
        have v1 : decide (1 ≤ (x.f8.length : Int)) = true := decide_eq_true (by omega)
        have v1' : decide (1 ≤ x.f8.length) = true := decide_eq_true (by omega)
        have v1'' : decide (0 < x.f8.length) = true := decide_eq_true (by omega)
        by_cases i2 : x.f8.length ≤ 64
        case neg => (have v2 : decide ((x.f8.length : Int) ≤ 64) = false := decide_eq_false (by omega); have v2' : decide (x.f8.length ≤ 64) = false := decide_eq_false (by omega); obtain rfl : r = false := Bool.eq_false_iff.2 (fun e => i2 (HC.out.1 e).2.2.1.2); clear i2; go_wp2_with fail; go_ret; exact ⟨rfl, HI.out.1⟩)
        have v2 : decide ((x.f8.length : Int) ≤ 64) = true := decide_eq_true (by omega)
        have v2' : decide (x.f8.length ≤ 64) = true := decide_eq_true (by omega)
        have HN := Aside0.mk (And.intro i1 i2); clear i1 i2
        obtain ⟨b, hb, E⟩ : ∃ b, op_had.f x.f1 x.f8 = some b ∧ (b = true ↔ hadFrom x.f1 x.f8 0) := ⟨_, rfl, decide_eq_true_iff⟩
        have EH := Aside0.mk hb; have EI := Aside0.mk E; clear hb E
        go_wp2_with fail
        refine (op_had.calls A2 c2 x.f1 A11 c11 x.f8 b _ (Kd.C_below H2.out.1 HI.out.1) H2.out.2 (Kd.C_below H11.out.1 HI.out.1) H11.out.2 EH.out).mono ?_
        rintro e w1 ⟨rfl, hb⟩
        clear hk; replace HI := Aside0.mk (HI.out.step (by first | exact hb | exact hb.below)); clear hb
        have hk := fun i => blk_cell HI.out.2 i
        cases b with
        | false => (obtain rfl : r = false := Bool.eq_false_iff.2 (fun e => Bool.noConfusion (EI.out.2 (HC.out.1 e).2.2.2)); go_wp2_with fail; go_ret; exact ⟨rfl, HI.out.1⟩)
        | true =>
          have s1 := EI.out.1 rfl; clear EI EH
          by_cases i3 : x.f6 = 0
          case neg => (have v3 : (x.f6 == 0) = false := beq_eq_false_iff_ne.2 i3; obtain rfl : r = false := Bool.eq_false_iff.2 (fun e => i3 (HC.out.1 e).1); clear i3; go_wp2_with fail; go_ret; exact ⟨rfl, HI.out.1⟩)
          have v3 : (x.f6 == 0) = true := beq_iff_eq.2 i3
          by_cases i4 : x.f7.length = 0
          case neg => (have v4 : ((x.f7.length : Int) == 0) = false := beq_eq_false_iff_ne.2 (by omega); obtain rfl : r = false := Bool.eq_false_iff.2 (fun e => i4 (HC.out.1 e).2.1); clear i4; go_wp2_with fail; go_ret; exact ⟨rfl, HI.out.1⟩)
          have v4 : ((x.f7.length : Int) == 0) = true := beq_iff_eq.2 (by omega)
          obtain rfl : r = true := HC.out.2 ⟨i3, i4, HN.out, s1⟩
          clear i3 i4
          go_wp2_with fail
          go_ret
          exact ⟨rfl, HI.out.1⟩
      have m3 : (x.f3 == 3) = false := beq_eq_false_iff_ne.2 k3
      obtain rfl : r = false := Bool.eq_false_iff.2 (fun e => by rcases HK.out.1 e with h | h | h; exact k1 h.1; exact k2 h.1; exact k3 h.1)
      go_wp2_with fail; go_ret; exact ⟨rfl, HI.out.1⟩
def op_right.f (a0 : Int) (l1 : List Tbl) (a1_0 : Int) (a1_1 : Int) (l1_2 : List Int) (a1_3 : Int) (a1_4 : Int) (a1_5 : Int) (a1_6 : Int) (a1_7 : Int) (a1_8 : ByteArray) (a1_9 : Int) (l1_10 : List Val) (l1_11 : List Dt) : Option Bool := some (opB a0 l1 ⟨⟨a1_0, a1_1⟩, l1_2, ⟨a1_3, a1_4, a1_5⟩, a1_6, a1_7, a1_8, a1_9, l1_10, l1_11⟩)
theorem op_right.calls (a0 : Int) (A1 : Option Addr) (c1 : Nat) (l1 : List Tbl) (a1_0 : Int) (a1_1 : Int) (A1_2 : Option Addr) (c1_2 : Nat) (l1_2 : List Int) (a1_3 : Int) (a1_4 : Int) (a1_5 : Int) (a1_6 : Int) (a1_7 : Int) (a1_8 : ByteArray) (a1_9 : Int) (A1_10 : Option Addr) (c1_10 : Nat) (l1_10 : List Val) (A1_11 : Option Addr) (c1_11 : Nat) (l1_11 : List Dt) (r : Bool) (w : World) (hr1 : Kd.C k56 w A1 l1.length l1) (hc1 : l1.length ≤ c1) (hr1_2 : Kd.C (Kd.int .i64) w A1_2 l1_2.length l1_2) (hc1_2 : l1_2.length ≤ c1_2) (hr1_10 : Kd.C k92 w A1_10 l1_10.length l1_10) (hc1_10 : l1_10.length ≤ c1_10) (hr1_11 : Kd.C k46 w A1_11 l1_11.length l1_11) (hc1_11 : l1_11.length ≤ c1_11) (h : op_right.f a0 l1 a1_0 a1_1 l1_2 a1_3 a1_4 a1_5 a1_6 a1_7 a1_8 a1_9 l1_10 l1_11 = some r) :
    Calls Tryz.prog 107 #[.int .i64 a0, .slice A1 l1.length c1, .agg #[.int .i64 a1_0, .int .i64 a1_1, .slice A1_2 l1_2.length c1_2, .int .i64 a1_3, .int .i64 a1_4, .int .i64 a1_5, .int .i64 a1_6, .int .i64 a1_7, .string a1_8, .int .i64 a1_9, .slice A1_10 l1_10.length c1_10, .slice A1_11 l1_11.length c1_11]] w fun e w' => e = .returned (.bool r) ∧ Below w.heap.size w w' := by
  exact right_core a0 A1 c1 l1 ⟨⟨a1_0, a1_1⟩, l1_2, ⟨a1_3, a1_4, a1_5⟩, a1_6, a1_7, a1_8, a1_9, l1_10, l1_11⟩ A1_2 c1_2 A1_10 c1_10 A1_11 c1_11 r w ⟨hr1, hc1⟩ ⟨hr1_2, hc1_2⟩ ⟨hr1_10, hc1_10⟩ ⟨hr1_11, hc1_11⟩ h
end Go.Proofs.YtnbjflcfdncocaaGreat.M
namespace Go.Proofs.YtnbjflcfdncocaaGreat.M
open Go.RowKit Go.Proofs.YtnbjflcfdncocaaGreatW.PrintWords Go.Proofs.YtnbjflcfdncocaaGreatW.PrintLast Go.Proofs.YtnbjflcfdncocaaGreatW.PrintMore
attribute [local go_sem] max2_int min2_int max_two min_two max_three min_three max_four min_four
set_option linter.unusedVariables false
set_option linter.unusedSimpArgs false
def op_Check.f (k : Nat) (a0 : Int) (l1 : List (S56)) (a2_0 : Int) (a2_1 : Int) (l2_2 : List Int) (a2_3 : Int) (a2_4 : Int) (a2_5 : Int) (a2_6 : Int) (a2_7 : Int) (a2_8 : ByteArray) (a2_9 : Int) (l2_10 : List (S92)) (l2_11 : List (S46)) : Option (Int) := (op_Forms.f k l1).bind fun t143 => (if t143 = 0 then (if a0 < 1 then (some 1) else (if a0 > 5 then (some 1) else ((op_right.f a0 l1 a2_0 a2_1 l2_2 a2_3 a2_4 a2_5 a2_6 a2_7 a2_8 a2_9 l2_10 l2_11).bind fun t144 => (if t144 = true then (some 0) else (some 1))))) else (some t143))
set_option maxHeartbeats 8000000 in
set_option maxRecDepth 100000 in
theorem op_Check.calls (k : Nat) (a0 : Int) (A1 : Option Addr) (c1 : Nat) (l1 : List (S56)) (a2_0 : Int) (a2_1 : Int) (A2_2 : Option Addr) (c2_2 : Nat) (l2_2 : List Int) (a2_3 : Int) (a2_4 : Int) (a2_5 : Int) (a2_6 : Int) (a2_7 : Int) (a2_8 : ByteArray) (a2_9 : Int) (A2_10 : Option Addr) (c2_10 : Nat) (l2_10 : List (S92)) (A2_11 : Option Addr) (c2_11 : Nat) (l2_11 : List (S46)) (r : Int) (w : World) (hr1 : Kd.C k56 w A1 l1.length l1) (hc1 : l1.length ≤ c1) (hr2_2 : Kd.C (Kd.int .i64) w A2_2 l2_2.length l2_2) (hc2_2 : l2_2.length ≤ c2_2) (hr2_10 : Kd.C k92 w A2_10 l2_10.length l2_10) (hc2_10 : l2_10.length ≤ c2_10) (hr2_11 : Kd.C k46 w A2_11 l2_11.length l2_11) (hc2_11 : l2_11.length ≤ c2_11) (h : op_Check.f k a0 l1 a2_0 a2_1 l2_2 a2_3 a2_4 a2_5 a2_6 a2_7 a2_8 a2_9 l2_10 l2_11 = some r) :
  Calls Tryz.prog 80 #[.int .i64 a0, .slice A1 l1.length c1, .agg #[.int .i64 a2_0, .int .i64 a2_1, .slice A2_2 l2_2.length c2_2, .int .i64 a2_3, .int .i64 a2_4, .int .i64 a2_5, .int .i64 a2_6, .int .i64 a2_7, .string a2_8, .int .i64 a2_9, .slice A2_10 l2_10.length c2_10, .slice A2_11 l2_11.length c2_11]] w fun e w' => e = .returned (.int .i64 r) ∧ Below w.heap.size w w' := by
 unfold op_Check.f at h
 have HRl1 := Aside0.mk (And.intro hr1 hc1); clear hr1 hc1
 have HRl2_2 := Aside0.mk (And.intro hr2_2 hc2_2); clear hr2_2 hc2_2
 have HRl2_10 := Aside0.mk (And.intro hr2_10 hc2_10); clear hr2_10 hc2_10
 have HRl2_11 := Aside0.mk (And.intro hr2_11 hc2_11); clear hr2_11 hc2_11
 obtain ⟨t143, ht143, h⟩ := Option.bind_eq_some_iff.1 h; have H := Aside0.mk h; have Ht143 := Aside0.mk ht143; clear h ht143
 go_enter Tryz.func80, Tryz.ntmps80
 go_wp2_with fail
 obtain ⟨W, hW, HI⟩ := One.start w (.cells #[.int .i64 a2_0, .int .i64 a2_1, .slice A2_2 l2_2.length c2_2, .int .i64 a2_3, .int .i64 a2_4, .int .i64 a2_5, .int .i64 a2_6, .int .i64 a2_7, .string a2_8, .int .i64 a2_9, .slice A2_10 l2_10.length c2_10, .slice A2_11 l2_11.length c2_11] 52)
 rw [← hW]; clear hW
 have hk0 := fun i => blk_cell HI.out.2 i
 refine (op_Forms.calls k _ _ l1 t143 _ (Kd.C_below HRl1.out.1 HI.out.1) HRl1.out.2 Ht143.out).mono ?_
 rintro e w1 ⟨rfl, hb⟩
 clear hk0; replace HI := Aside0.mk (HI.out.step (by first | exact hb | exact hb.below)); clear hb
 have hk0 := fun i => blk_cell HI.out.2 i
 have h := H.out; clear H
 by_cases c0 : t143 = 0
 case neg =>
  rw [if_neg c0] at h
  have g0 : (t143 == 0) = false := beq_eq_false_iff_ne.2 c0; have g0' : (t143 != 0) = true := bne_iff_ne.2 c0
  clear c0
  obtain rfl := Option.some.inj h
  go_wp2_with fail
  go_ret
  exact ⟨by first | rfl | (simp [*]; done), HI.out.1⟩
 rw [if_pos c0] at h
 have g0 : (t143 == 0) = true := beq_iff_eq.2 c0; have g0' : (t143 != 0) = false := bne_eq_false_iff_eq.2 c0
 clear c0
 by_cases c1 : a0 < 1
 case neg =>
  rw [if_neg c1] at h
  have g1 : decide (a0 < 1) = false := decide_eq_false (by omega)
  clear c1
  by_cases c2 : a0 > 5
  case neg =>
   rw [if_neg c2] at h
   have g2 : decide (5 < a0) = false := decide_eq_false (by omega)
   clear c2
   obtain ⟨t144, ht144, h⟩ := Option.bind_eq_some_iff.1 h; have H := Aside0.mk h; have Ht144 := Aside0.mk ht144; clear h ht144
   go_wp2_with fail
   refine (op_right.calls a0 _ _ l1 a2_0 a2_1 _ _ l2_2 a2_3 a2_4 a2_5 a2_6 a2_7 a2_8 a2_9 _ _ l2_10 _ _ l2_11 t144 _ (Kd.C_below HRl1.out.1 HI.out.1) HRl1.out.2 (Kd.C_below HRl2_2.out.1 HI.out.1) HRl2_2.out.2 (Kd.C_below HRl2_10.out.1 HI.out.1) HRl2_10.out.2 (Kd.C_below HRl2_11.out.1 HI.out.1) HRl2_11.out.2 Ht144.out).mono ?_
   rintro e w1 ⟨rfl, hb⟩
   clear hk0; replace HI := Aside0.mk (HI.out.step (by first | exact hb | exact hb.below)); clear hb
   have hk0 := fun i => blk_cell HI.out.2 i
   have h := H.out; clear H
   cases t144 with
   | true =>
    rw [if_pos rfl] at h
    obtain rfl := Option.some.inj h
    go_wp2_with fail
    go_ret
    exact ⟨by first | rfl | (simp [*]; done), HI.out.1⟩
   | false =>
    rw [if_neg (by decide)] at h
    obtain rfl := Option.some.inj h
    go_wp2_with fail
    go_ret
    exact ⟨by first | rfl | (simp [*]; done), HI.out.1⟩
  rw [if_pos c2] at h
  have g2 : decide (5 < a0) = true := decide_eq_true (by omega)
  have q2 := eq_true c2
  clear c2
  obtain rfl := Option.some.inj h
  go_wp2_with fail
  go_ret
  exact ⟨by first | rfl | (simp [*]; done), HI.out.1⟩
 rw [if_pos c1] at h
 have g1 : decide (a0 < 1) = true := decide_eq_true (by omega)
 have q1 := eq_true c1
 clear c1
 obtain rfl := Option.some.inj h
 go_wp2_with fail
 go_ret
 exact ⟨by first | rfl | (simp [*]; done), HI.out.1⟩
def dot_Le_1.f (a0 : Int) (a1 : Int) : Option (Bool) := some (decide (a0 ≤ a1))
set_option maxHeartbeats 8000000 in
set_option maxRecDepth 100000 in
theorem dot_Le_1.calls (a0 : Int) (a1 : Int) (r : Bool) (w : World) (h : dot_Le_1.f a0 a1 = some r) :
  Calls Tryz.prog 130 #[.int .i64 a0, .int .i64 a1] w fun e w' => e = .returned (.bool r) ∧ Drawn0 w w' := by
 have H : (some (decide (a0 ≤ a1))) = some r := h
 clear h
 obtain rfl := Option.some.inj H
 go_enter Tryz.func130, Tryz.ntmps130
 go_wp2
 go_ret
 exact ⟨by first | rfl | (simp; done) | (simp [*]; done), by repeat (first | exact Drawn0.refl _ | apply Drawn0.step)⟩
end Go.Proofs.YtnbjflcfdncocaaGreat.M
namespace Go.Proofs.YtnbjflcfdncocaaGreat.M
open Go.RowKit Go.Proofs.YtnbjflcfdncocaaGreatW.PrintWords Go.Proofs.YtnbjflcfdncocaaGreatW.PrintLast Go.Proofs.YtnbjflcfdncocaaGreatW.PrintMore
def equal_Le_1.p (x : Int) (y : Int) : Bool := (dot_Le_1.f x y).getD false
theorem equal_Le_1.p_eq (x : Int) (y : Int) : dot_Le_1.f x y = some (equal_Le_1.p x y) := by
  have h : (dot_Le_1.f x y).isSome = true := by
    rfl
  unfold equal_Le_1.p
  obtain ⟨b, hb⟩ := Option.isSome_iff_exists.1 h
  rw [hb]; rfl
def equal_Le_1.f (l0 : List Int) (l1 : List Int) : Option Bool := some (allF equal_Le_1.p l0 l1)
theorem equal_Le_1.calls (A0 : Option Addr) (c0 : Nat) (l0 : List Int) (A1 : Option Addr) (c1 : Nat) (l1 : List Int) (r : Bool) (w : World) (hr0 : Kd.C (Kd.int .i64) w A0 l0.length l0) (_hc0 : l0.length ≤ c0) (hr1 : Kd.C (Kd.int .i64) w A1 l1.length l1) (_hc1 : l1.length ≤ c1) (h : equal_Le_1.f l0 l1 = some r) :
    Calls Tryz.prog 129 #[.slice A0 l0.length c0, .slice A1 l1.length c1, .func (.func 130) #[] #[]] w fun e w' => e = .returned (.bool r) ∧ Below w.heap.size w w' := by
  obtain rfl := Option.some.inj h
  exact EqualFunc_int_int 130 (enters_ Tryz.func130 (by kernel_rfl) (by kernel_rfl)) equal_Le_1.p (fun x y W => (dot_Le_1.calls x y _ W (equal_Le_1.p_eq x y)).mono fun e w' ⟨he, hd⟩ => ⟨he, hd.below⟩) A0 c0 l0 A1 c1 l1 w hr0 hr1
end Go.Proofs.YtnbjflcfdncocaaGreat.M
namespace Go.Proofs.YtnbjflcfdncocaaGreat.M
open Go.RowKit Go.Proofs.YtnbjflcfdncocaaGreatW.PrintWords Go.Proofs.YtnbjflcfdncocaaGreatW.PrintLast Go.Proofs.YtnbjflcfdncocaaGreatW.PrintMore
attribute [local go_sem] max2_int min2_int max_two min_two max_three min_three max_four min_four
set_option linter.unusedVariables false
set_option linter.unusedSimpArgs false
def dot_Le.f (l0 : List Int) (l1 : List Int) : Option (Bool) := (equal_Le_1.f l0 l1).bind fun t146 => (some t146)
set_option maxHeartbeats 8000000 in
set_option maxRecDepth 100000 in
theorem dot_Le.calls (A0 : Option Addr) (c0 : Nat) (l0 : List Int) (A1 : Option Addr) (c1 : Nat) (l1 : List Int) (r : Bool) (w : World) (hr0 : Kd.C (Kd.int .i64) w A0 l0.length l0) (hc0 : l0.length ≤ c0) (hr1 : Kd.C (Kd.int .i64) w A1 l1.length l1) (hc1 : l1.length ≤ c1) (h : dot_Le.f l0 l1 = some r) :
  Calls Tryz.prog 109 #[.slice A0 l0.length c0, .slice A1 l1.length c1] w fun e w' => e = .returned (.bool r) ∧ Below w.heap.size w w' := by
 have HR0 := Aside0.mk hr0
 have HC0 := Aside0.mk hc0
 clear hr0 hc0
 have HR1 := Aside0.mk hr1
 have HC1 := Aside0.mk hc1
 clear hr1 hc1
 have HB := Aside0.mk (Below.refl w.heap.size w)
 have H : ((equal_Le_1.f l0 l1).bind fun t146 => (some t146)) = some r := h
 clear h
 replace H := Option.bind_eq_some_iff.mp H
 obtain ⟨t146, A30, H⟩ := H
 try dsimp only at H
 have A3 := Aside0.mk A30
 clear A30
 obtain rfl := Option.some.inj H
 go_enter Tryz.func109, Tryz.ntmps109
 go_wp2_with (first | (go_at_call 129; (with_reducible refine (equal_Le_1.calls _ _ l0 _ _ l1 t146 _ ?side1 ?side2 ?side3 ?side4 A3.out).mono ?_); (case side1 => repeat (first | exact HR0.out | (with_reducible refine Kd.C_alloc ?_ _) | (with_reducible refine Kd.C_drewN ?_ _) | (with_reducible refine Kd.C_drew ?_))); (case side2 => exact HC0.out); (case side3 => repeat (first | exact HR1.out | (with_reducible refine Kd.C_alloc ?_ _) | (with_reducible refine Kd.C_drewN ?_ _) | (with_reducible refine Kd.C_drew ?_))); (case side4 => exact HC1.out); rintro e w4 ⟨rfl, hb⟩; have n0_ := Aside0.mk (below_step (by with_reducible repeat (first | exact HB.out | apply below_alloc | apply pw_below_drewN | apply below_drew1)) hb); clear HB; have HB := n0_; clear n0_; (try clear hb); (try clear hb2); (try clear hk); (try clear hi)))
 go_ret
 exact ⟨by first | rfl | (simp [errW_none, errW_some] <;> rfl) | (simp [*, errW_none, errW_some] <;> rfl), by with_reducible repeat (first | exact HB.out | apply below_alloc | apply pw_below_drewN | apply below_drew1)⟩
def msg_tells.f (k : Nat) (a0 : Int) (a1_0 : Int) (a1_1 : Int) (a1_2 : Int) (l1_3 : List Int) (l1_4 : List Int) (l1_5 : List (S52)) : Option (Bool) := if (l1_3.length : Int) = a0 then ((dot_Check.f k l1_3).bind fun t148 => (if t148 = 0 then ((dot_Check.f k l1_4).bind fun t149 => (if t149 = 0 then ((dot_Le.f l1_4 l1_3).bind fun t150 => (some t150)) else (some false))) else (some false))) else (some false)
set_option maxHeartbeats 8000000 in
set_option maxRecDepth 100000 in
theorem msg_tells.calls (k : Nat) (a0 : Int) (a1_0 : Int) (a1_1 : Int) (a1_2 : Int) (A1_3 : Option Addr) (c1_3 : Nat) (l1_3 : List Int) (A1_4 : Option Addr) (c1_4 : Nat) (l1_4 : List Int) (A1_5 : Option Addr) (c1_5 : Nat) (l1_5 : List (S52)) (r : Bool) (w : World) (hr1_3 : Kd.C (Kd.int .i64) w A1_3 l1_3.length l1_3) (hc1_3 : l1_3.length ≤ c1_3) (hr1_4 : Kd.C (Kd.int .i64) w A1_4 l1_4.length l1_4) (hc1_4 : l1_4.length ≤ c1_4) (hr1_5 : Kd.C k52 w A1_5 l1_5.length l1_5) (hc1_5 : l1_5.length ≤ c1_5) (h : msg_tells.f k a0 a1_0 a1_1 a1_2 l1_3 l1_4 l1_5 = some r) :
  Calls Tryz.prog 81 #[.int .i64 a0, .agg #[.int .i64 a1_0, .int .i64 a1_1, .int .i64 a1_2, .slice A1_3 l1_3.length c1_3, .slice A1_4 l1_4.length c1_4, .slice A1_5 l1_5.length c1_5]] w fun e w' => e = .returned (.bool r) ∧ Below w.heap.size w w' := by
 unfold msg_tells.f at h
 have HRl1_3 := Aside0.mk (And.intro hr1_3 hc1_3); clear hr1_3 hc1_3
 have HRl1_4 := Aside0.mk (And.intro hr1_4 hc1_4); clear hr1_4 hc1_4
 have HRl1_5 := Aside0.mk (And.intro hr1_5 hc1_5); clear hr1_5 hc1_5
 by_cases c0 : (l1_3.length : Int) = a0
 case neg =>
  rw [if_neg c0] at h
  have g0 : ((l1_3.length : Int) == a0) = false := beq_eq_false_iff_ne.2 c0; have g0' : ((l1_3.length : Int) != a0) = true := bne_iff_ne.2 c0
  clear c0
  obtain rfl := Option.some.inj h
  go_enter Tryz.func81, Tryz.ntmps81
  go_wp2_with fail
  go_ret
  exact ⟨by first | rfl | (simp [*]; done), below_alloc (Below.refl _ w) _⟩
 rw [if_pos c0] at h
 have g0 : ((l1_3.length : Int) == a0) = true := beq_iff_eq.2 c0; have g0' : ((l1_3.length : Int) != a0) = false := bne_eq_false_iff_eq.2 c0
 clear c0
 obtain ⟨t148, ht148, h⟩ := Option.bind_eq_some_iff.1 h; have H := Aside0.mk h; have Ht148 := Aside0.mk ht148; clear h ht148
 go_enter Tryz.func81, Tryz.ntmps81
 go_wp2_with fail
 obtain ⟨W, hW, HI⟩ := One.start w (.cells #[.int .i64 a1_0, .int .i64 a1_1, .int .i64 a1_2, .slice A1_3 l1_3.length c1_3, .slice A1_4 l1_4.length c1_4, .slice A1_5 l1_5.length c1_5] 26)
 rw [← hW]; clear hW
 have hk0 := fun i => blk_cell HI.out.2 i
 refine (dot_Check.calls k _ _ l1_3 t148 _ (Kd.C_below HRl1_3.out.1 HI.out.1) HRl1_3.out.2 Ht148.out).mono ?_
 rintro e w1 ⟨rfl, hb⟩
 clear hk0; replace HI := Aside0.mk (HI.out.step (by first | exact hb | exact hb.below)); clear hb
 have hk0 := fun i => blk_cell HI.out.2 i
 have h := H.out; clear H
 by_cases c1 : t148 = 0
 case neg =>
  rw [if_neg c1] at h
  have g1 : (t148 == 0) = false := beq_eq_false_iff_ne.2 c1; have g1' : (t148 != 0) = true := bne_iff_ne.2 c1
  clear c1
  obtain rfl := Option.some.inj h
  go_wp2_with fail
  go_ret
  exact ⟨by first | rfl | (simp [*]; done), HI.out.1⟩
 rw [if_pos c1] at h
 have g1 : (t148 == 0) = true := beq_iff_eq.2 c1; have g1' : (t148 != 0) = false := bne_eq_false_iff_eq.2 c1
 clear c1
 obtain ⟨t149, ht149, h⟩ := Option.bind_eq_some_iff.1 h; have H := Aside0.mk h; have Ht149 := Aside0.mk ht149; clear h ht149
 go_wp2_with fail
 refine (dot_Check.calls k _ _ l1_4 t149 _ (Kd.C_below HRl1_4.out.1 HI.out.1) HRl1_4.out.2 Ht149.out).mono ?_
 rintro e w1 ⟨rfl, hb⟩
 clear hk0; replace HI := Aside0.mk (HI.out.step (by first | exact hb | exact hb.below)); clear hb
 have hk0 := fun i => blk_cell HI.out.2 i
 have h := H.out; clear H
 by_cases c2 : t149 = 0
 case neg =>
  rw [if_neg c2] at h
  have g2 : (t149 == 0) = false := beq_eq_false_iff_ne.2 c2; have g2' : (t149 != 0) = true := bne_iff_ne.2 c2
  clear c2
  obtain rfl := Option.some.inj h
  go_wp2_with fail
  go_ret
  exact ⟨by first | rfl | (simp [*]; done), HI.out.1⟩
 rw [if_pos c2] at h
 have g2 : (t149 == 0) = true := beq_iff_eq.2 c2; have g2' : (t149 != 0) = false := bne_eq_false_iff_eq.2 c2
 clear c2
 obtain ⟨t150, ht150, h⟩ := Option.bind_eq_some_iff.1 h; have H := Aside0.mk h; have Ht150 := Aside0.mk ht150; clear h ht150
 go_wp2_with fail
 refine (dot_Le.calls _ _ l1_4 _ _ l1_3 t150 _ (Kd.C_below HRl1_4.out.1 HI.out.1) HRl1_4.out.2 (Kd.C_below HRl1_3.out.1 HI.out.1) HRl1_3.out.2 Ht150.out).mono ?_
 rintro e w1 ⟨rfl, hb⟩
 clear hk0; replace HI := Aside0.mk (HI.out.step (by first | exact hb | exact hb.below)); clear hb
 have hk0 := fun i => blk_cell HI.out.2 i
 have h := H.out; clear H
 obtain rfl := Option.some.inj h
 go_wp2_with fail
 go_ret
 exact ⟨by first | rfl | (simp [*]; done), HI.out.1⟩
end Go.Proofs.YtnbjflcfdncocaaGreat.M
namespace Go.Proofs.YtnbjflcfdncocaaGreat.M
open Go.RowKit Go.Proofs.YtnbjflcfdncocaaGreatW.PrintWords Go.Proofs.YtnbjflcfdncocaaGreatW.PrintLast Go.Proofs.YtnbjflcfdncocaaGreatW.PrintMore
def msg_ops.f (k : Nat) (n : Int) (f : List S56) : List Opr → Option Bool
  | [] => some false
  | x :: l => (op_Check.f k n f x.f0.f0 x.f0.f1 x.f1 x.f2.f0 x.f2.f1 x.f2.f2 x.f3 x.f4 x.f5 x.f6 x.f7 x.f8).bind fun e => if e = 0 then msg_ops.f k n f l else some true
def msg_right.f (k : Nat) (a0 : Int) (l1 : List S56) (a2_0 a2_1 a2_2 : Int) (l2_3 l2_4 : List Int) (l2_5 : List Opr) : Option Bool :=
  if a2_1 < 0 ∨ a2_1 ≥ a0 ∨ a2_2 < 0 ∨ a2_2 ≥ a0 ∨ a2_1 = a2_2 then some false
  else (msg_ops.f k a0 l1 l2_5).bind fun b => if b = true then some false
  else if a2_0 = 1 then some (decide (l2_5.length = 1) && decide (wrap64 ((l2_3.length : Int) + (l2_4.length : Int)) = 0))
  else if a2_0 = 2 then (if l2_5.length = 0 then msg_tells.f k a0 a2_0 a2_1 a2_2 l2_3 l2_4 l2_5 else some false)
  else if a2_0 = 3 then msg_tells.f k a0 a2_0 a2_1 a2_2 l2_3 l2_4 l2_5 else some false
set_option maxHeartbeats 1000000 in
set_option maxRecDepth 100000 in
theorem right_1 (k : Nat) (n : Int) (A1 : Option Addr) (c1 : Nat) (f : List S56) (bn bf : Nat) (x : Opr) (Y2 : Option Addr) (d2 : Nat) (Y10 : Option Addr) (d10 : Nat) (Y11 : Option Addr) (d11 : Nat) (e : Int) (W : World)
    (hbn : W.cell? ⟨bn, 0, none⟩ = some (.int .i64 n)) (hbf : W.cell? ⟨bf, 0, none⟩ = some (.slice A1 f.length c1)) (hr1 : Kd.C k56 W A1 f.length f) (hc1 : f.length ≤ c1)
    (h2 : Kd.C (Kd.int .i64) W Y2 x.f1.length x.f1) (l2 : x.f1.length ≤ d2) (h10 : Kd.C k92 W Y10 x.f7.length x.f7) (l10 : x.f7.length ≤ d10) (h11 : Kd.C k46 W Y11 x.f8.length x.f8) (l11 : x.f8.length ≤ d11)
    (h : op_Check.f k n f x.f0.f0 x.f0.f1 x.f1 x.f2.f0 x.f2.f1 x.f2.f2 x.f3 x.f4 x.f5 x.f6 x.f7 x.f8 = some e) :
    Calls Tryz.prog 79 #[.agg #[.int .i64 x.f0.f0, .int .i64 x.f0.f1, .slice Y2 x.f1.length d2, .int .i64 x.f2.f0, .int .i64 x.f2.f1, .int .i64 x.f2.f2, .int .i64 x.f3, .int .i64 x.f4, .string x.f5, .int .i64 x.f6, .slice Y10 x.f7.length d10, .slice Y11 x.f8.length d11], .pointer (some ⟨bn, 0, none⟩), .pointer (some ⟨bf, 0, none⟩)] W fun en w' => en = .returned (.bool (e != 0)) ∧ Below W.heap.size W w' := by
  have H1 := Aside0.mk hr1
  have HC1 := Aside0.mk hc1
  have H2 := Aside0.mk h2
  have H10 := Aside0.mk h10
  have H11 := Aside0.mk h11
  have L2 := Aside0.mk l2
  have L10 := Aside0.mk l10
  have L11 := Aside0.mk l11
  have H := Aside0.mk h
  have hn : bn < W.heap.size := World.block_lt_of_cell? W _ hbn
  have hf : bf < W.heap.size := World.block_lt_of_cell? W _ hbf
  clear hr1 hc1 h2 l2 h10 l10 h11 l11 h
  go_enter Tryz.func79, Tryz.ntmps79
  go_wp2_with fail
  have hal := below_alloc (Below.refl W.heap.size W) (.cells #[.int .i64 x.f0.f0, .int .i64 x.f0.f1, .slice Y2 x.f1.length d2, .int .i64 x.f2.f0, .int .i64 x.f2.f1, .int .i64 x.f2.f2, .int .i64 x.f3, .int .i64 x.f4, .string x.f5, .int .i64 x.f6, .slice Y10 x.f7.length d10, .slice Y11 x.f8.length d11] 52)
  refine (op_Check.calls k n A1 c1 f x.f0.f0 x.f0.f1 Y2 d2 x.f1 x.f2.f0 x.f2.f1 x.f2.f2 x.f3 x.f4 x.f5 x.f6 Y10 d10 x.f7 Y11 d11 x.f8 e _ (Kd.C_below H1.out hal) HC1.out (Kd.C_below H2.out hal) L2.out (Kd.C_below H10.out hal) L10.out (Kd.C_below H11.out hal) L11.out H.out).mono ?_
  rintro en w1 ⟨rfl, hb⟩
  have HB := Aside0.mk (below_step hal hb)
  clear hb hal hbn hbf
  go_wp2
  go_ret
  exact ⟨rfl, HB.out⟩
set_option maxHeartbeats 1000000 in
set_option maxRecDepth 100000 in
theorem right_index (k : Nat) (n : Int) (A1 : Option Addr) (c1 : Nat) (f : List S56) (bn bf : Nat) (A : Option Addr) (c : Nat) (l : List Opr) (r : Bool) (w : World)
    (hbn : w.cell? ⟨bn, 0, none⟩ = some (.int .i64 n)) (hbf : w.cell? ⟨bf, 0, none⟩ = some (.slice A1 f.length c1)) (hr1 : Kd.C k56 w A1 f.length f) (hc1 : f.length ≤ c1)
    (hl : Kd.C k52 w A l.length l) (h : msg_ops.f k n f l = some r) :
    Calls Tryz.prog 106 #[.slice A l.length c, .func (.func 79) #[] #[.pointer (some ⟨bn, 0, none⟩), .pointer (some ⟨bf, 0, none⟩)]] w fun e w' => (∃ i : Int, e = .returned (.int .i64 i) ∧ decide (0 ≤ i) = r) ∧ Below w.heap.size w w' := by
  have HN := Aside0.mk hbn
  have HF := Aside0.mk hbf
  have H1 := Aside0.mk hr1
  have HC1 := Aside0.mk hc1
  have HL := Aside0.mk hl
  have H := Aside0.mk h
  have HM := Aside0.mk (Kd.C_max hl)
  clear hbn hbf hr1 hc1 hl h
  go_enter Tryz.func106, Tryz.ntmps106
  go_wp2
  go_loopw [8] (fun v wr => ∃ i : Nat, i ≤ l.length ∧ v = .int .i64 i ∧ Aside0 (Below w.heap.size w wr) ∧ Aside0 (msg_ops.f k n f (l.drop i) = some r)) (fun v _ => l.length - (intOf v).toNat)
  case atStart => exact ⟨0, by omega, rfl, ⟨Below.refl _ _⟩, H⟩
  case round =>
    obtain ⟨i, hi, rfl, HB, HR⟩ := hrel
    by_cases hlt : i < l.length
    · obtain ⟨ad, Y2, d2, Y10, d10, Y11, d11, e, hd0, hd1, hd2, hd3, hd4, hd5, hd6, hd7, hd8, hd9, hd10, hd11, hl2, hq2, hl10, hq10, hl11, hq11⟩ := at_T52 HL.out (i : Int) (by omega) (by omega)
      subst e
      replace hd0 := pw_cell_below HB.out hd0
      replace hd1 := pw_cell_below HB.out hd1
      replace hd2 := pw_cell_below HB.out hd2
      replace hd3 := pw_cell_below HB.out hd3
      replace hd4 := pw_cell_below HB.out hd4
      replace hd5 := pw_cell_below HB.out hd5
      replace hd6 := pw_cell_below HB.out hd6
      replace hd7 := pw_cell_below HB.out hd7
      replace hd8 := pw_cell_below HB.out hd8
      replace hd9 := pw_cell_below HB.out hd9
      replace hd10 := pw_cell_below HB.out hd10
      replace hd11 := pw_cell_below HB.out hd11
      have hrd : rd_T52 l (i : Int) = l.getD i z52 := by simp [rd_T52]
      rw [Int.toNat_natCast, hrd] at hd0 hd1 hd2 hd3 hd4 hd5 hd6 hd7 hd8 hd9 hd10 hd11
      rw [hrd] at hl2 hq2 hl10 hq10 hl11 hq11
      clear hrd
      have hdrop : l.drop i = l.getD i z52 :: l.drop (i + 1) := by
        rw [List.drop_eq_getElem_cons hlt, List.getD_eq_getElem?_getD, List.getElem?_eq_getElem hlt]; rfl
      have hR := HR.out
      rw [hdrop] at hR
      obtain ⟨y, hy⟩ : ∃ y, y = l.getD i z52 := ⟨_, rfl⟩
      rw [← hy] at hd0 hd1 hd2 hd3 hd4 hd5 hd6 hd7 hd8 hd9 hd10 hd11 hl2 hq2 hl10 hq10 hl11 hq11 hR
      clear hy hdrop
      unfold msg_ops.f at hR
      obtain ⟨e, he, hR⟩ := Option.bind_eq_some_iff.1 hR
      have HE := Aside0.mk he
      have HR2 := Aside0.mk hR
      have Q2 := Aside0.mk hq2
      have Q10 := Aside0.mk hq10
      have Q11 := Aside0.mk hq11
      have L2 := Aside0.mk hl2
      have L10 := Aside0.mk hl10
      have L11 := Aside0.mk hl11
      clear hl2 hq2 hl10 hq10 hl11 hq11 he hR
      go_wp2_with fail
      clear hd0 hd1 hd2 hd3 hd4 hd5 hd6 hd7 hd8 hd9 hd10 hd11
      have hmx := HM.out
      refine (right_1 k n A1 c1 f bn bf y Y2 d2 Y10 d10 Y11 d11 e wr (pw_cell_below HB.out HN.out) (pw_cell_below HB.out HF.out) (Kd.C_below H1.out HB.out) HC1.out (Kd.C_below Q2.out HB.out) L2.out (Kd.C_below Q10.out HB.out) L10.out (Kd.C_below Q11.out HB.out) L11.out HE.out).mono ?_
      rintro en w2 ⟨rfl, hb⟩
      have HB2 := Aside0.mk (below_step HB.out hb)
      clear hb
      by_cases h0 : e = 0
      · have hr := HR2.out
        rw [if_pos h0] at hr
        have HR3 := Aside0.mk hr
        have g1 : (e != 0) = false := bne_eq_false_iff_eq.2 h0
        have hw : wrap64 ((i : Int) + 1) = ((i + 1 : Nat) : Int) := by rw [wrap_in _ (by omega) (by omega)]; omega
        clear hr h0
        go_wp2
        go_roundw
        case rel => exact ⟨i + 1, by omega, by first | (rw [hw]; done) | rw [hw] | go_num, HB2, HR3⟩
        case measure =>
          first | (rw [hw]; simp [intOf]; omega) | (simp [intOf]; omega)
      · have hr := HR2.out
        rw [if_neg h0] at hr
        obtain rfl := Option.some.inj hr
        have g1 : (e != 0) = true := bne_iff_ne.2 h0
        clear hr h0
        go_wp2
        go_ret
        exact ⟨⟨(i : Int), rfl, decide_eq_true (by omega)⟩, HB2.out⟩
    · obtain rfl : i = l.length := by omega
      have hR := HR.out
      rw [List.drop_length] at hR
      obtain rfl := Option.some.inj hR
      clear hR
      go_wp2
      go_ret
      exact ⟨⟨-1, rfl, rfl⟩, HB.out⟩
set_option maxHeartbeats 1000000 in
set_option maxRecDepth 100000 in
theorem right_contains (k : Nat) (n : Int) (A1 : Option Addr) (c1 : Nat) (f : List S56) (bn bf : Nat) (A : Option Addr) (c : Nat) (l : List Opr) (r : Bool) (w : World)
    (hbn : w.cell? ⟨bn, 0, none⟩ = some (.int .i64 n)) (hbf : w.cell? ⟨bf, 0, none⟩ = some (.slice A1 f.length c1)) (hr1 : Kd.C k56 w A1 f.length f) (hc1 : f.length ≤ c1)
    (hl : Kd.C k52 w A l.length l) (h : msg_ops.f k n f l = some r) :
    Calls Tryz.prog 78 #[.slice A l.length c, .func (.func 79) #[] #[.pointer (some ⟨bn, 0, none⟩), .pointer (some ⟨bf, 0, none⟩)]] w fun e w' => e = .returned (.bool r) ∧ Below w.heap.size w w' := by
  have HX := Aside0.mk (right_index k n A1 c1 f bn bf A c l r w hbn hbf hr1 hc1 hl h)
  clear hbn hbf hr1 hc1 hl h
  go_enter Tryz.func78, Tryz.ntmps78
  go_wp2_with fail
  refine HX.out.mono ?_
  rintro e w1 ⟨⟨i, rfl, hi⟩, hb⟩
  have HB := Aside0.mk hb
  clear hb
  go_wp2
  go_ret
  exact ⟨rfl, HB.out⟩
set_option maxHeartbeats 4000000 in
set_option maxRecDepth 100000 in
theorem msg_right.calls (k : Nat) (a0 : Int) (A1 : Option Addr) (c1 : Nat) (l1 : List (S56)) (a2_0 : Int) (a2_1 : Int) (a2_2 : Int) (A2_3 : Option Addr) (c2_3 : Nat) (l2_3 : List Int) (A2_4 : Option Addr) (c2_4 : Nat) (l2_4 : List Int) (A2_5 : Option Addr) (c2_5 : Nat) (l2_5 : List (S52)) (r : Bool) (w : World) (hr1 : Kd.C k56 w A1 l1.length l1) (hc1 : l1.length ≤ c1) (hr2_3 : Kd.C (Kd.int .i64) w A2_3 l2_3.length l2_3) (hc2_3 : l2_3.length ≤ c2_3) (hr2_4 : Kd.C (Kd.int .i64) w A2_4 l2_4.length l2_4) (hc2_4 : l2_4.length ≤ c2_4) (hr2_5 : Kd.C k52 w A2_5 l2_5.length l2_5) (hc2_5 : l2_5.length ≤ c2_5) (h : msg_right.f k a0 l1 a2_0 a2_1 a2_2 l2_3 l2_4 l2_5 = some r) :
    Calls Tryz.prog 40 #[.int .i64 a0, .slice A1 l1.length c1, .agg #[.int .i64 a2_0, .int .i64 a2_1, .int .i64 a2_2, .slice A2_3 l2_3.length c2_3, .slice A2_4 l2_4.length c2_4, .slice A2_5 l2_5.length c2_5]] w fun e w' => e = .returned (.bool r) ∧ Below w.heap.size w w' := by
  have HC1 := Aside0.mk hc1
  clear hc1
  have HC3 := Aside0.mk hc2_3
  have HC4 := Aside0.mk hc2_4
  have HC5 := Aside0.mk hc2_5
  have H := Aside0.mk h
  have HX := Aside0.mk (And.intro (Kd.C_max hr2_3) (Kd.C_max hr2_4))
  have HM5 := Aside0.mk (Kd.C_max hr2_5)
  obtain ⟨W, hW⟩ : ∃ W, W = ((w.alloc (.cells #[.int .i64 a0] 3)).alloc (.cells #[.slice A1 l1.length c1] 22)).alloc (.cells #[.int .i64 a2_0, .int .i64 a2_1, .int .i64 a2_2, .slice A2_3 l2_3.length c2_3, .slice A2_4 l2_4.length c2_4, .slice A2_5 l2_5.length c2_5] 26) := ⟨_, rfl⟩
  have HB := Aside0.mk (show Below w.heap.size w W from by rw [hW]; exact below_alloc (below_alloc (below_alloc (Below.refl _ w) _) _) _)
  have R1 := Aside0.mk (Kd.C_below hr1 HB.out)
  have R3 := Aside0.mk (Kd.C_below hr2_3 HB.out)
  have R4 := Aside0.mk (Kd.C_below hr2_4 HB.out)
  have R5 := Aside0.mk (Kd.C_below hr2_5 HB.out)
  have D0 := Aside0.mk (show W.heap[w.heap.size]? = some (.cells #[.int .i64 a0] 3 (0, 0)) from by rw [hW]; exact blk_alloc (blk_alloc (heap_alloc_new w _) _) _)
  have D1 := Aside0.mk (show W.heap[w.heap.size + 1]? = some (.cells #[.slice A1 l1.length c1] 22 (0, 0)) from by rw [hW]; exact blk_alloc (heap_alloc2_new w (.cells #[.int .i64 a0] 3) (.cells #[.slice A1 l1.length c1] 22)) _)
  have D2 := Aside0.mk (show W.heap[w.heap.size + 1 + 1]? = some (.cells #[.int .i64 a2_0, .int .i64 a2_1, .int .i64 a2_2, .slice A2_3 l2_3.length c2_3, .slice A2_4 l2_4.length c2_4, .slice A2_5 l2_5.length c2_5] 26 (0, 0)) from by rw [hW]; have h := heap_alloc_new ((w.alloc (.cells #[.int .i64 a0] 3)).alloc (.cells #[.slice A1 l1.length c1] 22)) (.cells #[.int .i64 a2_0, .int .i64 a2_1, .int .i64 a2_2, .slice A2_3 l2_3.length c2_3, .slice A2_4 l2_4.length c2_4, .slice A2_5 l2_5.length c2_5] 26); rw [show ((w.alloc (.cells #[.int .i64 a0] 3)).alloc (.cells #[.slice A1 l1.length c1] 22)).heap.size = w.heap.size + 1 + 1 from by rw [World.size_alloc, World.size_alloc]] at h; exact h)
  clear hr1 hr2_3 hr2_4 hr2_5 hc2_3 hc2_4 hc2_5 h
  have hf : (a2_1 < 0 ∨ a2_1 ≥ a0 ∨ a2_2 < 0 ∨ a2_2 ≥ a0 ∨ a2_1 = a2_2) → r = false := fun hc => by
    have h := H.out
    unfold msg_right.f at h
    rw [if_pos hc] at h
    exact (Option.some.inj h).symm
  by_cases c0 : a2_1 < 0
  · obtain rfl := hf (by omega)
    have g0 : decide (a2_1 < 0) = true := decide_eq_true c0
    clear c0 hf
    go_enter Tryz.func40, Tryz.ntmps40
    go_wp2_with fail
    go_ret
    rw [← hW]
    exact ⟨rfl, HB.out⟩
  have g0 : decide (a2_1 < 0) = false := decide_eq_false c0
  by_cases c1 : a0 ≤ a2_1
  · obtain rfl := hf (by omega)
    have g1 : decide (a0 ≤ a2_1) = true := decide_eq_true c1
    clear c1 hf
    go_enter Tryz.func40, Tryz.ntmps40
    go_wp2_with fail
    go_ret
    rw [← hW]
    exact ⟨rfl, HB.out⟩
  have g1 : decide (a0 ≤ a2_1) = false := decide_eq_false c1
  by_cases c2 : a2_2 < 0
  · obtain rfl := hf (by omega)
    have g2 : decide (a2_2 < 0) = true := decide_eq_true c2
    clear c2 hf
    go_enter Tryz.func40, Tryz.ntmps40
    go_wp2_with fail
    go_ret
    rw [← hW]
    exact ⟨rfl, HB.out⟩
  have g2 : decide (a2_2 < 0) = false := decide_eq_false c2
  by_cases c3 : a0 ≤ a2_2
  · obtain rfl := hf (by omega)
    have g3 : decide (a0 ≤ a2_2) = true := decide_eq_true c3
    clear c3 hf
    go_enter Tryz.func40, Tryz.ntmps40
    go_wp2_with fail
    go_ret
    rw [← hW]
    exact ⟨rfl, HB.out⟩
  have g3 : decide (a0 ≤ a2_2) = false := decide_eq_false c3
  by_cases c4 : a2_1 = a2_2
  · obtain rfl := hf (by omega)
    have g4 : (a2_1 == a2_2) = true := beq_iff_eq.2 c4
    clear c4 hf
    go_enter Tryz.func40, Tryz.ntmps40
    go_wp2_with fail
    go_ret
    rw [← hW]
    exact ⟨rfl, HB.out⟩
  have g4 : (a2_1 == a2_2) = false := beq_eq_false_iff_ne.2 c4
  have h := H.out
  unfold msg_right.f at h
  rw [if_neg (by omega)] at h
  obtain ⟨b, ho, h⟩ := Option.bind_eq_some_iff.1 h
  have HO := Aside0.mk ho
  have H' := Aside0.mk h
  clear h ho hf c0 c1 c2 c3 c4
  go_enter Tryz.func40, Tryz.ntmps40
  go_wp2_with fail
  rw [← hW]
  clear hW
  have hcn : W.cell? ⟨w.heap.size, 0, none⟩ = some (.int .i64 a0) := (blk_cell D0.out 0).trans rfl
  have hcf : W.cell? ⟨w.heap.size + 1, 0, none⟩ = some (.slice A1 l1.length c1) := (blk_cell D1.out 0).trans rfl
  refine (right_contains k a0 A1 c1 l1 w.heap.size (w.heap.size + 1) A2_5 c2_5 l2_5 b W hcn hcf R1.out HC1.out R5.out HO.out).mono ?_
  rintro e w1 ⟨rfl, hb⟩
  have HB1 := Aside0.mk (below_step HB.out hb)
  have K0 := Aside0.mk (blk_below D0.out hb)
  have K2 := Aside0.mk (blk_below D2.out hb)
  have S3 := Aside0.mk (Kd.C_below R3.out hb)
  have S4 := Aside0.mk (Kd.C_below R4.out hb)
  have S5 := Aside0.mk (Kd.C_below R5.out hb)
  clear hb hcn hcf
  have hk0 := fun i => blk_cell K0.out i
  have hk2 := fun i => blk_cell K2.out i
  cases b with
  | true =>
    obtain rfl := Option.some.inj H'.out
    go_wp2_with fail
    go_ret
    exact ⟨rfl, HB1.out⟩
  | false =>
    have h' := H'.out
    rw [if_neg (show ¬ (false = true) by decide)] at h'
    by_cases k1 : a2_0 = 1
    · have n1 : (a2_0 == 1) = true := beq_iff_eq.2 k1
      rw [if_pos k1] at h'
      obtain rfl := Option.some.inj h'
      have K1 := Aside0.mk k1
      clear k1 h'
      by_cases o1 : l2_5.length = 1
      · have p1 : ((l2_5.length : Int) == 1) = true := beq_iff_eq.2 (by omega)
        have hw : IntKind.i64.wrap ((l2_3.length : Int) + (l2_4.length : Int)) = wrap64 ((l2_3.length : Int) + (l2_4.length : Int)) := i64_w _
        have hd : decide (l2_5.length = 1) = true := decide_eq_true o1
        clear o1
        by_cases o2 : wrap64 ((l2_3.length : Int) + (l2_4.length : Int)) = 0
        · have p2 : (wrap64 ((l2_3.length : Int) + (l2_4.length : Int)) == 0) = true := beq_iff_eq.2 o2
          have hd2 : decide (wrap64 ((l2_3.length : Int) + (l2_4.length : Int)) = 0) = true := decide_eq_true o2
          clear o2
          go_wp2_with fail
          go_ret
          exact ⟨by rw [hd, hd2]; rfl, HB1.out⟩
        · have p2 : (wrap64 ((l2_3.length : Int) + (l2_4.length : Int)) == 0) = false := beq_eq_false_iff_ne.2 o2
          have hd2 : decide (wrap64 ((l2_3.length : Int) + (l2_4.length : Int)) = 0) = false := decide_eq_false o2
          clear o2
          go_wp2_with fail
          go_ret
          exact ⟨by rw [hd, hd2]; rfl, HB1.out⟩
      · have p1 : ((l2_5.length : Int) == 1) = false := beq_eq_false_iff_ne.2 (by omega)
        have hd : decide (l2_5.length = 1) = false := decide_eq_false o1
        clear o1
        go_wp2_with fail
        go_ret
        exact ⟨by rw [hd]; rfl, HB1.out⟩
    have n1 : (a2_0 == 1) = false := beq_eq_false_iff_ne.2 k1
    rw [if_neg k1] at h'
    by_cases k2 : a2_0 = 2
    · have n2 : (a2_0 == 2) = true := beq_iff_eq.2 k2
      rw [if_pos k2] at h'
      have K2' := Aside0.mk k2
      clear k2 k1
      by_cases o1 : l2_5.length = 0
      · have p1 : ((l2_5.length : Int) == 0) = true := beq_iff_eq.2 (by omega)
        rw [if_pos o1] at h'
        have H'' := Aside0.mk h'
        clear o1 h'
        go_wp2_with fail
        refine (msg_tells.calls k a0 a2_0 a2_1 a2_2 A2_3 c2_3 l2_3 A2_4 c2_4 l2_4 A2_5 c2_5 l2_5 r w1 S3.out HC3.out S4.out HC4.out S5.out HC5.out H''.out).mono ?_
        rintro e w2 ⟨rfl, hb⟩
        have HB2 := Aside0.mk (below_step HB1.out hb)
        clear hb hk0 hk2
        go_wp2
        go_ret
        exact ⟨rfl, HB2.out⟩
      · have p1 : ((l2_5.length : Int) == 0) = false := beq_eq_false_iff_ne.2 (by omega)
        rw [if_neg o1] at h'
        obtain rfl := Option.some.inj h'
        clear o1 h'
        go_wp2_with fail
        go_ret
        exact ⟨rfl, HB1.out⟩
    have n2 : (a2_0 == 2) = false := beq_eq_false_iff_ne.2 k2
    rw [if_neg k2] at h'
    by_cases k3 : a2_0 = 3
    · have n3 : (a2_0 == 3) = true := beq_iff_eq.2 k3
      rw [if_pos k3] at h'
      have K3' := Aside0.mk k3
      have H'' := Aside0.mk h'
      clear k3 k2 k1 h'
      go_wp2_with fail
      refine (msg_tells.calls k a0 a2_0 a2_1 a2_2 A2_3 c2_3 l2_3 A2_4 c2_4 l2_4 A2_5 c2_5 l2_5 r w1 S3.out HC3.out S4.out HC4.out S5.out HC5.out H''.out).mono ?_
      rintro e w2 ⟨rfl, hb⟩
      have HB2 := Aside0.mk (below_step HB1.out hb)
      clear hb hk0 hk2
      go_wp2
      go_ret
      exact ⟨rfl, HB2.out⟩
    · have n3 : (a2_0 == 3) = false := beq_eq_false_iff_ne.2 k3
      rw [if_neg k3] at h'
      obtain rfl := Option.some.inj h'
      clear k3 k2 k1 h'
      go_wp2_with fail
      go_ret
      exact ⟨rfl, HB1.out⟩
end Go.Proofs.YtnbjflcfdncocaaGreat.M
namespace Go.Proofs.YtnbjflcfdncocaaGreat.M
open Go.RowKit Go.Proofs.YtnbjflcfdncocaaGreatW.PrintWords Go.Proofs.YtnbjflcfdncocaaGreatW.PrintLast Go.Proofs.YtnbjflcfdncocaaGreatW.PrintMore
attribute [local go_sem] max2_int min2_int max_two min_two max_three min_three max_four min_four
set_option linter.unusedVariables false
set_option linter.unusedSimpArgs false
def msg_Check.f (k : Nat) (a0 : Int) (l1 : List (S56)) (a2_0 : Int) (a2_1 : Int) (a2_2 : Int) (l2_3 : List Int) (l2_4 : List Int) (l2_5 : List (S52)) : Option (Int) := (op_Forms.f k l1).bind fun t152 => (if t152 = 0 then (if a0 < 1 then (some 1) else (if a0 > 5 then (some 1) else ((msg_right.f k a0 l1 a2_0 a2_1 a2_2 l2_3 l2_4 l2_5).bind fun t153 => (if t153 = true then (some 0) else (some 1))))) else (some t152))
set_option maxHeartbeats 8000000 in
set_option maxRecDepth 100000 in
theorem msg_Check.calls (k : Nat) (a0 : Int) (A1 : Option Addr) (c1 : Nat) (l1 : List (S56)) (a2_0 : Int) (a2_1 : Int) (a2_2 : Int) (A2_3 : Option Addr) (c2_3 : Nat) (l2_3 : List Int) (A2_4 : Option Addr) (c2_4 : Nat) (l2_4 : List Int) (A2_5 : Option Addr) (c2_5 : Nat) (l2_5 : List (S52)) (r : Int) (w : World) (hr1 : Kd.C k56 w A1 l1.length l1) (hc1 : l1.length ≤ c1) (hr2_3 : Kd.C (Kd.int .i64) w A2_3 l2_3.length l2_3) (hc2_3 : l2_3.length ≤ c2_3) (hr2_4 : Kd.C (Kd.int .i64) w A2_4 l2_4.length l2_4) (hc2_4 : l2_4.length ≤ c2_4) (hr2_5 : Kd.C k52 w A2_5 l2_5.length l2_5) (hc2_5 : l2_5.length ≤ c2_5) (h : msg_Check.f k a0 l1 a2_0 a2_1 a2_2 l2_3 l2_4 l2_5 = some r) :
  Calls Tryz.prog 13 #[.int .i64 a0, .slice A1 l1.length c1, .agg #[.int .i64 a2_0, .int .i64 a2_1, .int .i64 a2_2, .slice A2_3 l2_3.length c2_3, .slice A2_4 l2_4.length c2_4, .slice A2_5 l2_5.length c2_5]] w fun e w' => e = .returned (.int .i64 r) ∧ Below w.heap.size w w' := by
 unfold msg_Check.f at h
 have HRl1 := Aside0.mk (And.intro hr1 hc1); clear hr1 hc1
 have HRl2_3 := Aside0.mk (And.intro hr2_3 hc2_3); clear hr2_3 hc2_3
 have HRl2_4 := Aside0.mk (And.intro hr2_4 hc2_4); clear hr2_4 hc2_4
 have HRl2_5 := Aside0.mk (And.intro hr2_5 hc2_5); clear hr2_5 hc2_5
 obtain ⟨t152, ht152, h⟩ := Option.bind_eq_some_iff.1 h; have H := Aside0.mk h; have Ht152 := Aside0.mk ht152; clear h ht152
 go_enter Tryz.func13, Tryz.ntmps13
 go_wp2_with fail
 obtain ⟨W, hW, HI⟩ := One.start w (.cells #[.int .i64 a2_0, .int .i64 a2_1, .int .i64 a2_2, .slice A2_3 l2_3.length c2_3, .slice A2_4 l2_4.length c2_4, .slice A2_5 l2_5.length c2_5] 26)
 rw [← hW]; clear hW
 have hk0 := fun i => blk_cell HI.out.2 i
 refine (op_Forms.calls k _ _ l1 t152 _ (Kd.C_below HRl1.out.1 HI.out.1) HRl1.out.2 Ht152.out).mono ?_
 rintro e w1 ⟨rfl, hb⟩
 clear hk0; replace HI := Aside0.mk (HI.out.step (by first | exact hb | exact hb.below)); clear hb
 have hk0 := fun i => blk_cell HI.out.2 i
 have h := H.out; clear H
 by_cases c0 : t152 = 0
 case neg =>
  rw [if_neg c0] at h
  have g0 : (t152 == 0) = false := beq_eq_false_iff_ne.2 c0; have g0' : (t152 != 0) = true := bne_iff_ne.2 c0
  clear c0
  obtain rfl := Option.some.inj h
  go_wp2_with fail
  go_ret
  exact ⟨by first | rfl | (simp [*]; done), HI.out.1⟩
 rw [if_pos c0] at h
 have g0 : (t152 == 0) = true := beq_iff_eq.2 c0; have g0' : (t152 != 0) = false := bne_eq_false_iff_eq.2 c0
 clear c0
 by_cases c1 : a0 < 1
 case neg =>
  rw [if_neg c1] at h
  have g1 : decide (a0 < 1) = false := decide_eq_false (by omega)
  clear c1
  by_cases c2 : a0 > 5
  case neg =>
   rw [if_neg c2] at h
   have g2 : decide (5 < a0) = false := decide_eq_false (by omega)
   clear c2
   obtain ⟨t153, ht153, h⟩ := Option.bind_eq_some_iff.1 h; have H := Aside0.mk h; have Ht153 := Aside0.mk ht153; clear h ht153
   go_wp2_with fail
   refine (msg_right.calls k a0 _ _ l1 a2_0 a2_1 a2_2 _ _ l2_3 _ _ l2_4 _ _ l2_5 t153 _ (Kd.C_below HRl1.out.1 HI.out.1) HRl1.out.2 (Kd.C_below HRl2_3.out.1 HI.out.1) HRl2_3.out.2 (Kd.C_below HRl2_4.out.1 HI.out.1) HRl2_4.out.2 (Kd.C_below HRl2_5.out.1 HI.out.1) HRl2_5.out.2 Ht153.out).mono ?_
   rintro e w1 ⟨rfl, hb⟩
   clear hk0; replace HI := Aside0.mk (HI.out.step (by first | exact hb | exact hb.below)); clear hb
   have hk0 := fun i => blk_cell HI.out.2 i
   have h := H.out; clear H
   cases t153 with
   | true =>
    rw [if_pos rfl] at h
    obtain rfl := Option.some.inj h
    go_wp2_with fail
    go_ret
    exact ⟨by first | rfl | (simp [*]; done), HI.out.1⟩
   | false =>
    rw [if_neg (by decide)] at h
    obtain rfl := Option.some.inj h
    go_wp2_with fail
    go_ret
    exact ⟨by first | rfl | (simp [*]; done), HI.out.1⟩
  rw [if_pos c2] at h
  have g2 : decide (5 < a0) = true := decide_eq_true (by omega)
  have q2 := eq_true c2
  clear c2
  obtain rfl := Option.some.inj h
  go_wp2_with fail
  go_ret
  exact ⟨by first | rfl | (simp [*]; done), HI.out.1⟩
 rw [if_pos c1] at h
 have g1 : decide (a0 < 1) = true := decide_eq_true (by omega)
 have q1 := eq_true c1
 clear c1
 obtain rfl := Option.some.inj h
 go_wp2_with fail
 go_ret
 exact ⟨by first | rfl | (simp [*]; done), HI.out.1⟩
def raddlelaw03_Long.l0 : Nat → List (S92) → Int → Option (Bool)
 | 0, _, _ => none
 | k + 1, x0, x3 => if x3 < (x0.length : Int) then (if 0 ≤ x3 then (if (((rd_T92 x0 x3).f2).size : Int) > 300 then (some true) else (raddlelaw03_Long.l0 k x0 (wrap64 (x3 + 1)))) else (none)) else (some false)
def raddlelaw03_Long.f (k : Nat) (l0 : List (S92)) : Option (Bool) := raddlelaw03_Long.l0 k l0 0
set_option maxHeartbeats 8000000 in
set_option maxRecDepth 100000 in
theorem raddlelaw03_Long.calls (k : Nat) (A0 : Option Addr) (c0 : Nat) (l0 : List (S92)) (r : Bool) (w : World) (hr0 : Kd.C k92 w A0 l0.length l0) (hc0 : l0.length ≤ c0) (h : raddlelaw03_Long.f k l0 = some r) :
  Calls Tryz.prog 95 #[.slice A0 l0.length c0] w fun e w' => e = .returned (.bool r) ∧ Drawn0 w w' := by
 have HR0 := Aside0.mk hr0
 have HC0 := Aside0.mk hc0
 clear hr0 hc0
 have H : (raddlelaw03_Long.l0 k l0 0) = some r := h
 clear h
 have H' := Aside0.mk H
 clear H
 go_enter Tryz.func95, Tryz.ntmps95
 go_wp2
 go_loopg [3] k (fun kq v3 w' => ∃ (x3_1 : Int), v3 = .int .i64 x3_1 ∧ Aside0 (raddlelaw03_Long.l0 kq l0 x3_1 = some r) ∧ Aside0 (kq ≤ k) ∧ Drawn0 w w')
 case atStart => exact ⟨(0), (by first | rfl | (simp; done) | (simp [*]; done)), H', ⟨Nat.le_refl _⟩, by repeat (first | exact Drawn0.refl _ | apply Drawn0.step)⟩
 case round =>
  clear H'
  obtain ⟨x3_1, rfl, HA, HK1, ⟨m1, rfl⟩⟩ := hrel
  cases gk with
  | zero => exact absurd HA.out (by simp [raddlelaw03_Long.l0])
  | succ k1 =>
   have H := HA.out
   clear HA
   simp only [raddlelaw03_Long.l0] at H
   by_cases c2 : x3_1 < (l0.length : Int)
   ·rw [if_pos c2] at H
    have c2b0 : decide (x3_1 < (l0.length : Int)) = true := decide_eq_true c2
    clear c2
    by_cases c3 : 0 ≤ x3_1
    ·rw [if_pos c3] at H
     have c3b0 : decide (0 ≤ x3_1) = true := decide_eq_true c3
     clear c3
     by_cases c4 : (((rd_T92 l0 x3_1).f2).size : Int) > 300
     ·rw [if_pos c4] at H
      have c4b0 : decide (300 < (((rd_T92 l0 x3_1).f2).size : Int)) = true := decide_eq_true c4
      have c4b1 : decide (300 < ((rd_T92 l0 x3_1).f2).size) = true := decide_eq_true (by omega)
      clear c4
      obtain rfl := Option.some.inj H
      have p443 : 0 ≤ (x3_1 : Int) := of_decide_eq_true (by first | (with_reducible assumption) | assumption)
      have q443 : x3_1 < (l0.length : Int) := of_decide_eq_true (by first | (with_reducible assumption) | assumption)
      obtain ⟨ad443, e443, hx443_0, hx443_1, hx443_2⟩ := at_T92 HR0.out x3_1 p443 q443
      cases e443
      replace p443 := eq_true p443
      replace q443 := eq_true q443
      go_wp2
      go_ret
      exact ⟨by first | rfl | (simp; done) | (simp [*]; done), by repeat (first | exact Drawn0.refl _ | apply Drawn0.step)⟩
     ·rw [if_neg c4] at H
      have c4b0 : decide (300 < (((rd_T92 l0 x3_1).f2).size : Int)) = false := decide_eq_false c4
      have c4b1 : decide (300 < ((rd_T92 l0 x3_1).f2).size) = false := decide_eq_false (by omega)
      clear c4
      have H' := Aside0.mk H
      clear H
      have p443 : 0 ≤ (x3_1 : Int) := of_decide_eq_true (by first | (with_reducible assumption) | assumption)
      have q443 : x3_1 < (l0.length : Int) := of_decide_eq_true (by first | (with_reducible assumption) | assumption)
      obtain ⟨ad443, e443, hx443_0, hx443_1, hx443_2⟩ := at_T92 HR0.out x3_1 p443 q443
      cases e443
      replace p443 := eq_true p443
      replace q443 := eq_true q443
      go_wp2
      go_roundg k1
      case measure => have := HK1.out; omega
      case rel => exact ⟨(wrap64 (x3_1 + 1)), (by first | rfl | (simp; done) | (simp [*]; done)), H', ⟨by have := HK1.out; omega⟩, by repeat (first | exact Drawn0.refl _ | apply Drawn0.step)⟩
    ·rw [if_neg c3] at H
     exact absurd H (by simp)
   ·rw [if_neg c2] at H
    have c2b0 : decide (x3_1 < (l0.length : Int)) = false := decide_eq_false c2
    clear c2
    obtain rfl := Option.some.inj H
    go_wp2
    go_ret
    exact ⟨by first | rfl | (simp; done) | (simp [*]; done), by repeat (first | exact Drawn0.refl _ | apply Drawn0.step)⟩
def raddlelaw04_Heavy.f (k : Nat) (l0 : List (S92)) : Option (Bool) := if (l0.length : Int) > 40 then (some true) else ((raddlelaw03_Long.f k l0).bind fun t444 => (some t444))
set_option maxHeartbeats 8000000 in
set_option maxRecDepth 100000 in
theorem raddlelaw04_Heavy.calls (k : Nat) (A0 : Option Addr) (c0 : Nat) (l0 : List (S92)) (r : Bool) (w : World) (hr0 : Kd.C k92 w A0 l0.length l0) (hc0 : l0.length ≤ c0) (h : raddlelaw04_Heavy.f k l0 = some r) :
  Calls Tryz.prog 51 #[.slice A0 l0.length c0] w fun e w' => e = .returned (.bool r) ∧ Drawn0 w w' := by
 have HR0 := Aside0.mk hr0
 have HC0 := Aside0.mk hc0
 clear hr0 hc0
 have H : (if (l0.length : Int) > 40 then (some true) else ((raddlelaw03_Long.f k l0).bind fun t444 => (some t444))) = some r := h
 clear h
 by_cases c2 : (l0.length : Int) > 40
 ·rw [if_pos c2] at H
  have c2b0 : decide (40 < (l0.length : Int)) = true := decide_eq_true c2
  have c2b1 : decide (40 < l0.length) = true := decide_eq_true (by omega)
  clear c2
  obtain rfl := Option.some.inj H
  go_enter Tryz.func51, Tryz.ntmps51
  go_wp2
  go_ret
  exact ⟨by first | rfl | (simp; done) | (simp [*]; done), by repeat (first | exact Drawn0.refl _ | apply Drawn0.step)⟩
 ·rw [if_neg c2] at H
  have c2b0 : decide (40 < (l0.length : Int)) = false := decide_eq_false c2
  have c2b1 : decide (40 < l0.length) = false := decide_eq_false (by omega)
  clear c2
  replace H := Option.bind_eq_some_iff.mp H
  obtain ⟨t444, A30, H⟩ := H
  try dsimp only at H
  have A3 := Aside0.mk A30
  clear A30
  obtain rfl := Option.some.inj H
  go_enter Tryz.func51, Tryz.ntmps51
  go_wp2_with (first | (go_at_call 95; (with_reducible refine (raddlelaw03_Long.calls k _ _ l0 t444 _ ?side1 ?side2 A3.out).mono ?_); (case side1 => repeat (first | exact HR0.out | (with_reducible refine Kd.C_alloc ?_ _) | (with_reducible refine Kd.C_drewN ?_ _) | (with_reducible refine Kd.C_drew ?_))); (case side2 => exact HC0.out); rintro e w' ⟨rfl, ⟨nd, rfl⟩⟩))
  go_ret
  exact ⟨by first | rfl | (simp; done) | (simp [*]; done), by repeat (first | exact Drawn0.refl _ | apply Drawn0.step)⟩
def raddlelaw07_Heavy.l0 : Nat → List (S52) → Int → Option (Bool)
 | 0, _, _ => none
 | k + 1, x0, x3 => if x3 < (x0.length : Int) then (if 0 ≤ x3 then (if (((rd_T52 x0 x3).f1).length : Int) > 30 then (some true) else (if (((rd_T52 x0 x3).f5).size : Int) > 100 then (some true) else ((raddlelaw04_Heavy.f k ((rd_T52 x0 x3).f7)).bind fun t448 => (if t448 = true then (some true) else (if (((rd_T52 x0 x3).f8).length : Int) > 100 then (some true) else (raddlelaw07_Heavy.l0 k x0 (wrap64 (x3 + 1)))))))) else (none)) else (some false)
def raddlelaw07_Heavy.f (k : Nat) (l0 : List (S52)) : Option (Bool) := if (l0.length : Int) > 300 then (some true) else (raddlelaw07_Heavy.l0 k l0 0)
set_option maxHeartbeats 8000000 in
set_option maxRecDepth 100000 in
theorem raddlelaw07_Heavy.calls (k : Nat) (A0 : Option Addr) (c0 : Nat) (l0 : List (S52)) (r : Bool) (w : World) (hr0 : Kd.C k52 w A0 l0.length l0) (hc0 : l0.length ≤ c0) (h : raddlelaw07_Heavy.f k l0 = some r) :
  Calls Tryz.prog 20 #[.slice A0 l0.length c0] w fun e w' => e = .returned (.bool r) ∧ Drawn0 w w' := by
 have HR0 := Aside0.mk hr0
 have HC0 := Aside0.mk hc0
 clear hr0 hc0
 have H : (if (l0.length : Int) > 300 then (some true) else (raddlelaw07_Heavy.l0 k l0 0)) = some r := h
 clear h
 by_cases c2 : (l0.length : Int) > 300
 ·rw [if_pos c2] at H
  have c2b0 : decide (300 < (l0.length : Int)) = true := decide_eq_true c2
  have c2b1 : decide (300 < l0.length) = true := decide_eq_true (by omega)
  clear c2
  obtain rfl := Option.some.inj H
  go_enter Tryz.func20, Tryz.ntmps20
  go_wp2
  go_ret
  exact ⟨by first | rfl | (simp; done) | (simp [*]; done), by repeat (first | exact Drawn0.refl _ | apply Drawn0.step)⟩
 ·rw [if_neg c2] at H
  have c2b0 : decide (300 < (l0.length : Int)) = false := decide_eq_false c2
  have c2b1 : decide (300 < l0.length) = false := decide_eq_false (by omega)
  clear c2
  have H' := Aside0.mk H
  clear H
  go_enter Tryz.func20, Tryz.ntmps20
  go_wp2
  go_loopg [3] k (fun kq v3 w' => ∃ (x3_1 : Int), v3 = .int .i64 x3_1 ∧ Aside0 (raddlelaw07_Heavy.l0 kq l0 x3_1 = some r) ∧ Aside0 (kq ≤ k) ∧ Drawn0 w w')
  case atStart => exact ⟨(0), (by first | rfl | (simp; done) | (simp [*]; done)), H', ⟨Nat.le_refl _⟩, by repeat (first | exact Drawn0.refl _ | apply Drawn0.step)⟩
  case round =>
   clear H'
   try clear c2
   try clear c2b0
   try clear c2b1
   try clear p2
   obtain ⟨x3_1, rfl, HA, HK1, ⟨m1, rfl⟩⟩ := hrel
   cases gk with
   | zero => exact absurd HA.out (by simp [raddlelaw07_Heavy.l0])
   | succ k1 =>
    have H := HA.out
    clear HA
    simp only [raddlelaw07_Heavy.l0] at H
    by_cases c3 : x3_1 < (l0.length : Int)
    ·rw [if_pos c3] at H
     have c3b0 : decide (x3_1 < (l0.length : Int)) = true := decide_eq_true c3
     clear c3
     by_cases c4 : 0 ≤ x3_1
     ·rw [if_pos c4] at H
      have c4b0 : decide (0 ≤ x3_1) = true := decide_eq_true c4
      clear c4
      by_cases c5 : (((rd_T52 l0 x3_1).f1).length : Int) > 30
      ·rw [if_pos c5] at H
       have c5b0 : decide (30 < (((rd_T52 l0 x3_1).f1).length : Int)) = true := decide_eq_true c5
       have c5b1 : decide (30 < ((rd_T52 l0 x3_1).f1).length) = true := decide_eq_true (by omega)
       clear c5
       obtain rfl := Option.some.inj H
       have p445 : 0 ≤ (x3_1 : Int) := of_decide_eq_true (by first | (with_reducible assumption) | assumption)
       have q445 : x3_1 < (l0.length : Int) := of_decide_eq_true (by first | (with_reducible assumption) | assumption)
       obtain ⟨ad445, A445_2, c445_2, A445_10, c445_10, A445_11, c445_11, e445, hx445_0, hx445_1, hx445_2, hx445_3, hx445_4, hx445_5, hx445_6, hx445_7, hx445_8, hx445_9, hx445_10, hx445_11, hl445_2, hi445_2, hl445_10, hi445_10, hl445_11, hi445_11⟩ := at_T52 HR0.out x3_1 p445 q445
       cases e445
       have HR445_2 := Aside0.mk hi445_2
       have HC445_2 := Aside0.mk hl445_2
       clear hi445_2 hl445_2
       have HR445_10 := Aside0.mk hi445_10
       have HC445_10 := Aside0.mk hl445_10
       clear hi445_10 hl445_10
       have HR445_11 := Aside0.mk hi445_11
       have HC445_11 := Aside0.mk hl445_11
       clear hi445_11 hl445_11
       replace p445 := eq_true p445
       replace q445 := eq_true q445
       go_wp2
       go_ret
       exact ⟨by first | rfl | (simp; done) | (simp [*]; done), by repeat (first | exact Drawn0.refl _ | apply Drawn0.step)⟩
      ·rw [if_neg c5] at H
       have c5b0 : decide (30 < (((rd_T52 l0 x3_1).f1).length : Int)) = false := decide_eq_false c5
       have c5b1 : decide (30 < ((rd_T52 l0 x3_1).f1).length) = false := decide_eq_false (by omega)
       clear c5
       by_cases c6 : (((rd_T52 l0 x3_1).f5).size : Int) > 100
       ·rw [if_pos c6] at H
        have c6b0 : decide (100 < (((rd_T52 l0 x3_1).f5).size : Int)) = true := decide_eq_true c6
        have c6b1 : decide (100 < ((rd_T52 l0 x3_1).f5).size) = true := decide_eq_true (by omega)
        clear c6
        obtain rfl := Option.some.inj H
        have p445 : 0 ≤ (x3_1 : Int) := of_decide_eq_true (by first | (with_reducible assumption) | assumption)
        have q445 : x3_1 < (l0.length : Int) := of_decide_eq_true (by first | (with_reducible assumption) | assumption)
        obtain ⟨ad445, A445_2, c445_2, A445_10, c445_10, A445_11, c445_11, e445, hx445_0, hx445_1, hx445_2, hx445_3, hx445_4, hx445_5, hx445_6, hx445_7, hx445_8, hx445_9, hx445_10, hx445_11, hl445_2, hi445_2, hl445_10, hi445_10, hl445_11, hi445_11⟩ := at_T52 HR0.out x3_1 p445 q445
        cases e445
        have HR445_2 := Aside0.mk hi445_2
        have HC445_2 := Aside0.mk hl445_2
        clear hi445_2 hl445_2
        have HR445_10 := Aside0.mk hi445_10
        have HC445_10 := Aside0.mk hl445_10
        clear hi445_10 hl445_10
        have HR445_11 := Aside0.mk hi445_11
        have HC445_11 := Aside0.mk hl445_11
        clear hi445_11 hl445_11
        replace p445 := eq_true p445
        replace q445 := eq_true q445
        have p446 : 0 ≤ (x3_1 : Int) := of_decide_eq_true (by first | (with_reducible assumption) | assumption)
        have q446 : x3_1 < (l0.length : Int) := of_decide_eq_true (by first | (with_reducible assumption) | assumption)
        obtain ⟨ad446, A446_2, c446_2, A446_10, c446_10, A446_11, c446_11, e446, hx446_0, hx446_1, hx446_2, hx446_3, hx446_4, hx446_5, hx446_6, hx446_7, hx446_8, hx446_9, hx446_10, hx446_11, hl446_2, hi446_2, hl446_10, hi446_10, hl446_11, hi446_11⟩ := at_T52 HR0.out x3_1 p446 q446
        obtain rfl : ad445 = ad446 := (by injection e446)
        have HR446_2 := Aside0.mk hi446_2
        have HC446_2 := Aside0.mk hl446_2
        clear hi446_2 hl446_2
        have HR446_10 := Aside0.mk hi446_10
        have HC446_10 := Aside0.mk hl446_10
        clear hi446_10 hl446_10
        have HR446_11 := Aside0.mk hi446_11
        have HC446_11 := Aside0.mk hl446_11
        clear hi446_11 hl446_11
        replace p446 := eq_true p446
        replace q446 := eq_true q446
        have ea_ := Option.some.inj (hx445_2.symm.trans hx446_2)
        injection ea_ with ea_ en_ ec_
        subst ea_
        subst ec_
        clear en_
        have ea_ := Option.some.inj (hx445_10.symm.trans hx446_10)
        injection ea_ with ea_ en_ ec_
        subst ea_
        subst ec_
        clear en_
        have ea_ := Option.some.inj (hx445_11.symm.trans hx446_11)
        injection ea_ with ea_ en_ ec_
        subst ea_
        subst ec_
        clear en_
        go_wp2
        go_ret
        exact ⟨by first | rfl | (simp; done) | (simp [*]; done), by repeat (first | exact Drawn0.refl _ | apply Drawn0.step)⟩
       ·rw [if_neg c6] at H
        have c6b0 : decide (100 < (((rd_T52 l0 x3_1).f5).size : Int)) = false := decide_eq_false c6
        have c6b1 : decide (100 < ((rd_T52 l0 x3_1).f5).size) = false := decide_eq_false (by omega)
        clear c6
        replace H := Option.bind_eq_some_iff.mp H
        obtain ⟨t448, A70, H⟩ := H
        try dsimp only at H
        have A7 := Aside0.mk A70
        clear A70
        by_cases c8 : t448 = true
        ·subst c8
         rw [if_pos rfl] at H
         obtain rfl := Option.some.inj H
         have p445 : 0 ≤ (x3_1 : Int) := of_decide_eq_true (by first | (with_reducible assumption) | assumption)
         have q445 : x3_1 < (l0.length : Int) := of_decide_eq_true (by first | (with_reducible assumption) | assumption)
         obtain ⟨ad445, A445_2, c445_2, A445_10, c445_10, A445_11, c445_11, e445, hx445_0, hx445_1, hx445_2, hx445_3, hx445_4, hx445_5, hx445_6, hx445_7, hx445_8, hx445_9, hx445_10, hx445_11, hl445_2, hi445_2, hl445_10, hi445_10, hl445_11, hi445_11⟩ := at_T52 HR0.out x3_1 p445 q445
         cases e445
         have HR445_2 := Aside0.mk hi445_2
         have HC445_2 := Aside0.mk hl445_2
         clear hi445_2 hl445_2
         have HR445_10 := Aside0.mk hi445_10
         have HC445_10 := Aside0.mk hl445_10
         clear hi445_10 hl445_10
         have HR445_11 := Aside0.mk hi445_11
         have HC445_11 := Aside0.mk hl445_11
         clear hi445_11 hl445_11
         replace p445 := eq_true p445
         replace q445 := eq_true q445
         have p446 : 0 ≤ (x3_1 : Int) := of_decide_eq_true (by first | (with_reducible assumption) | assumption)
         have q446 : x3_1 < (l0.length : Int) := of_decide_eq_true (by first | (with_reducible assumption) | assumption)
         obtain ⟨ad446, A446_2, c446_2, A446_10, c446_10, A446_11, c446_11, e446, hx446_0, hx446_1, hx446_2, hx446_3, hx446_4, hx446_5, hx446_6, hx446_7, hx446_8, hx446_9, hx446_10, hx446_11, hl446_2, hi446_2, hl446_10, hi446_10, hl446_11, hi446_11⟩ := at_T52 HR0.out x3_1 p446 q446
         obtain rfl : ad445 = ad446 := (by injection e446)
         have HR446_2 := Aside0.mk hi446_2
         have HC446_2 := Aside0.mk hl446_2
         clear hi446_2 hl446_2
         have HR446_10 := Aside0.mk hi446_10
         have HC446_10 := Aside0.mk hl446_10
         clear hi446_10 hl446_10
         have HR446_11 := Aside0.mk hi446_11
         have HC446_11 := Aside0.mk hl446_11
         clear hi446_11 hl446_11
         replace p446 := eq_true p446
         replace q446 := eq_true q446
         have ea_ := Option.some.inj (hx445_2.symm.trans hx446_2)
         injection ea_ with ea_ en_ ec_
         subst ea_
         subst ec_
         clear en_
         have ea_ := Option.some.inj (hx445_10.symm.trans hx446_10)
         injection ea_ with ea_ en_ ec_
         subst ea_
         subst ec_
         clear en_
         have ea_ := Option.some.inj (hx445_11.symm.trans hx446_11)
         injection ea_ with ea_ en_ ec_
         subst ea_
         subst ec_
         clear en_
         have p447 : 0 ≤ (x3_1 : Int) := of_decide_eq_true (by first | (with_reducible assumption) | assumption)
         have q447 : x3_1 < (l0.length : Int) := of_decide_eq_true (by first | (with_reducible assumption) | assumption)
         obtain ⟨ad447, A447_2, c447_2, A447_10, c447_10, A447_11, c447_11, e447, hx447_0, hx447_1, hx447_2, hx447_3, hx447_4, hx447_5, hx447_6, hx447_7, hx447_8, hx447_9, hx447_10, hx447_11, hl447_2, hi447_2, hl447_10, hi447_10, hl447_11, hi447_11⟩ := at_T52 HR0.out x3_1 p447 q447
         obtain rfl : ad445 = ad447 := (by injection e447)
         have HR447_2 := Aside0.mk hi447_2
         have HC447_2 := Aside0.mk hl447_2
         clear hi447_2 hl447_2
         have HR447_10 := Aside0.mk hi447_10
         have HC447_10 := Aside0.mk hl447_10
         clear hi447_10 hl447_10
         have HR447_11 := Aside0.mk hi447_11
         have HC447_11 := Aside0.mk hl447_11
         clear hi447_11 hl447_11
         replace p447 := eq_true p447
         replace q447 := eq_true q447
         have ea_ := Option.some.inj (hx445_2.symm.trans hx447_2)
         injection ea_ with ea_ en_ ec_
         subst ea_
         subst ec_
         clear en_
         have ea_ := Option.some.inj (hx445_10.symm.trans hx447_10)
         injection ea_ with ea_ en_ ec_
         subst ea_
         subst ec_
         clear en_
         have ea_ := Option.some.inj (hx445_11.symm.trans hx447_11)
         injection ea_ with ea_ en_ ec_
         subst ea_
         subst ec_
         clear en_
         go_wp2_with (first | (go_at_call 51; (with_reducible refine (raddlelaw04_Heavy.calls k1 _ _ ((rd_T52 l0 x3_1).f7) true _ ?side1 ?side2 A7.out).mono ?_); (case side1 => repeat (first | exact HR447_10.out | (with_reducible refine Kd.C_alloc ?_ _) | (with_reducible refine Kd.C_drewN ?_ _) | (with_reducible refine Kd.C_drew ?_))); (case side2 => exact HC447_10.out); rintro e w' ⟨rfl, ⟨nd, rfl⟩⟩))
         go_ret
         exact ⟨by first | rfl | (simp; done) | (simp [*]; done), by repeat (first | exact Drawn0.refl _ | apply Drawn0.step)⟩
        ·replace c8 := Bool.eq_false_iff.mpr c8
         subst c8
         rw [if_neg (show ¬ (false = true) by decide)] at H
         by_cases c9 : (((rd_T52 l0 x3_1).f8).length : Int) > 100
         ·rw [if_pos c9] at H
          have c9b0 : decide (100 < (((rd_T52 l0 x3_1).f8).length : Int)) = true := decide_eq_true c9
          have c9b1 : decide (100 < ((rd_T52 l0 x3_1).f8).length) = true := decide_eq_true (by omega)
          clear c9
          obtain rfl := Option.some.inj H
          have p445 : 0 ≤ (x3_1 : Int) := of_decide_eq_true (by first | (with_reducible assumption) | assumption)
          have q445 : x3_1 < (l0.length : Int) := of_decide_eq_true (by first | (with_reducible assumption) | assumption)
          obtain ⟨ad445, A445_2, c445_2, A445_10, c445_10, A445_11, c445_11, e445, hx445_0, hx445_1, hx445_2, hx445_3, hx445_4, hx445_5, hx445_6, hx445_7, hx445_8, hx445_9, hx445_10, hx445_11, hl445_2, hi445_2, hl445_10, hi445_10, hl445_11, hi445_11⟩ := at_T52 HR0.out x3_1 p445 q445
          cases e445
          have HR445_2 := Aside0.mk hi445_2
          have HC445_2 := Aside0.mk hl445_2
          clear hi445_2 hl445_2
          have HR445_10 := Aside0.mk hi445_10
          have HC445_10 := Aside0.mk hl445_10
          clear hi445_10 hl445_10
          have HR445_11 := Aside0.mk hi445_11
          have HC445_11 := Aside0.mk hl445_11
          clear hi445_11 hl445_11
          replace p445 := eq_true p445
          replace q445 := eq_true q445
          have p446 : 0 ≤ (x3_1 : Int) := of_decide_eq_true (by first | (with_reducible assumption) | assumption)
          have q446 : x3_1 < (l0.length : Int) := of_decide_eq_true (by first | (with_reducible assumption) | assumption)
          obtain ⟨ad446, A446_2, c446_2, A446_10, c446_10, A446_11, c446_11, e446, hx446_0, hx446_1, hx446_2, hx446_3, hx446_4, hx446_5, hx446_6, hx446_7, hx446_8, hx446_9, hx446_10, hx446_11, hl446_2, hi446_2, hl446_10, hi446_10, hl446_11, hi446_11⟩ := at_T52 HR0.out x3_1 p446 q446
          obtain rfl : ad445 = ad446 := (by injection e446)
          have HR446_2 := Aside0.mk hi446_2
          have HC446_2 := Aside0.mk hl446_2
          clear hi446_2 hl446_2
          have HR446_10 := Aside0.mk hi446_10
          have HC446_10 := Aside0.mk hl446_10
          clear hi446_10 hl446_10
          have HR446_11 := Aside0.mk hi446_11
          have HC446_11 := Aside0.mk hl446_11
          clear hi446_11 hl446_11
          replace p446 := eq_true p446
          replace q446 := eq_true q446
          have ea_ := Option.some.inj (hx445_2.symm.trans hx446_2)
          injection ea_ with ea_ en_ ec_
          subst ea_
          subst ec_
          clear en_
          have ea_ := Option.some.inj (hx445_10.symm.trans hx446_10)
          injection ea_ with ea_ en_ ec_
          subst ea_
          subst ec_
          clear en_
          have ea_ := Option.some.inj (hx445_11.symm.trans hx446_11)
          injection ea_ with ea_ en_ ec_
          subst ea_
          subst ec_
          clear en_
          have p447 : 0 ≤ (x3_1 : Int) := of_decide_eq_true (by first | (with_reducible assumption) | assumption)
          have q447 : x3_1 < (l0.length : Int) := of_decide_eq_true (by first | (with_reducible assumption) | assumption)
          obtain ⟨ad447, A447_2, c447_2, A447_10, c447_10, A447_11, c447_11, e447, hx447_0, hx447_1, hx447_2, hx447_3, hx447_4, hx447_5, hx447_6, hx447_7, hx447_8, hx447_9, hx447_10, hx447_11, hl447_2, hi447_2, hl447_10, hi447_10, hl447_11, hi447_11⟩ := at_T52 HR0.out x3_1 p447 q447
          obtain rfl : ad445 = ad447 := (by injection e447)
          have HR447_2 := Aside0.mk hi447_2
          have HC447_2 := Aside0.mk hl447_2
          clear hi447_2 hl447_2
          have HR447_10 := Aside0.mk hi447_10
          have HC447_10 := Aside0.mk hl447_10
          clear hi447_10 hl447_10
          have HR447_11 := Aside0.mk hi447_11
          have HC447_11 := Aside0.mk hl447_11
          clear hi447_11 hl447_11
          replace p447 := eq_true p447
          replace q447 := eq_true q447
          have ea_ := Option.some.inj (hx445_2.symm.trans hx447_2)
          injection ea_ with ea_ en_ ec_
          subst ea_
          subst ec_
          clear en_
          have ea_ := Option.some.inj (hx445_10.symm.trans hx447_10)
          injection ea_ with ea_ en_ ec_
          subst ea_
          subst ec_
          clear en_
          have ea_ := Option.some.inj (hx445_11.symm.trans hx447_11)
          injection ea_ with ea_ en_ ec_
          subst ea_
          subst ec_
          clear en_
          go_wp2_with (first | (go_at_call 51; (with_reducible refine (raddlelaw04_Heavy.calls k1 _ _ ((rd_T52 l0 x3_1).f7) false _ ?side1 ?side2 A7.out).mono ?_); (case side1 => repeat (first | exact HR447_10.out | (with_reducible refine Kd.C_alloc ?_ _) | (with_reducible refine Kd.C_drewN ?_ _) | (with_reducible refine Kd.C_drew ?_))); (case side2 => exact HC447_10.out); rintro e w' ⟨rfl, ⟨nd, rfl⟩⟩; have p449 : 0 ≤ (x3_1 : Int) := of_decide_eq_true (by first | (with_reducible assumption) | assumption); have q449 : x3_1 < (l0.length : Int) := of_decide_eq_true (by first | (with_reducible assumption) | assumption); obtain ⟨ad449, A449_2, c449_2, A449_10, c449_10, A449_11, c449_11, e449, hx449_0, hx449_1, hx449_2, hx449_3, hx449_4, hx449_5, hx449_6, hx449_7, hx449_8, hx449_9, hx449_10, hx449_11, hl449_2, hi449_2, hl449_10, hi449_10, hl449_11, hi449_11⟩ := at_T52 HR0.out x3_1 p449 q449; obtain rfl : ad445 = ad449 := (by injection e449); have HR449_2 := Aside0.mk hi449_2; have HC449_2 := Aside0.mk hl449_2; clear hi449_2 hl449_2; have HR449_10 := Aside0.mk hi449_10; have HC449_10 := Aside0.mk hl449_10; clear hi449_10 hl449_10; have HR449_11 := Aside0.mk hi449_11; have HC449_11 := Aside0.mk hl449_11; clear hi449_11 hl449_11; replace p449 := eq_true p449; replace q449 := eq_true q449; have ea_ := Option.some.inj (hx445_2.symm.trans hx449_2); injection ea_ with ea_ en_ ec_; subst ea_; subst ec_; clear en_; have ea_ := Option.some.inj (hx445_10.symm.trans hx449_10); injection ea_ with ea_ en_ ec_; subst ea_; subst ec_; clear en_; have ea_ := Option.some.inj (hx445_11.symm.trans hx449_11); injection ea_ with ea_ en_ ec_; subst ea_; subst ec_; clear en_))
          go_ret
          exact ⟨by first | rfl | (simp; done) | (simp [*]; done), by repeat (first | exact Drawn0.refl _ | apply Drawn0.step)⟩
         ·rw [if_neg c9] at H
          have c9b0 : decide (100 < (((rd_T52 l0 x3_1).f8).length : Int)) = false := decide_eq_false c9
          have c9b1 : decide (100 < ((rd_T52 l0 x3_1).f8).length) = false := decide_eq_false (by omega)
          clear c9
          have H' := Aside0.mk H
          clear H
          have p445 : 0 ≤ (x3_1 : Int) := of_decide_eq_true (by first | (with_reducible assumption) | assumption)
          have q445 : x3_1 < (l0.length : Int) := of_decide_eq_true (by first | (with_reducible assumption) | assumption)
          obtain ⟨ad445, A445_2, c445_2, A445_10, c445_10, A445_11, c445_11, e445, hx445_0, hx445_1, hx445_2, hx445_3, hx445_4, hx445_5, hx445_6, hx445_7, hx445_8, hx445_9, hx445_10, hx445_11, hl445_2, hi445_2, hl445_10, hi445_10, hl445_11, hi445_11⟩ := at_T52 HR0.out x3_1 p445 q445
          cases e445
          have HR445_2 := Aside0.mk hi445_2
          have HC445_2 := Aside0.mk hl445_2
          clear hi445_2 hl445_2
          have HR445_10 := Aside0.mk hi445_10
          have HC445_10 := Aside0.mk hl445_10
          clear hi445_10 hl445_10
          have HR445_11 := Aside0.mk hi445_11
          have HC445_11 := Aside0.mk hl445_11
          clear hi445_11 hl445_11
          replace p445 := eq_true p445
          replace q445 := eq_true q445
          have p446 : 0 ≤ (x3_1 : Int) := of_decide_eq_true (by first | (with_reducible assumption) | assumption)
          have q446 : x3_1 < (l0.length : Int) := of_decide_eq_true (by first | (with_reducible assumption) | assumption)
          obtain ⟨ad446, A446_2, c446_2, A446_10, c446_10, A446_11, c446_11, e446, hx446_0, hx446_1, hx446_2, hx446_3, hx446_4, hx446_5, hx446_6, hx446_7, hx446_8, hx446_9, hx446_10, hx446_11, hl446_2, hi446_2, hl446_10, hi446_10, hl446_11, hi446_11⟩ := at_T52 HR0.out x3_1 p446 q446
          obtain rfl : ad445 = ad446 := (by injection e446)
          have HR446_2 := Aside0.mk hi446_2
          have HC446_2 := Aside0.mk hl446_2
          clear hi446_2 hl446_2
          have HR446_10 := Aside0.mk hi446_10
          have HC446_10 := Aside0.mk hl446_10
          clear hi446_10 hl446_10
          have HR446_11 := Aside0.mk hi446_11
          have HC446_11 := Aside0.mk hl446_11
          clear hi446_11 hl446_11
          replace p446 := eq_true p446
          replace q446 := eq_true q446
          have ea_ := Option.some.inj (hx445_2.symm.trans hx446_2)
          injection ea_ with ea_ en_ ec_
          subst ea_
          subst ec_
          clear en_
          have ea_ := Option.some.inj (hx445_10.symm.trans hx446_10)
          injection ea_ with ea_ en_ ec_
          subst ea_
          subst ec_
          clear en_
          have ea_ := Option.some.inj (hx445_11.symm.trans hx446_11)
          injection ea_ with ea_ en_ ec_
          subst ea_
          subst ec_
          clear en_
          have p447 : 0 ≤ (x3_1 : Int) := of_decide_eq_true (by first | (with_reducible assumption) | assumption)
          have q447 : x3_1 < (l0.length : Int) := of_decide_eq_true (by first | (with_reducible assumption) | assumption)
          obtain ⟨ad447, A447_2, c447_2, A447_10, c447_10, A447_11, c447_11, e447, hx447_0, hx447_1, hx447_2, hx447_3, hx447_4, hx447_5, hx447_6, hx447_7, hx447_8, hx447_9, hx447_10, hx447_11, hl447_2, hi447_2, hl447_10, hi447_10, hl447_11, hi447_11⟩ := at_T52 HR0.out x3_1 p447 q447
          obtain rfl : ad445 = ad447 := (by injection e447)
          have HR447_2 := Aside0.mk hi447_2
          have HC447_2 := Aside0.mk hl447_2
          clear hi447_2 hl447_2
          have HR447_10 := Aside0.mk hi447_10
          have HC447_10 := Aside0.mk hl447_10
          clear hi447_10 hl447_10
          have HR447_11 := Aside0.mk hi447_11
          have HC447_11 := Aside0.mk hl447_11
          clear hi447_11 hl447_11
          replace p447 := eq_true p447
          replace q447 := eq_true q447
          have ea_ := Option.some.inj (hx445_2.symm.trans hx447_2)
          injection ea_ with ea_ en_ ec_
          subst ea_
          subst ec_
          clear en_
          have ea_ := Option.some.inj (hx445_10.symm.trans hx447_10)
          injection ea_ with ea_ en_ ec_
          subst ea_
          subst ec_
          clear en_
          have ea_ := Option.some.inj (hx445_11.symm.trans hx447_11)
          injection ea_ with ea_ en_ ec_
          subst ea_
          subst ec_
          clear en_
          go_wp2_with (first | (go_at_call 51; (with_reducible refine (raddlelaw04_Heavy.calls k1 _ _ ((rd_T52 l0 x3_1).f7) false _ ?side1 ?side2 A7.out).mono ?_); (case side1 => repeat (first | exact HR447_10.out | (with_reducible refine Kd.C_alloc ?_ _) | (with_reducible refine Kd.C_drewN ?_ _) | (with_reducible refine Kd.C_drew ?_))); (case side2 => exact HC447_10.out); rintro e w' ⟨rfl, ⟨nd, rfl⟩⟩; have p449 : 0 ≤ (x3_1 : Int) := of_decide_eq_true (by first | (with_reducible assumption) | assumption); have q449 : x3_1 < (l0.length : Int) := of_decide_eq_true (by first | (with_reducible assumption) | assumption); obtain ⟨ad449, A449_2, c449_2, A449_10, c449_10, A449_11, c449_11, e449, hx449_0, hx449_1, hx449_2, hx449_3, hx449_4, hx449_5, hx449_6, hx449_7, hx449_8, hx449_9, hx449_10, hx449_11, hl449_2, hi449_2, hl449_10, hi449_10, hl449_11, hi449_11⟩ := at_T52 HR0.out x3_1 p449 q449; obtain rfl : ad445 = ad449 := (by injection e449); have HR449_2 := Aside0.mk hi449_2; have HC449_2 := Aside0.mk hl449_2; clear hi449_2 hl449_2; have HR449_10 := Aside0.mk hi449_10; have HC449_10 := Aside0.mk hl449_10; clear hi449_10 hl449_10; have HR449_11 := Aside0.mk hi449_11; have HC449_11 := Aside0.mk hl449_11; clear hi449_11 hl449_11; replace p449 := eq_true p449; replace q449 := eq_true q449; have ea_ := Option.some.inj (hx445_2.symm.trans hx449_2); injection ea_ with ea_ en_ ec_; subst ea_; subst ec_; clear en_; have ea_ := Option.some.inj (hx445_10.symm.trans hx449_10); injection ea_ with ea_ en_ ec_; subst ea_; subst ec_; clear en_; have ea_ := Option.some.inj (hx445_11.symm.trans hx449_11); injection ea_ with ea_ en_ ec_; subst ea_; subst ec_; clear en_))
          go_roundg k1
          case measure => have := HK1.out; omega
          case rel => exact ⟨(wrap64 (x3_1 + 1)), (by first | rfl | (simp; done) | (simp [*]; done)), H', ⟨by have := HK1.out; omega⟩, by repeat (first | exact Drawn0.refl _ | apply Drawn0.step)⟩
     ·rw [if_neg c4] at H
      exact absurd H (by simp)
    ·rw [if_neg c3] at H
     have c3b0 : decide (x3_1 < (l0.length : Int)) = false := decide_eq_false c3
     clear c3
     obtain rfl := Option.some.inj H
     go_wp2
     go_ret
     exact ⟨by first | rfl | (simp; done) | (simp [*]; done), by repeat (first | exact Drawn0.refl _ | apply Drawn0.step)⟩
def raddlelaw08_Heavy.f (k : Nat) (a0_0 : Int) (a0_1 : Int) (a0_2 : Int) (l0_3 : List Int) (l0_4 : List Int) (l0_5 : List (S52)) : Option (Bool) := if (l0_3.length : Int) > 30 then (some true) else (if (l0_4.length : Int) > 30 then (some true) else ((raddlelaw07_Heavy.f k l0_5).bind fun t451 => (some t451)))
set_option maxHeartbeats 8000000 in
set_option maxRecDepth 100000 in
theorem raddlelaw08_Heavy.calls (k : Nat) (a0_0 : Int) (a0_1 : Int) (a0_2 : Int) (A0_3 : Option Addr) (c0_3 : Nat) (l0_3 : List Int) (A0_4 : Option Addr) (c0_4 : Nat) (l0_4 : List Int) (A0_5 : Option Addr) (c0_5 : Nat) (l0_5 : List (S52)) (r : Bool) (w : World) (hr0_3 : Kd.C (Kd.int .i64) w A0_3 l0_3.length l0_3) (hc0_3 : l0_3.length ≤ c0_3) (hr0_4 : Kd.C (Kd.int .i64) w A0_4 l0_4.length l0_4) (hc0_4 : l0_4.length ≤ c0_4) (hr0_5 : Kd.C k52 w A0_5 l0_5.length l0_5) (hc0_5 : l0_5.length ≤ c0_5) (h : raddlelaw08_Heavy.f k a0_0 a0_1 a0_2 l0_3 l0_4 l0_5 = some r) :
  Calls Tryz.prog 6 #[.agg #[.int .i64 a0_0, .int .i64 a0_1, .int .i64 a0_2, .slice A0_3 l0_3.length c0_3, .slice A0_4 l0_4.length c0_4, .slice A0_5 l0_5.length c0_5]] w fun e w' => e = .returned (.bool r) ∧ Below w.heap.size w w' := by
 unfold raddlelaw08_Heavy.f at h
 have HRl0_3 := Aside0.mk (And.intro hr0_3 hc0_3); clear hr0_3 hc0_3
 have HRl0_4 := Aside0.mk (And.intro hr0_4 hc0_4); clear hr0_4 hc0_4
 have HRl0_5 := Aside0.mk (And.intro hr0_5 hc0_5); clear hr0_5 hc0_5
 by_cases c0 : (l0_3.length : Int) > 30
 case neg =>
  rw [if_neg c0] at h
  have g0 : decide (30 < (l0_3.length : Int)) = false := decide_eq_false (by omega)
  have g0' : decide (30 < l0_3.length) = false := decide_eq_false (by omega)
  clear c0
  by_cases c1 : (l0_4.length : Int) > 30
  case neg =>
   rw [if_neg c1] at h
   have g1 : decide (30 < (l0_4.length : Int)) = false := decide_eq_false (by omega)
   have g1' : decide (30 < l0_4.length) = false := decide_eq_false (by omega)
   clear c1
   obtain ⟨t451, ht451, h⟩ := Option.bind_eq_some_iff.1 h; have H := Aside0.mk h; have Ht451 := Aside0.mk ht451; clear h ht451
   go_enter Tryz.func6, Tryz.ntmps6
   go_wp2_with fail
   obtain ⟨W, hW, HI⟩ := One.start w (.cells #[.int .i64 a0_0, .int .i64 a0_1, .int .i64 a0_2, .slice A0_3 l0_3.length c0_3, .slice A0_4 l0_4.length c0_4, .slice A0_5 l0_5.length c0_5] 26)
   rw [← hW]; clear hW
   have hk0 := fun i => blk_cell HI.out.2 i
   refine (raddlelaw07_Heavy.calls k _ _ l0_5 t451 _ (Kd.C_below HRl0_5.out.1 HI.out.1) HRl0_5.out.2 Ht451.out).mono ?_
   rintro e w1 ⟨rfl, hb⟩
   clear hk0; replace HI := Aside0.mk (HI.out.step (by first | exact hb | exact hb.below)); clear hb
   have hk0 := fun i => blk_cell HI.out.2 i
   have h := H.out; clear H
   obtain rfl := Option.some.inj h
   go_wp2_with fail
   go_ret
   exact ⟨by first | rfl | (simp [*]; done), HI.out.1⟩
  rw [if_pos c1] at h
  have g1 : decide (30 < (l0_4.length : Int)) = true := decide_eq_true (by omega)
  have g1' : decide (30 < l0_4.length) = true := decide_eq_true (by omega)
  have q1 := eq_true c1
  clear c1
  obtain rfl := Option.some.inj h
  go_enter Tryz.func6, Tryz.ntmps6
  go_wp2_with fail
  go_ret
  exact ⟨by first | rfl | (simp [*]; done), below_alloc (Below.refl _ w) _⟩
 rw [if_pos c0] at h
 have g0 : decide (30 < (l0_3.length : Int)) = true := decide_eq_true (by omega)
 have g0' : decide (30 < l0_3.length) = true := decide_eq_true (by omega)
 have q0 := eq_true c0
 clear c0
 obtain rfl := Option.some.inj h
 go_enter Tryz.func6, Tryz.ntmps6
 go_wp2_with fail
 go_ret
 exact ⟨by first | rfl | (simp [*]; done), below_alloc (Below.refl _ w) _⟩
def raddlelaw07_HeavyForms.l0 : Nat → List (S56) → Int → Option (Bool)
 | 0, _, _ => none
 | k + 1, x0, x3 => if x3 < (x0.length : Int) then (if 0 ≤ x3 then (if (((rd_T56 x0 x3).f0).length : Int) > 30 then (some true) else (raddlelaw07_HeavyForms.l0 k x0 (wrap64 (x3 + 1)))) else (none)) else (some false)
def raddlelaw07_HeavyForms.f (k : Nat) (l0 : List (S56)) : Option (Bool) := if (l0.length : Int) > 30 then (some true) else (raddlelaw07_HeavyForms.l0 k l0 0)
set_option maxHeartbeats 8000000 in
set_option maxRecDepth 100000 in
theorem raddlelaw07_HeavyForms.calls (k : Nat) (A0 : Option Addr) (c0 : Nat) (l0 : List (S56)) (r : Bool) (w : World) (hr0 : Kd.C k56 w A0 l0.length l0) (hc0 : l0.length ≤ c0) (h : raddlelaw07_HeavyForms.f k l0 = some r) :
  Calls Tryz.prog 7 #[.slice A0 l0.length c0] w fun e w' => e = .returned (.bool r) ∧ Drawn0 w w' := by
 have HR0 := Aside0.mk hr0
 have HC0 := Aside0.mk hc0
 clear hr0 hc0
 have H : (if (l0.length : Int) > 30 then (some true) else (raddlelaw07_HeavyForms.l0 k l0 0)) = some r := h
 clear h
 by_cases c2 : (l0.length : Int) > 30
 ·rw [if_pos c2] at H
  have c2b0 : decide (30 < (l0.length : Int)) = true := decide_eq_true c2
  have c2b1 : decide (30 < l0.length) = true := decide_eq_true (by omega)
  clear c2
  obtain rfl := Option.some.inj H
  go_enter Tryz.func7, Tryz.ntmps7
  go_wp2
  go_ret
  exact ⟨by first | rfl | (simp; done) | (simp [*]; done), by repeat (first | exact Drawn0.refl _ | apply Drawn0.step)⟩
 ·rw [if_neg c2] at H
  have c2b0 : decide (30 < (l0.length : Int)) = false := decide_eq_false c2
  have c2b1 : decide (30 < l0.length) = false := decide_eq_false (by omega)
  clear c2
  have H' := Aside0.mk H
  clear H
  go_enter Tryz.func7, Tryz.ntmps7
  go_wp2
  go_loopg [3] k (fun kq v3 w' => ∃ (x3_1 : Int), v3 = .int .i64 x3_1 ∧ Aside0 (raddlelaw07_HeavyForms.l0 kq l0 x3_1 = some r) ∧ Aside0 (kq ≤ k) ∧ Drawn0 w w')
  case atStart => exact ⟨(0), (by first | rfl | (simp; done) | (simp [*]; done)), H', ⟨Nat.le_refl _⟩, by repeat (first | exact Drawn0.refl _ | apply Drawn0.step)⟩
  case round =>
   clear H'
   try clear c2
   try clear c2b0
   try clear c2b1
   try clear p2
   obtain ⟨x3_1, rfl, HA, HK1, ⟨m1, rfl⟩⟩ := hrel
   cases gk with
   | zero => exact absurd HA.out (by simp [raddlelaw07_HeavyForms.l0])
   | succ k1 =>
    have H := HA.out
    clear HA
    simp only [raddlelaw07_HeavyForms.l0] at H
    by_cases c3 : x3_1 < (l0.length : Int)
    ·rw [if_pos c3] at H
     have c3b0 : decide (x3_1 < (l0.length : Int)) = true := decide_eq_true c3
     clear c3
     by_cases c4 : 0 ≤ x3_1
     ·rw [if_pos c4] at H
      have c4b0 : decide (0 ≤ x3_1) = true := decide_eq_true c4
      clear c4
      by_cases c5 : (((rd_T56 l0 x3_1).f0).length : Int) > 30
      ·rw [if_pos c5] at H
       have c5b0 : decide (30 < (((rd_T56 l0 x3_1).f0).length : Int)) = true := decide_eq_true c5
       have c5b1 : decide (30 < ((rd_T56 l0 x3_1).f0).length) = true := decide_eq_true (by omega)
       clear c5
       obtain rfl := Option.some.inj H
       have p452 : 0 ≤ (x3_1 : Int) := of_decide_eq_true (by first | (with_reducible assumption) | assumption)
       have q452 : x3_1 < (l0.length : Int) := of_decide_eq_true (by first | (with_reducible assumption) | assumption)
       obtain ⟨ad452, A452_0, c452_0, e452, hx452_0, hl452_0, hi452_0⟩ := at_T56 HR0.out x3_1 p452 q452
       cases e452
       have HR452_0 := Aside0.mk hi452_0
       have HC452_0 := Aside0.mk hl452_0
       clear hi452_0 hl452_0
       replace p452 := eq_true p452
       replace q452 := eq_true q452
       go_wp2
       go_ret
       exact ⟨by first | rfl | (simp; done) | (simp [*]; done), by repeat (first | exact Drawn0.refl _ | apply Drawn0.step)⟩
      ·rw [if_neg c5] at H
       have c5b0 : decide (30 < (((rd_T56 l0 x3_1).f0).length : Int)) = false := decide_eq_false c5
       have c5b1 : decide (30 < ((rd_T56 l0 x3_1).f0).length) = false := decide_eq_false (by omega)
       clear c5
       have H' := Aside0.mk H
       clear H
       have p452 : 0 ≤ (x3_1 : Int) := of_decide_eq_true (by first | (with_reducible assumption) | assumption)
       have q452 : x3_1 < (l0.length : Int) := of_decide_eq_true (by first | (with_reducible assumption) | assumption)
       obtain ⟨ad452, A452_0, c452_0, e452, hx452_0, hl452_0, hi452_0⟩ := at_T56 HR0.out x3_1 p452 q452
       cases e452
       have HR452_0 := Aside0.mk hi452_0
       have HC452_0 := Aside0.mk hl452_0
       clear hi452_0 hl452_0
       replace p452 := eq_true p452
       replace q452 := eq_true q452
       go_wp2
       go_roundg k1
       case measure => have := HK1.out; omega
       case rel => exact ⟨(wrap64 (x3_1 + 1)), (by first | rfl | (simp; done) | (simp [*]; done)), H', ⟨by have := HK1.out; omega⟩, by repeat (first | exact Drawn0.refl _ | apply Drawn0.step)⟩
     ·rw [if_neg c4] at H
      exact absurd H (by simp)
    ·rw [if_neg c3] at H
     have c3b0 : decide (x3_1 < (l0.length : Int)) = false := decide_eq_false c3
     clear c3
     obtain rfl := Option.some.inj H
     go_wp2
     go_ret
     exact ⟨by first | rfl | (simp; done) | (simp [*]; done), by repeat (first | exact Drawn0.refl _ | apply Drawn0.step)⟩
def raddlekeep_TwinInts.f (l0 : List Int) : Option (List Int) := if ([] : List Int).length + l0.length < 17592186044416 then (some (([] : List Int) ++ l0)) else (none)
set_option maxHeartbeats 8000000 in
set_option maxRecDepth 100000 in
theorem raddlekeep_TwinInts.calls (A0 : Option Addr) (c0 : Nat) (l0 : List Int) (r : List Int) (w : World) (hr0 : Kd.C (Kd.int .i64) w A0 l0.length l0) (hc0 : l0.length ≤ c0) (h : raddlekeep_TwinInts.f l0 = some r) :
  Calls Tryz.prog 21 #[.slice A0 l0.length c0] w fun e w' => ∃ v0_ : Value, e = .returned (v0_) ∧ Kd.R (Kd.int .i64) 3 w' w.heap.size (fun _ => True) v0_ r ∧ Below w.heap.size w w' := by
 have HR0 := Aside0.mk hr0
 have HC0 := Aside0.mk hc0
 clear hr0 hc0
 have HB := Aside0.mk (Below.refl w.heap.size w)
 have H : (if ([] : List Int).length + l0.length < 17592186044416 then (some (([] : List Int) ++ l0)) else (none)) = some r := h
 clear h
 by_cases c2 : ([] : List Int).length + l0.length < 17592186044416
 ·rw [if_pos c2] at H
  have LMc2 := Aside0.mk c2
  clear c2
  obtain ⟨y453, hy453⟩ : ∃ y_ : List Int, y_ = (([] : List Int) ++ l0) := ⟨_, rfl⟩
  replace H : (some y453) = some r := by first | (rw [hy453]; with_reducible exact H) | (have H2_ := (Option.bind_some _ _).symm.trans H; rw [hy453]; with_reducible exact H2_) | (have H2_ := (Option.bind_some _ _).symm.trans H; with_reducible exact H2_) | with_reducible exact H | (rw [hy453]; exact H) | exact H
  have Ny453 := Aside0.mk hy453
  clear hy453
  obtain rfl := Option.some.inj H
  go_enter Tryz.func21, Tryz.ntmps21
  go_wp2_with (first | ((with_reducible refine gate_builtin (b := .append) (xs := #[.tmp 4, .tmp 5]) rfl ?_); at_builtin; refine Kd.R_append_rows (Kd.int .i64) (w0 := w) w.heap.size rfl (.tmp 4) (.tmp 5) 23 3 (.int .i64 0) 8 rfl Tryz.underlying23 info3 rfl (by decide) (by omega) (.slice none 0 0) ([] : List Int) l0 _ _ _ (fun _ => True) (fun _ => False) rfl rfl ?aO ?aR (fun _ _ h => h) (fun _ h => h.elim) ?aF ?aB ?aS ?aL ?_; (case aR => repeat (first | exact HR0.out | (with_reducible refine Kd.C_alloc ?_ _) | (with_reducible refine Kd.C_drewN ?_ _) | (with_reducible refine Kd.C_drew ?_))); (case aB => exact (by with_reducible repeat (first | exact HB.out | apply below_alloc | apply pw_below_drewN | apply below_drew1))); (case aF => exact (fun _ _ => trivial)); (case aO => exact ((Kd.R_nil _ _ _ _ (fun _ => True)))); (case aS => exact (below_size (by with_reducible repeat (first | exact HB.out | apply below_alloc | apply pw_below_drewN | apply below_drew1)))); (case aL => have := LMc2.out; omega); intro v454 w3 ho hb hg hat; rw [← Ny453.out] at ho; have n0_ := Aside0.mk (hb); have n1_ := Aside0.mk (ho); clear HB; have HB := n0_; have HO455 := n1_; clear n0_ n1_; clear ho hb hg hat))
  go_ret
  exact ⟨_, by first | rfl | (simp [errW_none, errW_some] <;> rfl) | (simp [*, errW_none, errW_some] <;> rfl), by (with_reducible repeat (first | apply Kd.R_alloc | apply Kd.R_drewN | apply Kd.R_drew)); exact HO455.out, by with_reducible repeat (first | exact HB.out | apply below_alloc | apply pw_below_drewN | apply below_drew1)⟩
 ·rw [if_neg c2] at H
  exact absurd H (by simp)
def raddlekeep_TwinRow.f (l0 : List (S92)) : Option ((List (S92))) := if ([] : List (S92)).length + l0.length < 4398046511104 then (some (([] : List (S92)) ++ l0)) else (none)
set_option maxHeartbeats 8000000 in
set_option maxRecDepth 100000 in
theorem raddlekeep_TwinRow.calls (A0 : Option Addr) (c0 : Nat) (l0 : List (S92)) (r : List (S92)) (w : World) (hr0 : Kd.C k92 w A0 l0.length l0) (hc0 : l0.length ≤ c0) (h : raddlekeep_TwinRow.f l0 = some r) :
  Calls Tryz.prog 96 #[.slice A0 l0.length c0] w fun e w' => ∃ v0_ : Value, e = .returned (v0_) ∧ Kd.R k92 92 w' w.heap.size (fun _ => True) v0_ r ∧ Below w.heap.size w w' := by
 have HR0 := Aside0.mk hr0
 have HC0 := Aside0.mk hc0
 clear hr0 hc0
 have HB := Aside0.mk (Below.refl w.heap.size w)
 have H : (if ([] : List (S92)).length + l0.length < 4398046511104 then (some (([] : List (S92)) ++ l0)) else (none)) = some r := h
 clear h
 by_cases c2 : ([] : List (S92)).length + l0.length < 4398046511104
 ·rw [if_pos c2] at H
  have LMc2 := Aside0.mk c2
  clear c2
  obtain ⟨y456, hy456⟩ : ∃ y_ : List (S92), y_ = (([] : List (S92)) ++ l0) := ⟨_, rfl⟩
  replace H : (some y456) = some r := by first | (rw [hy456]; with_reducible exact H) | (have H2_ := (Option.bind_some _ _).symm.trans H; rw [hy456]; with_reducible exact H2_) | (have H2_ := (Option.bind_some _ _).symm.trans H; with_reducible exact H2_) | with_reducible exact H | (rw [hy456]; exact H) | exact H
  have Ny456 := Aside0.mk hy456
  clear hy456
  obtain rfl := Option.some.inj H
  go_enter Tryz.func96, Tryz.ntmps96
  go_wp2_with (first | ((with_reducible refine gate_builtin (b := .append) (xs := #[.tmp 4, .tmp 5]) rfl ?_); at_builtin; refine Kd.R_append_rows k92 (w0 := w) w.heap.size rfl (.tmp 4) (.tmp 5) 49 92 (.agg #[(.int .i64 0), (.int .i64 0), (.string ⟨#[]⟩)]) 32 rfl Tryz.underlying49 info92 rfl (by decide) (by omega) (.slice none 0 0) ([] : List (S92)) l0 _ _ _ (fun _ => True) (fun _ => False) rfl rfl ?aO ?aR (fun _ _ h => h) (fun _ h => h.elim) ?aF ?aB ?aS ?aL ?_; (case aR => repeat (first | exact HR0.out | (with_reducible refine Kd.C_alloc ?_ _) | (with_reducible refine Kd.C_drewN ?_ _) | (with_reducible refine Kd.C_drew ?_))); (case aB => exact (by with_reducible repeat (first | exact HB.out | apply below_alloc | apply pw_below_drewN | apply below_drew1))); (case aF => exact (fun _ _ => trivial)); (case aO => exact ((Kd.R_nil _ _ _ _ (fun _ => True)))); (case aS => exact (below_size (by with_reducible repeat (first | exact HB.out | apply below_alloc | apply pw_below_drewN | apply below_drew1)))); (case aL => have := LMc2.out; omega); intro v457 w3 ho hb hg hat; rw [← Ny456.out] at ho; have n0_ := Aside0.mk (hb); have n1_ := Aside0.mk (ho); clear HB; have HB := n0_; have HO458 := n1_; clear n0_ n1_; clear ho hb hg hat))
  go_ret
  exact ⟨_, by first | rfl | (simp [errW_none, errW_some] <;> rfl) | (simp [*, errW_none, errW_some] <;> rfl), by (with_reducible repeat (first | apply Kd.R_alloc | apply Kd.R_drewN | apply Kd.R_drew)); exact HO458.out, by with_reducible repeat (first | exact HB.out | apply below_alloc | apply pw_below_drewN | apply below_drew1)⟩
 ·rw [if_neg c2] at H
  exact absurd H (by simp)
def raddlekeep_TwinOp.f (a0_0 : Int) (a0_1 : Int) (l0_2 : List Int) (a0_3 : Int) (a0_4 : Int) (a0_5 : Int) (a0_6 : Int) (a0_7 : Int) (a0_8 : ByteArray) (a0_9 : Int) (l0_10 : List (S92)) (l0_11 : List (S46)) : Option (Int × Int × List Int × Int × Int × Int × Int × Int × ByteArray × Int × (List (S92)) × (List (S46))) := (raddlekeep_TwinInts.f l0_2).bind fun t461 => ((raddlekeep_TwinRow.f l0_10).bind fun t464 => (if ([] : List (S46)).length + l0_11.length < 8796093022208 then (some (a0_0, a0_1, t461, a0_3, a0_4, a0_5, a0_6, a0_7, a0_8, a0_9, t464, (([] : List (S46)) ++ l0_11))) else (none)))
def raddlekeep_TwinOp.T2 : Bool × List (List Nat × List Nat) := (true, [([], []), ([0], [0]), ([1], [1]), ([], []), ([3], [3]), ([4, 2], [4]), ([], []), ([], []), ([7], [7]), ([6, 8, 5], [6, 8]), ([0, 1, 2, 3, 4, 7, 8], []), ([10, 2, 9, 0, 1, 2, 3, 4, 7, 8], [2, 10]), ([0, 1, 2, 3, 4, 5, 7, 8, 10, 11], []), ([12, 5, 11, 0, 1, 2, 3, 4, 5, 7, 8, 10, 11], [5, 12]), ([0, 1, 2, 3, 4, 5, 6, 7, 8, 9, 10, 11, 12, 13], []), ([14, 9, 13, 0, 1, 2, 3, 4, 5, 6, 7, 8, 9, 10, 11, 12, 13], [9, 14])])
def raddlekeep_TwinOp.B2 : List Nat := [0, 1, 3, 0, 8, 31, 0, 0, 128, 511, 415, 2047, 4095, 8191, 16383, 32767]
theorem raddlekeep_TwinOp.tab2 : rtab .any (opsOf Tryz.f52 2) = raddlekeep_TwinOp.T2 := by kernel_rfl
theorem raddlekeep_TwinOp.bits2 : waitsOk raddlekeep_TwinOp.T2.2 raddlekeep_TwinOp.B2 = true := by kernel_rfl
set_option maxHeartbeats 8000000 in
set_option maxRecDepth 100000 in
theorem raddlekeep_TwinOp.calls (a0_0 : Int) (a0_1 : Int) (A0_2 : Option Addr) (c0_2 : Nat) (l0_2 : List Int) (a0_3 : Int) (a0_4 : Int) (a0_5 : Int) (a0_6 : Int) (a0_7 : Int) (a0_8 : ByteArray) (a0_9 : Int) (A0_10 : Option Addr) (c0_10 : Nat) (l0_10 : List (S92)) (A0_11 : Option Addr) (c0_11 : Nat) (l0_11 : List (S46)) (r1 : Int) (r2 : Int) (r3 : List Int) (r4 : Int) (r5 : Int) (r6 : Int) (r7 : Int) (r8 : Int) (r9 : ByteArray) (r10 : Int) (r11 : List (S92)) (r12 : List (S46)) (w : World) (hr0_2 : Kd.C (Kd.int .i64) w A0_2 l0_2.length l0_2) (hc0_2 : l0_2.length ≤ c0_2) (hr0_10 : Kd.C k92 w A0_10 l0_10.length l0_10) (hc0_10 : l0_10.length ≤ c0_10) (hr0_11 : Kd.C k46 w A0_11 l0_11.length l0_11) (hc0_11 : l0_11.length ≤ c0_11) (h : raddlekeep_TwinOp.f a0_0 a0_1 l0_2 a0_3 a0_4 a0_5 a0_6 a0_7 a0_8 a0_9 l0_10 l0_11 = some (r1, r2, r3, r4, r5, r6, r7, r8, r9, r10, r11, r12)) :
  Calls Tryz.prog 52 #[.agg #[.int .i64 a0_0, .int .i64 a0_1, .slice A0_2 l0_2.length c0_2, .int .i64 a0_3, .int .i64 a0_4, .int .i64 a0_5, .int .i64 a0_6, .int .i64 a0_7, .string a0_8, .int .i64 a0_9, .slice A0_10 l0_10.length c0_10, .slice A0_11 l0_11.length c0_11]] w fun e w' => ∃ v2_ v10_ v11_ : Value, e = .returned (.agg #[.int .i64 r1, .int .i64 r2, v2_, .int .i64 r4, .int .i64 r5, .int .i64 r6, .int .i64 r7, .int .i64 r8, .string r9, .int .i64 r10, v10_, v11_]) ∧ Kd.R (Kd.int .i64) 3 w' w.heap.size (fun _ => True) v2_ r3 ∧ Kd.R k92 92 w' w.heap.size (fun _ => True) v10_ r11 ∧ Kd.R k46 46 w' w.heap.size (fun _ => True) v11_ r12 ∧ Below w.heap.size w w' := by
 have hu52 := Tryz.underlying52
 have HR0_2 := Aside0.mk hr0_2
 have HC0_2 := Aside0.mk hc0_2
 clear hr0_2 hc0_2
 have HR0_10 := Aside0.mk hr0_10
 have HC0_10 := Aside0.mk hc0_10
 clear hr0_10 hc0_10
 have HR0_11 := Aside0.mk hr0_11
 have HC0_11 := Aside0.mk hc0_11
 clear hr0_11 hc0_11
 have HB := Aside0.mk (Below.refl w.heap.size w)
 have H : ((raddlekeep_TwinInts.f l0_2).bind fun t461 => ((raddlekeep_TwinRow.f l0_10).bind fun t464 => (if ([] : List (S46)).length + l0_11.length < 8796093022208 then (some (a0_0, a0_1, t461, a0_3, a0_4, a0_5, a0_6, a0_7, a0_8, a0_9, t464, (([] : List (S46)) ++ l0_11))) else (none)))) = some (r1, r2, r3, r4, r5, r6, r7, r8, r9, r10, r11, r12) := h
 clear h
 replace H := Option.bind_eq_some_iff.mp H
 obtain ⟨t461, A20, H⟩ := H
 try dsimp only at H
 have A2 := Aside0.mk A20
 clear A20
 replace H := Option.bind_eq_some_iff.mp H
 obtain ⟨t464, A30, H⟩ := H
 try dsimp only at H
 have A3 := Aside0.mk A30
 clear A30
 by_cases c4 : ([] : List (S46)).length + l0_11.length < 8796093022208
 ·rw [if_pos c4] at H
  have LMc4 := Aside0.mk c4
  clear c4
  obtain ⟨y467, hy467⟩ : ∃ y_ : List (S46), y_ = (([] : List (S46)) ++ l0_11) := ⟨_, rfl⟩
  replace H : (some (a0_0, a0_1, t461, a0_3, a0_4, a0_5, a0_6, a0_7, a0_8, a0_9, t464, y467)) = some (r1, r2, r3, r4, r5, r6, r7, r8, r9, r10, r11, r12) := by first | (rw [hy467]; with_reducible exact H) | (have H2_ := (Option.bind_some _ _).symm.trans H; rw [hy467]; with_reducible exact H2_) | (have H2_ := (Option.bind_some _ _).symm.trans H; with_reducible exact H2_) | with_reducible exact H | (rw [hy467]; exact H) | exact H
  have Ny467 := Aside0.mk hy467
  clear hy467
  simp only [Option.some.injEq, Prod.mk.injEq] at H
  obtain ⟨rfl, rfl, rfl, rfl, rfl, rfl, rfl, rfl, rfl, rfl, rfl, rfl⟩ := H
  go_enter Tryz.func52, Tryz.ntmps52
  try go_wp2_with (first | ((with_reducible refine gate_dst (N := 1) rfl ?_); refine box_event ?hg (N := 1) ?hd (cs := #[.int .i64 a0_0, .int .i64 a0_1, .slice A0_2 l0_2.length c0_2, .int .i64 a0_3, .int .i64 a0_4, .int .i64 a0_5, .int .i64 a0_6, .int .i64 a0_7, .string a0_8, .int .i64 a0_9, .slice A0_10 l0_10.length c0_10, .slice A0_11 l0_11.length c0_11]) (t := 52) ?hr ?_; (case hd => rfl); (case hg => rfl); (case hr => first | (go_simp; done) | (go_simp; rfl)); intro gb459 hg w5 hbox hb; have n0_ := Aside0.mk (below_step (by with_reducible repeat (first | exact HB.out | apply below_alloc | apply pw_below_drewN | apply below_drew1)) hb); have n1_ := Aside0.mk (hbox); have n2_ := Aside0.mk ((by rw [hg]; exact (below_size (by with_reducible repeat (first | exact HB.out | apply below_alloc | apply pw_below_drewN | apply below_drew1))) : w.heap.size ≤ gb459)); have n3_ := Aside0.mk ((by rw [hg]; exact (below_size (by with_reducible repeat (first | exact HB.out | apply below_alloc | apply pw_below_drewN | apply below_drew1))) : w.heap.size ≤ gb459)); clear HB; have HB := n0_; have BK459 := n1_; have GW459 := n2_; have GE459 := n3_; clear n0_ n1_ n2_ n3_; clear hb hbox hg) | ((with_reducible refine gate_dst (N := 2) rfl ?_); refine box_event ?hg (N := 2) ?hd (cs := #[.int .i64 0, .int .i64 0, .slice none 0 0, .int .i64 0, .int .i64 0, .int .i64 0, .int .i64 0, .int .i64 0, .string (⟨#[]⟩ : ByteArray), .int .i64 0, .slice none 0 0, .slice none 0 0]) (t := 52) ?hr ?_; (case hd => rfl); (case hg => rfl); (case hr => first | (go_simp; done) | (go_simp; rfl)); intro gb460 hg w6 hbox hb; have n0_ := Aside0.mk (blk_below (g := gb459) (o := .cells #[.int .i64 a0_0, .int .i64 a0_1, .slice A0_2 l0_2.length c0_2, .int .i64 a0_3, .int .i64 a0_4, .int .i64 a0_5, .int .i64 a0_6, .int .i64 a0_7, .string a0_8, .int .i64 a0_9, .slice A0_10 l0_10.length c0_10, .slice A0_11 l0_11.length c0_11] 52 (0, 0)) (by (with_reducible repeat (first | refine blk_drewN ?_ _ | refine blk_drew ?_ | refine blk_alloc ?_ _)); exact BK459.out) hb); have n1_ := Aside0.mk (below_step (by with_reducible repeat (first | exact HB.out | apply below_alloc | apply pw_below_drewN | apply below_drew1 | refine below_set ?_ GE459.out)) hb); have n2_ := Aside0.mk (hbox); have n3_ := Aside0.mk ((by rw [hg]; exact (below_size (by with_reducible repeat (first | exact HB.out | apply below_alloc | apply pw_below_drewN | apply below_drew1 | refine below_set ?_ GE459.out))) : w.heap.size ≤ gb460)); have n4_ := Aside0.mk ((by rw [hg]; exact (below_size (by with_reducible repeat (first | exact HB.out | apply below_alloc | apply pw_below_drewN | apply below_drew1 | refine below_set ?_ GE459.out))) : w.heap.size ≤ gb460)); have n5_ := Aside0.mk ((by rw [hg]; exact Nat.ne_of_lt (blk_lt (g := gb459) (o := .cells #[.int .i64 a0_0, .int .i64 a0_1, .slice A0_2 l0_2.length c0_2, .int .i64 a0_3, .int .i64 a0_4, .int .i64 a0_5, .int .i64 a0_6, .int .i64 a0_7, .string a0_8, .int .i64 a0_9, .slice A0_10 l0_10.length c0_10, .slice A0_11 l0_11.length c0_11] 52 (0, 0)) (by (with_reducible repeat (first | refine blk_drewN ?_ _ | refine blk_drew ?_ | refine blk_alloc ?_ _)); exact BK459.out)) : gb459 ≠ gb460)); have n6_ := Aside0.mk ((by rw [hg]; exact Nat.ne_of_gt (blk_lt (g := gb459) (o := .cells #[.int .i64 a0_0, .int .i64 a0_1, .slice A0_2 l0_2.length c0_2, .int .i64 a0_3, .int .i64 a0_4, .int .i64 a0_5, .int .i64 a0_6, .int .i64 a0_7, .string a0_8, .int .i64 a0_9, .slice A0_10 l0_10.length c0_10, .slice A0_11 l0_11.length c0_11] 52 (0, 0)) (by (with_reducible repeat (first | refine blk_drewN ?_ _ | refine blk_drew ?_ | refine blk_alloc ?_ _)); exact BK459.out)) : gb460 ≠ gb459)); clear BK459; clear HB; have BK459 := n0_; have HB := n1_; have BK460 := n2_; have GW460 := n3_; have GE460 := n4_; have NB459_460 := n5_; have NB460_459 := n6_; clear n0_ n1_ n2_ n3_ n4_ n5_ n6_; clear hb hbox hg))
  have n0_ := Aside0.mk (blk_drew BK459.out)
  have n1_ := Aside0.mk (blk_drew BK460.out)
  have n2_ := Aside0.mk (below_drew1 HB.out)
  clear BK459
  clear BK460
  clear HB
  have BK459 := n0_
  have BK460 := n1_
  have HB := n2_
  clear n0_ n1_ n2_
  refine start_ (n := 16) (S := fun w' => w'.cell? ⟨gb459, 0, none⟩ = some (.int .i64 a0_0) ∧ w'.cell? ⟨gb459, 1, none⟩ = some (.int .i64 a0_1) ∧ w'.cell? ⟨gb459, 2, none⟩ = some (.slice A0_2 l0_2.length c0_2) ∧ w'.cell? ⟨gb459, 3, none⟩ = some (.int .i64 a0_3) ∧ w'.cell? ⟨gb459, 4, none⟩ = some (.int .i64 a0_4) ∧ w'.cell? ⟨gb459, 5, none⟩ = some (.int .i64 a0_5) ∧ w'.cell? ⟨gb459, 6, none⟩ = some (.int .i64 a0_6) ∧ w'.cell? ⟨gb459, 7, none⟩ = some (.int .i64 a0_7) ∧ w'.cell? ⟨gb459, 8, none⟩ = some (.string a0_8) ∧ w'.cell? ⟨gb459, 9, none⟩ = some (.int .i64 a0_9) ∧ w'.cell? ⟨gb459, 10, none⟩ = some (.slice A0_10 l0_10.length c0_10) ∧ w'.cell? ⟨gb459, 11, none⟩ = some (.slice A0_11 l0_11.length c0_11)) (ds := [11, 13, 15]) #[false, false, false, false, false, false, false, false, false, false, false, false, false, false, false, false] (by kernel_rfl) rfl rfl ⟨(blk_cell BK459.out 0).trans rfl, (blk_cell BK459.out 1).trans rfl, (blk_cell BK459.out 2).trans rfl, (blk_cell BK459.out 3).trans rfl, (blk_cell BK459.out 4).trans rfl, (blk_cell BK459.out 5).trans rfl, (blk_cell BK459.out 6).trans rfl, (blk_cell BK459.out 7).trans rfl, (blk_cell BK459.out 8).trans rfl, (blk_cell BK459.out 9).trans rfl, (blk_cell BK459.out 10).trans rfl, (blk_cell BK459.out 11).trans rfl⟩ (fun hHeld => ?_); refine with_tabW raddlekeep_TwinOp.tab2 raddlekeep_TwinOp.bits2 (fun HT_ HW_ => ?_)
  generalize w6.drew = w7 at BK459 BK460 HB hHeld ⊢
  refine pure_ (i := 0) (N := some 4) (v := ?_) (a' := ?_) #[true, false, false, false, false, false, false, false, false, false, false, false, false, false, false, false] rfl rfl (any_of HT_.out (by kernel_rfl)) (fun _ _ _ h => h) (Or.inl ⟨by rfl, ?_⟩) ?_ ?_
  rotate_left
  ·intro w'
   go_simp
   with_reducible rfl
  rotate_left
  ·simp only [Act.put, List.setIfInBounds_toArray, List.set_cons_zero, List.set_cons_succ, i64_w, i32_w]
   rfl
  refine pure_ (i := 3) (N := some 7) (v := ?_) (a' := ?_) #[true, false, false, true, false, false, false, false, false, false, false, false, false, false, false, false] rfl rfl (any_of HT_.out (by kernel_rfl)) (fun _ _ _ h => h) (Or.inl ⟨by rfl, ?_⟩) ?_ ?_
  rotate_left
  ·intro w'
   go_simp
   with_reducible rfl
  rotate_left
  ·simp only [Act.put, List.setIfInBounds_toArray, List.set_cons_zero, List.set_cons_succ, i64_w, i32_w]
   rfl
  refine pure_ (i := 6) (N := some 10) (v := ?_) (a' := ?_) #[true, false, false, true, false, false, true, false, false, false, false, false, false, false, false, false] rfl rfl (any_of HT_.out (by kernel_rfl)) (fun _ _ _ h => h) (Or.inl ⟨by rfl, ?_⟩) ?_ ?_
  rotate_left
  ·intro w'
   go_simp
   with_reducible rfl
  rotate_left
  ·simp only [Act.put, List.setIfInBounds_toArray, List.set_cons_zero, List.set_cons_succ, i64_w, i32_w]
   rfl
  refine pure_ (i := 7) (N := some 11) (v := ?_) (a' := ?_) #[true, false, false, true, false, false, true, true, false, false, false, false, false, false, false, false] rfl rfl (any_of HT_.out (by kernel_rfl)) (fun _ _ _ h => h) (Or.inl ⟨by rfl, ?_⟩) ?_ ?_
  rotate_left
  ·intro w'
   go_simp
   with_reducible rfl
  rotate_left
  ·simp only [Act.put, List.setIfInBounds_toArray, List.set_cons_zero, List.set_cons_succ, i64_w, i32_w]
   rfl
  refine take_ (i := 1) (N := some 5) (v := ?_) (a' := ?_) #[true, true, false, true, false, false, true, true, false, false, false, false, false, false, false, false] rfl rfl (take_ofW HT_.out HW_.out (by kernel_rfl)) (fun _ _ _ h => h) (Or.inl ⟨by rfl, ?_⟩) hHeld ?_ ?_
  rotate_left
  ·rintro w' ⟨s0, s1, s2, s3, s4, s5, s6, s7, s8, s9, s10, s11⟩
   go_simp
   with_reducible rfl
  rotate_left
  ·simp only [Act.put, List.setIfInBounds_toArray, List.set_cons_zero, List.set_cons_succ, i64_w, i32_w]
   rfl
  refine take_ (i := 4) (N := some 8) (v := ?_) (a' := ?_) #[true, true, false, true, true, false, true, true, false, false, false, false, false, false, false, false] rfl rfl (take_ofW HT_.out HW_.out (by kernel_rfl)) (fun _ _ _ h => h) (Or.inl ⟨by rfl, ?_⟩) hHeld ?_ ?_
  rotate_left
  ·rintro w' ⟨s0, s1, s2, s3, s4, s5, s6, s7, s8, s9, s10, s11⟩
   go_simp
   with_reducible rfl
  rotate_left
  ·simp only [Act.put, List.setIfInBounds_toArray, List.set_cons_zero, List.set_cons_succ, i64_w, i32_w]
   rfl
  refine take_ (i := 8) (N := some 12) (v := ?_) (a' := ?_) #[true, true, false, true, true, false, true, true, true, false, false, false, false, false, false, false] rfl rfl (take_ofW HT_.out HW_.out (by kernel_rfl)) (fun _ _ _ h => h) (Or.inl ⟨by rfl, ?_⟩) hHeld ?_ ?_
  rotate_left
  ·rintro w' ⟨s0, s1, s2, s3, s4, s5, s6, s7, s8, s9, s10, s11⟩
   go_simp
   with_reducible rfl
  rotate_left
  ·simp only [Act.put, List.setIfInBounds_toArray, List.set_cons_zero, List.set_cons_succ, i64_w, i32_w]
   rfl
  refine one_ (i := 2) (N := some 6) #[true, true, true, true, true, false, true, true, true, false, false, false, false, false, false, false] rfl rfl (one_of HT_.out (by kernel_rfl)) (by decide) (fun K hK => ?_)
  refine goes_ Tryz.func21 (by kernel_rfl) rfl #[.slice A0_2 l0_2.length c0_2] (by rfl) rfl rfl (by (try simp only [List.map_toArray, List.map_cons, List.map_nil]); first | done | rfl | (simp only [List.length_drop, List.length_take]; rfl)) ?_
  with_reducible refine (raddlekeep_TwinInts.calls _ _ l0_2 t461 _ ?side1 ?side2 A2.out).mono ?_
  (case side1 => repeat (first | exact (Kd.C_below HR0_2.out HB.out) | (with_reducible refine Kd.C_alloc ?_ _) | (with_reducible refine Kd.C_drewN ?_ _) | (with_reducible refine Kd.C_drew ?_)))
  (case side2 => exact HC0_2.out)
  rintro e w8 ⟨v462, rfl, ho0, hb⟩
  refine ⟨_, rfl, ?_⟩
  have n0_ := Aside0.mk (Kd.R_lower ho0 (below_size (by with_reducible repeat (first | exact HB.out | apply below_alloc | apply pw_below_drewN | apply below_drew1 | refine below_set ?_ GE459.out | refine below_set ?_ GE460.out))))
  have n1_ := Aside0.mk (blk_below (g := gb459) (o := .cells #[.int .i64 a0_0, .int .i64 a0_1, .slice A0_2 l0_2.length c0_2, .int .i64 a0_3, .int .i64 a0_4, .int .i64 a0_5, .int .i64 a0_6, .int .i64 a0_7, .string a0_8, .int .i64 a0_9, .slice A0_10 l0_10.length c0_10, .slice A0_11 l0_11.length c0_11] 52 (0, 0)) (by (with_reducible repeat (first | refine blk_drewN ?_ _ | refine blk_drew ?_ | refine blk_alloc ?_ _)); exact BK459.out) hb)
  have n2_ := Aside0.mk (blk_below (g := gb460) (o := .cells #[.int .i64 0, .int .i64 0, .slice none 0 0, .int .i64 0, .int .i64 0, .int .i64 0, .int .i64 0, .int .i64 0, .string (⟨#[]⟩ : ByteArray), .int .i64 0, .slice none 0 0, .slice none 0 0] 52 (0, 0)) (by (with_reducible repeat (first | refine blk_drewN ?_ _ | refine blk_drew ?_ | refine blk_alloc ?_ _)); exact BK460.out) hb)
  have n3_ := Aside0.mk (below_step (by with_reducible repeat (first | exact HB.out | apply below_alloc | apply pw_below_drewN | apply below_drew1 | refine below_set ?_ GE459.out | refine below_set ?_ GE460.out)) hb)
  clear BK459
  clear BK460
  clear HB
  have HO463 := n0_
  have BK459 := n1_
  have BK460 := n2_
  have HB := n3_
  clear n0_ n1_ n2_ n3_
  (try clear hb)
  (try clear hb2)
  (try clear hk)
  (try clear hi)
  (try clear ho0)
  refine hK.out _ _ ⟨(blk_cell BK459.out 0).trans rfl, (blk_cell BK459.out 1).trans rfl, (blk_cell BK459.out 2).trans rfl, (blk_cell BK459.out 3).trans rfl, (blk_cell BK459.out 4).trans rfl, (blk_cell BK459.out 5).trans rfl, (blk_cell BK459.out 6).trans rfl, (blk_cell BK459.out 7).trans rfl, (blk_cell BK459.out 8).trans rfl, (blk_cell BK459.out 9).trans rfl, (blk_cell BK459.out 10).trans rfl, (blk_cell BK459.out 11).trans rfl⟩ (fun hHeld => ?_)
  clear hK K
  refine norm_ (a' := ?_) ?_ ?_
  rotate_left
  ·show Act.put _ (some 6) _ = _
   simp only [Act.put, List.setIfInBounds_toArray, List.set_cons_zero, List.set_cons_succ, i64_w, i32_w]
   rfl
  refine pure_ (i := 10) (N := some 14) (v := ?_) (a' := ?_) #[true, true, true, true, true, false, true, true, true, false, true, false, false, false, false, false] rfl rfl (any_of HT_.out (by kernel_rfl)) (fun _ _ _ h => h) (Or.inl ⟨by rfl, ?_⟩) ?_ ?_
  rotate_left
  ·intro w'
   go_simp
   with_reducible rfl
  rotate_left
  ·simp only [Act.put, List.setIfInBounds_toArray, List.set_cons_zero, List.set_cons_succ, i64_w, i32_w]
   rfl
  refine one_ (i := 5) (N := some 9) #[true, true, true, true, true, true, true, true, true, false, true, false, false, false, false, false] rfl rfl (one_of HT_.out (by kernel_rfl)) (by decide) (fun K hK => ?_)
  refine goes_ Tryz.func96 (by kernel_rfl) rfl #[.slice A0_10 l0_10.length c0_10] (by rfl) rfl rfl (by (try simp only [List.map_toArray, List.map_cons, List.map_nil]); first | done | rfl | (simp only [List.length_drop, List.length_take]; rfl)) ?_
  with_reducible refine (raddlekeep_TwinRow.calls _ _ l0_10 t464 _ ?side1 ?side2 A3.out).mono ?_
  (case side1 => repeat (first | exact (Kd.C_below HR0_10.out HB.out) | (with_reducible refine Kd.C_alloc ?_ _) | (with_reducible refine Kd.C_drewN ?_ _) | (with_reducible refine Kd.C_drew ?_)))
  (case side2 => exact HC0_10.out)
  rintro e w9 ⟨v465, rfl, ho0, hb⟩
  refine ⟨_, rfl, ?_⟩
  have n0_ := Aside0.mk (Kd.R_below (by (with_reducible repeat (first | apply Kd.R_alloc | apply Kd.R_drewN | apply Kd.R_drew)); exact HO463.out) hb)
  have n1_ := Aside0.mk (Kd.R_lower ho0 (below_size (by with_reducible repeat (first | exact HB.out | apply below_alloc | apply pw_below_drewN | apply below_drew1 | refine below_set ?_ GE459.out | refine below_set ?_ GE460.out))))
  have n2_ := Aside0.mk (blk_below (g := gb459) (o := .cells #[.int .i64 a0_0, .int .i64 a0_1, .slice A0_2 l0_2.length c0_2, .int .i64 a0_3, .int .i64 a0_4, .int .i64 a0_5, .int .i64 a0_6, .int .i64 a0_7, .string a0_8, .int .i64 a0_9, .slice A0_10 l0_10.length c0_10, .slice A0_11 l0_11.length c0_11] 52 (0, 0)) (by (with_reducible repeat (first | refine blk_drewN ?_ _ | refine blk_drew ?_ | refine blk_alloc ?_ _)); exact BK459.out) hb)
  have n3_ := Aside0.mk (blk_below (g := gb460) (o := .cells #[.int .i64 0, .int .i64 0, .slice none 0 0, .int .i64 0, .int .i64 0, .int .i64 0, .int .i64 0, .int .i64 0, .string (⟨#[]⟩ : ByteArray), .int .i64 0, .slice none 0 0, .slice none 0 0] 52 (0, 0)) (by (with_reducible repeat (first | refine blk_drewN ?_ _ | refine blk_drew ?_ | refine blk_alloc ?_ _)); exact BK460.out) hb)
  have n4_ := Aside0.mk (below_step (by with_reducible repeat (first | exact HB.out | apply below_alloc | apply pw_below_drewN | apply below_drew1 | refine below_set ?_ GE459.out | refine below_set ?_ GE460.out)) hb)
  clear HO463
  clear BK459
  clear BK460
  clear HB
  have HO463 := n0_
  have HO466 := n1_
  have BK459 := n2_
  have BK460 := n3_
  have HB := n4_
  clear n0_ n1_ n2_ n3_ n4_
  (try clear hb)
  (try clear hb2)
  (try clear hk)
  (try clear hi)
  (try clear ho0)
  refine hK.out _ _ ⟨(blk_cell BK459.out 0).trans rfl, (blk_cell BK459.out 1).trans rfl, (blk_cell BK459.out 2).trans rfl, (blk_cell BK459.out 3).trans rfl, (blk_cell BK459.out 4).trans rfl, (blk_cell BK459.out 5).trans rfl, (blk_cell BK459.out 6).trans rfl, (blk_cell BK459.out 7).trans rfl, (blk_cell BK459.out 8).trans rfl, (blk_cell BK459.out 9).trans rfl, (blk_cell BK459.out 10).trans rfl, (blk_cell BK459.out 11).trans rfl⟩ (fun hHeld => ?_)
  clear hK K
  refine norm_ (a' := ?_) ?_ ?_
  rotate_left
  ·show Act.put _ (some 9) _ = _
   simp only [Act.put, List.setIfInBounds_toArray, List.set_cons_zero, List.set_cons_succ, i64_w, i32_w]
   rfl
  refine one_ (i := 9) (N := some 13) #[true, true, true, true, true, true, true, true, true, true, true, false, false, false, false, false] rfl rfl (one_of HT_.out (by kernel_rfl)) (by decide) (fun K hK => ?_)
  refine Kd.R_append_rows_step k46 (w0 := w) w.heap.size (by rfl) (.tmp 10) (.tmp 12) 50 46 (.agg #[(.int .i64 0), (.int .i64 0)]) 16 rfl Tryz.underlying50 info46 rfl (by decide) (by omega) (.slice none 0 0) ([] : List (S46)) l0_11 _ _ _ (fun _ => True) (fun _ => False) rfl rfl ?aO ?aR (fun _ _ h => h) (fun _ h => h.elim) ?aF ?aB ?aS ?aL ?_
  (case aR => repeat (first | exact (Kd.C_below HR0_11.out HB.out) | (with_reducible refine Kd.C_alloc ?_ _) | (with_reducible refine Kd.C_drewN ?_ _) | (with_reducible refine Kd.C_drew ?_)))
  (case aB => exact (by with_reducible repeat (first | exact HB.out | apply below_alloc | apply pw_below_drewN | apply below_drew1 | refine below_set ?_ GE459.out | refine below_set ?_ GE460.out)))
  (case aF => exact (fun _ _ => trivial))
  (case aO => exact ((Kd.R_nil _ _ _ _ (fun _ => True))))
  (case aS => exact (below_size (by with_reducible repeat (first | exact HB.out | apply below_alloc | apply pw_below_drewN | apply below_drew1 | refine below_set ?_ GE459.out | refine below_set ?_ GE460.out))))
  (case aL => have := LMc4.out; omega)
  intro v468 w10 ho hb hg hat
  rw [← Ny467.out] at ho
  have n0_ := Aside0.mk (blk_grown (g := gb459) (o := .cells #[.int .i64 a0_0, .int .i64 a0_1, .slice A0_2 l0_2.length c0_2, .int .i64 a0_3, .int .i64 a0_4, .int .i64 a0_5, .int .i64 a0_6, .int .i64 a0_7, .string a0_8, .int .i64 a0_9, .slice A0_10 l0_10.length c0_10, .slice A0_11 l0_11.length c0_11] 52 (0, 0)) (by (with_reducible repeat (first | refine blk_drewN ?_ _ | refine blk_drew ?_ | refine blk_alloc ?_ _)); exact BK459.out) hg (by simp [Value.ownBlock]))
  have n1_ := Aside0.mk (blk_grown (g := gb460) (o := .cells #[.int .i64 0, .int .i64 0, .slice none 0 0, .int .i64 0, .int .i64 0, .int .i64 0, .int .i64 0, .int .i64 0, .string (⟨#[]⟩ : ByteArray), .int .i64 0, .slice none 0 0, .slice none 0 0] 52 (0, 0)) (by (with_reducible repeat (first | refine blk_drewN ?_ _ | refine blk_drew ?_ | refine blk_alloc ?_ _)); exact BK460.out) hg (by simp [Value.ownBlock]))
  have n2_ := Aside0.mk (Kd.R_grown (by (with_reducible repeat (first | apply Kd.R_alloc | apply Kd.R_drewN | apply Kd.R_drew)); exact HO463.out) hg (fun _ _ => by simp [Value.ownBlock]))
  have n3_ := Aside0.mk (Kd.R_grown (by (with_reducible repeat (first | apply Kd.R_alloc | apply Kd.R_drewN | apply Kd.R_drew)); exact HO466.out) hg (fun _ _ => by simp [Value.ownBlock]))
  have n4_ := Aside0.mk (hb)
  have n5_ := Aside0.mk (ho)
  clear BK459
  clear BK460
  clear HO463
  clear HO466
  clear HB
  have BK459 := n0_
  have BK460 := n1_
  have HO463 := n2_
  have HO466 := n3_
  have HB := n4_
  have HO469 := n5_
  clear n0_ n1_ n2_ n3_ n4_ n5_
  clear ho hb hg hat
  obtain ⟨Ao11, co11, eo11⟩ := Kd.R_slice HO463.out
  (first | subst eo11 | (injection eo11 with f1_ f2_ f3_; have f4_ := f1_.symm; have f5_ := f3_.symm; clear f1_ f2_ f3_; subst f4_; subst f5_))
  obtain ⟨Ao13, co13, eo13⟩ := Kd.R_slice HO466.out
  (first | subst eo13 | (injection eo13 with f1_ f2_ f3_; have f4_ := f1_.symm; have f5_ := f3_.symm; clear f1_ f2_ f3_; subst f4_; subst f5_))
  obtain ⟨Ao15, co15, eo15⟩ := Kd.R_slice HO469.out
  (first | subst eo15 | (injection eo15 with f1_ f2_ f3_; have f4_ := f1_.symm; have f5_ := f3_.symm; clear f1_ f2_ f3_; subst f4_; subst f5_))
  refine hK.out _ _ ⟨(blk_cell BK459.out 0).trans rfl, (blk_cell BK459.out 1).trans rfl, (blk_cell BK459.out 2).trans rfl, (blk_cell BK459.out 3).trans rfl, (blk_cell BK459.out 4).trans rfl, (blk_cell BK459.out 5).trans rfl, (blk_cell BK459.out 6).trans rfl, (blk_cell BK459.out 7).trans rfl, (blk_cell BK459.out 8).trans rfl, (blk_cell BK459.out 9).trans rfl, (blk_cell BK459.out 10).trans rfl, (blk_cell BK459.out 11).trans rfl⟩ (fun hHeld => ?_)
  clear hK K
  refine norm_ (a' := ?_) ?_ ?_
  rotate_left
  ·show Act.put _ (some 13) _ = _
   simp only [Act.put, List.setIfInBounds_toArray, List.set_cons_zero, List.set_cons_succ, i64_w, i32_w]
   rfl
  refine last_ (i := 11) (N := none) #[true, true, true, true, true, true, true, true, true, true, true, true, false, false, false, false] rfl rfl (one_of HT_.out (by kernel_rfl)) (by decide) (fun K hK => ?_)
  have hs12 : w10.cell? ⟨gb459, 2, none⟩ = some (.slice A0_2 l0_2.length c0_2) := (blk_cell BK459.out 2).trans rfl
  have hfs12 := blk_frozen BK459.out 2
  have hns12_1 := NB460_459.out
  have hms12_1 := NB459_460.out
  refine skip_ (w1 := ?_) (by rfl) rfl ?_ ?_
  rotate_left
  ·go_simp
   rfl
  refine hK.out _ _ ?_
  clear hK K
  refine pure_ (i := 12) (N := some 15) (v := ?_) (a' := ?_) #[true, true, true, true, true, true, true, true, true, true, true, true, true, false, false, false] rfl rfl (any_of HT_.out (by kernel_rfl)) (fun _ _ _ h => h) (Or.inl ⟨by rfl, ?_⟩) ?_ ?_
  rotate_left
  ·intro w'
   go_simp
   with_reducible rfl
  rotate_left
  ·simp only [Act.put, List.setIfInBounds_toArray, List.set_cons_zero, List.set_cons_succ, i64_w, i32_w]
   rfl
  refine last_ (i := 13) (N := none) #[true, true, true, true, true, true, true, true, true, true, true, true, true, true, false, false] rfl rfl (one_of HT_.out (by kernel_rfl)) (by decide) (fun K hK => ?_)
  have hs14 : w10.cell? ⟨gb459, 10, none⟩ = some (.slice A0_10 l0_10.length c0_10) := (blk_cell BK459.out 10).trans rfl
  have hfs14 := blk_frozen BK459.out 10
  have hns14_1 := NB460_459.out
  have hms14_1 := NB459_460.out
  refine skip_ (w1 := ?_) (by rfl) rfl ?_ ?_
  rotate_left
  ·go_simp
   rfl
  refine hK.out _ _ ?_
  clear hK K
  refine pure_ (i := 14) (N := some 16) (v := ?_) (a' := ?_) #[true, true, true, true, true, true, true, true, true, true, true, true, true, true, true, false] rfl rfl (any_of HT_.out (by kernel_rfl)) (fun _ _ _ h => h) (Or.inl ⟨by rfl, ?_⟩) ?_ ?_
  rotate_left
  ·intro w'
   go_simp
   with_reducible rfl
  rotate_left
  ·simp only [Act.put, List.setIfInBounds_toArray, List.set_cons_zero, List.set_cons_succ, i64_w, i32_w]
   rfl
  refine last_ (i := 15) (N := none) #[true, true, true, true, true, true, true, true, true, true, true, true, true, true, true, true] rfl rfl (one_of HT_.out (by kernel_rfl)) (by decide) (fun K hK => ?_)
  have hs16 : w10.cell? ⟨gb459, 11, none⟩ = some (.slice A0_11 l0_11.length c0_11) := (blk_cell BK459.out 11).trans rfl
  have hfs16 := blk_frozen BK459.out 11
  have hns16_1 := NB460_459.out
  have hms16_1 := NB459_460.out
  refine skip_ (w1 := ?_) (by rfl) rfl ?_ ?_
  rotate_left
  ·go_simp
   rfl
  refine hK.out _ _ ?_
  clear hK K
  refine done_ (done_of HT_.out (by kernel_rfl)) ?_
  have hnb17 := NB459_460.out
  have hnc17 := NB460_459.out
  have hcz18 := fun i_ => blk_cell BK459.out i_
  have hfz18 := fun i_ => blk_frozen BK459.out i_
  have hcz19 := fun i_ => blk_cell BK460.out i_
  have hfz19 := fun i_ => blk_frozen BK460.out i_
  try go_wp2
  refine bodyPost_ret (results_cell_row rfl _ _ gb460 52 #[.int .i64 a0_0, .int .i64 a0_1, .slice Ao11 t461.length co11, .int .i64 a0_3, .int .i64 a0_4, .int .i64 a0_5, .int .i64 a0_6, .int .i64 a0_7, .string a0_8, .int .i64 a0_9, .slice Ao13 t464.length co13, .slice Ao15 y467.length co15] (0, 0) _ rfl (by (with_reducible repeat (first | refine blk_drewN ?_ _ | refine blk_drew ?_ | refine blk_alloc ?_ _)); refine blk_put (cs := #[.int .i64 a0_0, .int .i64 a0_1, .slice Ao11 t461.length co11, .int .i64 a0_3, .int .i64 a0_4, .int .i64 a0_5, .int .i64 a0_6, .int .i64 a0_7, .string a0_8, .int .i64 a0_9, .slice Ao13 t464.length co13, .slice none 0 0]) ?_ 11 _ rfl; (with_reducible repeat (first | refine blk_drewN ?_ _ | refine blk_drew ?_ | refine blk_alloc ?_ _)); refine blk_put (cs := #[.int .i64 a0_0, .int .i64 a0_1, .slice Ao11 t461.length co11, .int .i64 a0_3, .int .i64 a0_4, .int .i64 a0_5, .int .i64 a0_6, .int .i64 a0_7, .string a0_8, .int .i64 a0_9, .slice none 0 0, .slice none 0 0]) ?_ 10 _ rfl; (with_reducible repeat (first | refine blk_drewN ?_ _ | refine blk_drew ?_ | refine blk_alloc ?_ _)); refine blk_put (cs := #[.int .i64 a0_0, .int .i64 a0_1, .slice Ao11 t461.length co11, .int .i64 a0_3, .int .i64 a0_4, .int .i64 a0_5, .int .i64 a0_6, .int .i64 a0_7, .string a0_8, .int .i64 0, .slice none 0 0, .slice none 0 0]) ?_ 9 _ rfl; (with_reducible repeat (first | refine blk_drewN ?_ _ | refine blk_drew ?_ | refine blk_alloc ?_ _)); refine blk_put (cs := #[.int .i64 a0_0, .int .i64 a0_1, .slice Ao11 t461.length co11, .int .i64 a0_3, .int .i64 a0_4, .int .i64 a0_5, .int .i64 a0_6, .int .i64 a0_7, .string (⟨#[]⟩ : ByteArray), .int .i64 0, .slice none 0 0, .slice none 0 0]) ?_ 8 _ rfl; (with_reducible repeat (first | refine blk_drewN ?_ _ | refine blk_drew ?_ | refine blk_alloc ?_ _)); refine blk_put (cs := #[.int .i64 a0_0, .int .i64 a0_1, .slice Ao11 t461.length co11, .int .i64 a0_3, .int .i64 a0_4, .int .i64 a0_5, .int .i64 a0_6, .int .i64 0, .string (⟨#[]⟩ : ByteArray), .int .i64 0, .slice none 0 0, .slice none 0 0]) ?_ 7 _ rfl; (with_reducible repeat (first | refine blk_drewN ?_ _ | refine blk_drew ?_ | refine blk_alloc ?_ _)); refine blk_put (cs := #[.int .i64 a0_0, .int .i64 a0_1, .slice Ao11 t461.length co11, .int .i64 a0_3, .int .i64 a0_4, .int .i64 a0_5, .int .i64 0, .int .i64 0, .string (⟨#[]⟩ : ByteArray), .int .i64 0, .slice none 0 0, .slice none 0 0]) ?_ 6 _ rfl; (with_reducible repeat (first | refine blk_drewN ?_ _ | refine blk_drew ?_ | refine blk_alloc ?_ _)); refine blk_put (cs := #[.int .i64 a0_0, .int .i64 a0_1, .slice Ao11 t461.length co11, .int .i64 a0_3, .int .i64 a0_4, .int .i64 0, .int .i64 0, .int .i64 0, .string (⟨#[]⟩ : ByteArray), .int .i64 0, .slice none 0 0, .slice none 0 0]) ?_ 5 _ rfl; (with_reducible repeat (first | refine blk_drewN ?_ _ | refine blk_drew ?_ | refine blk_alloc ?_ _)); refine blk_put (cs := #[.int .i64 a0_0, .int .i64 a0_1, .slice Ao11 t461.length co11, .int .i64 a0_3, .int .i64 0, .int .i64 0, .int .i64 0, .int .i64 0, .string (⟨#[]⟩ : ByteArray), .int .i64 0, .slice none 0 0, .slice none 0 0]) ?_ 4 _ rfl; (with_reducible repeat (first | refine blk_drewN ?_ _ | refine blk_drew ?_ | refine blk_alloc ?_ _)); refine blk_put (cs := #[.int .i64 a0_0, .int .i64 a0_1, .slice Ao11 t461.length co11, .int .i64 0, .int .i64 0, .int .i64 0, .int .i64 0, .int .i64 0, .string (⟨#[]⟩ : ByteArray), .int .i64 0, .slice none 0 0, .slice none 0 0]) ?_ 3 _ rfl; (with_reducible repeat (first | refine blk_drewN ?_ _ | refine blk_drew ?_ | refine blk_alloc ?_ _)); refine blk_put (cs := #[.int .i64 a0_0, .int .i64 a0_1, .slice none 0 0, .int .i64 0, .int .i64 0, .int .i64 0, .int .i64 0, .int .i64 0, .string (⟨#[]⟩ : ByteArray), .int .i64 0, .slice none 0 0, .slice none 0 0]) ?_ 2 _ rfl; (with_reducible repeat (first | refine blk_drewN ?_ _ | refine blk_drew ?_ | refine blk_alloc ?_ _)); refine blk_put (cs := #[.int .i64 a0_0, .int .i64 0, .slice none 0 0, .int .i64 0, .int .i64 0, .int .i64 0, .int .i64 0, .int .i64 0, .string (⟨#[]⟩ : ByteArray), .int .i64 0, .slice none 0 0, .slice none 0 0]) ?_ 1 _ rfl; (with_reducible repeat (first | refine blk_drewN ?_ _ | refine blk_drew ?_ | refine blk_alloc ?_ _)); refine blk_put (cs := #[.int .i64 0, .int .i64 0, .slice none 0 0, .int .i64 0, .int .i64 0, .int .i64 0, .int .i64 0, .int .i64 0, .string (⟨#[]⟩ : ByteArray), .int .i64 0, .slice none 0 0, .slice none 0 0]) ?_ 0 _ rfl; (with_reducible repeat (first | refine blk_drewN ?_ _ | refine blk_drew ?_ | refine blk_alloc ?_ _)); refine blk_far ?_ NB460_459.out _; (with_reducible repeat (first | refine blk_drewN ?_ _ | refine blk_drew ?_ | refine blk_alloc ?_ _)); refine blk_far ?_ NB460_459.out _; (with_reducible repeat (first | refine blk_drewN ?_ _ | refine blk_drew ?_ | refine blk_alloc ?_ _)); refine blk_far ?_ NB460_459.out _; (with_reducible repeat (first | refine blk_drewN ?_ _ | refine blk_drew ?_ | refine blk_alloc ?_ _)); exact BK460.out) Tryz.underlying52 rfl (by kernel_rfl)) rfl ?_
  exact ⟨_, _, _, by first | rfl | (simp [errW_none, errW_some] <;> rfl) | (simp [*, errW_none, errW_some] <;> rfl), by (with_reducible repeat (first | apply Kd.R_alloc | apply Kd.R_drewN | apply Kd.R_drew)); exact Kd.R_mono (Kd.R_far (p := ⟨gb460, 11, none⟩) (Kd.R_far (p := ⟨gb460, 10, none⟩) (Kd.R_far (p := ⟨gb460, 9, none⟩) (Kd.R_far (p := ⟨gb460, 8, none⟩) (Kd.R_far (p := ⟨gb460, 7, none⟩) (Kd.R_far (p := ⟨gb460, 6, none⟩) (Kd.R_far (p := ⟨gb460, 5, none⟩) (Kd.R_far (p := ⟨gb460, 4, none⟩) (Kd.R_far (p := ⟨gb460, 3, none⟩) (Kd.R_far (p := ⟨gb460, 2, none⟩) (Kd.R_far (p := ⟨gb460, 1, none⟩) (Kd.R_far (p := ⟨gb460, 0, none⟩) (Kd.R_far (p := ⟨gb459, 11, none⟩) (Kd.R_far (p := ⟨gb459, 10, none⟩) (Kd.R_far (p := ⟨gb459, 2, none⟩) (Kd.R_types (Kd.R_types HO463.out BK459.out (by decide)) BK460.out (by decide)) (fun _ hk => hk.1.2) (.slice Ao11 t461.length co11)) (fun _ hk => hk.1.2) (.slice Ao13 t464.length co13)) (fun _ hk => hk.1.2) (.slice Ao15 y467.length co15)) (fun _ hk => hk.2) (.int .i64 a0_0)) (fun _ hk => hk.2) (.int .i64 a0_1)) (fun _ hk => hk.2) (.slice Ao11 t461.length co11)) (fun _ hk => hk.2) (.int .i64 a0_3)) (fun _ hk => hk.2) (.int .i64 a0_4)) (fun _ hk => hk.2) (.int .i64 a0_5)) (fun _ hk => hk.2) (.int .i64 a0_6)) (fun _ hk => hk.2) (.int .i64 a0_7)) (fun _ hk => hk.2) (.string a0_8)) (fun _ hk => hk.2) (.int .i64 a0_9)) (fun _ hk => hk.2) (.slice Ao13 t464.length co13)) (fun _ hk => hk.2) (.slice Ao15 y467.length co15)) (fun _ hk => trivial), by (with_reducible repeat (first | apply Kd.R_alloc | apply Kd.R_drewN | apply Kd.R_drew)); exact Kd.R_mono (Kd.R_far (p := ⟨gb460, 11, none⟩) (Kd.R_far (p := ⟨gb460, 10, none⟩) (Kd.R_far (p := ⟨gb460, 9, none⟩) (Kd.R_far (p := ⟨gb460, 8, none⟩) (Kd.R_far (p := ⟨gb460, 7, none⟩) (Kd.R_far (p := ⟨gb460, 6, none⟩) (Kd.R_far (p := ⟨gb460, 5, none⟩) (Kd.R_far (p := ⟨gb460, 4, none⟩) (Kd.R_far (p := ⟨gb460, 3, none⟩) (Kd.R_far (p := ⟨gb460, 2, none⟩) (Kd.R_far (p := ⟨gb460, 1, none⟩) (Kd.R_far (p := ⟨gb460, 0, none⟩) (Kd.R_far (p := ⟨gb459, 11, none⟩) (Kd.R_far (p := ⟨gb459, 10, none⟩) (Kd.R_far (p := ⟨gb459, 2, none⟩) (Kd.R_types (Kd.R_types HO466.out BK459.out (by decide)) BK460.out (by decide)) (fun _ hk => hk.1.2) (.slice Ao11 t461.length co11)) (fun _ hk => hk.1.2) (.slice Ao13 t464.length co13)) (fun _ hk => hk.1.2) (.slice Ao15 y467.length co15)) (fun _ hk => hk.2) (.int .i64 a0_0)) (fun _ hk => hk.2) (.int .i64 a0_1)) (fun _ hk => hk.2) (.slice Ao11 t461.length co11)) (fun _ hk => hk.2) (.int .i64 a0_3)) (fun _ hk => hk.2) (.int .i64 a0_4)) (fun _ hk => hk.2) (.int .i64 a0_5)) (fun _ hk => hk.2) (.int .i64 a0_6)) (fun _ hk => hk.2) (.int .i64 a0_7)) (fun _ hk => hk.2) (.string a0_8)) (fun _ hk => hk.2) (.int .i64 a0_9)) (fun _ hk => hk.2) (.slice Ao13 t464.length co13)) (fun _ hk => hk.2) (.slice Ao15 y467.length co15)) (fun _ hk => trivial), by (with_reducible repeat (first | apply Kd.R_alloc | apply Kd.R_drewN | apply Kd.R_drew)); exact Kd.R_mono (Kd.R_far (p := ⟨gb460, 11, none⟩) (Kd.R_far (p := ⟨gb460, 10, none⟩) (Kd.R_far (p := ⟨gb460, 9, none⟩) (Kd.R_far (p := ⟨gb460, 8, none⟩) (Kd.R_far (p := ⟨gb460, 7, none⟩) (Kd.R_far (p := ⟨gb460, 6, none⟩) (Kd.R_far (p := ⟨gb460, 5, none⟩) (Kd.R_far (p := ⟨gb460, 4, none⟩) (Kd.R_far (p := ⟨gb460, 3, none⟩) (Kd.R_far (p := ⟨gb460, 2, none⟩) (Kd.R_far (p := ⟨gb460, 1, none⟩) (Kd.R_far (p := ⟨gb460, 0, none⟩) (Kd.R_far (p := ⟨gb459, 11, none⟩) (Kd.R_far (p := ⟨gb459, 10, none⟩) (Kd.R_far (p := ⟨gb459, 2, none⟩) (Kd.R_types (Kd.R_types HO469.out BK459.out (by decide)) BK460.out (by decide)) (fun _ hk => hk.1.2) (.slice Ao11 t461.length co11)) (fun _ hk => hk.1.2) (.slice Ao13 t464.length co13)) (fun _ hk => hk.1.2) (.slice Ao15 y467.length co15)) (fun _ hk => hk.2) (.int .i64 a0_0)) (fun _ hk => hk.2) (.int .i64 a0_1)) (fun _ hk => hk.2) (.slice Ao11 t461.length co11)) (fun _ hk => hk.2) (.int .i64 a0_3)) (fun _ hk => hk.2) (.int .i64 a0_4)) (fun _ hk => hk.2) (.int .i64 a0_5)) (fun _ hk => hk.2) (.int .i64 a0_6)) (fun _ hk => hk.2) (.int .i64 a0_7)) (fun _ hk => hk.2) (.string a0_8)) (fun _ hk => hk.2) (.int .i64 a0_9)) (fun _ hk => hk.2) (.slice Ao13 t464.length co13)) (fun _ hk => hk.2) (.slice Ao15 y467.length co15)) (fun _ hk => trivial), by with_reducible repeat (first | exact HB.out | apply below_alloc | apply pw_below_drewN | apply below_drew1 | refine below_set ?_ GE459.out | refine below_set ?_ GE460.out)⟩
 ·rw [if_neg c4] at H
  exact absurd H (by simp)
def raddlekeep_TwinOps.l0 : Nat → List (S52) → List (S52) → Int → Option ((List (S52)))
 | 0, _, _, _ => none
 | k + 1, x0, x3, x4 => if x4 < (x0.length : Int) then (if 0 ≤ x4 then ((raddlekeep_TwinOp.f ((rd_T52 x0 x4).f0.f0) ((rd_T52 x0 x4).f0.f1) ((rd_T52 x0 x4).f1) ((rd_T52 x0 x4).f2.f0) ((rd_T52 x0 x4).f2.f1) ((rd_T52 x0 x4).f2.f2) ((rd_T52 x0 x4).f3) ((rd_T52 x0 x4).f4) ((rd_T52 x0 x4).f5) ((rd_T52 x0 x4).f6) ((rd_T52 x0 x4).f7) ((rd_T52 x0 x4).f8)).bind fun bt471 => (if x3.length < 925904528653 then (raddlekeep_TwinOps.l0 k x0 (x3 ++ [(⟨(⟨bt471.1, bt471.2.1⟩ : S46), bt471.2.2.1, (⟨bt471.2.2.2.1, bt471.2.2.2.2.1, bt471.2.2.2.2.2.1⟩ : S48), bt471.2.2.2.2.2.2.1, bt471.2.2.2.2.2.2.2.1, bt471.2.2.2.2.2.2.2.2.1, bt471.2.2.2.2.2.2.2.2.2.1, bt471.2.2.2.2.2.2.2.2.2.2.1, bt471.2.2.2.2.2.2.2.2.2.2.2⟩ : S52)]) (wrap64 (x4 + 1))) else (none))) else (none)) else (some x3)
def raddlekeep_TwinOps.f (k : Nat) (l0 : List (S52)) : Option ((List (S52))) := raddlekeep_TwinOps.l0 k l0 ([] : List (S52)) 0
set_option maxHeartbeats 8000000 in
set_option maxRecDepth 100000 in
theorem raddlekeep_TwinOps.calls (k : Nat) (A0 : Option Addr) (c0 : Nat) (l0 : List (S52)) (r : List (S52)) (w : World) (hr0 : Kd.C k52 w A0 l0.length l0) (hc0 : l0.length ≤ c0) (h : raddlekeep_TwinOps.f k l0 = some r) :
  Calls Tryz.prog 22 #[.slice A0 l0.length c0] w fun e w' => ∃ v0_ : Value, e = .returned (v0_) ∧ Kd.S k52 52 w' w.heap.size (fun _ => True) v0_ r ∧ Below w.heap.size w w' := by
 have hu52 := Tryz.underlying52
 have HR0 := Aside0.mk hr0
 have HC0 := Aside0.mk hc0
 clear hr0 hc0
 have HB := Aside0.mk (Below.refl w.heap.size w)
 have H : (raddlekeep_TwinOps.l0 k l0 ([] : List (S52)) 0) = some r := h
 clear h
 have H' := Aside0.mk H
 clear H
 go_enter Tryz.func22, Tryz.ntmps22
 go_wp2
 go_loopg [3, 4] k (fun kq v3 v4 w' => ∃ (x3_1 : List (S52)) (x4_1 : Int), v4 = .int .i64 x4_1 ∧ Aside0 (raddlekeep_TwinOps.l0 kq l0 x3_1 x4_1 = some r) ∧ Aside0 (kq ≤ k) ∧ Aside0 (Kd.S k52 52 w' w.heap.size (fun _ => True) v3 x3_1) ∧ Aside0 (Below w.heap.size w w'))
 case atStart => exact ⟨(([] : List (S52))), (0), (by first | rfl | (simp; done) | (simp [*]; done)), H', ⟨Nat.le_refl _⟩, ⟨by first | exact Kd.S_nil _ _ _ _ _ | exact Kd.N_nil _ _ _ _ _ | exact Kd.V_nil _ _ _ _ _ | exact Kd.Q_nil _ _ _ _ _ | exact Kd.R_nil _ _ _ _ _⟩, ⟨by with_reducible repeat (first | exact HB.out | apply below_alloc | apply pw_below_drewN | apply below_drew1)⟩⟩
 case round =>
  clear H'
  obtain ⟨x3_1, x4_1, rfl, HA, HK1, HO_3, HB⟩ := hrel
  cases gk with
  | zero => exact absurd HA.out (by simp [raddlekeep_TwinOps.l0])
  | succ k1 =>
   have H := HA.out
   clear HA
   simp only [raddlekeep_TwinOps.l0] at H
   by_cases c2 : x4_1 < (l0.length : Int)
   ·rw [if_pos c2] at H
    have c2b0 : decide (x4_1 < (l0.length : Int)) = true := decide_eq_true c2
    clear c2
    by_cases c3 : 0 ≤ x4_1
    ·rw [if_pos c3] at H
     have c3b0 : decide (0 ≤ x4_1) = true := decide_eq_true c3
     clear c3
     replace H := Option.bind_eq_some_iff.mp H
     obtain ⟨⟨t471, t472, t473, t476, t477, t478, t479, t480, t481, t482, t483, t486⟩, A40, H⟩ := H
     try dsimp only at H
     have A4 := Aside0.mk A40
     clear A40
     by_cases c5 : x3_1.length < 925904528653
     ·rw [if_pos c5] at H
      have LMc5 := Aside0.mk c5
      clear c5
      obtain ⟨y489, hy489⟩ : ∃ y_ : List (S52), y_ = (x3_1 ++ [(⟨(⟨t471, t472⟩ : S46), t473, (⟨t476, t477, t478⟩ : S48), t479, t480, t481, t482, t483, t486⟩ : S52)]) := ⟨_, rfl⟩
      replace H : (raddlekeep_TwinOps.l0 k1 l0 y489 (wrap64 (x4_1 + 1))) = some r := by first | (rw [hy489]; with_reducible exact H) | (have H2_ := (Option.bind_some _ _).symm.trans H; rw [hy489]; with_reducible exact H2_) | (have H2_ := (Option.bind_some _ _).symm.trans H; with_reducible exact H2_) | with_reducible exact H | (rw [hy489]; exact H) | exact H
      have Ny489 := Aside0.mk hy489
      clear hy489
      have H' := Aside0.mk H
      clear H
      have p470 : 0 ≤ (x4_1 : Int) := of_decide_eq_true (by first | (with_reducible assumption) | assumption)
      have q470 : x4_1 < (l0.length : Int) := of_decide_eq_true (by first | (with_reducible assumption) | assumption)
      obtain ⟨ad470, A470_2, c470_2, A470_10, c470_10, A470_11, c470_11, e470, hx470_0, hx470_1, hx470_2, hx470_3, hx470_4, hx470_5, hx470_6, hx470_7, hx470_8, hx470_9, hx470_10, hx470_11, hl470_2, hi470_2, hl470_10, hi470_10, hl470_11, hi470_11⟩ := at_T52 HR0.out x4_1 p470 q470
      cases e470
      replace hx470_0 := (HB.out.cell (World.block_lt_of_cell? w _ hx470_0)).trans hx470_0
      replace hx470_1 := (HB.out.cell (World.block_lt_of_cell? w _ hx470_1)).trans hx470_1
      replace hx470_2 := (HB.out.cell (World.block_lt_of_cell? w _ hx470_2)).trans hx470_2
      replace hx470_3 := (HB.out.cell (World.block_lt_of_cell? w _ hx470_3)).trans hx470_3
      replace hx470_4 := (HB.out.cell (World.block_lt_of_cell? w _ hx470_4)).trans hx470_4
      replace hx470_5 := (HB.out.cell (World.block_lt_of_cell? w _ hx470_5)).trans hx470_5
      replace hx470_6 := (HB.out.cell (World.block_lt_of_cell? w _ hx470_6)).trans hx470_6
      replace hx470_7 := (HB.out.cell (World.block_lt_of_cell? w _ hx470_7)).trans hx470_7
      replace hx470_8 := (HB.out.cell (World.block_lt_of_cell? w _ hx470_8)).trans hx470_8
      replace hx470_9 := (HB.out.cell (World.block_lt_of_cell? w _ hx470_9)).trans hx470_9
      replace hx470_10 := (HB.out.cell (World.block_lt_of_cell? w _ hx470_10)).trans hx470_10
      replace hx470_11 := (HB.out.cell (World.block_lt_of_cell? w _ hx470_11)).trans hx470_11
      have HR470_2 := Aside0.mk hi470_2
      have HC470_2 := Aside0.mk hl470_2
      clear hi470_2 hl470_2
      have HR470_10 := Aside0.mk hi470_10
      have HC470_10 := Aside0.mk hl470_10
      clear hi470_10 hl470_10
      have HR470_11 := Aside0.mk hi470_11
      have HC470_11 := Aside0.mk hl470_11
      clear hi470_11 hl470_11
      replace p470 := eq_true p470
      replace q470 := eq_true q470
      go_wp2_with (first | ((with_reducible refine gate_callee (f := 52) rfl ?_); refine goesL_ (some 16) rfl rfl Tryz.func52 (by kernel_rfl) rfl #[.agg #[.int .i64 ((rd_T52 l0 x4_1).f0.f0), .int .i64 ((rd_T52 l0 x4_1).f0.f1), .slice A470_2 ((rd_T52 l0 x4_1).f1).length c470_2, .int .i64 ((rd_T52 l0 x4_1).f2.f0), .int .i64 ((rd_T52 l0 x4_1).f2.f1), .int .i64 ((rd_T52 l0 x4_1).f2.f2), .int .i64 ((rd_T52 l0 x4_1).f3), .int .i64 ((rd_T52 l0 x4_1).f4), .string ((rd_T52 l0 x4_1).f5), .int .i64 ((rd_T52 l0 x4_1).f6), .slice A470_10 ((rd_T52 l0 x4_1).f7).length c470_10, .slice A470_11 ((rd_T52 l0 x4_1).f8).length c470_11]] rfl (by (try simp only [List.map_toArray, List.map_cons, List.map_nil]); first | done | rfl | (simp only [List.length_drop, List.length_take]; rfl)) ?_; (with_reducible refine (raddlekeep_TwinOp.calls ((rd_T52 l0 x4_1).f0.f0) ((rd_T52 l0 x4_1).f0.f1) _ _ ((rd_T52 l0 x4_1).f1) ((rd_T52 l0 x4_1).f2.f0) ((rd_T52 l0 x4_1).f2.f1) ((rd_T52 l0 x4_1).f2.f2) ((rd_T52 l0 x4_1).f3) ((rd_T52 l0 x4_1).f4) ((rd_T52 l0 x4_1).f5) ((rd_T52 l0 x4_1).f6) _ _ ((rd_T52 l0 x4_1).f7) _ _ ((rd_T52 l0 x4_1).f8) t471 t472 t473 t476 t477 t478 t479 t480 t481 t482 t483 t486 _ ?side1 ?side2 ?side3 ?side4 ?side5 ?side6 A4.out).mono ?_); (case side1 => repeat (first | exact (Kd.C_below HR470_2.out HB.out) | (with_reducible refine Kd.C_alloc ?_ _) | (with_reducible refine Kd.C_drewN ?_ _) | (with_reducible refine Kd.C_drew ?_))); (case side2 => exact HC470_2.out); (case side3 => repeat (first | exact (Kd.C_below HR470_10.out HB.out) | (with_reducible refine Kd.C_alloc ?_ _) | (with_reducible refine Kd.C_drewN ?_ _) | (with_reducible refine Kd.C_drew ?_))); (case side4 => exact HC470_10.out); (case side5 => repeat (first | exact (Kd.C_below HR470_11.out HB.out) | (with_reducible refine Kd.C_alloc ?_ _) | (with_reducible refine Kd.C_drewN ?_ _) | (with_reducible refine Kd.C_drew ?_))); (case side6 => exact HC470_11.out); rintro e w6 ⟨v474, v484, v487, rfl, ho0, ho1, ho2, hb⟩; refine ⟨_, rfl, ?_⟩; have n0_ := Aside0.mk (Kd.S_mono (Kd.S_told (Kd.S_told (Kd.S_told (Kd.S_old (by (with_reducible repeat (first | apply Kd.S_alloc | apply Kd.S_drewN | apply Kd.S_drew)); exact HO_3.out) hb) (Kd.R_base ho0)) (Kd.R_base ho1)) (Kd.R_base ho2)) (fun _ h_ => h_.1)); have n1_ := Aside0.mk (Kd.R_lower ho0 (below_size (by with_reducible repeat (first | exact HB.out | apply below_alloc | apply pw_below_drewN | apply below_drew1)))); have n2_ := Aside0.mk (Kd.R_lower ho1 (below_size (by with_reducible repeat (first | exact HB.out | apply below_alloc | apply pw_below_drewN | apply below_drew1)))); have n3_ := Aside0.mk (Kd.R_lower ho2 (below_size (by with_reducible repeat (first | exact HB.out | apply below_alloc | apply pw_below_drewN | apply below_drew1)))); have n4_ := Aside0.mk (below_step (by with_reducible repeat (first | exact HB.out | apply below_alloc | apply pw_below_drewN | apply below_drew1)) hb); clear HO_3; clear HB; have HO_3 := n0_; have HO475 := n1_; have HO485 := n2_; have HO488 := n3_; have HB := n4_; clear n0_ n1_ n2_ n3_ n4_; (try clear hb); (try clear hb2); (try clear hk); (try clear hi); (try clear ho0); (try clear ho1); (try clear ho2); obtain ⟨Ao8, co8, eo8⟩ := Kd.R_slice HO475.out; subst eo8; obtain ⟨Ao9, co9, eo9⟩ := Kd.R_slice HO485.out; subst eo9; obtain ⟨Ao10, co10, eo10⟩ := Kd.R_slice HO488.out; subst eo10) | ((with_reducible refine gate_builtin (b := .append) (xs := #[.tmp 11, .tmp 17]) rfl ?_); at_builtin; refine Kd.S_append k52 (w0 := w) w.heap.size rfl (.tmp 11) (.tmp 17) 24 52 (.agg #[(.int .i64 0), (.int .i64 0), (.slice none 0 0), (.int .i64 0), (.int .i64 0), (.int .i64 0), (.int .i64 0), (.int .i64 0), (.string ⟨#[]⟩), (.int .i64 0), (.slice none 0 0), (.slice none 0 0)]) 152 rfl Tryz.underlying24 info52 rfl (by decide) (by omega) u3 x3_1 (⟨(⟨t471, t472⟩ : S46), t473, (⟨t476, t477, t478⟩ : S48), t479, t480, t481, t482, t483, t486⟩ : S52) [.int .i64 t471, .int .i64 t472, .slice Ao8 t473.length co8, .int .i64 t476, .int .i64 t477, .int .i64 t478, .int .i64 t479, .int .i64 t480, .string t481, .int .i64 t482, .slice Ao9 t483.length co9, .slice Ao10 t486.length co10] (fun _ => True) (fun k_ => some k_ = (.slice Ao8 t473.length co8 : Value).ownBlock ∨ some k_ = (.slice Ao9 t483.length co9 : Value).ownBlock ∨ some k_ = (.slice Ao10 t486.length co10 : Value).ownBlock) rfl rfl ?aP (fun k_ hk_ => hk_.elim (fun h_ => ((Kd.R_mono (ok' := fun k_ => ((fun _ => True)) k_ ∧ some k_ ≠ (u3 : Value).ownBlock) (Kd.R_apart' (HO475.out) (Kd.S_typed HO_3.out) (by decide)) (fun k_ hk => ⟨trivial, hk.2⟩))).1 k_ h_.symm) (fun h_ => h_.elim (fun h_ => ((Kd.R_mono (ok' := fun k_ => ((fun _ => True)) k_ ∧ some k_ ≠ (u3 : Value).ownBlock) (Kd.R_apart' (HO485.out) (Kd.S_typed HO_3.out) (by decide)) (fun k_ hk => ⟨trivial, hk.2⟩))).1 k_ h_.symm) (fun h_ => ((Kd.R_mono (ok' := fun k_ => ((fun _ => True)) k_ ∧ some k_ ≠ (u3 : Value).ownBlock) (Kd.R_apart' (HO488.out) (Kd.S_typed HO_3.out) (by decide)) (fun k_ hk => ⟨trivial, hk.2⟩))).1 k_ h_.symm))) ?aF ?aO ?aB ?aS ?aL ?_; (case aP => exact k52_mkM _ _ _ (⟨(⟨t471, t472⟩ : S46), t473, (⟨t476, t477, t478⟩ : S48), t479, t480, t481, t482, t483, t486⟩ : S52) (Kd.R_mono (Kd.R_tight rfl (Kd.R_mono (ok' := fun k_ => ((fun _ => True)) k_ ∧ some k_ ≠ (u3 : Value).ownBlock) (Kd.R_apart' (HO475.out) (Kd.S_typed HO_3.out) (by decide)) (fun k_ hk => ⟨trivial, hk.2⟩))) (fun _ h_ => Or.inl h_)) (Kd.R_mono (Kd.R_tight rfl (Kd.R_mono (ok' := fun k_ => ((fun _ => True)) k_ ∧ some k_ ≠ (u3 : Value).ownBlock) (Kd.R_apart' (HO485.out) (Kd.S_typed HO_3.out) (by decide)) (fun k_ hk => ⟨trivial, hk.2⟩))) (fun _ h_ => Or.inr (Or.inl h_))) (Kd.R_mono (Kd.R_tight rfl (Kd.R_mono (ok' := fun k_ => ((fun _ => True)) k_ ∧ some k_ ≠ (u3 : Value).ownBlock) (Kd.R_apart' (HO488.out) (Kd.S_typed HO_3.out) (by decide)) (fun k_ hk => ⟨trivial, hk.2⟩))) (fun _ h_ => Or.inr (Or.inr (h_))))); (case aB => exact (by with_reducible repeat (first | exact HB.out | apply below_alloc | apply pw_below_drewN | apply below_drew1))); (case aF => exact (fun _ _ => trivial)); (case aO => exact (by (with_reducible repeat (first | apply Kd.S_alloc | apply Kd.S_drewN | apply Kd.S_drew)); exact Kd.S_mono HO_3.out (fun k_ hk => ⟨trivial, fun e_ => e_.elim (fun h_ => hk.1.1.2 h_) (fun h_ => h_.elim (fun h_ => hk.1.2 h_) (fun h_ => hk.2 h_))⟩))); (case aS => exact (below_size (by with_reducible repeat (first | exact HB.out | apply below_alloc | apply pw_below_drewN | apply below_drew1)))); (case aL => have := LMc5.out; omega); intro v490 w7 ho hb hg hat; rw [← Ny489.out] at ho; have n0_ := Aside0.mk (hb); have n1_ := Aside0.mk (ho); clear HB; clear HO_3; clear HO475; clear HO485; clear HO488; have HB := n0_; have HO491 := n1_; clear n0_ n1_; clear ho hb hg hat))
      go_roundg k1
      case measure => have := HK1.out; omega
      case rel => exact ⟨(y489), (wrap64 (x4_1 + 1)), (by first | rfl | (simp; done) | (simp [*]; done)), H', ⟨by have := HK1.out; omega⟩, ⟨by (with_reducible repeat (first | apply Kd.S_alloc | apply Kd.S_drewN | apply Kd.S_drew)); exact HO491.out⟩, ⟨by with_reducible repeat (first | exact HB.out | apply below_alloc | apply pw_below_drewN | apply below_drew1)⟩⟩
     ·rw [if_neg c5] at H
      exact absurd H (by simp)
    ·rw [if_neg c3] at H
     exact absurd H (by simp)
   ·rw [if_neg c2] at H
    have c2b0 : decide (x4_1 < (l0.length : Int)) = false := decide_eq_false c2
    clear c2
    obtain rfl := Option.some.inj H
    go_wp2
    go_ret
    exact ⟨_, by first | rfl | (simp [errW_none, errW_some] <;> rfl) | (simp [*, errW_none, errW_some] <;> rfl), by (with_reducible repeat (first | apply Kd.S_alloc | apply Kd.S_drewN | apply Kd.S_drew)); exact HO_3.out, by with_reducible repeat (first | exact HB.out | apply below_alloc | apply pw_below_drewN | apply below_drew1)⟩
def raddlekeep_TwinMsg.f (k : Nat) (a0_0 : Int) (a0_1 : Int) (a0_2 : Int) (l0_3 : List Int) (l0_4 : List Int) (l0_5 : List (S52)) : Option (Int × Int × Int × List Int × List Int × (List (S52))) := (raddlekeep_TwinInts.f l0_3).bind fun t494 => ((raddlekeep_TwinInts.f l0_4).bind fun t497 => ((raddlekeep_TwinOps.f k l0_5).bind fun t500 => (some (a0_0, a0_1, a0_2, t494, t497, t500))))
def raddlekeep_TwinMsg.T1 : Bool × List (List Nat × List Nat) := (true, [([], []), ([0], [0]), ([1], [1]), ([], []), ([3], [3]), ([4, 2], [4]), ([], []), ([6], [6]), ([7, 5], [7]), ([0, 1, 2, 3, 4, 6, 7], []), ([9, 2, 8, 0, 1, 2, 3, 4, 6, 7], [2, 9]), ([0, 1, 2, 3, 4, 5, 6, 7, 9, 10], []), ([11, 5, 10, 0, 1, 2, 3, 4, 5, 6, 7, 9, 10], [5, 11]), ([0, 1, 2, 3, 4, 5, 6, 7, 8, 9, 10, 11, 12], []), ([13, 8, 12, 0, 1, 2, 3, 4, 5, 6, 7, 8, 9, 10, 11, 12], [8, 13])])
def raddlekeep_TwinMsg.B1 : List Nat := [0, 1, 3, 0, 8, 31, 0, 64, 255, 223, 1023, 2047, 4095, 8191, 16383]
theorem raddlekeep_TwinMsg.tab1 : rtab .any (opsOf Tryz.f8 1) = raddlekeep_TwinMsg.T1 := by kernel_rfl
theorem raddlekeep_TwinMsg.bits1 : waitsOk raddlekeep_TwinMsg.T1.2 raddlekeep_TwinMsg.B1 = true := by kernel_rfl
set_option maxHeartbeats 8000000 in
set_option maxRecDepth 100000 in
theorem raddlekeep_TwinMsg.calls (k : Nat) (a0_0 : Int) (a0_1 : Int) (a0_2 : Int) (A0_3 : Option Addr) (c0_3 : Nat) (l0_3 : List Int) (A0_4 : Option Addr) (c0_4 : Nat) (l0_4 : List Int) (A0_5 : Option Addr) (c0_5 : Nat) (l0_5 : List (S52)) (r1 : Int) (r2 : Int) (r3 : Int) (r4 : List Int) (r5 : List Int) (r6 : List (S52)) (w : World) (hr0_3 : Kd.C (Kd.int .i64) w A0_3 l0_3.length l0_3) (hc0_3 : l0_3.length ≤ c0_3) (hr0_4 : Kd.C (Kd.int .i64) w A0_4 l0_4.length l0_4) (hc0_4 : l0_4.length ≤ c0_4) (hr0_5 : Kd.C k52 w A0_5 l0_5.length l0_5) (hc0_5 : l0_5.length ≤ c0_5) (h : raddlekeep_TwinMsg.f k a0_0 a0_1 a0_2 l0_3 l0_4 l0_5 = some (r1, r2, r3, r4, r5, r6)) :
  Calls Tryz.prog 8 #[.agg #[.int .i64 a0_0, .int .i64 a0_1, .int .i64 a0_2, .slice A0_3 l0_3.length c0_3, .slice A0_4 l0_4.length c0_4, .slice A0_5 l0_5.length c0_5]] w fun e w' => ∃ v3_ v4_ v5_ : Value, e = .returned (.agg #[.int .i64 r1, .int .i64 r2, .int .i64 r3, v3_, v4_, v5_]) ∧ Kd.R (Kd.int .i64) 3 w' w.heap.size (fun k_ => some k_ ≠ (v4_ : Value).ownBlock) v3_ r4 ∧ Kd.R (Kd.int .i64) 3 w' w.heap.size (fun k_ => some k_ ≠ (v3_ : Value).ownBlock) v4_ r5 ∧ Kd.S k52 52 w' w.heap.size (fun k_ => some k_ ≠ (v3_ : Value).ownBlock ∧ some k_ ≠ (v4_ : Value).ownBlock) v5_ r6 ∧ Below w.heap.size w w' := by
 have hu26 := Tryz.underlying26
 have HR0_3 := Aside0.mk hr0_3
 have HC0_3 := Aside0.mk hc0_3
 clear hr0_3 hc0_3
 have HR0_4 := Aside0.mk hr0_4
 have HC0_4 := Aside0.mk hc0_4
 clear hr0_4 hc0_4
 have HR0_5 := Aside0.mk hr0_5
 have HC0_5 := Aside0.mk hc0_5
 clear hr0_5 hc0_5
 have HB := Aside0.mk (Below.refl w.heap.size w)
 have H : ((raddlekeep_TwinInts.f l0_3).bind fun t494 => ((raddlekeep_TwinInts.f l0_4).bind fun t497 => ((raddlekeep_TwinOps.f k l0_5).bind fun t500 => (some (a0_0, a0_1, a0_2, t494, t497, t500))))) = some (r1, r2, r3, r4, r5, r6) := h
 clear h
 replace H := Option.bind_eq_some_iff.mp H
 obtain ⟨t494, A20, H⟩ := H
 try dsimp only at H
 have A2 := Aside0.mk A20
 clear A20
 replace H := Option.bind_eq_some_iff.mp H
 obtain ⟨t497, A30, H⟩ := H
 try dsimp only at H
 have A3 := Aside0.mk A30
 clear A30
 replace H := Option.bind_eq_some_iff.mp H
 obtain ⟨t500, A40, H⟩ := H
 try dsimp only at H
 have A4 := Aside0.mk A40
 clear A40
 simp only [Option.some.injEq, Prod.mk.injEq] at H
 obtain ⟨rfl, rfl, rfl, rfl, rfl, rfl⟩ := H
 go_enter Tryz.func8, Tryz.ntmps8
 try go_wp2_with (first | ((with_reducible refine gate_dst (N := 1) rfl ?_); refine box_event ?hg (N := 1) ?hd (cs := #[.int .i64 a0_0, .int .i64 a0_1, .int .i64 a0_2, .slice A0_3 l0_3.length c0_3, .slice A0_4 l0_4.length c0_4, .slice A0_5 l0_5.length c0_5]) (t := 26) ?hr ?_; (case hd => rfl); (case hg => rfl); (case hr => first | (go_simp; done) | (go_simp; rfl)); intro gb492 hg w5 hbox hb; have n0_ := Aside0.mk (below_step (by with_reducible repeat (first | exact HB.out | apply below_alloc | apply pw_below_drewN | apply below_drew1)) hb); have n1_ := Aside0.mk (hbox); have n2_ := Aside0.mk ((by rw [hg]; exact (below_size (by with_reducible repeat (first | exact HB.out | apply below_alloc | apply pw_below_drewN | apply below_drew1))) : w.heap.size ≤ gb492)); have n3_ := Aside0.mk ((by rw [hg]; exact (below_size (by with_reducible repeat (first | exact HB.out | apply below_alloc | apply pw_below_drewN | apply below_drew1))) : w.heap.size ≤ gb492)); clear HB; have HB := n0_; have BK492 := n1_; have GW492 := n2_; have GE492 := n3_; clear n0_ n1_ n2_ n3_; clear hb hbox hg) | ((with_reducible refine gate_dst (N := 2) rfl ?_); refine box_event ?hg (N := 2) ?hd (cs := #[.int .i64 0, .int .i64 0, .int .i64 0, .slice none 0 0, .slice none 0 0, .slice none 0 0]) (t := 26) ?hr ?_; (case hd => rfl); (case hg => rfl); (case hr => first | (go_simp; done) | (go_simp; rfl)); intro gb493 hg w6 hbox hb; have n0_ := Aside0.mk (blk_below (g := gb492) (o := .cells #[.int .i64 a0_0, .int .i64 a0_1, .int .i64 a0_2, .slice A0_3 l0_3.length c0_3, .slice A0_4 l0_4.length c0_4, .slice A0_5 l0_5.length c0_5] 26 (0, 0)) (by (with_reducible repeat (first | refine blk_drewN ?_ _ | refine blk_drew ?_ | refine blk_alloc ?_ _)); exact BK492.out) hb); have n1_ := Aside0.mk (below_step (by with_reducible repeat (first | exact HB.out | apply below_alloc | apply pw_below_drewN | apply below_drew1 | refine below_set ?_ GE492.out)) hb); have n2_ := Aside0.mk (hbox); have n3_ := Aside0.mk ((by rw [hg]; exact (below_size (by with_reducible repeat (first | exact HB.out | apply below_alloc | apply pw_below_drewN | apply below_drew1 | refine below_set ?_ GE492.out))) : w.heap.size ≤ gb493)); have n4_ := Aside0.mk ((by rw [hg]; exact (below_size (by with_reducible repeat (first | exact HB.out | apply below_alloc | apply pw_below_drewN | apply below_drew1 | refine below_set ?_ GE492.out))) : w.heap.size ≤ gb493)); have n5_ := Aside0.mk ((by rw [hg]; exact Nat.ne_of_lt (blk_lt (g := gb492) (o := .cells #[.int .i64 a0_0, .int .i64 a0_1, .int .i64 a0_2, .slice A0_3 l0_3.length c0_3, .slice A0_4 l0_4.length c0_4, .slice A0_5 l0_5.length c0_5] 26 (0, 0)) (by (with_reducible repeat (first | refine blk_drewN ?_ _ | refine blk_drew ?_ | refine blk_alloc ?_ _)); exact BK492.out)) : gb492 ≠ gb493)); have n6_ := Aside0.mk ((by rw [hg]; exact Nat.ne_of_gt (blk_lt (g := gb492) (o := .cells #[.int .i64 a0_0, .int .i64 a0_1, .int .i64 a0_2, .slice A0_3 l0_3.length c0_3, .slice A0_4 l0_4.length c0_4, .slice A0_5 l0_5.length c0_5] 26 (0, 0)) (by (with_reducible repeat (first | refine blk_drewN ?_ _ | refine blk_drew ?_ | refine blk_alloc ?_ _)); exact BK492.out)) : gb493 ≠ gb492)); clear BK492; clear HB; have BK492 := n0_; have HB := n1_; have BK493 := n2_; have GW493 := n3_; have GE493 := n4_; have NB492_493 := n5_; have NB493_492 := n6_; clear n0_ n1_ n2_ n3_ n4_ n5_ n6_; clear hb hbox hg))
 have n0_ := Aside0.mk (blk_drew BK492.out)
 have n1_ := Aside0.mk (blk_drew BK493.out)
 have n2_ := Aside0.mk (below_drew1 HB.out)
 clear BK492
 clear BK493
 clear HB
 have BK492 := n0_
 have BK493 := n1_
 have HB := n2_
 clear n0_ n1_ n2_
 refine start_ (n := 15) (S := fun w' => w'.cell? ⟨gb492, 0, none⟩ = some (.int .i64 a0_0) ∧ w'.cell? ⟨gb492, 1, none⟩ = some (.int .i64 a0_1) ∧ w'.cell? ⟨gb492, 2, none⟩ = some (.int .i64 a0_2) ∧ w'.cell? ⟨gb492, 3, none⟩ = some (.slice A0_3 l0_3.length c0_3) ∧ w'.cell? ⟨gb492, 4, none⟩ = some (.slice A0_4 l0_4.length c0_4) ∧ w'.cell? ⟨gb492, 5, none⟩ = some (.slice A0_5 l0_5.length c0_5)) (ds := [10, 12, 14]) #[false, false, false, false, false, false, false, false, false, false, false, false, false, false, false] (by kernel_rfl) rfl rfl ⟨(blk_cell BK492.out 0).trans rfl, (blk_cell BK492.out 1).trans rfl, (blk_cell BK492.out 2).trans rfl, (blk_cell BK492.out 3).trans rfl, (blk_cell BK492.out 4).trans rfl, (blk_cell BK492.out 5).trans rfl⟩ (fun hHeld => ?_); refine with_tabW raddlekeep_TwinMsg.tab1 raddlekeep_TwinMsg.bits1 (fun HT_ HW_ => ?_)
 generalize w6.drew = w7 at BK492 BK493 HB hHeld ⊢
 refine pure_ (i := 0) (N := some 3) (v := ?_) (a' := ?_) #[true, false, false, false, false, false, false, false, false, false, false, false, false, false, false] rfl rfl (any_of HT_.out (by kernel_rfl)) (fun _ _ _ h => h) (Or.inl ⟨by rfl, ?_⟩) ?_ ?_
 rotate_left
 ·intro w'
  go_simp
  with_reducible rfl
 rotate_left
 ·simp only [Act.put, List.setIfInBounds_toArray, List.set_cons_zero, List.set_cons_succ, i64_w, i32_w]
  rfl
 refine pure_ (i := 3) (N := some 6) (v := ?_) (a' := ?_) #[true, false, false, true, false, false, false, false, false, false, false, false, false, false, false] rfl rfl (any_of HT_.out (by kernel_rfl)) (fun _ _ _ h => h) (Or.inl ⟨by rfl, ?_⟩) ?_ ?_
 rotate_left
 ·intro w'
  go_simp
  with_reducible rfl
 rotate_left
 ·simp only [Act.put, List.setIfInBounds_toArray, List.set_cons_zero, List.set_cons_succ, i64_w, i32_w]
  rfl
 refine pure_ (i := 6) (N := some 9) (v := ?_) (a' := ?_) #[true, false, false, true, false, false, true, false, false, false, false, false, false, false, false] rfl rfl (any_of HT_.out (by kernel_rfl)) (fun _ _ _ h => h) (Or.inl ⟨by rfl, ?_⟩) ?_ ?_
 rotate_left
 ·intro w'
  go_simp
  with_reducible rfl
 rotate_left
 ·simp only [Act.put, List.setIfInBounds_toArray, List.set_cons_zero, List.set_cons_succ, i64_w, i32_w]
  rfl
 refine take_ (i := 1) (N := some 4) (v := ?_) (a' := ?_) #[true, true, false, true, false, false, true, false, false, false, false, false, false, false, false] rfl rfl (take_ofW HT_.out HW_.out (by kernel_rfl)) (fun _ _ _ h => h) (Or.inl ⟨by rfl, ?_⟩) hHeld ?_ ?_
 rotate_left
 ·rintro w' ⟨s0, s1, s2, s3, s4, s5⟩
  go_simp
  with_reducible rfl
 rotate_left
 ·simp only [Act.put, List.setIfInBounds_toArray, List.set_cons_zero, List.set_cons_succ, i64_w, i32_w]
  rfl
 refine take_ (i := 4) (N := some 7) (v := ?_) (a' := ?_) #[true, true, false, true, true, false, true, false, false, false, false, false, false, false, false] rfl rfl (take_ofW HT_.out HW_.out (by kernel_rfl)) (fun _ _ _ h => h) (Or.inl ⟨by rfl, ?_⟩) hHeld ?_ ?_
 rotate_left
 ·rintro w' ⟨s0, s1, s2, s3, s4, s5⟩
  go_simp
  with_reducible rfl
 rotate_left
 ·simp only [Act.put, List.setIfInBounds_toArray, List.set_cons_zero, List.set_cons_succ, i64_w, i32_w]
  rfl
 refine take_ (i := 7) (N := some 10) (v := ?_) (a' := ?_) #[true, true, false, true, true, false, true, true, false, false, false, false, false, false, false] rfl rfl (take_ofW HT_.out HW_.out (by kernel_rfl)) (fun _ _ _ h => h) (Or.inl ⟨by rfl, ?_⟩) hHeld ?_ ?_
 rotate_left
 ·rintro w' ⟨s0, s1, s2, s3, s4, s5⟩
  go_simp
  with_reducible rfl
 rotate_left
 ·simp only [Act.put, List.setIfInBounds_toArray, List.set_cons_zero, List.set_cons_succ, i64_w, i32_w]
  rfl
 refine one_ (i := 2) (N := some 5) #[true, true, true, true, true, false, true, true, false, false, false, false, false, false, false] rfl rfl (one_of HT_.out (by kernel_rfl)) (by decide) (fun K hK => ?_)
 refine goes_ Tryz.func21 (by kernel_rfl) rfl #[.slice A0_3 l0_3.length c0_3] (by rfl) rfl rfl (by (try simp only [List.map_toArray, List.map_cons, List.map_nil]); first | done | rfl | (simp only [List.length_drop, List.length_take]; rfl)) ?_
 with_reducible refine (raddlekeep_TwinInts.calls _ _ l0_3 t494 _ ?side1 ?side2 A2.out).mono ?_
 (case side1 => repeat (first | exact (Kd.C_below HR0_3.out HB.out) | (with_reducible refine Kd.C_alloc ?_ _) | (with_reducible refine Kd.C_drewN ?_ _) | (with_reducible refine Kd.C_drew ?_)))
 (case side2 => exact HC0_3.out)
 rintro e w8 ⟨v495, rfl, ho0, hb⟩
 refine ⟨_, rfl, ?_⟩
 have n0_ := Aside0.mk (Kd.R_lower ho0 (below_size (by with_reducible repeat (first | exact HB.out | apply below_alloc | apply pw_below_drewN | apply below_drew1 | refine below_set ?_ GE492.out | refine below_set ?_ GE493.out))))
 have n1_ := Aside0.mk (blk_below (g := gb492) (o := .cells #[.int .i64 a0_0, .int .i64 a0_1, .int .i64 a0_2, .slice A0_3 l0_3.length c0_3, .slice A0_4 l0_4.length c0_4, .slice A0_5 l0_5.length c0_5] 26 (0, 0)) (by (with_reducible repeat (first | refine blk_drewN ?_ _ | refine blk_drew ?_ | refine blk_alloc ?_ _)); exact BK492.out) hb)
 have n2_ := Aside0.mk (blk_below (g := gb493) (o := .cells #[.int .i64 0, .int .i64 0, .int .i64 0, .slice none 0 0, .slice none 0 0, .slice none 0 0] 26 (0, 0)) (by (with_reducible repeat (first | refine blk_drewN ?_ _ | refine blk_drew ?_ | refine blk_alloc ?_ _)); exact BK493.out) hb)
 have n3_ := Aside0.mk (below_step (by with_reducible repeat (first | exact HB.out | apply below_alloc | apply pw_below_drewN | apply below_drew1 | refine below_set ?_ GE492.out | refine below_set ?_ GE493.out)) hb)
 clear BK492
 clear BK493
 clear HB
 have HO496 := n0_
 have BK492 := n1_
 have BK493 := n2_
 have HB := n3_
 clear n0_ n1_ n2_ n3_
 (try clear hb)
 (try clear hb2)
 (try clear hk)
 (try clear hi)
 (try clear ho0)
 refine hK.out _ _ ⟨(blk_cell BK492.out 0).trans rfl, (blk_cell BK492.out 1).trans rfl, (blk_cell BK492.out 2).trans rfl, (blk_cell BK492.out 3).trans rfl, (blk_cell BK492.out 4).trans rfl, (blk_cell BK492.out 5).trans rfl⟩ (fun hHeld => ?_)
 clear hK K
 refine norm_ (a' := ?_) ?_ ?_
 rotate_left
 ·show Act.put _ (some 5) _ = _
  simp only [Act.put, List.setIfInBounds_toArray, List.set_cons_zero, List.set_cons_succ, i64_w, i32_w]
  rfl
 refine pure_ (i := 9) (N := some 12) (v := ?_) (a' := ?_) #[true, true, true, true, true, false, true, true, false, true, false, false, false, false, false] rfl rfl (any_of HT_.out (by kernel_rfl)) (fun _ _ _ h => h) (Or.inl ⟨by rfl, ?_⟩) ?_ ?_
 rotate_left
 ·intro w'
  go_simp
  with_reducible rfl
 rotate_left
 ·simp only [Act.put, List.setIfInBounds_toArray, List.set_cons_zero, List.set_cons_succ, i64_w, i32_w]
  rfl
 refine one_ (i := 5) (N := some 8) #[true, true, true, true, true, true, true, true, false, true, false, false, false, false, false] rfl rfl (one_of HT_.out (by kernel_rfl)) (by decide) (fun K hK => ?_)
 refine goes_ Tryz.func21 (by kernel_rfl) rfl #[.slice A0_4 l0_4.length c0_4] (by rfl) rfl rfl (by (try simp only [List.map_toArray, List.map_cons, List.map_nil]); first | done | rfl | (simp only [List.length_drop, List.length_take]; rfl)) ?_
 with_reducible refine (raddlekeep_TwinInts.calls _ _ l0_4 t497 _ ?side1 ?side2 A3.out).mono ?_
 (case side1 => repeat (first | exact (Kd.C_below HR0_4.out HB.out) | (with_reducible refine Kd.C_alloc ?_ _) | (with_reducible refine Kd.C_drewN ?_ _) | (with_reducible refine Kd.C_drew ?_)))
 (case side2 => exact HC0_4.out)
 rintro e w9 ⟨v498, rfl, ho0, hb⟩
 refine ⟨_, rfl, ?_⟩
 have n0_ := Aside0.mk (Kd.R_elder' (by (with_reducible repeat (first | apply Kd.R_alloc | apply Kd.R_drewN | apply Kd.R_drew)); exact HO496.out) (Kd.R_base ho0) hb)
 have n1_ := Aside0.mk (Kd.R_lower (Kd.R_new' ho0 (Kd.R_lt (by (with_reducible repeat (first | apply Kd.R_alloc | apply Kd.R_drewN | apply Kd.R_drew)); exact HO496.out))) (below_size (by with_reducible repeat (first | exact HB.out | apply below_alloc | apply pw_below_drewN | apply below_drew1 | refine below_set ?_ GE492.out | refine below_set ?_ GE493.out))))
 have n2_ := Aside0.mk (blk_below (g := gb492) (o := .cells #[.int .i64 a0_0, .int .i64 a0_1, .int .i64 a0_2, .slice A0_3 l0_3.length c0_3, .slice A0_4 l0_4.length c0_4, .slice A0_5 l0_5.length c0_5] 26 (0, 0)) (by (with_reducible repeat (first | refine blk_drewN ?_ _ | refine blk_drew ?_ | refine blk_alloc ?_ _)); exact BK492.out) hb)
 have n3_ := Aside0.mk (blk_below (g := gb493) (o := .cells #[.int .i64 0, .int .i64 0, .int .i64 0, .slice none 0 0, .slice none 0 0, .slice none 0 0] 26 (0, 0)) (by (with_reducible repeat (first | refine blk_drewN ?_ _ | refine blk_drew ?_ | refine blk_alloc ?_ _)); exact BK493.out) hb)
 have n4_ := Aside0.mk (below_step (by with_reducible repeat (first | exact HB.out | apply below_alloc | apply pw_below_drewN | apply below_drew1 | refine below_set ?_ GE492.out | refine below_set ?_ GE493.out)) hb)
 clear HO496
 clear BK492
 clear BK493
 clear HB
 have HO496 := n0_
 have HO499 := n1_
 have BK492 := n2_
 have BK493 := n3_
 have HB := n4_
 clear n0_ n1_ n2_ n3_ n4_
 (try clear hb)
 (try clear hb2)
 (try clear hk)
 (try clear hi)
 (try clear ho0)
 refine hK.out _ _ ⟨(blk_cell BK492.out 0).trans rfl, (blk_cell BK492.out 1).trans rfl, (blk_cell BK492.out 2).trans rfl, (blk_cell BK492.out 3).trans rfl, (blk_cell BK492.out 4).trans rfl, (blk_cell BK492.out 5).trans rfl⟩ (fun hHeld => ?_)
 clear hK K
 refine norm_ (a' := ?_) ?_ ?_
 rotate_left
 ·show Act.put _ (some 8) _ = _
  simp only [Act.put, List.setIfInBounds_toArray, List.set_cons_zero, List.set_cons_succ, i64_w, i32_w]
  rfl
 refine one_ (i := 8) (N := some 11) #[true, true, true, true, true, true, true, true, true, true, false, false, false, false, false] rfl rfl (one_of HT_.out (by kernel_rfl)) (by decide) (fun K hK => ?_)
 refine goes_ Tryz.func22 (by kernel_rfl) rfl #[.slice A0_5 l0_5.length c0_5] (by rfl) rfl rfl (by (try simp only [List.map_toArray, List.map_cons, List.map_nil]); first | done | rfl | (simp only [List.length_drop, List.length_take]; rfl)) ?_
 with_reducible refine (raddlekeep_TwinOps.calls k _ _ l0_5 t500 _ ?side1 ?side2 A4.out).mono ?_
 (case side1 => repeat (first | exact (Kd.C_below HR0_5.out HB.out) | (with_reducible refine Kd.C_alloc ?_ _) | (with_reducible refine Kd.C_drewN ?_ _) | (with_reducible refine Kd.C_drew ?_)))
 (case side2 => exact HC0_5.out)
 rintro e w10 ⟨v501, rfl, ho0, hb⟩
 refine ⟨_, rfl, ?_⟩
 have n0_ := Aside0.mk (Kd.R_below (by (with_reducible repeat (first | apply Kd.R_alloc | apply Kd.R_drewN | apply Kd.R_drew)); exact HO496.out) hb)
 have n1_ := Aside0.mk (Kd.R_below (by (with_reducible repeat (first | apply Kd.R_alloc | apply Kd.R_drewN | apply Kd.R_drew)); exact HO499.out) hb)
 have n2_ := Aside0.mk (Kd.S_lower (Kd.S_new' (Kd.S_new' ho0 (Kd.R_lt (by (with_reducible repeat (first | apply Kd.R_alloc | apply Kd.R_drewN | apply Kd.R_drew)); exact HO496.out))) (Kd.R_lt (by (with_reducible repeat (first | apply Kd.R_alloc | apply Kd.R_drewN | apply Kd.R_drew)); exact HO499.out))) (below_size (by with_reducible repeat (first | exact HB.out | apply below_alloc | apply pw_below_drewN | apply below_drew1 | refine below_set ?_ GE492.out | refine below_set ?_ GE493.out))))
 have n3_ := Aside0.mk (blk_below (g := gb492) (o := .cells #[.int .i64 a0_0, .int .i64 a0_1, .int .i64 a0_2, .slice A0_3 l0_3.length c0_3, .slice A0_4 l0_4.length c0_4, .slice A0_5 l0_5.length c0_5] 26 (0, 0)) (by (with_reducible repeat (first | refine blk_drewN ?_ _ | refine blk_drew ?_ | refine blk_alloc ?_ _)); exact BK492.out) hb)
 have n4_ := Aside0.mk (blk_below (g := gb493) (o := .cells #[.int .i64 0, .int .i64 0, .int .i64 0, .slice none 0 0, .slice none 0 0, .slice none 0 0] 26 (0, 0)) (by (with_reducible repeat (first | refine blk_drewN ?_ _ | refine blk_drew ?_ | refine blk_alloc ?_ _)); exact BK493.out) hb)
 have n5_ := Aside0.mk (below_step (by with_reducible repeat (first | exact HB.out | apply below_alloc | apply pw_below_drewN | apply below_drew1 | refine below_set ?_ GE492.out | refine below_set ?_ GE493.out)) hb)
 clear HO496
 clear HO499
 clear BK492
 clear BK493
 clear HB
 have HO496 := n0_
 have HO499 := n1_
 have HO502 := n2_
 have BK492 := n3_
 have BK493 := n4_
 have HB := n5_
 clear n0_ n1_ n2_ n3_ n4_ n5_
 (try clear hb)
 (try clear hb2)
 (try clear hk)
 (try clear hi)
 (try clear ho0)
 obtain ⟨Ao11, co11, eo11⟩ := Kd.R_slice HO496.out
 (first | subst eo11 | (injection eo11 with f1_ f2_ f3_; have f4_ := f1_.symm; have f5_ := f3_.symm; clear f1_ f2_ f3_; subst f4_; subst f5_))
 obtain ⟨Ao13, co13, eo13⟩ := Kd.R_slice HO499.out
 (first | subst eo13 | (injection eo13 with f1_ f2_ f3_; have f4_ := f1_.symm; have f5_ := f3_.symm; clear f1_ f2_ f3_; subst f4_; subst f5_))
 obtain ⟨Ao15, co15, eo15⟩ := Kd.S_slice HO502.out
 (first | subst eo15 | (injection eo15 with f1_ f2_ f3_; have f4_ := f1_.symm; have f5_ := f3_.symm; clear f1_ f2_ f3_; subst f4_; subst f5_))
 refine hK.out _ _ ⟨(blk_cell BK492.out 0).trans rfl, (blk_cell BK492.out 1).trans rfl, (blk_cell BK492.out 2).trans rfl, (blk_cell BK492.out 3).trans rfl, (blk_cell BK492.out 4).trans rfl, (blk_cell BK492.out 5).trans rfl⟩ (fun hHeld => ?_)
 clear hK K
 refine norm_ (a' := ?_) ?_ ?_
 rotate_left
 ·show Act.put _ (some 11) _ = _
  simp only [Act.put, List.setIfInBounds_toArray, List.set_cons_zero, List.set_cons_succ, i64_w, i32_w]
  rfl
 refine last_ (i := 10) (N := none) #[true, true, true, true, true, true, true, true, true, true, true, false, false, false, false] rfl rfl (one_of HT_.out (by kernel_rfl)) (by decide) (fun K hK => ?_)
 have hs12 : w10.cell? ⟨gb492, 3, none⟩ = some (.slice A0_3 l0_3.length c0_3) := (blk_cell BK492.out 3).trans rfl
 have hfs12 := blk_frozen BK492.out 3
 have hns12_1 := NB493_492.out
 have hms12_1 := NB492_493.out
 refine skip_ (w1 := ?_) (by rfl) rfl ?_ ?_
 rotate_left
 ·go_simp
  rfl
 refine hK.out _ _ ?_
 clear hK K
 refine pure_ (i := 11) (N := some 13) (v := ?_) (a' := ?_) #[true, true, true, true, true, true, true, true, true, true, true, true, false, false, false] rfl rfl (any_of HT_.out (by kernel_rfl)) (fun _ _ _ h => h) (Or.inl ⟨by rfl, ?_⟩) ?_ ?_
 rotate_left
 ·intro w'
  go_simp
  with_reducible rfl
 rotate_left
 ·simp only [Act.put, List.setIfInBounds_toArray, List.set_cons_zero, List.set_cons_succ, i64_w, i32_w]
  rfl
 refine last_ (i := 12) (N := none) #[true, true, true, true, true, true, true, true, true, true, true, true, true, false, false] rfl rfl (one_of HT_.out (by kernel_rfl)) (by decide) (fun K hK => ?_)
 have hs14 : w10.cell? ⟨gb492, 4, none⟩ = some (.slice A0_4 l0_4.length c0_4) := (blk_cell BK492.out 4).trans rfl
 have hfs14 := blk_frozen BK492.out 4
 have hns14_1 := NB493_492.out
 have hms14_1 := NB492_493.out
 refine skip_ (w1 := ?_) (by rfl) rfl ?_ ?_
 rotate_left
 ·go_simp
  rfl
 refine hK.out _ _ ?_
 clear hK K
 refine pure_ (i := 13) (N := some 14) (v := ?_) (a' := ?_) #[true, true, true, true, true, true, true, true, true, true, true, true, true, true, false] rfl rfl (any_of HT_.out (by kernel_rfl)) (fun _ _ _ h => h) (Or.inl ⟨by rfl, ?_⟩) ?_ ?_
 rotate_left
 ·intro w'
  go_simp
  with_reducible rfl
 rotate_left
 ·simp only [Act.put, List.setIfInBounds_toArray, List.set_cons_zero, List.set_cons_succ, i64_w, i32_w]
  rfl
 refine last_ (i := 14) (N := none) #[true, true, true, true, true, true, true, true, true, true, true, true, true, true, true] rfl rfl (one_of HT_.out (by kernel_rfl)) (by decide) (fun K hK => ?_)
 have hs16 : w10.cell? ⟨gb492, 5, none⟩ = some (.slice A0_5 l0_5.length c0_5) := (blk_cell BK492.out 5).trans rfl
 have hfs16 := blk_frozen BK492.out 5
 have hns16_1 := NB493_492.out
 have hms16_1 := NB492_493.out
 refine skip_ (w1 := ?_) (by rfl) rfl ?_ ?_
 rotate_left
 ·go_simp
  rfl
 refine hK.out _ _ ?_
 clear hK K
 refine done_ (done_of HT_.out (by kernel_rfl)) ?_
 have hnb17 := NB492_493.out
 have hnc17 := NB493_492.out
 have hcz18 := fun i_ => blk_cell BK492.out i_
 have hfz18 := fun i_ => blk_frozen BK492.out i_
 have hcz19 := fun i_ => blk_cell BK493.out i_
 have hfz19 := fun i_ => blk_frozen BK493.out i_
 try go_wp2
 refine bodyPost_ret (results_cell_row rfl _ _ gb493 26 #[.int .i64 a0_0, .int .i64 a0_1, .int .i64 a0_2, .slice Ao11 t494.length co11, .slice Ao13 t497.length co13, .slice Ao15 t500.length co15] (0, 0) _ rfl (by (with_reducible repeat (first | refine blk_drewN ?_ _ | refine blk_drew ?_ | refine blk_alloc ?_ _)); refine blk_put (cs := #[.int .i64 a0_0, .int .i64 a0_1, .int .i64 a0_2, .slice Ao11 t494.length co11, .slice Ao13 t497.length co13, .slice none 0 0]) ?_ 5 _ rfl; (with_reducible repeat (first | refine blk_drewN ?_ _ | refine blk_drew ?_ | refine blk_alloc ?_ _)); refine blk_put (cs := #[.int .i64 a0_0, .int .i64 a0_1, .int .i64 a0_2, .slice Ao11 t494.length co11, .slice none 0 0, .slice none 0 0]) ?_ 4 _ rfl; (with_reducible repeat (first | refine blk_drewN ?_ _ | refine blk_drew ?_ | refine blk_alloc ?_ _)); refine blk_put (cs := #[.int .i64 a0_0, .int .i64 a0_1, .int .i64 a0_2, .slice none 0 0, .slice none 0 0, .slice none 0 0]) ?_ 3 _ rfl; (with_reducible repeat (first | refine blk_drewN ?_ _ | refine blk_drew ?_ | refine blk_alloc ?_ _)); refine blk_put (cs := #[.int .i64 a0_0, .int .i64 a0_1, .int .i64 0, .slice none 0 0, .slice none 0 0, .slice none 0 0]) ?_ 2 _ rfl; (with_reducible repeat (first | refine blk_drewN ?_ _ | refine blk_drew ?_ | refine blk_alloc ?_ _)); refine blk_put (cs := #[.int .i64 a0_0, .int .i64 0, .int .i64 0, .slice none 0 0, .slice none 0 0, .slice none 0 0]) ?_ 1 _ rfl; (with_reducible repeat (first | refine blk_drewN ?_ _ | refine blk_drew ?_ | refine blk_alloc ?_ _)); refine blk_put (cs := #[.int .i64 0, .int .i64 0, .int .i64 0, .slice none 0 0, .slice none 0 0, .slice none 0 0]) ?_ 0 _ rfl; (with_reducible repeat (first | refine blk_drewN ?_ _ | refine blk_drew ?_ | refine blk_alloc ?_ _)); refine blk_far ?_ NB493_492.out _; (with_reducible repeat (first | refine blk_drewN ?_ _ | refine blk_drew ?_ | refine blk_alloc ?_ _)); refine blk_far ?_ NB493_492.out _; (with_reducible repeat (first | refine blk_drewN ?_ _ | refine blk_drew ?_ | refine blk_alloc ?_ _)); refine blk_far ?_ NB493_492.out _; (with_reducible repeat (first | refine blk_drewN ?_ _ | refine blk_drew ?_ | refine blk_alloc ?_ _)); exact BK493.out) Tryz.underlying26 rfl (by kernel_rfl)) rfl ?_
 exact ⟨_, _, _, by first | rfl | (simp [errW_none, errW_some] <;> rfl) | (simp [*, errW_none, errW_some] <;> rfl), by (with_reducible repeat (first | apply Kd.R_alloc | apply Kd.R_drewN | apply Kd.R_drew)); exact Kd.R_mono (Kd.R_far (p := ⟨gb493, 5, none⟩) (Kd.R_far (p := ⟨gb493, 4, none⟩) (Kd.R_far (p := ⟨gb493, 3, none⟩) (Kd.R_far (p := ⟨gb493, 2, none⟩) (Kd.R_far (p := ⟨gb493, 1, none⟩) (Kd.R_far (p := ⟨gb493, 0, none⟩) (Kd.R_far (p := ⟨gb492, 5, none⟩) (Kd.R_far (p := ⟨gb492, 4, none⟩) (Kd.R_far (p := ⟨gb492, 3, none⟩) (Kd.R_types (Kd.R_types HO496.out BK492.out (by decide)) BK493.out (by decide)) (fun _ hk => hk.1.2) (.slice Ao11 t494.length co11)) (fun _ hk => hk.1.2) (.slice Ao13 t497.length co13)) (fun _ hk => hk.1.2) (.slice Ao15 t500.length co15)) (fun _ hk => hk.2) (.int .i64 a0_0)) (fun _ hk => hk.2) (.int .i64 a0_1)) (fun _ hk => hk.2) (.int .i64 a0_2)) (fun _ hk => hk.2) (.slice Ao11 t494.length co11)) (fun _ hk => hk.2) (.slice Ao13 t497.length co13)) (fun _ hk => hk.2) (.slice Ao15 t500.length co15)) (fun _ hk => hk.1.1.2), by (with_reducible repeat (first | apply Kd.R_alloc | apply Kd.R_drewN | apply Kd.R_drew)); exact Kd.R_mono (Kd.R_far (p := ⟨gb493, 5, none⟩) (Kd.R_far (p := ⟨gb493, 4, none⟩) (Kd.R_far (p := ⟨gb493, 3, none⟩) (Kd.R_far (p := ⟨gb493, 2, none⟩) (Kd.R_far (p := ⟨gb493, 1, none⟩) (Kd.R_far (p := ⟨gb493, 0, none⟩) (Kd.R_far (p := ⟨gb492, 5, none⟩) (Kd.R_far (p := ⟨gb492, 4, none⟩) (Kd.R_far (p := ⟨gb492, 3, none⟩) (Kd.R_types (Kd.R_types HO499.out BK492.out (by decide)) BK493.out (by decide)) (fun _ hk => hk.1.2) (.slice Ao11 t494.length co11)) (fun _ hk => hk.1.2) (.slice Ao13 t497.length co13)) (fun _ hk => hk.1.2) (.slice Ao15 t500.length co15)) (fun _ hk => hk.2) (.int .i64 a0_0)) (fun _ hk => hk.2) (.int .i64 a0_1)) (fun _ hk => hk.2) (.int .i64 a0_2)) (fun _ hk => hk.2) (.slice Ao11 t494.length co11)) (fun _ hk => hk.2) (.slice Ao13 t497.length co13)) (fun _ hk => hk.2) (.slice Ao15 t500.length co15)) (fun _ hk => hk.1.1.2), by (with_reducible repeat (first | apply Kd.S_alloc | apply Kd.S_drewN | apply Kd.S_drew)); exact Kd.S_mono (Kd.S_far (p := ⟨gb493, 5, none⟩) (Kd.S_far (p := ⟨gb493, 4, none⟩) (Kd.S_far (p := ⟨gb493, 3, none⟩) (Kd.S_far (p := ⟨gb493, 2, none⟩) (Kd.S_far (p := ⟨gb493, 1, none⟩) (Kd.S_far (p := ⟨gb493, 0, none⟩) (Kd.S_far (p := ⟨gb492, 5, none⟩) (Kd.S_far (p := ⟨gb492, 4, none⟩) (Kd.S_far (p := ⟨gb492, 3, none⟩) (Kd.S_types (Kd.S_types HO502.out BK492.out (by decide)) BK493.out (by decide)) (fun _ hk => hk.1.2) (.slice Ao11 t494.length co11)) (fun _ hk => hk.1.2) (.slice Ao13 t497.length co13)) (fun _ hk => hk.1.2) (.slice Ao15 t500.length co15)) (fun _ hk => hk.2) (.int .i64 a0_0)) (fun _ hk => hk.2) (.int .i64 a0_1)) (fun _ hk => hk.2) (.int .i64 a0_2)) (fun _ hk => hk.2) (.slice Ao11 t494.length co11)) (fun _ hk => hk.2) (.slice Ao13 t497.length co13)) (fun _ hk => hk.2) (.slice Ao15 t500.length co15)) (fun _ hk => ⟨hk.1.1.1.2, hk.1.1.2⟩), by with_reducible repeat (first | exact HB.out | apply below_alloc | apply pw_below_drewN | apply below_drew1 | refine below_set ?_ GE492.out | refine below_set ?_ GE493.out)⟩
def raddleref01_Type.f (a0 : Int) : Option (Bool) := (raddleref01_in.f a0 2 4).bind fun t503 => (some t503)
set_option maxHeartbeats 8000000 in
set_option maxRecDepth 100000 in
theorem raddleref01_Type.calls (a0 : Int) (r : Bool) (w : World) (h : raddleref01_Type.f a0 = some r) :
  Calls Tryz.prog 24 #[.int .i64 a0] w fun e w' => e = .returned (.bool r) ∧ Drawn0 w w' := by
 have H : ((raddleref01_in.f a0 2 4).bind fun t503 => (some t503)) = some r := h
 clear h
 replace H := Option.bind_eq_some_iff.mp H
 obtain ⟨t503, A20, H⟩ := H
 try dsimp only at H
 have A2 := Aside0.mk A20
 clear A20
 obtain rfl := Option.some.inj H
 go_enter Tryz.func24, Tryz.ntmps24
 go_wp2_with (first | ((with_reducible refine gate_callee (f := 23) rfl ?_); refine goesL_ (some 4) rfl rfl Tryz.func23 (by kernel_rfl) rfl #[.int .i64 a0, .int .i64 2, .int .i64 4] rfl (by (try simp only [List.map_toArray, List.map_cons, List.map_nil]); first | done | rfl | (simp only [List.length_drop, List.length_take]; rfl)) ?_; (with_reducible refine (raddleref01_in.calls a0 2 4 t503 _ A2.out).mono ?_); rintro e w' ⟨rfl, ⟨nd, rfl⟩⟩; refine ⟨_, rfl, ?_⟩))
 go_ret
 exact ⟨by first | rfl | (simp; done) | (simp [*]; done), by repeat (first | exact Drawn0.refl _ | apply Drawn0.step)⟩
mutual
def raddleref01_Forms.l0 : Nat → List (S56) → Int → Option (Int)
 | 0, _, _ => none
 | k + 1, x0, x3 => if x3 < (x0.length : Int) then (if 0 ≤ x3 then ((raddleref01_in.f (((rd_T56 x0 x3).f0).length : Int) 1 4).bind fun t506 => (if t506 = true then (raddleref01_Forms.l0 k x0 (wrap64 (x3 + 1))) else (some 2))) else (none)) else (raddleref01_Forms.l1 k x0 0)
def raddleref01_Forms.l1 : Nat → List (S56) → Int → Option (Int)
 | 0, _, _ => none
 | k + 1, x0, x4 => if x4 < (x0.length : Int) then (raddleref01_Forms.l2 k x0 x4 0) else (some 0)
def raddleref01_Forms.l2 : Nat → List (S56) → Int → Int → Option (Int)
 | 0, _, _, _ => none
 | k + 1, x0, x4, x5 => if 0 ≤ x4 then (if x4 < (x0.length : Int) then (if x5 < (((rd_T56 x0 x4).f0).length : Int) then (if 0 ≤ x5 then ((raddleref01_Type.f (rd ((rd_T56 x0 x4).f0) x5)).bind fun t510 => (if t510 = true then (raddleref01_Forms.l2 k x0 x4 (wrap64 (x5 + 1))) else (some 10))) else (none)) else (raddleref01_Forms.l1 k x0 (wrap64 (x4 + 1)))) else (none)) else (none)
end
def raddleref01_Forms.f (k : Nat) (l0 : List (S56)) : Option (Int) := (raddleref01_in.f (l0.length : Int) 1 3).bind fun t504 => (if t504 = true then (raddleref01_Forms.l0 k l0 0) else (some 2))
set_option maxHeartbeats 8000000 in
set_option maxRecDepth 100000 in
theorem raddleref01_Forms.calls (k : Nat) (A0 : Option Addr) (c0 : Nat) (l0 : List (S56)) (r : Int) (w : World) (hr0 : Kd.C k56 w A0 l0.length l0) (hc0 : l0.length ≤ c0) (h : raddleref01_Forms.f k l0 = some r) :
  Calls Tryz.prog 9 #[.slice A0 l0.length c0] w fun e w' => e = .returned (.int .i64 r) ∧ Drawn0 w w' := by
 have HR0 := Aside0.mk hr0
 have HC0 := Aside0.mk hc0
 clear hr0 hc0
 have H : ((raddleref01_in.f (l0.length : Int) 1 3).bind fun t504 => (if t504 = true then (raddleref01_Forms.l0 k l0 0) else (some 2))) = some r := h
 clear h
 replace H := Option.bind_eq_some_iff.mp H
 obtain ⟨t504, A20, H⟩ := H
 try dsimp only at H
 have A2 := Aside0.mk A20
 clear A20
 by_cases c3 : t504 = true
 ·subst c3
  rw [if_pos rfl] at H
  have H' := Aside0.mk H
  clear H
  go_enter Tryz.func9, Tryz.ntmps9
  go_wp2_with (first | ((with_reducible refine gate_callee (f := 23) rfl ?_); refine goesL_ (some 8) rfl rfl Tryz.func23 (by kernel_rfl) rfl #[.int .i64 (l0.length : Int), .int .i64 1, .int .i64 3] rfl (by (try simp only [List.map_toArray, List.map_cons, List.map_nil]); first | done | rfl | (simp only [List.length_drop, List.length_take]; rfl)) ?_; (with_reducible refine (raddleref01_in.calls (l0.length : Int) 1 3 true _ A2.out).mono ?_); rintro e w' ⟨rfl, ⟨nd, rfl⟩⟩; refine ⟨_, rfl, ?_⟩))
  go_loopg [3] k (fun kq v3 w' => ∃ (x3_1 : Int), v3 = .int .i64 x3_1 ∧ Aside0 (raddleref01_Forms.l0 kq l0 x3_1 = some r) ∧ Aside0 (kq ≤ k) ∧ Drawn0 w w')
  case atStart => exact ⟨(0), (by first | rfl | (simp; done) | (simp [*]; done)), H', ⟨Nat.le_refl _⟩, by repeat (first | exact Drawn0.refl _ | apply Drawn0.step)⟩
  case round =>
   clear H'
   try clear c2
   try clear p2
   try clear c3
   obtain ⟨x3_1, rfl, HA, HK1, ⟨m1, rfl⟩⟩ := hrel
   cases gk with
   | zero => exact absurd HA.out (by simp [raddleref01_Forms.l0])
   | succ k1 =>
    have H := HA.out
    clear HA
    simp only [raddleref01_Forms.l0] at H
    by_cases c4 : x3_1 < (l0.length : Int)
    ·rw [if_pos c4] at H
     have c4b0 : decide (x3_1 < (l0.length : Int)) = true := decide_eq_true c4
     clear c4
     by_cases c5 : 0 ≤ x3_1
     ·rw [if_pos c5] at H
      have c5b0 : decide (0 ≤ x3_1) = true := decide_eq_true c5
      clear c5
      replace H := Option.bind_eq_some_iff.mp H
      obtain ⟨t506, A60, H⟩ := H
      try dsimp only at H
      have A6 := Aside0.mk A60
      clear A60
      by_cases c7 : t506 = true
      ·subst c7
       rw [if_pos rfl] at H
       have H' := Aside0.mk H
       clear H
       have p505 : 0 ≤ (x3_1 : Int) := of_decide_eq_true (by first | (with_reducible assumption) | assumption)
       have q505 : x3_1 < (l0.length : Int) := of_decide_eq_true (by first | (with_reducible assumption) | assumption)
       obtain ⟨ad505, A505_0, c505_0, e505, hx505_0, hl505_0, hi505_0⟩ := at_T56 HR0.out x3_1 p505 q505
       cases e505
       have HR505_0 := Aside0.mk hi505_0
       have HC505_0 := Aside0.mk hl505_0
       clear hi505_0 hl505_0
       replace p505 := eq_true p505
       replace q505 := eq_true q505
       go_wp2_with (first | ((with_reducible refine gate_callee (f := 23) rfl ?_); refine goesL_ (some 22) rfl rfl Tryz.func23 (by kernel_rfl) rfl #[.int .i64 (((rd_T56 l0 x3_1).f0).length : Int), .int .i64 1, .int .i64 4] rfl (by (try simp only [List.map_toArray, List.map_cons, List.map_nil]); first | done | rfl | (simp only [List.length_drop, List.length_take]; rfl)) ?_; (with_reducible refine (raddleref01_in.calls (((rd_T56 l0 x3_1).f0).length : Int) 1 4 true _ A6.out).mono ?_); rintro e w' ⟨rfl, ⟨nd, rfl⟩⟩; refine ⟨_, rfl, ?_⟩))
       go_roundg k1
       case measure => have := HK1.out; omega
       case rel => exact ⟨(wrap64 (x3_1 + 1)), (by first | rfl | (simp; done) | (simp [*]; done)), H', ⟨by have := HK1.out; omega⟩, by repeat (first | exact Drawn0.refl _ | apply Drawn0.step)⟩
      ·replace c7 := Bool.eq_false_iff.mpr c7
       subst c7
       rw [if_neg (show ¬ (false = true) by decide)] at H
       obtain rfl := Option.some.inj H
       have p505 : 0 ≤ (x3_1 : Int) := of_decide_eq_true (by first | (with_reducible assumption) | assumption)
       have q505 : x3_1 < (l0.length : Int) := of_decide_eq_true (by first | (with_reducible assumption) | assumption)
       obtain ⟨ad505, A505_0, c505_0, e505, hx505_0, hl505_0, hi505_0⟩ := at_T56 HR0.out x3_1 p505 q505
       cases e505
       have HR505_0 := Aside0.mk hi505_0
       have HC505_0 := Aside0.mk hl505_0
       clear hi505_0 hl505_0
       replace p505 := eq_true p505
       replace q505 := eq_true q505
       go_wp2_with (first | ((with_reducible refine gate_callee (f := 23) rfl ?_); refine goesL_ (some 22) rfl rfl Tryz.func23 (by kernel_rfl) rfl #[.int .i64 (((rd_T56 l0 x3_1).f0).length : Int), .int .i64 1, .int .i64 4] rfl (by (try simp only [List.map_toArray, List.map_cons, List.map_nil]); first | done | rfl | (simp only [List.length_drop, List.length_take]; rfl)) ?_; (with_reducible refine (raddleref01_in.calls (((rd_T56 l0 x3_1).f0).length : Int) 1 4 false _ A6.out).mono ?_); rintro e w' ⟨rfl, ⟨nd, rfl⟩⟩; refine ⟨_, rfl, ?_⟩))
       go_ret
       exact ⟨by first | rfl | (simp; done) | (simp [*]; done), by repeat (first | exact Drawn0.refl _ | apply Drawn0.step)⟩
     ·rw [if_neg c5] at H
      exact absurd H (by simp)
    ·rw [if_neg c4] at H
     have c4b0 : decide (x3_1 < (l0.length : Int)) = false := decide_eq_false c4
     clear c4
     have H' := Aside0.mk H
     clear H
     go_wp2
     go_loopg [4] k1 (fun kq v4 w' => ∃ (x4_2 : Int), v4 = .int .i64 x4_2 ∧ Aside0 (raddleref01_Forms.l1 kq l0 x4_2 = some r) ∧ Aside0 (kq ≤ k1) ∧ Drawn0 w w')
     case atStart => exact ⟨(0), (by first | rfl | (simp; done) | (simp [*]; done)), H', ⟨Nat.le_refl _⟩, by repeat (first | exact Drawn0.refl _ | apply Drawn0.step)⟩
     case round =>
      clear H'
      try clear c2
      try clear p2
      try clear c3
      try clear c4
      try clear c4b0
      try clear c5
      try clear c5b0
      try clear p5
      try clear q5
      try clear hx5
      try clear p6
      try clear c7
      try clear hx505_0
      try clear p2
      try clear p505
      try clear q505
      obtain ⟨x4_2, rfl, HA, HK2, ⟨m2, rfl⟩⟩ := hrel
      cases gk with
      | zero => exact absurd HA.out (by simp [raddleref01_Forms.l1])
      | succ k2 =>
       have H := HA.out
       clear HA
       simp only [raddleref01_Forms.l1] at H
       by_cases c8 : x4_2 < (l0.length : Int)
       ·rw [if_pos c8] at H
        have c8b0 : decide (x4_2 < (l0.length : Int)) = true := decide_eq_true c8
        clear c8
        have H' := Aside0.mk H
        clear H
        go_wp2
        go_loopg [5] k2 (fun kq v5 w' => ∃ (x5_3 : Int), v5 = .int .i64 x5_3 ∧ Aside0 (raddleref01_Forms.l2 kq l0 x4_2 x5_3 = some r) ∧ Aside0 (kq ≤ k2) ∧ Drawn0 w w')
        case atStart => exact ⟨(0), (by first | rfl | (simp; done) | (simp [*]; done)), H', ⟨Nat.le_refl _⟩, by repeat (first | exact Drawn0.refl _ | apply Drawn0.step)⟩
        case round =>
         clear H'
         try clear c2
         try clear p2
         try clear c3
         try clear c4
         try clear c4b0
         try clear c5
         try clear c5b0
         try clear p5
         try clear q5
         try clear hx5
         try clear p6
         try clear c7
         try clear c8
         try clear c8b0
         try clear hx505_0
         try clear p2
         try clear p5
         try clear p505
         try clear p6
         try clear q5
         try clear q505
         obtain ⟨x5_3, rfl, HA, HK3, ⟨m3, rfl⟩⟩ := hrel
         cases gk with
         | zero => exact absurd HA.out (by simp [raddleref01_Forms.l2])
         | succ k3 =>
          have H := HA.out
          clear HA
          simp only [raddleref01_Forms.l2] at H
          by_cases c9 : 0 ≤ x4_2
          ·rw [if_pos c9] at H
           have c9b0 : decide (0 ≤ x4_2) = true := decide_eq_true c9
           clear c9
           by_cases c10 : x4_2 < (l0.length : Int)
           ·rw [if_pos c10] at H
            have c10b0 : decide (x4_2 < (l0.length : Int)) = true := decide_eq_true c10
            clear c10
            by_cases c11 : x5_3 < (((rd_T56 l0 x4_2).f0).length : Int)
            ·rw [if_pos c11] at H
             have c11b0 : decide (x5_3 < (((rd_T56 l0 x4_2).f0).length : Int)) = true := decide_eq_true c11
             clear c11
             by_cases c12 : 0 ≤ x5_3
             ·rw [if_pos c12] at H
              have c12b0 : decide (0 ≤ x5_3) = true := decide_eq_true c12
              clear c12
              replace H := Option.bind_eq_some_iff.mp H
              obtain ⟨t510, A130, H⟩ := H
              try dsimp only at H
              have A13 := Aside0.mk A130
              clear A130
              by_cases c14 : t510 = true
              ·subst c14
               rw [if_pos rfl] at H
               have H' := Aside0.mk H
               clear H
               have p507 : 0 ≤ (x4_2 : Int) := of_decide_eq_true (by first | (with_reducible assumption) | assumption)
               have q507 : x4_2 < (l0.length : Int) := of_decide_eq_true (by first | (with_reducible assumption) | assumption)
               obtain ⟨ad507, A507_0, c507_0, e507, hx507_0, hl507_0, hi507_0⟩ := at_T56 HR0.out x4_2 p507 q507
               cases e507
               have HR507_0 := Aside0.mk hi507_0
               have HC507_0 := Aside0.mk hl507_0
               clear hi507_0 hl507_0
               replace p507 := eq_true p507
               replace q507 := eq_true q507
               have p508 : 0 ≤ (x4_2 : Int) := of_decide_eq_true (by first | (with_reducible assumption) | assumption)
               have q508 : x4_2 < (l0.length : Int) := of_decide_eq_true (by first | (with_reducible assumption) | assumption)
               obtain ⟨ad508, A508_0, c508_0, e508, hx508_0, hl508_0, hi508_0⟩ := at_T56 HR0.out x4_2 p508 q508
               obtain rfl : ad507 = ad508 := (by injection e508)
               have HR508_0 := Aside0.mk hi508_0
               have HC508_0 := Aside0.mk hl508_0
               clear hi508_0 hl508_0
               replace p508 := eq_true p508
               replace q508 := eq_true q508
               have ea_ := Option.some.inj (hx507_0.symm.trans hx508_0)
               injection ea_ with ea_ en_ ec_
               subst ea_
               subst ec_
               clear en_
               have p509 : 0 ≤ (x5_3 : Int) := of_decide_eq_true (by first | (with_reducible assumption) | assumption)
               have q509 : x5_3 < (((rd_T56 l0 x4_2).f0).length : Int) := of_decide_eq_true (by first | (with_reducible assumption) | assumption)
               obtain ⟨ad509, e509, hx509_0⟩ := Kd.at_int HR508_0.out x5_3 p509 q509
               cases e509
               replace p509 := eq_true p509
               replace q509 := eq_true q509
               go_wp2_with (first | ((with_reducible refine gate_callee (f := 24) rfl ?_); refine goesL_ (some 48) rfl rfl Tryz.func24 (by kernel_rfl) rfl #[.int .i64 (rd ((rd_T56 l0 x4_2).f0) x5_3)] rfl (by (try simp only [List.map_toArray, List.map_cons, List.map_nil]); first | done | rfl | (simp only [List.length_drop, List.length_take]; rfl)) ?_; (with_reducible refine (raddleref01_Type.calls (rd ((rd_T56 l0 x4_2).f0) x5_3) true _ A13.out).mono ?_); rintro e w' ⟨rfl, ⟨nd, rfl⟩⟩; refine ⟨_, rfl, ?_⟩))
               go_roundg k3
               case measure => have := HK1.out; have := HK2.out; have := HK3.out; omega
               case rel => exact ⟨(wrap64 (x5_3 + 1)), (by first | rfl | (simp; done) | (simp [*]; done)), H', ⟨by have := HK1.out; have := HK2.out; have := HK3.out; omega⟩, by repeat (first | exact Drawn0.refl _ | apply Drawn0.step)⟩
              ·replace c14 := Bool.eq_false_iff.mpr c14
               subst c14
               rw [if_neg (show ¬ (false = true) by decide)] at H
               obtain rfl := Option.some.inj H
               have p507 : 0 ≤ (x4_2 : Int) := of_decide_eq_true (by first | (with_reducible assumption) | assumption)
               have q507 : x4_2 < (l0.length : Int) := of_decide_eq_true (by first | (with_reducible assumption) | assumption)
               obtain ⟨ad507, A507_0, c507_0, e507, hx507_0, hl507_0, hi507_0⟩ := at_T56 HR0.out x4_2 p507 q507
               cases e507
               have HR507_0 := Aside0.mk hi507_0
               have HC507_0 := Aside0.mk hl507_0
               clear hi507_0 hl507_0
               replace p507 := eq_true p507
               replace q507 := eq_true q507
               have p508 : 0 ≤ (x4_2 : Int) := of_decide_eq_true (by first | (with_reducible assumption) | assumption)
               have q508 : x4_2 < (l0.length : Int) := of_decide_eq_true (by first | (with_reducible assumption) | assumption)
               obtain ⟨ad508, A508_0, c508_0, e508, hx508_0, hl508_0, hi508_0⟩ := at_T56 HR0.out x4_2 p508 q508
               obtain rfl : ad507 = ad508 := (by injection e508)
               have HR508_0 := Aside0.mk hi508_0
               have HC508_0 := Aside0.mk hl508_0
               clear hi508_0 hl508_0
               replace p508 := eq_true p508
               replace q508 := eq_true q508
               have ea_ := Option.some.inj (hx507_0.symm.trans hx508_0)
               injection ea_ with ea_ en_ ec_
               subst ea_
               subst ec_
               clear en_
               have p509 : 0 ≤ (x5_3 : Int) := of_decide_eq_true (by first | (with_reducible assumption) | assumption)
               have q509 : x5_3 < (((rd_T56 l0 x4_2).f0).length : Int) := of_decide_eq_true (by first | (with_reducible assumption) | assumption)
               obtain ⟨ad509, e509, hx509_0⟩ := Kd.at_int HR508_0.out x5_3 p509 q509
               cases e509
               replace p509 := eq_true p509
               replace q509 := eq_true q509
               go_wp2_with (first | ((with_reducible refine gate_callee (f := 24) rfl ?_); refine goesL_ (some 48) rfl rfl Tryz.func24 (by kernel_rfl) rfl #[.int .i64 (rd ((rd_T56 l0 x4_2).f0) x5_3)] rfl (by (try simp only [List.map_toArray, List.map_cons, List.map_nil]); first | done | rfl | (simp only [List.length_drop, List.length_take]; rfl)) ?_; (with_reducible refine (raddleref01_Type.calls (rd ((rd_T56 l0 x4_2).f0) x5_3) false _ A13.out).mono ?_); rintro e w' ⟨rfl, ⟨nd, rfl⟩⟩; refine ⟨_, rfl, ?_⟩))
               go_ret
               exact ⟨by first | rfl | (simp; done) | (simp [*]; done), by repeat (first | exact Drawn0.refl _ | apply Drawn0.step)⟩
             ·rw [if_neg c12] at H
              exact absurd H (by simp)
            ·rw [if_neg c11] at H
             have c11b0 : decide (x5_3 < (((rd_T56 l0 x4_2).f0).length : Int)) = false := decide_eq_false c11
             clear c11
             have H' := Aside0.mk H
             clear H
             have p507 : 0 ≤ (x4_2 : Int) := of_decide_eq_true (by first | (with_reducible assumption) | assumption)
             have q507 : x4_2 < (l0.length : Int) := of_decide_eq_true (by first | (with_reducible assumption) | assumption)
             obtain ⟨ad507, A507_0, c507_0, e507, hx507_0, hl507_0, hi507_0⟩ := at_T56 HR0.out x4_2 p507 q507
             cases e507
             have HR507_0 := Aside0.mk hi507_0
             have HC507_0 := Aside0.mk hl507_0
             clear hi507_0 hl507_0
             replace p507 := eq_true p507
             replace q507 := eq_true q507
             go_wp2
             go_roundg k3
             case measure => have := HK1.out; have := HK2.out; have := HK3.out; omega
             case rel => exact ⟨(wrap64 (x4_2 + 1)), (by first | rfl | (simp; done) | (simp [*]; done)), H', ⟨by have := HK1.out; have := HK2.out; have := HK3.out; omega⟩, by repeat (first | exact Drawn0.refl _ | apply Drawn0.step)⟩
           ·rw [if_neg c10] at H
            exact absurd H (by simp)
          ·rw [if_neg c9] at H
           exact absurd H (by simp)
       ·rw [if_neg c8] at H
        have c8b0 : decide (x4_2 < (l0.length : Int)) = false := decide_eq_false c8
        clear c8
        obtain rfl := Option.some.inj H
        go_wp2
        go_ret
        exact ⟨by first | rfl | (simp; done) | (simp [*]; done), by repeat (first | exact Drawn0.refl _ | apply Drawn0.step)⟩
 ·replace c3 := Bool.eq_false_iff.mpr c3
  subst c3
  rw [if_neg (show ¬ (false = true) by decide)] at H
  obtain rfl := Option.some.inj H
  go_enter Tryz.func9, Tryz.ntmps9
  go_wp2_with (first | ((with_reducible refine gate_callee (f := 23) rfl ?_); refine goesL_ (some 8) rfl rfl Tryz.func23 (by kernel_rfl) rfl #[.int .i64 (l0.length : Int), .int .i64 1, .int .i64 3] rfl (by (try simp only [List.map_toArray, List.map_cons, List.map_nil]); first | done | rfl | (simp only [List.length_drop, List.length_take]; rfl)) ?_; (with_reducible refine (raddleref01_in.calls (l0.length : Int) 1 3 false _ A2.out).mono ?_); rintro e w' ⟨rfl, ⟨nd, rfl⟩⟩; refine ⟨_, rfl, ?_⟩))
  go_ret
  exact ⟨by first | rfl | (simp; done) | (simp [*]; done), by repeat (first | exact Drawn0.refl _ | apply Drawn0.step)⟩
def raddleref01_Vector.l0 : Nat → List Int → Int → Option (Int)
 | 0, _, _ => none
 | k + 1, x0, x3 => if x3 < (x0.length : Int) then (if 0 ≤ x3 then ((raddleref01_in.f (rd x0 x3) 0 1073741824).bind fun t513 => (if t513 = true then (raddleref01_Vector.l0 k x0 (wrap64 (x3 + 1))) else (some 1))) else (none)) else (some 0)
def raddleref01_Vector.f (k : Nat) (l0 : List Int) : Option (Int) := (raddleref01_in.f (l0.length : Int) 1 5).bind fun t511 => (if t511 = true then (raddleref01_Vector.l0 k l0 0) else (some 2))
set_option maxHeartbeats 8000000 in
set_option maxRecDepth 100000 in
theorem raddleref01_Vector.calls (k : Nat) (A0 : Option Addr) (c0 : Nat) (l0 : List Int) (r : Int) (w : World) (hr0 : Kd.C (Kd.int .i64) w A0 l0.length l0) (hc0 : l0.length ≤ c0) (h : raddleref01_Vector.f k l0 = some r) :
  Calls Tryz.prog 26 #[.slice A0 l0.length c0] w fun e w' => e = .returned (.int .i64 r) ∧ Drawn0 w w' := by
 have HR0 := Aside0.mk hr0
 have HC0 := Aside0.mk hc0
 clear hr0 hc0
 have H : ((raddleref01_in.f (l0.length : Int) 1 5).bind fun t511 => (if t511 = true then (raddleref01_Vector.l0 k l0 0) else (some 2))) = some r := h
 clear h
 replace H := Option.bind_eq_some_iff.mp H
 obtain ⟨t511, A20, H⟩ := H
 try dsimp only at H
 have A2 := Aside0.mk A20
 clear A20
 by_cases c3 : t511 = true
 ·subst c3
  rw [if_pos rfl] at H
  have H' := Aside0.mk H
  clear H
  go_enter Tryz.func26, Tryz.ntmps26
  go_wp2_with (first | ((with_reducible refine gate_callee (f := 23) rfl ?_); refine goesL_ (some 6) rfl rfl Tryz.func23 (by kernel_rfl) rfl #[.int .i64 (l0.length : Int), .int .i64 1, .int .i64 5] rfl (by (try simp only [List.map_toArray, List.map_cons, List.map_nil]); first | done | rfl | (simp only [List.length_drop, List.length_take]; rfl)) ?_; (with_reducible refine (raddleref01_in.calls (l0.length : Int) 1 5 true _ A2.out).mono ?_); rintro e w' ⟨rfl, ⟨nd, rfl⟩⟩; refine ⟨_, rfl, ?_⟩))
  go_loopg [3] k (fun kq v3 w' => ∃ (x3_1 : Int), v3 = .int .i64 x3_1 ∧ Aside0 (raddleref01_Vector.l0 kq l0 x3_1 = some r) ∧ Aside0 (kq ≤ k) ∧ Drawn0 w w')
  case atStart => exact ⟨(0), (by first | rfl | (simp; done) | (simp [*]; done)), H', ⟨Nat.le_refl _⟩, by repeat (first | exact Drawn0.refl _ | apply Drawn0.step)⟩
  case round =>
   clear H'
   try clear c2
   try clear p2
   try clear c3
   obtain ⟨x3_1, rfl, HA, HK1, ⟨m1, rfl⟩⟩ := hrel
   cases gk with
   | zero => exact absurd HA.out (by simp [raddleref01_Vector.l0])
   | succ k1 =>
    have H := HA.out
    clear HA
    simp only [raddleref01_Vector.l0] at H
    by_cases c4 : x3_1 < (l0.length : Int)
    ·rw [if_pos c4] at H
     have c4b0 : decide (x3_1 < (l0.length : Int)) = true := decide_eq_true c4
     clear c4
     by_cases c5 : 0 ≤ x3_1
     ·rw [if_pos c5] at H
      have c5b0 : decide (0 ≤ x3_1) = true := decide_eq_true c5
      clear c5
      replace H := Option.bind_eq_some_iff.mp H
      obtain ⟨t513, A60, H⟩ := H
      try dsimp only at H
      have A6 := Aside0.mk A60
      clear A60
      by_cases c7 : t513 = true
      ·subst c7
       rw [if_pos rfl] at H
       have H' := Aside0.mk H
       clear H
       have p512 : 0 ≤ (x3_1 : Int) := of_decide_eq_true (by first | (with_reducible assumption) | assumption)
       have q512 : x3_1 < (l0.length : Int) := of_decide_eq_true (by first | (with_reducible assumption) | assumption)
       obtain ⟨ad512, e512, hx512_0⟩ := Kd.at_int HR0.out x3_1 p512 q512
       cases e512
       replace p512 := eq_true p512
       replace q512 := eq_true q512
       go_wp2_with (first | ((with_reducible refine gate_callee (f := 23) rfl ?_); refine goesL_ (some 18) rfl rfl Tryz.func23 (by kernel_rfl) rfl #[.int .i64 (rd l0 x3_1), .int .i64 0, .int .i64 1073741824] rfl (by (try simp only [List.map_toArray, List.map_cons, List.map_nil]); first | done | rfl | (simp only [List.length_drop, List.length_take]; rfl)) ?_; (with_reducible refine (raddleref01_in.calls (rd l0 x3_1) 0 1073741824 true _ A6.out).mono ?_); rintro e w' ⟨rfl, ⟨nd, rfl⟩⟩; refine ⟨_, rfl, ?_⟩))
       go_roundg k1
       case measure => have := HK1.out; omega
       case rel => exact ⟨(wrap64 (x3_1 + 1)), (by first | rfl | (simp; done) | (simp [*]; done)), H', ⟨by have := HK1.out; omega⟩, by repeat (first | exact Drawn0.refl _ | apply Drawn0.step)⟩
      ·replace c7 := Bool.eq_false_iff.mpr c7
       subst c7
       rw [if_neg (show ¬ (false = true) by decide)] at H
       obtain rfl := Option.some.inj H
       have p512 : 0 ≤ (x3_1 : Int) := of_decide_eq_true (by first | (with_reducible assumption) | assumption)
       have q512 : x3_1 < (l0.length : Int) := of_decide_eq_true (by first | (with_reducible assumption) | assumption)
       obtain ⟨ad512, e512, hx512_0⟩ := Kd.at_int HR0.out x3_1 p512 q512
       cases e512
       replace p512 := eq_true p512
       replace q512 := eq_true q512
       go_wp2_with (first | ((with_reducible refine gate_callee (f := 23) rfl ?_); refine goesL_ (some 18) rfl rfl Tryz.func23 (by kernel_rfl) rfl #[.int .i64 (rd l0 x3_1), .int .i64 0, .int .i64 1073741824] rfl (by (try simp only [List.map_toArray, List.map_cons, List.map_nil]); first | done | rfl | (simp only [List.length_drop, List.length_take]; rfl)) ?_; (with_reducible refine (raddleref01_in.calls (rd l0 x3_1) 0 1073741824 false _ A6.out).mono ?_); rintro e w' ⟨rfl, ⟨nd, rfl⟩⟩; refine ⟨_, rfl, ?_⟩))
       go_ret
       exact ⟨by first | rfl | (simp; done) | (simp [*]; done), by repeat (first | exact Drawn0.refl _ | apply Drawn0.step)⟩
     ·rw [if_neg c5] at H
      exact absurd H (by simp)
    ·rw [if_neg c4] at H
     have c4b0 : decide (x3_1 < (l0.length : Int)) = false := decide_eq_false c4
     clear c4
     obtain rfl := Option.some.inj H
     go_wp2
     go_ret
     exact ⟨by first | rfl | (simp; done) | (simp [*]; done), by repeat (first | exact Drawn0.refl _ | apply Drawn0.step)⟩
 ·replace c3 := Bool.eq_false_iff.mpr c3
  subst c3
  rw [if_neg (show ¬ (false = true) by decide)] at H
  obtain rfl := Option.some.inj H
  go_enter Tryz.func26, Tryz.ntmps26
  go_wp2_with (first | ((with_reducible refine gate_callee (f := 23) rfl ?_); refine goesL_ (some 6) rfl rfl Tryz.func23 (by kernel_rfl) rfl #[.int .i64 (l0.length : Int), .int .i64 1, .int .i64 5] rfl (by (try simp only [List.map_toArray, List.map_cons, List.map_nil]); first | done | rfl | (simp only [List.length_drop, List.length_take]; rfl)) ?_; (with_reducible refine (raddleref01_in.calls (l0.length : Int) 1 5 false _ A2.out).mono ?_); rintro e w' ⟨rfl, ⟨nd, rfl⟩⟩; refine ⟨_, rfl, ?_⟩))
  go_ret
  exact ⟨by first | rfl | (simp; done) | (simp [*]; done), by repeat (first | exact Drawn0.refl _ | apply Drawn0.step)⟩
def raddleref01_Stamp.f (a0_0 : Int) (a0_1 : Int) (a0_2 : Int) : Option (Bool) := (raddleref01_in.f a0_0 0 1099511627776).bind fun t515 => (if t515 = true then ((raddleref01_in.f a0_1 0 65536).bind fun t516 => (if t516 = true then ((raddleref01_in.f a0_2 0 4).bind fun t517 => (some t517)) else (some false))) else (some false))
set_option maxHeartbeats 8000000 in
set_option maxRecDepth 100000 in
theorem raddleref01_Stamp.calls (a0_0 : Int) (a0_1 : Int) (a0_2 : Int) (r : Bool) (w : World) (h : raddleref01_Stamp.f a0_0 a0_1 a0_2 = some r) :
  Calls Tryz.prog 53 #[.agg #[.int .i64 a0_0, .int .i64 a0_1, .int .i64 a0_2]] w fun e w' => e = .returned (.bool r) ∧ Below w.heap.size w w' := by
 unfold raddleref01_Stamp.f at h
 obtain ⟨t515, ht515, h⟩ := Option.bind_eq_some_iff.1 h; have H := Aside0.mk h; have Ht515 := Aside0.mk ht515; clear h ht515
 go_enter Tryz.func53, Tryz.ntmps53
 go_wp2_with fail
 obtain ⟨W, hW, HI⟩ := One.start w (.cells #[.int .i64 a0_0, .int .i64 a0_1, .int .i64 a0_2] 48)
 rw [← hW]; clear hW
 have hk0 := fun i => blk_cell HI.out.2 i
 refine (raddleref01_in.calls a0_0 0 1099511627776 t515 _ Ht515.out).mono ?_
 rintro e w1 ⟨rfl, hb⟩
 clear hk0; replace HI := Aside0.mk (HI.out.step (by first | exact hb | exact hb.below)); clear hb
 have hk0 := fun i => blk_cell HI.out.2 i
 have h := H.out; clear H
 cases t515 with
 | true =>
  rw [if_pos rfl] at h
  obtain ⟨t516, ht516, h⟩ := Option.bind_eq_some_iff.1 h; have H := Aside0.mk h; have Ht516 := Aside0.mk ht516; clear h ht516
  go_wp2_with fail
  refine (raddleref01_in.calls a0_1 0 65536 t516 _ Ht516.out).mono ?_
  rintro e w1 ⟨rfl, hb⟩
  clear hk0; replace HI := Aside0.mk (HI.out.step (by first | exact hb | exact hb.below)); clear hb
  have hk0 := fun i => blk_cell HI.out.2 i
  have h := H.out; clear H
  cases t516 with
  | true =>
   rw [if_pos rfl] at h
   obtain ⟨t517, ht517, h⟩ := Option.bind_eq_some_iff.1 h; have H := Aside0.mk h; have Ht517 := Aside0.mk ht517; clear h ht517
   go_wp2_with fail
   refine (raddleref01_in.calls a0_2 0 4 t517 _ Ht517.out).mono ?_
   rintro e w1 ⟨rfl, hb⟩
   clear hk0; replace HI := Aside0.mk (HI.out.step (by first | exact hb | exact hb.below)); clear hb
   have hk0 := fun i => blk_cell HI.out.2 i
   have h := H.out; clear H
   obtain rfl := Option.some.inj h
   go_wp2_with fail
   go_ret
   exact ⟨by first | rfl | (simp [*]; done), HI.out.1⟩
  | false =>
   rw [if_neg (by decide)] at h
   obtain rfl := Option.some.inj h
   go_wp2_with fail
   go_ret
   exact ⟨by first | rfl | (simp [*]; done), HI.out.1⟩
 | false =>
  rw [if_neg (by decide)] at h
  obtain rfl := Option.some.inj h
  go_wp2_with fail
  go_ret
  exact ⟨by first | rfl | (simp [*]; done), HI.out.1⟩
def raddleref01_Key.f (a0 : ByteArray) : Option (Bool) := (raddleref01_in.f (a0.size : Int) 1 12).bind fun t518 => (some t518)
set_option maxHeartbeats 8000000 in
set_option maxRecDepth 100000 in
theorem raddleref01_Key.calls (a0 : ByteArray) (r : Bool) (w : World) (h : raddleref01_Key.f a0 = some r) :
  Calls Tryz.prog 54 #[.string a0] w fun e w' => e = .returned (.bool r) ∧ Drawn0 w w' := by
 have H : ((raddleref01_in.f (a0.size : Int) 1 12).bind fun t518 => (some t518)) = some r := h
 clear h
 replace H := Option.bind_eq_some_iff.mp H
 obtain ⟨t518, A20, H⟩ := H
 try dsimp only at H
 have A2 := Aside0.mk A20
 clear A20
 obtain rfl := Option.some.inj H
 go_enter Tryz.func54, Tryz.ntmps54
 go_wp2_with (first | ((with_reducible refine gate_callee (f := 23) rfl ?_); refine goesL_ (some 5) rfl rfl Tryz.func23 (by kernel_rfl) rfl #[.int .i64 (a0.size : Int), .int .i64 1, .int .i64 12] rfl (by (try simp only [List.map_toArray, List.map_cons, List.map_nil]); first | done | rfl | (simp only [List.length_drop, List.length_take]; rfl)) ?_; (with_reducible refine (raddleref01_in.calls (a0.size : Int) 1 12 t518 _ A2.out).mono ?_); rintro e w' ⟨rfl, ⟨nd, rfl⟩⟩; refine ⟨_, rfl, ?_⟩))
 go_ret
 exact ⟨by first | rfl | (simp; done) | (simp [*]; done), by repeat (first | exact Drawn0.refl _ | apply Drawn0.step)⟩
def raddleref01_Small.f (a0_0 : Int) (a0_1 : Int) (a0_2 : ByteArray) : Option (Bool) := (raddleref01_Value.f a0_0 a0_1 a0_2).bind fun t520 => (if t520 = true then (if a0_0 = 3 then ((raddleref01_in.f a0_1 (-2147483648) 2147483648).bind fun t521 => (some t521)) else (some true)) else (some false))
set_option maxHeartbeats 8000000 in
set_option maxRecDepth 100000 in
theorem raddleref01_Small.calls (a0_0 : Int) (a0_1 : Int) (a0_2 : ByteArray) (r : Bool) (w : World) (h : raddleref01_Small.f a0_0 a0_1 a0_2 = some r) :
  Calls Tryz.prog 55 #[.agg #[.int .i64 a0_0, .int .i64 a0_1, .string a0_2]] w fun e w' => e = .returned (.bool r) ∧ Below w.heap.size w w' := by
 unfold raddleref01_Small.f at h
 obtain ⟨t520, ht520, h⟩ := Option.bind_eq_some_iff.1 h; have H := Aside0.mk h; have Ht520 := Aside0.mk ht520; clear h ht520
 go_enter Tryz.func55, Tryz.ntmps55
 go_wp2_with fail
 obtain ⟨W, hW, HI⟩ := One.start w (.cells #[.int .i64 a0_0, .int .i64 a0_1, .string a0_2] 92)
 rw [← hW]; clear hW
 have hk0 := fun i => blk_cell HI.out.2 i
 refine (raddleref01_Value.calls a0_0 a0_1 a0_2 t520 _ Ht520.out).mono ?_
 rintro e w1 ⟨rfl, hb⟩
 clear hk0; replace HI := Aside0.mk (HI.out.step (by first | exact hb | exact hb.below)); clear hb
 have hk0 := fun i => blk_cell HI.out.2 i
 have h := H.out; clear H
 cases t520 with
 | true =>
  rw [if_pos rfl] at h
  by_cases c0 : a0_0 = 3
  case neg =>
   rw [if_neg c0] at h
   have g0 : (a0_0 == 3) = false := beq_eq_false_iff_ne.2 c0; have g0' : (a0_0 != 3) = true := bne_iff_ne.2 c0
   clear c0
   obtain rfl := Option.some.inj h
   go_wp2_with fail
   go_ret
   exact ⟨by first | rfl | (simp [*]; done), HI.out.1⟩
  rw [if_pos c0] at h
  have g0 : (a0_0 == 3) = true := beq_iff_eq.2 c0; have g0' : (a0_0 != 3) = false := bne_eq_false_iff_eq.2 c0
  clear c0
  obtain ⟨t521, ht521, h⟩ := Option.bind_eq_some_iff.1 h; have H := Aside0.mk h; have Ht521 := Aside0.mk ht521; clear h ht521
  go_wp2_with fail
  refine (raddleref01_in.calls a0_1 (-2147483648) 2147483648 t521 _ Ht521.out).mono ?_
  rintro e w1 ⟨rfl, hb⟩
  clear hk0; replace HI := Aside0.mk (HI.out.step (by first | exact hb | exact hb.below)); clear hb
  have hk0 := fun i => blk_cell HI.out.2 i
  have h := H.out; clear H
  obtain rfl := Option.some.inj h
  go_wp2_with fail
  go_ret
  exact ⟨by first | rfl | (simp [*]; done), HI.out.1⟩
 | false =>
  rw [if_neg (by decide)] at h
  obtain rfl := Option.some.inj h
  go_wp2_with fail
  go_ret
  exact ⟨by first | rfl | (simp [*]; done), HI.out.1⟩
def raddleref01_Fits.f (a0_0 : Int) (a0_1 : Int) (a0_2 : ByteArray) (a1 : Int) : Option (Bool) := (raddleref01_Type.f a1).bind fun t523 => (if t523 = true then ((raddleref01_Value.f a0_0 a0_1 a0_2).bind fun t524 => (if t524 = true then (if a0_0 = a1 then (some true) else (some (a0_0 == 1))) else (some false))) else (some false))
set_option maxHeartbeats 8000000 in
set_option maxRecDepth 100000 in
theorem raddleref01_Fits.calls (a0_0 : Int) (a0_1 : Int) (a0_2 : ByteArray) (a1 : Int) (r : Bool) (w : World) (h : raddleref01_Fits.f a0_0 a0_1 a0_2 a1 = some r) :
  Calls Tryz.prog 56 #[.agg #[.int .i64 a0_0, .int .i64 a0_1, .string a0_2], .int .i64 a1] w fun e w' => e = .returned (.bool r) ∧ Below w.heap.size w w' := by
 unfold raddleref01_Fits.f at h
 obtain ⟨t523, ht523, h⟩ := Option.bind_eq_some_iff.1 h; have H := Aside0.mk h; have Ht523 := Aside0.mk ht523; clear h ht523
 go_enter Tryz.func56, Tryz.ntmps56
 go_wp2_with fail
 obtain ⟨W, hW, HI⟩ := One.start w (.cells #[.int .i64 a0_0, .int .i64 a0_1, .string a0_2] 92)
 rw [← hW]; clear hW
 have hk0 := fun i => blk_cell HI.out.2 i
 refine (raddleref01_Type.calls a1 t523 _ Ht523.out).mono ?_
 rintro e w1 ⟨rfl, hb⟩
 clear hk0; replace HI := Aside0.mk (HI.out.step (by first | exact hb | exact hb.below)); clear hb
 have hk0 := fun i => blk_cell HI.out.2 i
 have h := H.out; clear H
 cases t523 with
 | true =>
  rw [if_pos rfl] at h
  obtain ⟨t524, ht524, h⟩ := Option.bind_eq_some_iff.1 h; have H := Aside0.mk h; have Ht524 := Aside0.mk ht524; clear h ht524
  go_wp2_with fail
  refine (raddleref01_Value.calls a0_0 a0_1 a0_2 t524 _ Ht524.out).mono ?_
  rintro e w1 ⟨rfl, hb⟩
  clear hk0; replace HI := Aside0.mk (HI.out.step (by first | exact hb | exact hb.below)); clear hb
  have hk0 := fun i => blk_cell HI.out.2 i
  have h := H.out; clear H
  cases t524 with
  | true =>
   rw [if_pos rfl] at h
   by_cases c0 : a0_0 = a1
   case neg =>
    rw [if_neg c0] at h
    have g0 : (a0_0 == a1) = false := beq_eq_false_iff_ne.2 c0; have g0' : (a0_0 != a1) = true := bne_iff_ne.2 c0
    clear c0
    obtain rfl := Option.some.inj h
    go_wp2_with fail
    go_ret
    exact ⟨by first | rfl | (simp [*]; done), HI.out.1⟩
   rw [if_pos c0] at h
   have g0 : (a0_0 == a1) = true := beq_iff_eq.2 c0; have g0' : (a0_0 != a1) = false := bne_eq_false_iff_eq.2 c0
   clear c0
   obtain rfl := Option.some.inj h
   go_wp2_with fail
   go_ret
   exact ⟨by first | rfl | (simp [*]; done), HI.out.1⟩
  | false =>
   rw [if_neg (by decide)] at h
   obtain rfl := Option.some.inj h
   go_wp2_with fail
   go_ret
   exact ⟨by first | rfl | (simp [*]; done), HI.out.1⟩
 | false =>
  rw [if_neg (by decide)] at h
  obtain rfl := Option.some.inj h
  go_wp2_with fail
  go_ret
  exact ⟨by first | rfl | (simp [*]; done), HI.out.1⟩
def raddleref01_Le.l0 : Nat → List Int → List Int → Int → Option (Bool)
 | 0, _, _, _ => none
 | k + 1, x0, x1, x5 => if x5 < (x0.length : Int) then (if 0 ≤ x5 then (if x5 < (x1.length : Int) then (if (rd x0 x5) > (rd x1 x5) then (some false) else (raddleref01_Le.l0 k x0 x1 (wrap64 (x5 + 1)))) else (none)) else (none)) else (some true)
def raddleref01_Le.f (k : Nat) (l0 : List Int) (l1 : List Int) : Option (Bool) := if (l0.length : Int) = (l1.length : Int) then (raddleref01_Le.l0 k l0 l1 0) else (some false)
set_option maxHeartbeats 8000000 in
set_option maxRecDepth 100000 in
theorem raddleref01_Le.calls (k : Nat) (A0 : Option Addr) (c0 : Nat) (l0 : List Int) (A1 : Option Addr) (c1 : Nat) (l1 : List Int) (r : Bool) (w : World) (hr0 : Kd.C (Kd.int .i64) w A0 l0.length l0) (hc0 : l0.length ≤ c0) (hr1 : Kd.C (Kd.int .i64) w A1 l1.length l1) (hc1 : l1.length ≤ c1) (h : raddleref01_Le.f k l0 l1 = some r) :
  Calls Tryz.prog 27 #[.slice A0 l0.length c0, .slice A1 l1.length c1] w fun e w' => e = .returned (.bool r) ∧ Drawn0 w w' := by
 have HR0 := Aside0.mk hr0
 have HC0 := Aside0.mk hc0
 clear hr0 hc0
 have HR1 := Aside0.mk hr1
 have HC1 := Aside0.mk hc1
 clear hr1 hc1
 have H : (if (l0.length : Int) = (l1.length : Int) then (raddleref01_Le.l0 k l0 l1 0) else (some false)) = some r := h
 clear h
 by_cases c3 : (l0.length : Int) = (l1.length : Int)
 ·rw [if_pos c3] at H
  have c3b0 : ((l0.length : Int) == (l1.length : Int)) = true := beq_iff_eq.mpr c3
  have c3b1 : ((l0.length : Int) != (l1.length : Int)) = false := bne_eq_false_iff_eq.mpr c3
  have c3b2 : (l0.length == l1.length) = true := by first | simpa using c3 | (simp at c3 ⊢; omega)
  clear c3
  have H' := Aside0.mk H
  clear H
  go_enter Tryz.func27, Tryz.ntmps27
  go_wp2
  repeat (go_quiet (fail); try go_wp2)
  go_loopg [5] k (fun kq v5 w' => ∃ (x5_1 : Int), v5 = .int .i64 x5_1 ∧ Aside0 (raddleref01_Le.l0 kq l0 l1 x5_1 = some r) ∧ Aside0 (kq ≤ k) ∧ Drawn0 w w')
  case atStart => exact ⟨(0), (by first | rfl | (simp; done) | (simp [*]; done)), H', ⟨Nat.le_refl _⟩, by repeat (first | exact Drawn0.refl _ | apply Drawn0.step)⟩
  case round =>
   clear H'
   try clear c1
   try clear c2
   try clear p2
   try clear c3
   try clear c3b0
   try clear c3b1
   try clear c3b2
   obtain ⟨x5_1, rfl, HA, HK1, ⟨m1, rfl⟩⟩ := hrel
   cases gk with
   | zero => exact absurd HA.out (by simp [raddleref01_Le.l0])
   | succ k1 =>
    have H := HA.out
    clear HA
    simp only [raddleref01_Le.l0] at H
    by_cases c4 : x5_1 < (l0.length : Int)
    ·rw [if_pos c4] at H
     have c4b0 : decide (x5_1 < (l0.length : Int)) = true := decide_eq_true c4
     clear c4
     by_cases c5 : 0 ≤ x5_1
     ·rw [if_pos c5] at H
      have c5b0 : decide (0 ≤ x5_1) = true := decide_eq_true c5
      clear c5
      by_cases c6 : x5_1 < (l1.length : Int)
      ·rw [if_pos c6] at H
       have c6b0 : decide (x5_1 < (l1.length : Int)) = true := decide_eq_true c6
       clear c6
       by_cases c7 : (rd l0 x5_1) > (rd l1 x5_1)
       ·rw [if_pos c7] at H
        have c7b0 : decide ((rd l1 x5_1) < (rd l0 x5_1)) = true := decide_eq_true c7
        clear c7
        obtain rfl := Option.some.inj H
        have p527 : 0 ≤ (x5_1 : Int) := of_decide_eq_true (by first | (with_reducible assumption) | assumption)
        have q527 : x5_1 < (l0.length : Int) := of_decide_eq_true (by first | (with_reducible assumption) | assumption)
        obtain ⟨ad527, e527, hx527_0⟩ := Kd.at_int HR0.out x5_1 p527 q527
        cases e527
        replace p527 := eq_true p527
        replace q527 := eq_true q527
        have p528 : 0 ≤ (x5_1 : Int) := of_decide_eq_true (by first | (with_reducible assumption) | assumption)
        have q528 : x5_1 < (l1.length : Int) := of_decide_eq_true (by first | (with_reducible assumption) | assumption)
        obtain ⟨ad528, e528, hx528_0⟩ := Kd.at_int HR1.out x5_1 p528 q528
        cases e528
        replace p528 := eq_true p528
        replace q528 := eq_true q528
        go_wp2
        repeat (go_quiet (fail); try go_wp2)
        go_ret
        exact ⟨by first | rfl | (simp; done) | (simp [*]; done), by repeat (first | exact Drawn0.refl _ | apply Drawn0.step)⟩
       ·rw [if_neg c7] at H
        have c7b0 : decide ((rd l1 x5_1) < (rd l0 x5_1)) = false := decide_eq_false c7
        clear c7
        have H' := Aside0.mk H
        clear H
        have p527 : 0 ≤ (x5_1 : Int) := of_decide_eq_true (by first | (with_reducible assumption) | assumption)
        have q527 : x5_1 < (l0.length : Int) := of_decide_eq_true (by first | (with_reducible assumption) | assumption)
        obtain ⟨ad527, e527, hx527_0⟩ := Kd.at_int HR0.out x5_1 p527 q527
        cases e527
        replace p527 := eq_true p527
        replace q527 := eq_true q527
        have p528 : 0 ≤ (x5_1 : Int) := of_decide_eq_true (by first | (with_reducible assumption) | assumption)
        have q528 : x5_1 < (l1.length : Int) := of_decide_eq_true (by first | (with_reducible assumption) | assumption)
        obtain ⟨ad528, e528, hx528_0⟩ := Kd.at_int HR1.out x5_1 p528 q528
        cases e528
        replace p528 := eq_true p528
        replace q528 := eq_true q528
        go_wp2
        repeat (go_quiet (fail); try go_wp2)
        go_roundg k1
        case measure => have := HK1.out; omega
        case rel => exact ⟨(wrap64 (x5_1 + 1)), (by first | rfl | (simp; done) | (simp [*]; done)), H', ⟨by have := HK1.out; omega⟩, by repeat (first | exact Drawn0.refl _ | apply Drawn0.step)⟩
      ·rw [if_neg c6] at H
       exact absurd H (by simp)
     ·rw [if_neg c5] at H
      exact absurd H (by simp)
    ·rw [if_neg c4] at H
     have c4b0 : decide (x5_1 < (l0.length : Int)) = false := decide_eq_false c4
     clear c4
     obtain rfl := Option.some.inj H
     go_wp2
     repeat (go_quiet (fail); try go_wp2)
     go_ret
     exact ⟨by first | rfl | (simp; done) | (simp [*]; done), by repeat (first | exact Drawn0.refl _ | apply Drawn0.step)⟩
 ·rw [if_neg c3] at H
  have c3b0 : ((l0.length : Int) == (l1.length : Int)) = false := beq_eq_false_iff_ne.mpr c3
  have c3b1 : ((l0.length : Int) != (l1.length : Int)) = true := bne_iff_ne.mpr c3
  have c3b2 : (l0.length == l1.length) = false := by first | simpa using c3 | (simp at c3 ⊢; omega)
  obtain rfl := Option.some.inj H
  go_enter Tryz.func27, Tryz.ntmps27
  go_wp2
  repeat (go_quiet (fail); try go_wp2)
  go_ret
  exact ⟨by first | rfl | (simp; done) | (simp [*]; done), by repeat (first | exact Drawn0.refl _ | apply Drawn0.step)⟩
def raddleref01_LessDot.f (a0_0 : Int) (a0_1 : Int) (a1_0 : Int) (a1_1 : Int) : Option (Bool) := if a0_0 < a1_0 then (some true) else (if a0_0 = a1_0 then (some (decide (a0_1 < a1_1))) else (some false))
set_option maxHeartbeats 8000000 in
set_option maxRecDepth 100000 in
theorem raddleref01_LessDot.calls (a0_0 : Int) (a0_1 : Int) (a1_0 : Int) (a1_1 : Int) (r : Bool) (w : World) (h : raddleref01_LessDot.f a0_0 a0_1 a1_0 a1_1 = some r) :
  Calls Tryz.prog 58 #[.agg #[.int .i64 a0_0, .int .i64 a0_1], .agg #[.int .i64 a1_0, .int .i64 a1_1]] w fun e w' => e = .returned (.bool r) ∧ Below w.heap.size w w' := by
 unfold raddleref01_LessDot.f at h
 by_cases c0 : a0_0 < a1_0
 case neg =>
  rw [if_neg c0] at h
  have g0 : decide (a0_0 < a1_0) = false := decide_eq_false (by omega)
  clear c0
  by_cases c1 : a0_0 = a1_0
  case neg =>
   rw [if_neg c1] at h
   have g1 : (a0_0 == a1_0) = false := beq_eq_false_iff_ne.2 c1; have g1' : (a0_0 != a1_0) = true := bne_iff_ne.2 c1
   clear c1
   obtain rfl := Option.some.inj h
   go_enter Tryz.func58, Tryz.ntmps58
   go_wp2_with fail
   go_ret
   exact ⟨by first | rfl | (simp [*]; done), below_alloc (below_alloc (Below.refl _ w) _) _⟩
  rw [if_pos c1] at h
  have g1 : (a0_0 == a1_0) = true := beq_iff_eq.2 c1; have g1' : (a0_0 != a1_0) = false := bne_eq_false_iff_eq.2 c1
  clear c1
  obtain rfl := Option.some.inj h
  go_enter Tryz.func58, Tryz.ntmps58
  go_wp2_with fail
  go_ret
  exact ⟨by first | rfl | (simp [*]; done), below_alloc (below_alloc (Below.refl _ w) _) _⟩
 rw [if_pos c0] at h
 have g0 : decide (a0_0 < a1_0) = true := decide_eq_true (by omega)
 have q0 := eq_true c0
 clear c0
 obtain rfl := Option.some.inj h
 go_enter Tryz.func58, Tryz.ntmps58
 go_wp2_with fail
 go_ret
 exact ⟨by first | rfl | (simp [*]; done), below_alloc (below_alloc (Below.refl _ w) _) _⟩
end Go.Proofs.YtnbjflcfdncocaaGreat.M
namespace Go.Proofs.YtnbjflcfdncocaaGreat.M
open Go.RowKit Go.Proofs.YtnbjflcfdncocaaGreatW.PrintWords Go.Proofs.YtnbjflcfdncocaaGreatW.PrintLast Go.Proofs.YtnbjflcfdncocaaGreatW.PrintMore
theorem refIn_eq (a b c : Int) : raddleref01_in.f a b c = some (decide (b ≤ a ∧ a ≤ c)) := by
  unfold raddleref01_in.f
  by_cases h : b ≤ a
  · rw [if_pos h]; congr 1; rw [Bool.eq_iff_iff, decide_eq_true_eq, decide_eq_true_eq]; omega
  · rw [if_neg h, decide_eq_false (by omega)]
def raddleref01_Has.f (l : List Int) (a b : Int) : Option Bool := some (decide (0 ≤ a ∧ a < (l.length : Int) ∧ 1 ≤ b ∧ b ≤ rd l a))
set_option maxHeartbeats 1000000 in
set_option maxRecDepth 100000 in
theorem raddleref01_Has.calls (A : Option Addr) (c : Nat) (l : List Int) (a b : Int) (r : Bool) (w : World) (hr0 : Kd.C (Kd.int .i64) w A l.length l) (hc0 : l.length ≤ c) (h : raddleref01_Has.f l a b = some r) :
    Calls Tryz.prog 57 #[.slice A l.length c, .agg #[.int .i64 a, .int .i64 b]] w fun e w' => e = .returned (.bool r) ∧ Below w.heap.size w w' := by
  have hr := (Option.some.inj h).symm
  have HR := Aside0.mk (And.intro hr0 hc0)
  have hm := Kd.C_max hr0
  have hw : IntKind.i64.wrap ((l.length : Int) - 1) = (l.length : Int) - 1 := (i64_w _).trans (wrap_in _ (by omega) (by omega))
  obtain ⟨b1, he, hi⟩ : ∃ b1, raddleref01_in.f a 0 ((l.length : Int) - 1) = some b1 ∧ (b1 = true ↔ 0 ≤ a ∧ a < (l.length : Int)) := ⟨_, refIn_eq _ _ _, by rw [decide_eq_true_eq]; omega⟩
  have HE := Aside0.mk he
  clear h hr0 hc0 he hm
  go_enter Tryz.func57, Tryz.ntmps57
  go_wp2_with fail
  obtain ⟨W, hW, HI⟩ := One.start w (.cells #[.int .i64 a, .int .i64 b] 46)
  rw [← hW]; clear hW
  refine wp_ord (S := One w (.cells #[.int .i64 a, .int .i64 b] 46 (0, 0))) [false, false, false, false, false, true, false, false, false, false, false, false, false, false, false, false, false, false, false, false, false, false] (by kernel_rfl) (by kernel_rfl) (fun _ _ d _ _ h => by cases d <;> exact h) ?_ (fun hHeld => ?_)
  · (first | exact HI.out.drew | exact HI.out)
  replace HI := Aside0.mk hHeld; clear hHeld
  iterate 5 (refine ord_take (v := ?_) (by rfl) ?_ ?_; rotate_left; (focus (intro w' hSw; have hk := fun i => blk_cell hSw.2 i; (try have hc := pw_cell_below hSw.1 HX.out); go_simp; try with_reducible rfl)); try simp only [Act.put, List.setIfInBounds_toArray, List.set_cons_zero, List.set_cons_succ])
  refine ord_call (by rfl) (fun K hK => ?_)
  go_simp; go_at_call 23
  refine (raddleref01_in.calls a 0 ((l.length : Int) - 1) b1 _ HE.out).mono ?_; rintro e w1 ⟨rfl, hb⟩; replace HI := Aside0.mk (HI.out.step hb.below); clear hb
  refine hK.out _ _ ?_ (fun hHeld => ?_)
  · (first | exact HI.out.drew | exact HI.out)
  clear hK K
  try simp only [Act.put, List.setIfInBounds_toArray, List.set_cons_zero, List.set_cons_succ]
  clear hHeld
  cases b1 with
  | true =>
    have p1 := hi.1 rfl
    have n0 := eq_true p1.1; have n1 := eq_true p1.2
    obtain ⟨ad, eA, hcell⟩ := Kd.at_int HR.out.1 a p1.1 p1.2
    subst eA; have HX := Aside0.mk hcell; clear hcell hi HE
    iterate 3 (refine ord_take (v := ?_) (by rfl) ?_ ?_; rotate_left; (focus (intro w' hSw; have hk := fun i => blk_cell hSw.2 i; (try have hc := pw_cell_below hSw.1 HX.out); go_simp; try with_reducible rfl)); try simp only [Act.put, List.setIfInBounds_toArray, List.set_cons_zero, List.set_cons_succ])
    by_cases c9 : 1 ≤ b
    case pos =>
      have g1 : decide (1 ≤ b) = true := decide_eq_true c9
      (refine ord_take (v := ?_) (by rfl) ?_ ?_; rotate_left; (focus (intro w' hSw; have hk := fun i => blk_cell hSw.2 i; (try have hc := pw_cell_below hSw.1 HX.out); go_simp; try with_reducible rfl)); try simp only [Act.put, List.setIfInBounds_toArray, List.set_cons_zero, List.set_cons_succ])
      iterate 9 (refine ord_take (v := ?_) (by rfl) ?_ ?_; rotate_left; (focus (intro w' hSw; have hk := fun i => blk_cell hSw.2 i; (try have hc := pw_cell_below hSw.1 HX.out); go_simp; try with_reducible rfl)); try simp only [Act.put, List.setIfInBounds_toArray, List.set_cons_zero, List.set_cons_succ])
      by_cases c19 : b ≤ rd l a
      case pos =>
        have g2 : decide (b ≤ rd l a) = true := decide_eq_true c19
        obtain rfl : r = true := (hr ▸ decide_eq_true ⟨p1.1, p1.2, c9, c19⟩)
        clear hr
        (refine ord_take (v := ?_) (by rfl) ?_ ?_; rotate_left; (focus (intro w' hSw; have hk := fun i => blk_cell hSw.2 i; (try have hc := pw_cell_below hSw.1 HX.out); go_simp; try with_reducible rfl)); try simp only [Act.put, List.setIfInBounds_toArray, List.set_cons_zero, List.set_cons_succ])
        iterate 2 (refine ord_take (v := ?_) (by rfl) ?_ ?_; rotate_left; (focus (intro w' hSw; have hk := fun i => blk_cell hSw.2 i; (try have hc := pw_cell_below hSw.1 HX.out); go_simp; try with_reducible rfl)); try simp only [Act.put, List.setIfInBounds_toArray, List.set_cons_zero, List.set_cons_succ])
        refine ord_done ?_
        go_wp2
        go_ret
        exact ⟨by simp [*], HI.out.1⟩
      case neg =>
        have g2 : decide (b ≤ rd l a) = false := decide_eq_false c19
        obtain rfl : r = false := (hr ▸ decide_eq_false (fun h => c19 h.2.2.2))
        clear hr
        (refine ord_take (v := ?_) (by rfl) ?_ ?_; rotate_left; (focus (intro w' hSw; have hk := fun i => blk_cell hSw.2 i; (try have hc := pw_cell_below hSw.1 HX.out); go_simp; try with_reducible rfl)); try simp only [Act.put, List.setIfInBounds_toArray, List.set_cons_zero, List.set_cons_succ])
        iterate 2 (refine ord_take (v := ?_) (by rfl) ?_ ?_; rotate_left; (focus (intro w' hSw; have hk := fun i => blk_cell hSw.2 i; (try have hc := pw_cell_below hSw.1 HX.out); go_simp; try with_reducible rfl)); try simp only [Act.put, List.setIfInBounds_toArray, List.set_cons_zero, List.set_cons_succ])
        refine ord_done ?_
        go_wp2
        go_ret
        exact ⟨by simp [*], HI.out.1⟩
    case neg =>
      have g1 : decide (1 ≤ b) = false := decide_eq_false c9
      obtain rfl : r = false := (hr ▸ decide_eq_false (fun h => c9 h.2.2.1))
      clear hr
      (refine ord_take (v := ?_) (by rfl) ?_ ?_; rotate_left; (focus (intro w' hSw; have hk := fun i => blk_cell hSw.2 i; (try have hc := pw_cell_below hSw.1 HX.out); go_simp; try with_reducible rfl)); try simp only [Act.put, List.setIfInBounds_toArray, List.set_cons_zero, List.set_cons_succ])
      iterate 2 (refine ord_take (v := ?_) (by rfl) ?_ ?_; rotate_left; (focus (intro w' hSw; have hk := fun i => blk_cell hSw.2 i; (try have hc := pw_cell_below hSw.1 HX.out); go_simp; try with_reducible rfl)); try simp only [Act.put, List.setIfInBounds_toArray, List.set_cons_zero, List.set_cons_succ])
      iterate 8 (refine ord_skip (by rfl) ?_; try simp only [Act.put, List.setIfInBounds_toArray, List.set_cons_zero, List.set_cons_succ])
      iterate 2 (refine ord_take (v := ?_) (by rfl) ?_ ?_; rotate_left; (focus (intro w' hSw; have hk := fun i => blk_cell hSw.2 i; (try have hc := pw_cell_below hSw.1 HX.out); go_simp; try with_reducible rfl)); try simp only [Act.put, List.setIfInBounds_toArray, List.set_cons_zero, List.set_cons_succ])
      refine ord_done ?_
      go_wp2
      go_ret
      exact ⟨by simp [*], HI.out.1⟩
  | false =>
    obtain rfl : r = false := (hr ▸ decide_eq_false (fun h => Bool.noConfusion (hi.2 ⟨h.1, h.2.1⟩)))
    clear hr hi HE
    (refine ord_take (v := ?_) (by rfl) ?_ ?_; rotate_left; (focus (intro w' hSw; have hk := fun i => blk_cell hSw.2 i; (try have hc := pw_cell_below hSw.1 HX.out); go_simp; try with_reducible rfl)); try simp only [Act.put, List.setIfInBounds_toArray, List.set_cons_zero, List.set_cons_succ])
    iterate 3 (refine ord_skip (by rfl) ?_; try simp only [Act.put, List.setIfInBounds_toArray, List.set_cons_zero, List.set_cons_succ])
    iterate 2 (refine ord_take (v := ?_) (by rfl) ?_ ?_; rotate_left; (focus (intro w' hSw; have hk := fun i => blk_cell hSw.2 i; (try have hc := pw_cell_below hSw.1 HX.out); go_simp; try with_reducible rfl)); try simp only [Act.put, List.setIfInBounds_toArray, List.set_cons_zero, List.set_cons_succ])
    iterate 8 (refine ord_skip (by rfl) ?_; try simp only [Act.put, List.setIfInBounds_toArray, List.set_cons_zero, List.set_cons_succ])
    iterate 2 (refine ord_take (v := ?_) (by rfl) ?_ ?_; rotate_left; (focus (intro w' hSw; have hk := fun i => blk_cell hSw.2 i; (try have hc := pw_cell_below hSw.1 HX.out); go_simp; try with_reducible rfl)); try simp only [Act.put, List.setIfInBounds_toArray, List.set_cons_zero, List.set_cons_succ])
    refine ord_done ?_
    go_wp2
    go_ret
    exact ⟨by simp [*], HI.out.1⟩
abbrev opO (x : Opr) (A2 : Option Addr) (c2 : Nat) (A10 : Option Addr) (c10 : Nat) (A11 : Option Addr) (c11 : Nat) : Obj := .cells #[.int .i64 x.f0.f0, .int .i64 x.f0.f1, .slice A2 x.f1.length c2, .int .i64 x.f2.f0, .int .i64 x.f2.f1, .int .i64 x.f2.f2, .int .i64 x.f3, .int .i64 x.f4, .string x.f5, .int .i64 x.f6, .slice A10 x.f7.length c10, .slice A11 x.f8.length c11] 52 (0, 0)
theorem refIn_at (a b c : Int) (p : Prop) (hp : (b ≤ a ∧ a ≤ c) ↔ p) : ∃ r, Aside0 (raddleref01_in.f a b c = some r ∧ (r = true ↔ p)) := ⟨_, ⟨refIn_eq _ _ _, by rw [decide_eq_true_eq]; exact hp⟩⟩
theorem refStamp_at (a b c : Int) : ∃ r, Aside0 (raddleref01_Stamp.f a b c = some r ∧ (r = true ↔ stampOk a b c)) := by
  refine ⟨decide (stampOk a b c), ⟨?_, decide_eq_true_iff⟩⟩
  unfold raddleref01_Stamp.f stampOk
  simp only [refIn_eq, Option.bind_some, decide_eq_true_eq]
  by_cases h1 : 0 ≤ a ∧ a ≤ 1099511627776 <;> by_cases h2 : 0 ≤ b ∧ b ≤ 65536 <;> simp [h1, h2]
theorem refKey_at (s : ByteArray) : ∃ r, Aside0 (raddleref01_Key.f s = some r ∧ (r = true ↔ 1 ≤ s.size ∧ s.size ≤ 12)) := by
  refine ⟨_, ⟨by unfold raddleref01_Key.f; rw [refIn_eq, Option.bind_some], by rw [decide_eq_true_eq]; omega⟩⟩
theorem refVector_l0 (l : List Int) (hm : l.length ≤ 5) : ∀ (d k i : Nat), i + d = l.length → d < k → ∃ e, raddleref01_Vector.l0 k l (i : Int) = some e ∧ (e = 0 ↔ ∀ n ∈ l.drop i, 0 ≤ n ∧ n ≤ 1073741824) := by
  intro d
  induction d with
  | zero =>
    intro k i hi hk
    obtain ⟨k, rfl⟩ : ∃ m, k = m + 1 := ⟨k - 1, by omega⟩
    exact ⟨0, by simp only [raddleref01_Vector.l0]; rw [if_neg (by omega)], by simp [show l.drop i = [] from List.drop_of_length_le (by omega)]⟩
  | succ d ih =>
    intro k i hi hk
    obtain ⟨k, rfl⟩ : ∃ m, k = m + 1 := ⟨k - 1, by omega⟩
    have hlt : i < l.length := by omega
    have hd : l.drop i = l[i] :: l.drop (i + 1) := List.drop_eq_getElem_cons hlt
    have hrd : rd l (i : Int) = l[i] := by rw [rd_nat, List.getD_eq_getElem?_getD, List.getElem?_eq_getElem hlt]; rfl
    obtain ⟨e, h1, h2⟩ := ih k (i + 1) (by omega) (by omega)
    have hw : wrap64 ((i : Int) + 1) = ((i + 1 : Nat) : Int) := by rw [wrap_in _ (by omega) (by omega)]; omega
    simp only [raddleref01_Vector.l0]
    rw [if_pos (by omega), if_pos (by omega), refIn_eq, Option.bind_some, hrd, hw, h1, hd]
    by_cases h : 0 ≤ l[i] ∧ l[i] ≤ 1073741824
    · rw [if_pos (decide_eq_true h)]; exact ⟨e, rfl, h2.trans ⟨fun x n hn => by rcases List.mem_cons.1 hn with rfl | hn; exact h; exact x n hn, fun x n hn => x n (List.mem_cons_of_mem _ hn)⟩⟩
    · rw [decide_eq_false h, if_neg (by decide)]; exact ⟨1, rfl, Iff.intro (fun h' => absurd h' (by decide)) (fun h' => (h (h' _ (List.mem_cons_self ..))).elim)⟩
theorem refVector_at (l : List Int) : ∃ k e, Aside0 (raddleref01_Vector.f k l = some e ∧ (e = 0 ↔ vecOk l)) := by
  by_cases h : 1 ≤ l.length ∧ l.length ≤ 5
  · obtain ⟨e, h1, h2⟩ := refVector_l0 l h.2 l.length (l.length + 1) 0 (by omega) (by omega)
    refine ⟨l.length + 1, e, ⟨?_, h2.trans ⟨fun x => ⟨h.1, h.2, x⟩, fun x => x.2.2⟩⟩⟩
    unfold raddleref01_Vector.f
    rw [refIn_eq, Option.bind_some, if_pos (decide_eq_true (by omega))]
    exact h1
  · refine ⟨0, 2, ⟨?_, Iff.intro (fun h' => absurd h' (by decide)) (fun h' => (h ⟨h'.1, h'.2.1⟩).elim)⟩⟩
    unfold raddleref01_Vector.f
    rw [refIn_eq, Option.bind_some, decide_eq_false (by omega), if_neg (by decide)]
theorem refVector_ok (l : List Int) (h : vecOk l) : ∃ k, Aside0 (raddleref01_Vector.f k l = some 0) := by
  obtain ⟨k, e, he⟩ := refVector_at l
  obtain rfl := he.out.2.2 h
  exact ⟨k, ⟨he.out.1⟩⟩
theorem drop_val (l : List Val) (i : Nat) (h : i < l.length) : l.drop i = rd_T92 l (i : Int) :: l.drop (i + 1) := by
  rw [List.drop_eq_getElem_cons h, show rd_T92 l (i : Int) = l[i] by simp [rd_T92, h]]
theorem drop_int (l : List Int) (i : Nat) (h : i < l.length) : l.drop i = rd l (i : Int) :: l.drop (i + 1) := by
  rw [List.drop_eq_getElem_cons h, show rd l (i : Int) = l[i] by rw [rd_nat, List.getD_eq_getElem?_getD, List.getElem?_eq_getElem h]; rfl]
theorem refValue_eq (v : Val) : raddleref01_Value.f v.f0 v.f1 v.f2 = some (decide (goodV v)) := by
  obtain ⟨a, b, s⟩ := v
  unfold raddleref01_Value.f goodV
  simp only [refIn_eq, Option.bind_some, decide_eq_true_eq]
  by_cases h1 : a = 1
  · subst h1
    by_cases h2 : b = 0 <;> by_cases h3 : s.toList = [] <;> simp [h2, h3]
  by_cases h2 : a = 2
  · subst h2
    by_cases h4 : 0 ≤ b ∧ b ≤ 1
    · have h5 : b = 0 ∨ b = 1 := by omega
      by_cases h3 : s.toList = [] <;> simp [h4, h5, h3]
    · have h5 : ¬ (b = 0 ∨ b = 1) := by omega
      simp [h4, h5]
  by_cases h3 : a = 3
  · subst h3
    by_cases h4 : -1152921504606846976 ≤ b ∧ b ≤ 1152921504606846976
    · by_cases h6 : s.toList = [] <;> simp [h4, h6]
    · have h5 : ¬ (-1152921504606846976 ≤ b ∧ b ≤ 1152921504606846976 ∧ s.toList = []) := fun h => h4 ⟨h.1, h.2.1⟩
      simp [h4, h5]
  by_cases h4 : a = 4
  · subst h4
    by_cases h5 : b = 0 <;> by_cases h6 : (s.size : Int) ≤ 24 <;> simp [h5, h6]
  simp [h1, h2, h3, h4]
theorem refSmall_at (v : Val) : ∃ r, Aside0 (raddleref01_Small.f v.f0 v.f1 v.f2 = some r ∧ (r = true ↔ smallV v)) := by
  refine ⟨decide (smallV v), ⟨?_, decide_eq_true_iff⟩⟩
  unfold raddleref01_Small.f smallV
  rw [refValue_eq, Option.bind_some]
  by_cases h1 : goodV v <;> by_cases h2 : v.f0 = 3 <;> simp [h1, h2, refIn_eq]
theorem refFits_at (v : Val) (t : Int) : ∃ r, Aside0 (raddleref01_Fits.f v.f0 v.f1 v.f2 t = some r ∧ (r = true ↔ fitsV v t)) := by
  refine ⟨decide (fitsV v t), ⟨?_, decide_eq_true_iff⟩⟩
  unfold raddleref01_Fits.f raddleref01_Type.f fitsV
  rw [refValue_eq, refIn_eq, Option.bind_some]
  by_cases h0 : 2 ≤ t ∧ t ≤ 4 <;> by_cases h1 : goodV v <;> by_cases h2 : v.f0 = t <;> by_cases h3 : v.f0 = 1 <;> simp [h0, h1, h2, h3]
theorem refHas_at (l : List Int) (d : Dt) : ∃ r, Aside0 (raddleref01_Has.f l d.f0 d.f1 = some r ∧ (r = true ↔ hasD l d)) := ⟨_, ⟨rfl, decide_eq_true_iff⟩⟩
theorem refLess_at (a b : Dt) : ∃ r, Aside0 (raddleref01_LessDot.f a.f0 a.f1 b.f0 b.f1 = some r ∧ (r = true ↔ lessD a b)) := by
  refine ⟨decide (lessD a b), ⟨?_, decide_eq_true_iff⟩⟩
  unfold raddleref01_LessDot.f lessD
  by_cases h1 : a.f0 < b.f0 <;> by_cases h2 : a.f0 = b.f0 <;> simp [h1, h2]
theorem addr_zero (a : Addr) : a.add 0 = a := by
  cases a; unfold Addr.add; split <;> simp_all
theorem hadFrom_step (v : List Int) (l : List Dt) (i : Nat) (h : i < l.length) : hadFrom v l i ↔ (hasD v (rd_T46 l (i : Int)) ∧ (0 < i → lessD (rd_T46 l ((i - 1 : Nat) : Int)) (rd_T46 l (i : Int)))) ∧ hadFrom v l (i + 1) := by
  have e : ∀ j : Nat, rd_T46 l (j : Int) = l.getD j z46 := fun j => by simp [rd_T46]
  rw [e, e]
  constructor
  · intro H
    exact ⟨⟨(H i h (Nat.le_refl _)).1, (H i h (Nat.le_refl _)).2⟩, fun j h1 h2 => H j h1 (by omega)⟩
  · intro H j h1 h2
    by_cases hj : j = i
    · subst hj; exact H.1
    · exact H.2 j h1 (by omega)
end Go.Proofs.YtnbjflcfdncocaaGreat.M
