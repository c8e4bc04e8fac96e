/- The law MsgKinds of the program's messages holds for every input (its row stands in the last of these texts): part 6 of 6. -/
import Derived.Test.YtnbjflcfdncocaaGreatMsgKinds3
import Derived.Test.YtnbjflcfdncocaaGreatMsgKinds5
import Derived.Test.YtnbjflcfdncocaaGreatMsgKinds2
import Derived.Test.YtnbjflcfdncocaaGreatMsgKinds4
import Derived.Lib.Bytes
import Derived.Deep.Slices
import Derived.WalkKit
import Derived.ProofKit
import Derived.SizedLaws
import Derived.ChangeSlices
import Derived.Test.YtnbjflcfdncocaaGreatRows
import Derived.OpenShut
import Derived.ShutString
import Derived.ChangeOld
import Derived.Below
namespace Go.Proofs.YtnbjflcfdncocaaGreat.M
open Go.RowKit Go.Proofs.YtnbjflcfdncocaaGreatW.PrintWords Go.Proofs.YtnbjflcfdncocaaGreatW.PrintLast Go.Proofs.YtnbjflcfdncocaaGreatW.PrintMore
set_option maxHeartbeats 8000000 in
set_option maxRecDepth 100000 in
theorem refop_no (n : Int) (A1 : Option Addr) (c1 : Nat) (f : List Tbl) (x : Opr) (A2 : Option Addr) (c2 : Nat) (A10 : Option Addr) (c10 : Nat) (A11 : Option Addr) (c11 : Nat) (r : Bool) (w : World) (hn : 1 ≤ n ∧ n ≤ 5) (h1 : Kd.C k56 w A1 f.length f ∧ f.length ≤ c1) (h2 : Kd.C (Kd.int .i64) w A2 x.f1.length x.f1 ∧ x.f1.length ≤ c2) (h10 : Kd.C k92 w A10 x.f7.length x.f7 ∧ x.f7.length ≤ c10) (h11 : Kd.C k46 w A11 x.f8.length x.f8 ∧ x.f8.length ≤ c11) (hno : ¬ (wholeP n x ∧ (0 ≤ x.f4 ∧ x.f4 < (f.length : Int)) ∧ (1 ≤ x.f5.size ∧ x.f5.size ≤ 12))) (hr : some (opB n f x) = some r) :
    Calls Tryz.prog 25 #[.int .i64 n, .slice A1 f.length c1, .agg #[.int .i64 x.f0.f0, .int .i64 x.f0.f1, .slice A2 x.f1.length c2, .int .i64 x.f2.f0, .int .i64 x.f2.f1, .int .i64 x.f2.f2, .int .i64 x.f3, .int .i64 x.f4, .string x.f5, .int .i64 x.f6, .slice A10 x.f7.length c10, .slice A11 x.f8.length c11]] w fun e w' => e = .returned (.bool r) ∧ Below w.heap.size w w' := by
  have H1 := Aside0.mk h1; have H2 := Aside0.mk h2; have H10 := Aside0.mk h10; have H11 := Aside0.mk h11
  have hm := Kd.C_max h1.1
  have gw1 : IntKind.i64.wrap (n - 1) = n - 1 := (i64_w _).trans (wrap_in _ (by omega) (by omega))
  have gw3 : IntKind.i64.wrap ((f.length : Int) - 1) = (f.length : Int) - 1 := (i64_w _).trans (wrap_in _ (by omega) (by omega))
  obtain ⟨b1, E1⟩ := refIn_at x.f0.f0 0 (n - 1) (0 ≤ x.f0.f0 ∧ x.f0.f0 < n) (by omega)
  obtain ⟨b2, E2⟩ := refIn_at x.f0.f1 1 1073741824 (1 ≤ x.f0.f1 ∧ x.f0.f1 ≤ 1073741824) Iff.rfl
  obtain ⟨b8, E8⟩ := refIn_at x.f4 0 ((f.length : Int) - 1) (0 ≤ x.f4 ∧ x.f4 < (f.length : Int)) (by omega)
  obtain ⟨kv, ev, EV⟩ := refVector_at x.f1
  obtain ⟨b6, E6⟩ := refStamp_at x.f2.f0 x.f2.f1 x.f2.f2
  obtain ⟨b9, E9⟩ := refKey_at x.f5
  clear h1 h2 h10 h11 hm
  go_enter Tryz.func25, Tryz.ntmps25
  go_wp2_with fail
  obtain ⟨W, hW, HI⟩ := One.start w (.cells #[.int .i64 x.f0.f0, .int .i64 x.f0.f1, .slice A2 x.f1.length c2, .int .i64 x.f2.f0, .int .i64 x.f2.f1, .int .i64 x.f2.f2, .int .i64 x.f3, .int .i64 x.f4, .string x.f5, .int .i64 x.f6, .slice A10 x.f7.length c10, .slice A11 x.f8.length c11] 52)
  rw [← hW]; clear hW
  refine wp_ord (S := One w (opO x A2 c2 A10 c10 A11 c11)) [false, false, false, false, false, true, false, false, false, false, false, true, false, false, false, false, false, false, false, false, false, false, false, false, true, false, false, false, false, false, false, false, false, false, false, false, false, false, false, false, false, false, false, false, true, false, false, false, false, false, false, false, false, false, false, false, false, false, false, false, false, false, true, false, false, false, false, false, true, false, false] (by kernel_rfl) (by kernel_rfl) (fun _ _ d _ _ h => by cases d <;> exact h) ?_ (fun hHeld => ?_)
  · (first | exact HI.out.drew | exact HI.out)
  replace HI := Aside0.mk hHeld; clear hHeld
  iterate 5 (refine ord_take (v := ?_) (by rfl) ?_ ?_; rotate_left; (focus (intro w' hSw; have hk := fun i => blk_cell hSw.2 i; (try have hc := pw_cell_below hSw.1 HX.out); go_simp; (try with_reducible rfl); done)); try simp only [Act.put, List.setIfInBounds_toArray, List.set_cons_zero, List.set_cons_succ])
  refine ord_call (by rfl) (fun K hK => ?_)
  go_simp; go_at_call 23
  refine (raddleref01_in.calls x.f0.f0 0 (n - 1) b1 _ E1.out.1).mono ?_; rintro e w1 ⟨rfl, hb⟩; replace HI := Aside0.mk (HI.out.step (by first | exact hb | exact hb.below)); clear hb
  refine hK.out _ _ ?_ (fun hHeld => ?_)
  · (first | exact HI.out.drew | exact HI.out)
  clear hK K
  try simp only [Act.put, List.setIfInBounds_toArray, List.set_cons_zero, List.set_cons_succ]
  clear hHeld
  cases b1 with
  | true =>
    have p1 := E1.out.2.1 rfl
    clear E1
    iterate 5 (refine ord_take (v := ?_) (by rfl) ?_ ?_; rotate_left; (focus (intro w' hSw; have hk := fun i => blk_cell hSw.2 i; (try have hc := pw_cell_below hSw.1 HX.out); go_simp; (try with_reducible rfl); done)); try simp only [Act.put, List.setIfInBounds_toArray, List.set_cons_zero, List.set_cons_succ])
    refine ord_call (by rfl) (fun K hK => ?_)
    go_simp; go_at_call 23
    refine (raddleref01_in.calls x.f0.f1 1 1073741824 b2 _ E2.out.1).mono ?_; rintro e w1 ⟨rfl, hb⟩; replace HI := Aside0.mk (HI.out.step (by first | exact hb | exact hb.below)); clear hb
    refine hK.out _ _ ?_ (fun hHeld => ?_)
    · (first | exact HI.out.drew | exact HI.out)
    clear hK K
    try simp only [Act.put, List.setIfInBounds_toArray, List.set_cons_zero, List.set_cons_succ]
    clear hHeld
    cases b2 with
    | true =>
      have p2 := E2.out.2.1 rfl
      have gw2 : IntKind.i64.wrap (x.f0.f1 - 1) = x.f0.f1 - 1 := (i64_w _).trans (wrap_in _ (by omega) (by omega))
      clear E2
      iterate 7 (refine ord_take (v := ?_) (by rfl) ?_ ?_; rotate_left; (focus (intro w' hSw; have hk := fun i => blk_cell hSw.2 i; (try have hc := pw_cell_below hSw.1 HX.out); go_simp; (try with_reducible rfl); done)); try simp only [Act.put, List.setIfInBounds_toArray, List.set_cons_zero, List.set_cons_succ])
      by_cases c19 : (x.f1.length : Int) = n
      case pos =>
        have g3 : ((x.f1.length : Int) != n) = false := bne_eq_false_iff_eq.2 c19
        obtain ⟨ad, eA, hcell⟩ := Kd.at_int H2.out.1 x.f0.f0 p1.1 (by omega)
        subst eA; have HX := Aside0.mk hcell; clear hcell
        have q1 := eq_true p1.1; have q2 := eq_true (show x.f0.f0 < (x.f1.length : Int) by omega)
        (refine ord_take (v := ?_) (by rfl) ?_ ?_; rotate_left; (focus (intro w' hSw; have hk := fun i => blk_cell hSw.2 i; (try have hc := pw_cell_below hSw.1 HX.out); go_simp; (try with_reducible rfl); done)); try simp only [Act.put, List.setIfInBounds_toArray, List.set_cons_zero, List.set_cons_succ])
        iterate 4 (refine ord_take (v := ?_) (by rfl) ?_ ?_; rotate_left; (focus (intro w' hSw; have hk := fun i => blk_cell hSw.2 i; (try have hc := pw_cell_below hSw.1 HX.out); go_simp; (try with_reducible rfl); done)); try simp only [Act.put, List.setIfInBounds_toArray, List.set_cons_zero, List.set_cons_succ])
        refine ord_call (by rfl) (fun K hK => ?_)
        go_simp; go_at_call 26
        refine (raddleref01_Vector.calls kv (some ad) c2 x.f1 ev _ (Kd.C_below H2.out.1 HI.out.1) H2.out.2 EV.out.1).mono ?_; rintro e w1 ⟨rfl, hb⟩; replace HI := Aside0.mk (HI.out.step (by first | exact hb | exact hb.below)); clear hb
        refine hK.out _ _ ?_ (fun hHeld => ?_)
        · (first | exact HI.out.drew | exact HI.out)
        clear hK K
        try simp only [Act.put, List.setIfInBounds_toArray, List.set_cons_zero, List.set_cons_succ]
        clear hHeld
        by_cases c25 : ev = 0
        case pos =>
          have p4 := EV.out.2.1 c25
          have g4 : (ev != 0) = false := bne_eq_false_iff_eq.2 c25
          clear EV
          (refine ord_take (v := ?_) (by rfl) ?_ ?_; rotate_left; (focus (intro w' hSw; have hk := fun i => blk_cell hSw.2 i; (try have hc := pw_cell_below hSw.1 HX.out); go_simp; (try with_reducible rfl); done)); try simp only [Act.put, List.setIfInBounds_toArray, List.set_cons_zero, List.set_cons_succ])
          iterate 13 (refine ord_take (v := ?_) (by rfl) ?_ ?_; rotate_left; (focus (intro w' hSw; have hk := fun i => blk_cell hSw.2 i; (try have hc := pw_cell_below hSw.1 HX.out); go_simp; (try with_reducible rfl); done)); try simp only [Act.put, List.setIfInBounds_toArray, List.set_cons_zero, List.set_cons_succ])
          by_cases c39 : rd x.f1 x.f0.f0 = x.f0.f1 - 1
          case pos =>
            have g5 : (rd x.f1 x.f0.f0 != x.f0.f1 - 1) = false := bne_eq_false_iff_eq.2 c39
            (refine ord_take (v := ?_) (by rfl) ?_ ?_; rotate_left; (focus (intro w' hSw; have hk := fun i => blk_cell hSw.2 i; (try have hc := pw_cell_below hSw.1 HX.out); go_simp; (try with_reducible rfl); done)); try simp only [Act.put, List.setIfInBounds_toArray, List.set_cons_zero, List.set_cons_succ])
            iterate 4 (refine ord_take (v := ?_) (by rfl) ?_ ?_; rotate_left; (focus (intro w' hSw; have hk := fun i => blk_cell hSw.2 i; (try have hc := pw_cell_below hSw.1 HX.out); go_simp; (try with_reducible rfl); done)); try simp only [Act.put, List.setIfInBounds_toArray, List.set_cons_zero, List.set_cons_succ])
            refine ord_call (by rfl) (fun K hK => ?_)
            go_simp; go_at_call 53
            refine (raddleref01_Stamp.calls x.f2.f0 x.f2.f1 x.f2.f2 b6 _ E6.out.1).mono ?_; rintro e w1 ⟨rfl, hb⟩; replace HI := Aside0.mk (HI.out.step (by first | exact hb | exact hb.below)); clear hb
            refine hK.out _ _ ?_ (fun hHeld => ?_)
            · (first | exact HI.out.drew | exact HI.out)
            clear hK K
            try simp only [Act.put, List.setIfInBounds_toArray, List.set_cons_zero, List.set_cons_succ]
            clear hHeld
            cases b6 with
            | true =>
              have p6 := E6.out.2.1 rfl
              clear E6
              iterate 9 (refine ord_take (v := ?_) (by rfl) ?_ ?_; rotate_left; (focus (intro w' hSw; have hk := fun i => blk_cell hSw.2 i; (try have hc := pw_cell_below hSw.1 HX.out); go_simp; (try with_reducible rfl); done)); try simp only [Act.put, List.setIfInBounds_toArray, List.set_cons_zero, List.set_cons_succ])
              by_cases c54 : x.f2.f2 = x.f0.f0
              case pos =>
                have g7 : (x.f2.f2 != x.f0.f0) = false := bne_eq_false_iff_eq.2 c54
                (refine ord_take (v := ?_) (by rfl) ?_ ?_; rotate_left; (focus (intro w' hSw; have hk := fun i => blk_cell hSw.2 i; (try have hc := pw_cell_below hSw.1 HX.out); go_simp; (try with_reducible rfl); done)); try simp only [Act.put, List.setIfInBounds_toArray, List.set_cons_zero, List.set_cons_succ])
                iterate 7 (refine ord_take (v := ?_) (by rfl) ?_ ?_; rotate_left; (focus (intro w' hSw; have hk := fun i => blk_cell hSw.2 i; (try have hc := pw_cell_below hSw.1 HX.out); go_simp; (try with_reducible rfl); done)); try simp only [Act.put, List.setIfInBounds_toArray, List.set_cons_zero, List.set_cons_succ])
                refine ord_call (by rfl) (fun K hK => ?_)
                go_simp; go_at_call 23
                refine (raddleref01_in.calls x.f4 0 ((f.length : Int) - 1) b8 _ E8.out.1).mono ?_; rintro e w1 ⟨rfl, hb⟩; replace HI := Aside0.mk (HI.out.step (by first | exact hb | exact hb.below)); clear hb
                refine hK.out _ _ ?_ (fun hHeld => ?_)
                · (first | exact HI.out.drew | exact HI.out)
                clear hK K
                try simp only [Act.put, List.setIfInBounds_toArray, List.set_cons_zero, List.set_cons_succ]
                clear hHeld
                cases b8 with
                | true =>
                  have p8 := E8.out.2.1 rfl
                  clear E8
                  iterate 5 (refine ord_take (v := ?_) (by rfl) ?_ ?_; rotate_left; (focus (intro w' hSw; have hk := fun i => blk_cell hSw.2 i; (try have hc := pw_cell_below hSw.1 HX.out); go_simp; (try with_reducible rfl); done)); try simp only [Act.put, List.setIfInBounds_toArray, List.set_cons_zero, List.set_cons_succ])
                  refine ord_call (by rfl) (fun K hK => ?_)
                  go_simp; go_at_call 54
                  refine (raddleref01_Key.calls x.f5 b9 _ E9.out.1).mono ?_; rintro e w1 ⟨rfl, hb⟩; replace HI := Aside0.mk (HI.out.step (by first | exact hb | exact hb.below)); clear hb
                  refine hK.out _ _ ?_ (fun hHeld => ?_)
                  · (first | exact HI.out.drew | exact HI.out)
                  clear hK K
                  try simp only [Act.put, List.setIfInBounds_toArray, List.set_cons_zero, List.set_cons_succ]
                  clear hHeld
                  cases b9 with
                  | true =>
                    have p9 := E9.out.2.1 rfl
                    clear E9
                    iterate 2 (refine ord_take (v := ?_) (by rfl) ?_ ?_; rotate_left; (focus (intro w' hSw; have hk := fun i => blk_cell hSw.2 i; (try have hc := pw_cell_below hSw.1 HX.out); go_simp; (try with_reducible rfl); done)); try simp only [Act.put, List.setIfInBounds_toArray, List.set_cons_zero, List.set_cons_succ])
                    refine ord_done ?_
                    exact absurd ⟨⟨p1.1, p1.2, p2.1, p2.2, c19, p4, c39, p6, c54⟩, p8, p9⟩ hno
                  | false =>
                    obtain rfl := opB_no hr (fun h => Bool.noConfusion (E9.out.2.2 h.2.2.1))
                    clear hr
                    iterate 2 (refine ord_take (v := ?_) (by rfl) ?_ ?_; rotate_left; (focus (intro w' hSw; have hk := fun i => blk_cell hSw.2 i; (try have hc := pw_cell_below hSw.1 HX.out); go_simp; (try with_reducible rfl); done)); try simp only [Act.put, List.setIfInBounds_toArray, List.set_cons_zero, List.set_cons_succ])
                    refine ord_done ?_
                    go_wp2
                    go_ret
                    exact ⟨rfl, HI.out.1⟩
                | false =>
                  obtain rfl := opB_no hr (fun h => Bool.noConfusion (E8.out.2.2 h.2.1))
                  clear hr
                  repeat (first | (refine ord_skip (by rfl) ?_; try simp only [Act.put, List.setIfInBounds_toArray, List.set_cons_zero, List.set_cons_succ]) | (refine ord_pass (by rfl) ?_; try simp only [Act.put, List.setIfInBounds_toArray, List.set_cons_zero, List.set_cons_succ]) | (refine ord_take (v := ?_) (by rfl) ?_ ?_; rotate_left; (focus (intro w' hSw; have hk := fun i => blk_cell hSw.2 i; (try have hc := pw_cell_below hSw.1 HX.out); go_simp; (try with_reducible rfl); done)); try simp only [Act.put, List.setIfInBounds_toArray, List.set_cons_zero, List.set_cons_succ]))
                  refine ord_done ?_
                  go_wp2
                  go_ret
                  exact ⟨rfl, HI.out.1⟩
              case neg =>
                have g7 : (x.f2.f2 != x.f0.f0) = true := bne_iff_ne.2 c54
                obtain rfl := opB_no hr (fun h => c54 h.1.2.2.2.2.2.2.2.2)
                clear hr
                (refine ord_take (v := ?_) (by rfl) ?_ ?_; rotate_left; (focus (intro w' hSw; have hk := fun i => blk_cell hSw.2 i; (try have hc := pw_cell_below hSw.1 HX.out); go_simp; (try with_reducible rfl); done)); try simp only [Act.put, List.setIfInBounds_toArray, List.set_cons_zero, List.set_cons_succ])
                repeat (first | (refine ord_skip (by rfl) ?_; try simp only [Act.put, List.setIfInBounds_toArray, List.set_cons_zero, List.set_cons_succ]) | (refine ord_pass (by rfl) ?_; try simp only [Act.put, List.setIfInBounds_toArray, List.set_cons_zero, List.set_cons_succ]) | (refine ord_take (v := ?_) (by rfl) ?_ ?_; rotate_left; (focus (intro w' hSw; have hk := fun i => blk_cell hSw.2 i; (try have hc := pw_cell_below hSw.1 HX.out); go_simp; (try with_reducible rfl); done)); try simp only [Act.put, List.setIfInBounds_toArray, List.set_cons_zero, List.set_cons_succ]))
                refine ord_done ?_
                go_wp2
                go_ret
                exact ⟨rfl, HI.out.1⟩
            | false =>
              obtain rfl := opB_no hr (fun h => Bool.noConfusion (E6.out.2.2 h.1.2.2.2.2.2.2.2.1))
              clear hr
              repeat (first | (refine ord_skip (by rfl) ?_; try simp only [Act.put, List.setIfInBounds_toArray, List.set_cons_zero, List.set_cons_succ]) | (refine ord_pass (by rfl) ?_; try simp only [Act.put, List.setIfInBounds_toArray, List.set_cons_zero, List.set_cons_succ]) | (refine ord_take (v := ?_) (by rfl) ?_ ?_; rotate_left; (focus (intro w' hSw; have hk := fun i => blk_cell hSw.2 i; (try have hc := pw_cell_below hSw.1 HX.out); go_simp; (try with_reducible rfl); done)); try simp only [Act.put, List.setIfInBounds_toArray, List.set_cons_zero, List.set_cons_succ]))
              refine ord_done ?_
              go_wp2
              go_ret
              exact ⟨rfl, HI.out.1⟩
          case neg =>
            have g5 : (rd x.f1 x.f0.f0 != x.f0.f1 - 1) = true := bne_iff_ne.2 c39
            obtain rfl := opB_no hr (fun h => c39 h.1.2.2.2.2.2.2.1)
            clear hr
            (refine ord_take (v := ?_) (by rfl) ?_ ?_; rotate_left; (focus (intro w' hSw; have hk := fun i => blk_cell hSw.2 i; (try have hc := pw_cell_below hSw.1 HX.out); go_simp; (try with_reducible rfl); done)); try simp only [Act.put, List.setIfInBounds_toArray, List.set_cons_zero, List.set_cons_succ])
            repeat (first | (refine ord_skip (by rfl) ?_; try simp only [Act.put, List.setIfInBounds_toArray, List.set_cons_zero, List.set_cons_succ]) | (refine ord_pass (by rfl) ?_; try simp only [Act.put, List.setIfInBounds_toArray, List.set_cons_zero, List.set_cons_succ]) | (refine ord_take (v := ?_) (by rfl) ?_ ?_; rotate_left; (focus (intro w' hSw; have hk := fun i => blk_cell hSw.2 i; (try have hc := pw_cell_below hSw.1 HX.out); go_simp; (try with_reducible rfl); done)); try simp only [Act.put, List.setIfInBounds_toArray, List.set_cons_zero, List.set_cons_succ]))
            refine ord_done ?_
            go_wp2
            go_ret
            exact ⟨rfl, HI.out.1⟩
        case neg =>
          have g4 : (ev != 0) = true := bne_iff_ne.2 c25
          obtain rfl := opB_no hr (fun h => c25 (EV.out.2.2 h.1.2.2.2.2.2.1))
          clear hr
          (refine ord_take (v := ?_) (by rfl) ?_ ?_; rotate_left; (focus (intro w' hSw; have hk := fun i => blk_cell hSw.2 i; (try have hc := pw_cell_below hSw.1 HX.out); go_simp; (try with_reducible rfl); done)); try simp only [Act.put, List.setIfInBounds_toArray, List.set_cons_zero, List.set_cons_succ])
          repeat (first | (refine ord_skip (by rfl) ?_; try simp only [Act.put, List.setIfInBounds_toArray, List.set_cons_zero, List.set_cons_succ]) | (refine ord_pass (by rfl) ?_; try simp only [Act.put, List.setIfInBounds_toArray, List.set_cons_zero, List.set_cons_succ]) | (refine ord_take (v := ?_) (by rfl) ?_ ?_; rotate_left; (focus (intro w' hSw; have hk := fun i => blk_cell hSw.2 i; (try have hc := pw_cell_below hSw.1 HX.out); go_simp; (try with_reducible rfl); done)); try simp only [Act.put, List.setIfInBounds_toArray, List.set_cons_zero, List.set_cons_succ]))
          refine ord_done ?_
          go_wp2
          go_ret
          exact ⟨rfl, HI.out.1⟩
      case neg =>
        have g3 : ((x.f1.length : Int) != n) = true := bne_iff_ne.2 c19
        obtain rfl := opB_no hr (fun h => c19 h.1.2.2.2.2.1)
        clear hr
        (refine ord_take (v := ?_) (by rfl) ?_ ?_; rotate_left; (focus (intro w' hSw; have hk := fun i => blk_cell hSw.2 i; (try have hc := pw_cell_below hSw.1 HX.out); go_simp; (try with_reducible rfl); done)); try simp only [Act.put, List.setIfInBounds_toArray, List.set_cons_zero, List.set_cons_succ])
        repeat (first | (refine ord_skip (by rfl) ?_; try simp only [Act.put, List.setIfInBounds_toArray, List.set_cons_zero, List.set_cons_succ]) | (refine ord_pass (by rfl) ?_; try simp only [Act.put, List.setIfInBounds_toArray, List.set_cons_zero, List.set_cons_succ]) | (refine ord_take (v := ?_) (by rfl) ?_ ?_; rotate_left; (focus (intro w' hSw; have hk := fun i => blk_cell hSw.2 i; (try have hc := pw_cell_below hSw.1 HX.out); go_simp; (try with_reducible rfl); done)); try simp only [Act.put, List.setIfInBounds_toArray, List.set_cons_zero, List.set_cons_succ]))
        refine ord_done ?_
        go_wp2
        go_ret
        exact ⟨rfl, HI.out.1⟩
    | false =>
      obtain rfl := opB_no hr (fun h => Bool.noConfusion (E2.out.2.2 ⟨h.1.2.2.1, h.1.2.2.2.1⟩))
      clear hr
      repeat (first | (refine ord_skip (by rfl) ?_; try simp only [Act.put, List.setIfInBounds_toArray, List.set_cons_zero, List.set_cons_succ]) | (refine ord_pass (by rfl) ?_; try simp only [Act.put, List.setIfInBounds_toArray, List.set_cons_zero, List.set_cons_succ]) | (refine ord_take (v := ?_) (by rfl) ?_ ?_; rotate_left; (focus (intro w' hSw; have hk := fun i => blk_cell hSw.2 i; (try have hc := pw_cell_below hSw.1 HX.out); go_simp; (try with_reducible rfl); done)); try simp only [Act.put, List.setIfInBounds_toArray, List.set_cons_zero, List.set_cons_succ]))
      refine ord_done ?_
      go_wp2
      go_ret
      exact ⟨rfl, HI.out.1⟩
  | false =>
    obtain rfl := opB_no hr (fun h => Bool.noConfusion (E1.out.2.2 ⟨h.1.1, h.1.2.1⟩))
    clear hr
    repeat (first | (refine ord_skip (by rfl) ?_; try simp only [Act.put, List.setIfInBounds_toArray, List.set_cons_zero, List.set_cons_succ]) | (refine ord_pass (by rfl) ?_; try simp only [Act.put, List.setIfInBounds_toArray, List.set_cons_zero, List.set_cons_succ]) | (refine ord_take (v := ?_) (by rfl) ?_ ?_; rotate_left; (focus (intro w' hSw; have hk := fun i => blk_cell hSw.2 i; (try have hc := pw_cell_below hSw.1 HX.out); go_simp; (try with_reducible rfl); done)); try simp only [Act.put, List.setIfInBounds_toArray, List.set_cons_zero, List.set_cons_succ]))
    refine ord_done ?_
    go_wp2
    go_ret
    exact ⟨rfl, HI.out.1⟩
set_option maxHeartbeats 8000000 in
set_option maxRecDepth 100000 in
theorem refop_yes (n : Int) (A1 : Option Addr) (c1 : Nat) (f : List Tbl) (x : Opr) (A2 : Option Addr) (c2 : Nat) (A10 : Option Addr) (c10 : Nat) (A11 : Option Addr) (c11 : Nat) (r : Bool) (w : World) (hn : 1 ≤ n ∧ n ≤ 5) (h1 : Kd.C k56 w A1 f.length f ∧ f.length ≤ c1) (h2 : Kd.C (Kd.int .i64) w A2 x.f1.length x.f1 ∧ x.f1.length ≤ c2) (h10 : Kd.C k92 w A10 x.f7.length x.f7 ∧ x.f7.length ≤ c10) (h11 : Kd.C k46 w A11 x.f8.length x.f8 ∧ x.f8.length ≤ c11) (p1 : 0 ≤ x.f0.f0 ∧ x.f0.f0 < n) (p2 : 1 ≤ x.f0.f1 ∧ x.f0.f1 ≤ 1073741824) (p3 : (x.f1.length : Int) = n) (p4 : vecOk x.f1) (p5 : rd x.f1 x.f0.f0 = x.f0.f1 - 1) (p6 : stampOk x.f2.f0 x.f2.f1 x.f2.f2) (p7 : x.f2.f2 = x.f0.f0) (p8 : 0 ≤ x.f4 ∧ x.f4 < (f.length : Int)) (p9 : 1 ≤ x.f5.size ∧ x.f5.size ≤ 12) (hk_ : x.f3 = x.f3) (hr : r = true ↔ kindP f x) :
    Calls Tryz.prog 25 #[.int .i64 n, .slice A1 f.length c1, .agg #[.int .i64 x.f0.f0, .int .i64 x.f0.f1, .slice A2 x.f1.length c2, .int .i64 x.f2.f0, .int .i64 x.f2.f1, .int .i64 x.f2.f2, .int .i64 x.f3, .int .i64 x.f4, .string x.f5, .int .i64 x.f6, .slice A10 x.f7.length c10, .slice A11 x.f8.length c11]] w fun e w' => e = .returned (.bool r) ∧ Below w.heap.size w w' := by
  have H1 := Aside0.mk h1; have H2 := Aside0.mk h2; have H10 := Aside0.mk h10; have H11 := Aside0.mk h11
  have hm := Kd.C_max h1.1
  have gw1 : IntKind.i64.wrap (n - 1) = n - 1 := (i64_w _).trans (wrap_in _ (by omega) (by omega))
  have gw3 : IntKind.i64.wrap ((f.length : Int) - 1) = (f.length : Int) - 1 := (i64_w _).trans (wrap_in _ (by omega) (by omega))
  have E1 := Aside0.mk (show raddleref01_in.f x.f0.f0 0 (n - 1) = some true from by rw [refIn_eq, decide_eq_true (by omega)])
  have E2 := Aside0.mk (show raddleref01_in.f x.f0.f1 1 1073741824 = some true from by rw [refIn_eq, decide_eq_true p2])
  have E8 := Aside0.mk (show raddleref01_in.f x.f4 0 ((f.length : Int) - 1) = some true from by rw [refIn_eq, decide_eq_true (by omega)])
  obtain ⟨kv, EV⟩ := refVector_ok x.f1 p4
  obtain ⟨b6, e6⟩ := refStamp_at x.f2.f0 x.f2.f1 x.f2.f2
  obtain rfl := e6.out.2.2 p6
  have E6 := Aside0.mk e6.out.1
  obtain ⟨b9, e9⟩ := refKey_at x.f5
  obtain rfl := e9.out.2.2 p9
  have E9 := Aside0.mk e9.out.1
  obtain ⟨ad, eA, hcell⟩ := Kd.at_int h2.1 x.f0.f0 p1.1 (by omega)
  subst eA; have HX := Aside0.mk hcell; clear hcell e6 e9
  obtain ⟨af, A7, c7, eF, hd0, hl7, hq7⟩ := at_T56 h1.1 x.f4 p8.1 p8.2
  subst eF
  have gw2 : IntKind.i64.wrap (x.f0.f1 - 1) = x.f0.f1 - 1 := (i64_w _).trans (wrap_in _ (by omega) (by omega))
  have g3 : ((x.f1.length : Int) != n) = false := bne_eq_false_iff_eq.2 p3
  have g5 : (rd x.f1 x.f0.f0 != x.f0.f1 - 1) = false := bne_eq_false_iff_eq.2 p5
  have g7 : (x.f2.f2 != x.f0.f0) = false := bne_eq_false_iff_eq.2 p7
  have q1 := eq_true p1.1; have q2 := eq_true (show x.f0.f0 < (x.f1.length : Int) by omega); have q3 := eq_true p8.1; have q4 := eq_true p8.2
  obtain ⟨cols, hcols⟩ : ∃ cols, cols = colsOf f x := ⟨_, rfl⟩
  rw [show (rd_T56 f x.f4).f0 = cols from hcols.symm] at hd0 hl7 hq7
  have H7 := Aside0.mk (And.intro hq7 hl7); have HD0 := Aside0.mk hd0
  have HK : Aside0 (r = true ↔ (x.f3 = 1 ∧ x.f6 = 0 ∧ x.f8.length = 0 ∧ cellV x.f7 cols) ∨ (x.f3 = 2 ∧ (0 ≤ x.f6 ∧ x.f6 < (cols.length : Int)) ∧ x.f8.length = 0 ∧ cellV x.f7 [rd cols x.f6]) ∨ (x.f3 = 3 ∧ x.f6 = 0 ∧ x.f7.length = 0 ∧ (1 ≤ x.f8.length ∧ x.f8.length ≤ 64) ∧ hadFrom x.f1 x.f8 0)) := ⟨by rw [hcols]; exact hr⟩
  have HH := Aside0.mk hk_; clear h1 h2 h10 h11 hm hq7 hl7 hd0 hr hcols p1 p2 p3 p4 p5 p6 p7 p8 p9 hn hk_
  go_enter Tryz.func25, Tryz.ntmps25
  go_wp2_with fail
  obtain ⟨W, hW, HI⟩ := One.start w (.cells #[.int .i64 x.f0.f0, .int .i64 x.f0.f1, .slice (some ad) x.f1.length c2, .int .i64 x.f2.f0, .int .i64 x.f2.f1, .int .i64 x.f2.f2, .int .i64 x.f3, .int .i64 x.f4, .string x.f5, .int .i64 x.f6, .slice A10 x.f7.length c10, .slice A11 x.f8.length c11] 52)
  rw [← hW]; clear hW
  refine wp_ord (S := One w (opO x (some ad) c2 A10 c10 A11 c11)) [false, false, false, false, false, true, false, false, false, false, false, true, false, false, false, false, false, false, false, false, false, false, false, false, true, false, false, false, false, false, false, false, false, false, false, false, false, false, false, false, false, false, false, false, true, false, false, false, false, false, false, false, false, false, false, false, false, false, false, false, false, false, true, false, false, false, false, false, true, false, false] (by kernel_rfl) (by kernel_rfl) (fun _ _ d _ _ h => by cases d <;> exact h) ?_ (fun hHeld => ?_)
  · (first | exact HI.out.drew | exact HI.out)
  replace HI := Aside0.mk hHeld; clear hHeld
  iterate 5 (refine ord_take (v := ?_) (by rfl) ?_ ?_; rotate_left; (focus (intro w' hSw; have hk := fun i => blk_cell hSw.2 i; (try have hc := pw_cell_below hSw.1 HX.out); go_simp; (try with_reducible rfl); done)); try simp only [Act.put, List.setIfInBounds_toArray, List.set_cons_zero, List.set_cons_succ])
  refine ord_call (by rfl) (fun K hK => ?_)
  go_simp; go_at_call 23
  refine (raddleref01_in.calls x.f0.f0 0 (n - 1) true _ E1.out).mono ?_; rintro e w1 ⟨rfl, hb⟩; replace HI := Aside0.mk (HI.out.step (by first | exact hb | exact hb.below)); clear hb
  refine hK.out _ _ ?_ (fun hHeld => ?_)
  · (first | exact HI.out.drew | exact HI.out)
  clear hK K
  try simp only [Act.put, List.setIfInBounds_toArray, List.set_cons_zero, List.set_cons_succ]
  clear hHeld
  iterate 5 (refine ord_take (v := ?_) (by rfl) ?_ ?_; rotate_left; (focus (intro w' hSw; have hk := fun i => blk_cell hSw.2 i; (try have hc := pw_cell_below hSw.1 HX.out); go_simp; (try with_reducible rfl); done)); try simp only [Act.put, List.setIfInBounds_toArray, List.set_cons_zero, List.set_cons_succ])
  refine ord_call (by rfl) (fun K hK => ?_)
  go_simp; go_at_call 23
  refine (raddleref01_in.calls x.f0.f1 1 1073741824 true _ E2.out).mono ?_; rintro e w1 ⟨rfl, hb⟩; replace HI := Aside0.mk (HI.out.step (by first | exact hb | exact hb.below)); clear hb
  refine hK.out _ _ ?_ (fun hHeld => ?_)
  · (first | exact HI.out.drew | exact HI.out)
  clear hK K
  try simp only [Act.put, List.setIfInBounds_toArray, List.set_cons_zero, List.set_cons_succ]
  clear hHeld
  iterate 12 (refine ord_take (v := ?_) (by rfl) ?_ ?_; rotate_left; (focus (intro w' hSw; have hk := fun i => blk_cell hSw.2 i; (try have hc := pw_cell_below hSw.1 HX.out); go_simp; (try with_reducible rfl); done)); try simp only [Act.put, List.setIfInBounds_toArray, List.set_cons_zero, List.set_cons_succ])
  refine ord_call (by rfl) (fun K hK => ?_)
  go_simp; go_at_call 26
  refine (raddleref01_Vector.calls kv (some ad) c2 x.f1 0 _ (Kd.C_below H2.out.1 HI.out.1) H2.out.2 EV.out).mono ?_; rintro e w1 ⟨rfl, hb⟩; replace HI := Aside0.mk (HI.out.step (by first | exact hb | exact hb.below)); clear hb
  refine hK.out _ _ ?_ (fun hHeld => ?_)
  · (first | exact HI.out.drew | exact HI.out)
  clear hK K
  try simp only [Act.put, List.setIfInBounds_toArray, List.set_cons_zero, List.set_cons_succ]
  clear hHeld
  iterate 19 (refine ord_take (v := ?_) (by rfl) ?_ ?_; rotate_left; (focus (intro w' hSw; have hk := fun i => blk_cell hSw.2 i; (try have hc := pw_cell_below hSw.1 HX.out); go_simp; (try with_reducible rfl); done)); try simp only [Act.put, List.setIfInBounds_toArray, List.set_cons_zero, List.set_cons_succ])
  refine ord_call (by rfl) (fun K hK => ?_)
  go_simp; go_at_call 53
  refine (raddleref01_Stamp.calls x.f2.f0 x.f2.f1 x.f2.f2 true _ E6.out).mono ?_; rintro e w1 ⟨rfl, hb⟩; replace HI := Aside0.mk (HI.out.step (by first | exact hb | exact hb.below)); clear hb
  refine hK.out _ _ ?_ (fun hHeld => ?_)
  · (first | exact HI.out.drew | exact HI.out)
  clear hK K
  try simp only [Act.put, List.setIfInBounds_toArray, List.set_cons_zero, List.set_cons_succ]
  clear hHeld
  iterate 17 (refine ord_take (v := ?_) (by rfl) ?_ ?_; rotate_left; (focus (intro w' hSw; have hk := fun i => blk_cell hSw.2 i; (try have hc := pw_cell_below hSw.1 HX.out); go_simp; (try with_reducible rfl); done)); try simp only [Act.put, List.setIfInBounds_toArray, List.set_cons_zero, List.set_cons_succ])
  refine ord_call (by rfl) (fun K hK => ?_)
  go_simp; go_at_call 23
  refine (raddleref01_in.calls x.f4 0 ((f.length : Int) - 1) true _ E8.out).mono ?_; rintro e w1 ⟨rfl, hb⟩; replace HI := Aside0.mk (HI.out.step (by first | exact hb | exact hb.below)); clear hb
  refine hK.out _ _ ?_ (fun hHeld => ?_)
  · (first | exact HI.out.drew | exact HI.out)
  clear hK K
  try simp only [Act.put, List.setIfInBounds_toArray, List.set_cons_zero, List.set_cons_succ]
  clear hHeld
  iterate 5 (refine ord_take (v := ?_) (by rfl) ?_ ?_; rotate_left; (focus (intro w' hSw; have hk := fun i => blk_cell hSw.2 i; (try have hc := pw_cell_below hSw.1 HX.out); go_simp; (try with_reducible rfl); done)); try simp only [Act.put, List.setIfInBounds_toArray, List.set_cons_zero, List.set_cons_succ])
  refine ord_call (by rfl) (fun K hK => ?_)
  go_simp; go_at_call 54
  refine (raddleref01_Key.calls x.f5 true _ E9.out).mono ?_; rintro e w1 ⟨rfl, hb⟩; replace HI := Aside0.mk (HI.out.step (by first | exact hb | exact hb.below)); clear hb
  refine hK.out _ _ ?_ (fun hHeld => ?_)
  · (first | exact HI.out.drew | exact HI.out)
  clear hK K
  try simp only [Act.put, List.setIfInBounds_toArray, List.set_cons_zero, List.set_cons_succ]
  clear hHeld
  iterate 2 (refine ord_take (v := ?_) (by rfl) ?_ ?_; rotate_left; (focus (intro w' hSw; have hk := fun i => blk_cell hSw.2 i; (try have hc := pw_cell_below hSw.1 HX.out); go_simp; (try with_reducible rfl); done)); try simp only [Act.put, List.setIfInBounds_toArray, List.set_cons_zero, List.set_cons_succ])
  refine ord_done ?_
  have hd0 := pw_cell_below HI.out.1 HD0.out
  have hk := fun i => blk_cell HI.out.2 i
  clear q1 q2 g3 g5 g7 gw1 gw2 gw3 HX E1 E2 E6 E8 E9 EV
  clear HH
  by_cases k1 : x.f3 = 1
  case pos =>
    have m1 : (x.f3 == 1) = true := beq_iff_eq.2 k1
    have HC : Aside0 (r = true ↔ x.f6 = 0 ∧ x.f8.length = 0 ∧ cellV x.f7 cols) := ⟨HK.out.trans ⟨fun h => by rcases h with h | h | h; exact h.2; omega; omega, fun h => .inl ⟨k1, h⟩⟩⟩
    clear HK k1
    by_cases i1 : (x.f7.length : Int) = cols.length
    case neg => (have v1 : ((x.f7.length : Int) != cols.length) = true := bne_iff_ne.2 i1; obtain rfl : r = false := Bool.eq_false_iff.2 (fun e => i1 (by have := cellV_length (HC.out.1 e).2.2; omega)); clear i1; go_wp2_with fail; go_ret; exact ⟨rfl, HI.out.1⟩)
    have v1 : ((x.f7.length : Int) != cols.length) = false := bne_eq_false_iff_eq.2 i1
    by_cases i2 : x.f6 = 0
    case neg => (have v2 : (x.f6 != 0) = true := bne_iff_ne.2 i2; obtain rfl : r = false := Bool.eq_false_iff.2 (fun e => i2 (HC.out.1 e).1); clear i2; go_wp2_with fail; go_ret; exact ⟨rfl, HI.out.1⟩)
    have v2 : (x.f6 != 0) = false := bne_eq_false_iff_eq.2 i2
    by_cases i3 : x.f8.length = 0
    case neg => (have v3 : decide (0 < x.f8.length) = true := decide_eq_true (by omega); obtain rfl : r = false := Bool.eq_false_iff.2 (fun e => i3 (HC.out.1 e).2.1); clear i3; go_wp2_with fail; go_ret; exact ⟨rfl, HI.out.1⟩)
    have v3 : decide (0 < x.f8.length) = false := decide_eq_false (by omega)
    replace HC : Aside0 (r = true ↔ cellV x.f7 cols) := ⟨HC.out.trans ⟨fun h => h.2.2, fun h => ⟨i2, i3, h⟩⟩⟩
    clear i2 i3
    have hmx := Kd.C_max H7.out.1
    go_wp2
    go_loopw [8] (fun v wr => ∃ i : Nat, i ≤ cols.length ∧ v = .int .i64 i ∧ Aside0 (One w (opO x (some ad) c2 A10 c10 A11 c11) wr) ∧ Aside0 (r = true ↔ cellV (x.f7.drop i) (cols.drop i))) (fun v _ => cols.length - (intOf v).toNat)
    case atStart => exact ⟨0, by omega, rfl, HI, HC⟩
    case round =>
      clear hk hd0 HI HC
      obtain ⟨i, hi, rfl, HI, HC⟩ := hrel
      have hk := fun i => blk_cell HI.out.2 i
      by_cases hlt : i < cols.length
      case neg =>
        obtain rfl : i = cols.length := by omega
        obtain rfl : r = true := HC.out.2 (by rw [List.drop_length, List.drop_of_length_le (by omega)]; trivial)
        go_wp2
        go_ret
        exact ⟨rfl, HI.out.1⟩
      obtain ⟨av, eV, hv0, hv1, hv2⟩ := at_T92 H10.out.1 (i : Int) (by omega) (by omega)
      subst eV
      obtain ⟨ac, eC, hc0⟩ := Kd.at_int H7.out.1 (i : Int) (by omega) (by omega)
      subst eC
      rw [Int.toNat_natCast] at hv0 hv1 hv2 hc0
      have HD : Aside0 (r = true ↔ (smallV (rd_T92 x.f7 (i : Int)) ∧ fitsV (rd_T92 x.f7 (i : Int)) (rd cols (i : Int))) ∧ cellV (x.f7.drop (i + 1)) (cols.drop (i + 1))) := ⟨by rw [HC.out, drop_val _ _ (by omega), drop_int _ _ hlt]; exact Iff.rfl⟩
      clear HC
      obtain ⟨y, hy⟩ : ∃ y, y = rd_T92 x.f7 (i : Int) := ⟨_, rfl⟩
      obtain ⟨t, ht⟩ : ∃ t, t = rd cols (i : Int) := ⟨_, rfl⟩
      rw [← hy] at hv0 hv1 hv2 HD
      rw [← ht] at hc0 HD
      clear hy ht
      have HV := Aside0.mk (And.intro hv0 (And.intro hv1 hv2)); have HW := Aside0.mk hc0; clear hv0 hv1 hv2 hc0
      obtain ⟨b1, E1⟩ := refSmall_at y
      obtain ⟨b2, E2⟩ := refFits_at y t
      have y0 := eq_true (show (0 : Int) ≤ (i : Int) by omega); have y1 := eq_true (show (i : Int) < (x.f7.length : Int) by omega); have y2 := eq_true (show (i : Int) < (cols.length : Int) by omega)
      have y3 : decide (i < cols.length) = true := decide_eq_true (by omega)
      go_wp2_with fail
      clear hk
      refine wp_ord (S := One w (opO x (some ad) c2 (some av) c10 A11 c11)) [false, false, false, false, false, true, false, false, false, false, false, false, false, false, false, false, false, true, false, false] (by kernel_rfl) (by kernel_rfl) (fun _ _ d _ _ h => by cases d <;> exact h) ?_ (fun hHeld => ?_)
      · (first | exact HI.out.drew | exact HI.out)
      replace HI := Aside0.mk hHeld; clear hHeld
      iterate 5 (refine ord_take (v := ?_) (by rfl) ?_ ?_; rotate_left; (focus (intro w' hSw; have hk := fun i => blk_cell hSw.2 i; have hv0 := pw_cell_below hSw.1 HV.out.1; have hv1 := pw_cell_below hSw.1 HV.out.2.1; have hv2 := pw_cell_below hSw.1 HV.out.2.2; have hw0 := pw_cell_below hSw.1 HW.out; go_simp; (try with_reducible rfl); done)); try simp only [Act.put, List.setIfInBounds_toArray, List.set_cons_zero, List.set_cons_succ])
      refine ord_call (by rfl) (fun K hK => ?_)
      go_simp; go_at_call 55
      refine (raddleref01_Small.calls y.f0 y.f1 y.f2 b1 _ E1.out.1).mono ?_; rintro e w1 ⟨rfl, hb⟩; replace HI := Aside0.mk (HI.out.step (by first | exact hb | exact hb.below)); clear hb
      refine hK.out _ _ ?_ (fun hHeld => ?_)
      · (first | exact HI.out.drew | exact HI.out)
      clear hK K
      try simp only [Act.put, List.setIfInBounds_toArray, List.set_cons_zero, List.set_cons_succ]
      clear hHeld
      cases b1 with
      | true =>
        have s1 := E1.out.2.1 rfl
        clear E1
        iterate 11 (refine ord_take (v := ?_) (by rfl) ?_ ?_; rotate_left; (focus (intro w' hSw; have hk := fun i => blk_cell hSw.2 i; have hv0 := pw_cell_below hSw.1 HV.out.1; have hv1 := pw_cell_below hSw.1 HV.out.2.1; have hv2 := pw_cell_below hSw.1 HV.out.2.2; have hw0 := pw_cell_below hSw.1 HW.out; go_simp; (try with_reducible rfl); done)); try simp only [Act.put, List.setIfInBounds_toArray, List.set_cons_zero, List.set_cons_succ])
        refine ord_call (by rfl) (fun K hK => ?_)
        go_simp; go_at_call 56
        refine (raddleref01_Fits.calls y.f0 y.f1 y.f2 t b2 _ E2.out.1).mono ?_; rintro e w1 ⟨rfl, hb⟩; replace HI := Aside0.mk (HI.out.step (by first | exact hb | exact hb.below)); clear hb
        refine hK.out _ _ ?_ (fun hHeld => ?_)
        · (first | exact HI.out.drew | exact HI.out)
        clear hK K
        try simp only [Act.put, List.setIfInBounds_toArray, List.set_cons_zero, List.set_cons_succ]
        clear hHeld
        cases b2 with
        | true =>
          have s2 := E2.out.2.1 rfl
          clear E2
          iterate 2 (refine ord_take (v := ?_) (by rfl) ?_ ?_; rotate_left; (focus (intro w' hSw; have hk := fun i => blk_cell hSw.2 i; have hv0 := pw_cell_below hSw.1 HV.out.1; have hv1 := pw_cell_below hSw.1 HV.out.2.1; have hv2 := pw_cell_below hSw.1 HV.out.2.2; have hw0 := pw_cell_below hSw.1 HW.out; go_simp; (try with_reducible rfl); done)); try simp only [Act.put, List.setIfInBounds_toArray, List.set_cons_zero, List.set_cons_succ])
          refine ord_done ?_
          have hw : IntKind.i64.wrap ((i : Int) + 1) = ((i + 1 : Nat) : Int) := (i64_w _).trans ((wrap_in _ (by omega) (by omega)).trans (by omega))
          have hk := fun i => blk_cell HI.out.2 i
          go_wp2
          go_roundw
          case rel => exact ⟨i + 1, by omega, rfl, HI, ⟨HD.out.trans ⟨fun h => h.2, fun h => ⟨⟨s1, s2⟩, h⟩⟩⟩⟩
          case measure => simp [intOf]; omega
        | false =>
          obtain rfl : r = false := Bool.eq_false_iff.2 (fun e => Bool.noConfusion (E2.out.2.2 (HD.out.1 e).1.2))
          iterate 2 (refine ord_take (v := ?_) (by rfl) ?_ ?_; rotate_left; (focus (intro w' hSw; have hk := fun i => blk_cell hSw.2 i; have hv0 := pw_cell_below hSw.1 HV.out.1; have hv1 := pw_cell_below hSw.1 HV.out.2.1; have hv2 := pw_cell_below hSw.1 HV.out.2.2; have hw0 := pw_cell_below hSw.1 HW.out; go_simp; (try with_reducible rfl); done)); try simp only [Act.put, List.setIfInBounds_toArray, List.set_cons_zero, List.set_cons_succ])
          refine ord_done ?_
          go_wp2
          go_ret
          exact ⟨rfl, HI.out.1⟩
      | false =>
        obtain rfl : r = false := Bool.eq_false_iff.2 (fun e => Bool.noConfusion (E1.out.2.2 (HD.out.1 e).1.1))
        repeat (first | (refine ord_skip (by rfl) ?_; try simp only [Act.put, List.setIfInBounds_toArray, List.set_cons_zero, List.set_cons_succ]) | (refine ord_pass (by rfl) ?_; try simp only [Act.put, List.setIfInBounds_toArray, List.set_cons_zero, List.set_cons_succ]) | (refine ord_take (v := ?_) (by rfl) ?_ ?_; rotate_left; (focus (intro w' hSw; have hk := fun i => blk_cell hSw.2 i; have hv0 := pw_cell_below hSw.1 HV.out.1; have hv1 := pw_cell_below hSw.1 HV.out.2.1; have hv2 := pw_cell_below hSw.1 HV.out.2.2; have hw0 := pw_cell_below hSw.1 HW.out; go_simp; (try with_reducible rfl); done)); try simp only [Act.put, List.setIfInBounds_toArray, List.set_cons_zero, List.set_cons_succ]))
        refine ord_done ?_
        go_wp2
        go_ret
        exact ⟨rfl, HI.out.1⟩
  have m1 : (x.f3 == 1) = false := beq_eq_false_iff_ne.2 k1
  by_cases k2 : x.f3 = 2
  case pos =>
    have m2 : (x.f3 == 2) = true := beq_iff_eq.2 k2
    have HC : Aside0 (r = true ↔ (0 ≤ x.f6 ∧ x.f6 < (cols.length : Int)) ∧ x.f8.length = 0 ∧ cellV x.f7 [rd cols x.f6]) := ⟨HK.out.trans ⟨fun h => by rcases h with h | h | h; omega; exact h.2; omega, fun h => .inr (.inl ⟨k2, h⟩)⟩⟩
    clear HK k1 k2
    have hmx := Kd.C_max H7.out.1
    have gw : IntKind.i64.wrap ((cols.length : Int) - 1) = (cols.length : Int) - 1 := (i64_w _).trans (wrap_in _ (by omega) (by omega))
    obtain ⟨b1, E1⟩ := refIn_at x.f6 0 ((cols.length : Int) - 1) (0 ≤ x.f6 ∧ x.f6 < (cols.length : Int)) (by omega)
    go_wp2_with fail
    clear hk hd0
    refine wp_ord (S := One w (opO x (some ad) c2 A10 c10 A11 c11)) [false, false, false, false, false, true, false, false, false, false, false, false, false, false, false, false, false, true, false, false, false, false, false, false, false, false, false, false, false, true, false, false, false, false, false, false, false, false] (by kernel_rfl) (by kernel_rfl) (fun _ _ d _ _ h => by cases d <;> exact h) ?_ (fun hHeld => ?_)
    · (first | exact HI.out.drew | exact HI.out)
    replace HI := Aside0.mk hHeld; clear hHeld
    iterate 5 (refine ord_take (v := ?_) (by rfl) ?_ ?_; rotate_left; (focus (intro w' hSw; have hk := fun i => blk_cell hSw.2 i; (try have hw0 := pw_cell_below hSw.1 HW.out); (try have hv0 := pw_cell_below hSw.1 HV.out.1; have hv1 := pw_cell_below hSw.1 HV.out.2.1; have hv2 := pw_cell_below hSw.1 HV.out.2.2); go_simp; (try with_reducible rfl); done)); try simp only [Act.put, List.setIfInBounds_toArray, List.set_cons_zero, List.set_cons_succ])
    refine ord_call (by rfl) (fun K hK => ?_)
    go_simp; go_at_call 23
    refine (raddleref01_in.calls x.f6 0 ((cols.length : Int) - 1) b1 _ E1.out.1).mono ?_; rintro e w1 ⟨rfl, hb⟩; replace HI := Aside0.mk (HI.out.step (by first | exact hb | exact hb.below)); clear hb
    refine hK.out _ _ ?_ (fun hHeld => ?_)
    · (first | exact HI.out.drew | exact HI.out)
    clear hK K
    try simp only [Act.put, List.setIfInBounds_toArray, List.set_cons_zero, List.set_cons_succ]
    clear hHeld
    cases b1 with
    | true =>
      have u1 := E1.out.2.1 rfl
      clear E1
      have q5 := eq_true u1.1; have q6 := eq_true u1.2
      obtain ⟨ac, eC, hc0⟩ := Kd.at_int H7.out.1 x.f6 u1.1 u1.2
      subst eC; have HW := Aside0.mk hc0; clear hc0
      obtain ⟨t, ht⟩ : ∃ t, t = rd cols x.f6 := ⟨_, rfl⟩
      rw [← ht] at HW HC
      clear ht
      iterate 4 (refine ord_take (v := ?_) (by rfl) ?_ ?_; rotate_left; (focus (intro w' hSw; have hk := fun i => blk_cell hSw.2 i; (try have hw0 := pw_cell_below hSw.1 HW.out); (try have hv0 := pw_cell_below hSw.1 HV.out.1; have hv1 := pw_cell_below hSw.1 HV.out.2.1; have hv2 := pw_cell_below hSw.1 HV.out.2.2); go_simp; (try with_reducible rfl); done)); try simp only [Act.put, List.setIfInBounds_toArray, List.set_cons_zero, List.set_cons_succ])
      by_cases c10 : x.f7.length = 1
      case pos =>
        have v1 : ((x.f7.length : Int) == 1) = true := beq_iff_eq.2 (by omega)
        obtain ⟨av, eV, hv0, hv1, hv2⟩ := at_T92 H10.out.1 0 (by omega) (by omega)
        subst eV
        have hy : x.f7 = [rd_T92 x.f7 0] := by have := drop_val x.f7 0 (by omega); rw [List.drop_of_length_le (by omega : x.f7.length ≤ 0 + 1)] at this; exact this
        obtain ⟨y, hyy⟩ : ∃ y, y = rd_T92 x.f7 0 := ⟨_, rfl⟩
        rw [← hyy] at hv0 hv1 hv2 hy
        replace HC : Aside0 (r = true ↔ _ ∧ _ ∧ cellV [y] [t]) := ⟨by rw [← hy]; exact HC.out⟩
        clear hyy hy
        rw [show (av.add ((0 : Int).toNat * 3)) = av from addr_zero av] at hv0 hv1 hv2
        have HV := Aside0.mk (And.intro hv0 (And.intro hv1 hv2)); clear hv0 hv1 hv2
        obtain ⟨b2, E2⟩ := refSmall_at y
        obtain ⟨b3, E3⟩ := refFits_at y t
        have y1 := eq_true (show (0 : Int) < (x.f7.length : Int) by omega)
        (refine ord_take (v := ?_) (by rfl) ?_ ?_; rotate_left; (focus (intro w' hSw; have hk := fun i => blk_cell hSw.2 i; (try have hw0 := pw_cell_below hSw.1 HW.out); (try have hv0 := pw_cell_below hSw.1 HV.out.1; have hv1 := pw_cell_below hSw.1 HV.out.2.1; have hv2 := pw_cell_below hSw.1 HV.out.2.2); go_simp; (try with_reducible rfl); done)); try simp only [Act.put, List.setIfInBounds_toArray, List.set_cons_zero, List.set_cons_succ])
        iterate 6 (refine ord_take (v := ?_) (by rfl) ?_ ?_; rotate_left; (focus (intro w' hSw; have hk := fun i => blk_cell hSw.2 i; (try have hw0 := pw_cell_below hSw.1 HW.out); (try have hv0 := pw_cell_below hSw.1 HV.out.1; have hv1 := pw_cell_below hSw.1 HV.out.2.1; have hv2 := pw_cell_below hSw.1 HV.out.2.2); go_simp; (try with_reducible rfl); done)); try simp only [Act.put, List.setIfInBounds_toArray, List.set_cons_zero, List.set_cons_succ])
        refine ord_call (by rfl) (fun K hK => ?_)
        go_simp; go_at_call 55
        refine (raddleref01_Small.calls y.f0 y.f1 y.f2 b2 _ E2.out.1).mono ?_; rintro e w1 ⟨rfl, hb⟩; replace HI := Aside0.mk (HI.out.step (by first | exact hb | exact hb.below)); clear hb
        refine hK.out _ _ ?_ (fun hHeld => ?_)
        · (first | exact HI.out.drew | exact HI.out)
        clear hK K
        try simp only [Act.put, List.setIfInBounds_toArray, List.set_cons_zero, List.set_cons_succ]
        clear hHeld
        cases b2 with
        | true =>
          have s1 := E2.out.2.1 rfl
          clear E2
          iterate 11 (refine ord_take (v := ?_) (by rfl) ?_ ?_; rotate_left; (focus (intro w' hSw; have hk := fun i => blk_cell hSw.2 i; (try have hw0 := pw_cell_below hSw.1 HW.out); (try have hv0 := pw_cell_below hSw.1 HV.out.1; have hv1 := pw_cell_below hSw.1 HV.out.2.1; have hv2 := pw_cell_below hSw.1 HV.out.2.2); go_simp; (try with_reducible rfl); done)); try simp only [Act.put, List.setIfInBounds_toArray, List.set_cons_zero, List.set_cons_succ])
          refine ord_call (by rfl) (fun K hK => ?_)
          go_simp; go_at_call 56
          refine (raddleref01_Fits.calls y.f0 y.f1 y.f2 t b3 _ E3.out.1).mono ?_; rintro e w1 ⟨rfl, hb⟩; replace HI := Aside0.mk (HI.out.step (by first | exact hb | exact hb.below)); clear hb
          refine hK.out _ _ ?_ (fun hHeld => ?_)
          · (first | exact HI.out.drew | exact HI.out)
          clear hK K
          try simp only [Act.put, List.setIfInBounds_toArray, List.set_cons_zero, List.set_cons_succ]
          clear hHeld
          cases b3 with
          | true =>
            have s2 := E3.out.2.1 rfl
            clear E3
            iterate 5 (refine ord_take (v := ?_) (by rfl) ?_ ?_; rotate_left; (focus (intro w' hSw; have hk := fun i => blk_cell hSw.2 i; (try have hw0 := pw_cell_below hSw.1 HW.out); (try have hv0 := pw_cell_below hSw.1 HV.out.1; have hv1 := pw_cell_below hSw.1 HV.out.2.1; have hv2 := pw_cell_below hSw.1 HV.out.2.2); go_simp; (try with_reducible rfl); done)); try simp only [Act.put, List.setIfInBounds_toArray, List.set_cons_zero, List.set_cons_succ])
            by_cases c35 : x.f8.length = 0
            case pos =>
              have v2 : ((x.f8.length : Int) == 0) = true := beq_iff_eq.2 (by omega)
              obtain rfl : r = true := HC.out.2 ⟨u1, c35, ⟨s1, s2⟩, trivial⟩
              (refine ord_take (v := ?_) (by rfl) ?_ ?_; rotate_left; (focus (intro w' hSw; have hk := fun i => blk_cell hSw.2 i; (try have hw0 := pw_cell_below hSw.1 HW.out); (try have hv0 := pw_cell_below hSw.1 HV.out.1; have hv1 := pw_cell_below hSw.1 HV.out.2.1; have hv2 := pw_cell_below hSw.1 HV.out.2.2); go_simp; (try with_reducible rfl); done)); try simp only [Act.put, List.setIfInBounds_toArray, List.set_cons_zero, List.set_cons_succ])
              iterate 2 (refine ord_take (v := ?_) (by rfl) ?_ ?_; rotate_left; (focus (intro w' hSw; have hk := fun i => blk_cell hSw.2 i; (try have hw0 := pw_cell_below hSw.1 HW.out); (try have hv0 := pw_cell_below hSw.1 HV.out.1; have hv1 := pw_cell_below hSw.1 HV.out.2.1; have hv2 := pw_cell_below hSw.1 HV.out.2.2); go_simp; (try with_reducible rfl); done)); try simp only [Act.put, List.setIfInBounds_toArray, List.set_cons_zero, List.set_cons_succ])
              refine ord_done ?_
              go_wp2
              go_ret
              exact ⟨rfl, HI.out.1⟩
            case neg =>
              have v2 : ((x.f8.length : Int) == 0) = false := beq_eq_false_iff_ne.2 (by omega)
              obtain rfl : r = false := Bool.eq_false_iff.2 (fun e => c35 (HC.out.1 e).2.1)
              (refine ord_take (v := ?_) (by rfl) ?_ ?_; rotate_left; (focus (intro w' hSw; have hk := fun i => blk_cell hSw.2 i; (try have hw0 := pw_cell_below hSw.1 HW.out); (try have hv0 := pw_cell_below hSw.1 HV.out.1; have hv1 := pw_cell_below hSw.1 HV.out.2.1; have hv2 := pw_cell_below hSw.1 HV.out.2.2); go_simp; (try with_reducible rfl); done)); try simp only [Act.put, List.setIfInBounds_toArray, List.set_cons_zero, List.set_cons_succ])
              iterate 2 (refine ord_take (v := ?_) (by rfl) ?_ ?_; rotate_left; (focus (intro w' hSw; have hk := fun i => blk_cell hSw.2 i; (try have hw0 := pw_cell_below hSw.1 HW.out); (try have hv0 := pw_cell_below hSw.1 HV.out.1; have hv1 := pw_cell_below hSw.1 HV.out.2.1; have hv2 := pw_cell_below hSw.1 HV.out.2.2); go_simp; (try with_reducible rfl); done)); try simp only [Act.put, List.setIfInBounds_toArray, List.set_cons_zero, List.set_cons_succ])
              refine ord_done ?_
              go_wp2
              go_ret
              exact ⟨rfl, HI.out.1⟩
          | false =>
            obtain rfl : r = false := Bool.eq_false_iff.2 (fun e => Bool.noConfusion (E3.out.2.2 (HC.out.1 e).2.2.1.2))
            repeat (first | (refine ord_skip (by rfl) ?_; try simp only [Act.put, List.setIfInBounds_toArray, List.set_cons_zero, List.set_cons_succ]) | (refine ord_pass (by rfl) ?_; try simp only [Act.put, List.setIfInBounds_toArray, List.set_cons_zero, List.set_cons_succ]) | (refine ord_take (v := ?_) (by rfl) ?_ ?_; rotate_left; (focus (intro w' hSw; have hk := fun i => blk_cell hSw.2 i; (try have hw0 := pw_cell_below hSw.1 HW.out); (try have hv0 := pw_cell_below hSw.1 HV.out.1; have hv1 := pw_cell_below hSw.1 HV.out.2.1; have hv2 := pw_cell_below hSw.1 HV.out.2.2); go_simp; (try with_reducible rfl); done)); try simp only [Act.put, List.setIfInBounds_toArray, List.set_cons_zero, List.set_cons_succ]))
            refine ord_done ?_
            go_wp2
            go_ret
            exact ⟨rfl, HI.out.1⟩
        | false =>
          obtain rfl : r = false := Bool.eq_false_iff.2 (fun e => Bool.noConfusion (E2.out.2.2 (HC.out.1 e).2.2.1.1))
          repeat (first | (refine ord_skip (by rfl) ?_; try simp only [Act.put, List.setIfInBounds_toArray, List.set_cons_zero, List.set_cons_succ]) | (refine ord_pass (by rfl) ?_; try simp only [Act.put, List.setIfInBounds_toArray, List.set_cons_zero, List.set_cons_succ]) | (refine ord_take (v := ?_) (by rfl) ?_ ?_; rotate_left; (focus (intro w' hSw; have hk := fun i => blk_cell hSw.2 i; (try have hw0 := pw_cell_below hSw.1 HW.out); (try have hv0 := pw_cell_below hSw.1 HV.out.1; have hv1 := pw_cell_below hSw.1 HV.out.2.1; have hv2 := pw_cell_below hSw.1 HV.out.2.2); go_simp; (try with_reducible rfl); done)); try simp only [Act.put, List.setIfInBounds_toArray, List.set_cons_zero, List.set_cons_succ]))
          refine ord_done ?_
          go_wp2
          go_ret
          exact ⟨rfl, HI.out.1⟩
      case neg =>
        have v1 : ((x.f7.length : Int) == 1) = false := beq_eq_false_iff_ne.2 (by omega)
        obtain rfl : r = false := Bool.eq_false_iff.2 (fun e => c10 (cellV_length (HC.out.1 e).2.2))
        (refine ord_take (v := ?_) (by rfl) ?_ ?_; rotate_left; (focus (intro w' hSw; have hk := fun i => blk_cell hSw.2 i; (try have hw0 := pw_cell_below hSw.1 HW.out); (try have hv0 := pw_cell_below hSw.1 HV.out.1; have hv1 := pw_cell_below hSw.1 HV.out.2.1; have hv2 := pw_cell_below hSw.1 HV.out.2.2); go_simp; (try with_reducible rfl); done)); try simp only [Act.put, List.setIfInBounds_toArray, List.set_cons_zero, List.set_cons_succ])
        repeat (first | (refine ord_skip (by rfl) ?_; try simp only [Act.put, List.setIfInBounds_toArray, List.set_cons_zero, List.set_cons_succ]) | (refine ord_pass (by rfl) ?_; try simp only [Act.put, List.setIfInBounds_toArray, List.set_cons_zero, List.set_cons_succ]) | (refine ord_take (v := ?_) (by rfl) ?_ ?_; rotate_left; (focus (intro w' hSw; have hk := fun i => blk_cell hSw.2 i; (try have hw0 := pw_cell_below hSw.1 HW.out); (try have hv0 := pw_cell_below hSw.1 HV.out.1; have hv1 := pw_cell_below hSw.1 HV.out.2.1; have hv2 := pw_cell_below hSw.1 HV.out.2.2); go_simp; (try with_reducible rfl); done)); try simp only [Act.put, List.setIfInBounds_toArray, List.set_cons_zero, List.set_cons_succ]))
        refine ord_done ?_
        go_wp2
        go_ret
        exact ⟨rfl, HI.out.1⟩
    | false =>
      obtain rfl : r = false := Bool.eq_false_iff.2 (fun e => Bool.noConfusion (E1.out.2.2 (HC.out.1 e).1))
      repeat (first | (refine ord_skip (by rfl) ?_; try simp only [Act.put, List.setIfInBounds_toArray, List.set_cons_zero, List.set_cons_succ]) | (refine ord_pass (by rfl) ?_; try simp only [Act.put, List.setIfInBounds_toArray, List.set_cons_zero, List.set_cons_succ]) | (refine ord_take (v := ?_) (by rfl) ?_ ?_; rotate_left; (focus (intro w' hSw; have hk := fun i => blk_cell hSw.2 i; (try have hw0 := pw_cell_below hSw.1 HW.out); (try have hv0 := pw_cell_below hSw.1 HV.out.1; have hv1 := pw_cell_below hSw.1 HV.out.2.1; have hv2 := pw_cell_below hSw.1 HV.out.2.2); go_simp; (try with_reducible rfl); done)); try simp only [Act.put, List.setIfInBounds_toArray, List.set_cons_zero, List.set_cons_succ]))
      refine ord_done ?_
      go_wp2
      go_ret
      exact ⟨rfl, HI.out.1⟩
  have m2 : (x.f3 == 2) = false := beq_eq_false_iff_ne.2 k2
  by_cases k3 : x.f3 = 3
  case pos =>
    have m3 : (x.f3 == 3) = true := beq_iff_eq.2 k3
    have HC : Aside0 (r = true ↔ x.f6 = 0 ∧ x.f7.length = 0 ∧ (1 ≤ x.f8.length ∧ x.f8.length ≤ 64) ∧ hadFrom x.f1 x.f8 0) := ⟨HK.out.trans ⟨fun h => by rcases h with h | h | h; omega; omega; exact h.2, fun h => .inr (.inr ⟨k3, h⟩)⟩⟩
    clear HK k1 k2 k3
    obtain ⟨b1, E1⟩ := refIn_at (x.f8.length : Int) 1 64 (1 ≤ x.f8.length ∧ x.f8.length ≤ 64) (by omega)
    go_wp2_with fail
    refine (raddleref01_in.calls (x.f8.length : Int) 1 64 b1 _ E1.out.1).mono ?_
    rintro e w1 ⟨rfl, hb⟩
    clear hk; replace HI := Aside0.mk (HI.out.step (by first | exact hb | exact hb.below)); clear hb
    have hk := fun i => blk_cell HI.out.2 i
    cases b1 with
    | false => (obtain rfl : r = false := Bool.eq_false_iff.2 (fun e => Bool.noConfusion (E1.out.2.2 (HC.out.1 e).2.2.1)); clear E1; go_wp2_with fail; go_ret; exact ⟨rfl, HI.out.1⟩)
    | true =>
      have u1 := E1.out.2.1 rfl
      clear E1
      by_cases i2 : x.f6 = 0
      case neg => (have v2 : (x.f6 != 0) = true := bne_iff_ne.2 i2; obtain rfl : r = false := Bool.eq_false_iff.2 (fun e => i2 (HC.out.1 e).1); clear i2; go_wp2_with fail; go_ret; exact ⟨rfl, HI.out.1⟩)
      have v2 : (x.f6 != 0) = false := bne_eq_false_iff_eq.2 i2
      by_cases i3 : x.f7.length = 0
      case neg => (have v3 : decide (0 < x.f7.length) = true := decide_eq_true (by omega); obtain rfl : r = false := Bool.eq_false_iff.2 (fun e => i3 (HC.out.1 e).2.1); clear i3; go_wp2_with fail; go_ret; exact ⟨rfl, HI.out.1⟩)
      have v3 : decide (0 < x.f7.length) = false := decide_eq_false (by omega)
      replace HC : Aside0 (r = true ↔ hadFrom x.f1 x.f8 0) := ⟨HC.out.trans ⟨fun h => h.2.2.2, fun h => ⟨i2, i3, u1, h⟩⟩⟩
      clear i2 i3
      go_wp2
      go_loopw [9] (fun v wr => ∃ i : Nat, i ≤ x.f8.length ∧ v = .int .i64 i ∧ Aside0 (One w (opO x (some ad) c2 A10 c10 A11 c11) wr) ∧ Aside0 (r = true ↔ hadFrom x.f1 x.f8 i)) (fun v _ => x.f8.length - (intOf v).toNat)
      case atStart => exact ⟨0, by omega, rfl, HI, HC⟩
      case round =>
        clear hk hd0 HI HC
        obtain ⟨i, hi, rfl, HI, HC⟩ := hrel
        have hk := fun i => blk_cell HI.out.2 i
        by_cases hlt : i < x.f8.length
        case neg =>
          obtain rfl : r = true := HC.out.2 (fun j h1 h2 => absurd h1 (by omega))
          have y3 : decide (i < x.f8.length) = false := decide_eq_false hlt
          go_wp2
          go_ret
          exact ⟨rfl, HI.out.1⟩
        obtain ⟨av, eV, hx0, hx1⟩ := at_T46 H11.out.1 (i : Int) (by omega) (by omega)
        subst eV
        rw [Int.toNat_natCast] at hx0 hx1
        have HD := Aside0.mk (HC.out.trans (hadFrom_step x.f1 x.f8 i hlt))
        clear HC
        obtain ⟨y, hy⟩ : ∃ y, y = rd_T46 x.f8 (i : Int) := ⟨_, rfl⟩
        rw [← hy] at hx0 hx1 HD; clear hy
        have HX := Aside0.mk (And.intro hx0 hx1); clear hx0 hx1
        obtain ⟨b1, E1⟩ := refHas_at x.f1 y
        have y0 := eq_true (show (0 : Int) ≤ (i : Int) by omega); have y1 := eq_true (show (i : Int) < (x.f8.length : Int) by omega)
        have y3 : decide (i < x.f8.length) = true := decide_eq_true hlt
        go_wp2_with fail
        clear hk
        refine wp_ord (S := One w (opO x (some ad) c2 A10 c10 (some av) c11)) [false, false, false, false, false, false, false, true, false, false, false, false, false, false, false, false, false, false, false, false, false, false, false, false, true, false, false, false] (by kernel_rfl) (by kernel_rfl) (fun _ _ d _ _ h => by cases d <;> exact h) ?_ (fun hHeld => ?_)
        · (first | exact HI.out.drew | exact HI.out)
        replace HI := Aside0.mk hHeld; clear hHeld
        iterate 7 (refine ord_take (v := ?_) (by rfl) ?_ ?_; rotate_left; (focus (intro w' hSw; have hk := fun i => blk_cell hSw.2 i; have hx0 := pw_cell_below hSw.1 HX.out.1; have hx1 := pw_cell_below hSw.1 HX.out.2; (try have hz0 := pw_cell_below hSw.1 HZ.out.1; have hz1 := pw_cell_below hSw.1 HZ.out.2); go_simp; (try with_reducible rfl); done)); try simp only [Act.put, List.setIfInBounds_toArray, List.set_cons_zero, List.set_cons_succ])
        refine ord_call (by rfl) (fun K hK => ?_)
        go_simp; go_at_call 57
        refine (raddleref01_Has.calls (some ad) c2 x.f1 y.f0 y.f1 b1 _ (Kd.C_below H2.out.1 HI.out.1) H2.out.2 E1.out.1).mono ?_; rintro e w1 ⟨rfl, hb⟩; replace HI := Aside0.mk (HI.out.step (by first | exact hb | exact hb.below)); clear hb
        refine hK.out _ _ ?_ (fun hHeld => ?_)
        · (first | exact HI.out.drew | exact HI.out)
        clear hK K
        try simp only [Act.put, List.setIfInBounds_toArray, List.set_cons_zero, List.set_cons_succ]
        clear hHeld
        cases b1 with
        | true =>
          have s1 := E1.out.2.1 rfl
          clear E1
          iterate 3 (refine ord_take (v := ?_) (by rfl) ?_ ?_; rotate_left; (focus (intro w' hSw; have hk := fun i => blk_cell hSw.2 i; have hx0 := pw_cell_below hSw.1 HX.out.1; have hx1 := pw_cell_below hSw.1 HX.out.2; (try have hz0 := pw_cell_below hSw.1 HZ.out.1; have hz1 := pw_cell_below hSw.1 HZ.out.2); go_simp; (try with_reducible rfl); done)); try simp only [Act.put, List.setIfInBounds_toArray, List.set_cons_zero, List.set_cons_succ])
          by_cases c11 : 0 < i
          case pos =>
            have v4 : decide (0 < i) = true := decide_eq_true c11
            have gw : IntKind.i64.wrap ((i : Int) - 1) = ((i - 1 : Nat) : Int) := (i64_w _).trans ((wrap_in _ (by omega) (by omega)).trans (by omega))
            obtain ⟨az, eZ, hz0, hz1⟩ := at_T46 H11.out.1 ((i - 1 : Nat) : Int) (by omega) (by omega)
            obtain rfl := Option.some.inj eZ
            rw [Int.toNat_natCast] at hz0 hz1
            obtain ⟨z, hz⟩ : ∃ z, z = rd_T46 x.f8 ((i - 1 : Nat) : Int) := ⟨_, rfl⟩
            rw [← hz] at hz0 hz1 HD
            have HZ := Aside0.mk (And.intro hz0 hz1); clear hz0 hz1 hz
            obtain ⟨b2, E2⟩ := refLess_at z y
            have y4 := eq_true (show (0 : Int) ≤ ((i - 1 : Nat) : Int) by omega); have y5 := eq_true (show ((i - 1 : Nat) : Int) < (x.f8.length : Int) by omega)
            (refine ord_take (v := ?_) (by rfl) ?_ ?_; rotate_left; (focus (intro w' hSw; have hk := fun i => blk_cell hSw.2 i; have hx0 := pw_cell_below hSw.1 HX.out.1; have hx1 := pw_cell_below hSw.1 HX.out.2; (try have hz0 := pw_cell_below hSw.1 HZ.out.1; have hz1 := pw_cell_below hSw.1 HZ.out.2); go_simp; (try with_reducible rfl); done)); try simp only [Act.put, List.setIfInBounds_toArray, List.set_cons_zero, List.set_cons_succ])
            iterate 12 (refine ord_take (v := ?_) (by rfl) ?_ ?_; rotate_left; (focus (intro w' hSw; have hk := fun i => blk_cell hSw.2 i; have hx0 := pw_cell_below hSw.1 HX.out.1; have hx1 := pw_cell_below hSw.1 HX.out.2; (try have hz0 := pw_cell_below hSw.1 HZ.out.1; have hz1 := pw_cell_below hSw.1 HZ.out.2); go_simp; (try with_reducible rfl); done)); try simp only [Act.put, List.setIfInBounds_toArray, List.set_cons_zero, List.set_cons_succ])
            refine ord_call (by rfl) (fun K hK => ?_)
            go_simp; go_at_call 58
            refine (raddleref01_LessDot.calls z.f0 z.f1 y.f0 y.f1 b2 _ E2.out.1).mono ?_; rintro e w1 ⟨rfl, hb⟩; replace HI := Aside0.mk (HI.out.step (by first | exact hb | exact hb.below)); clear hb
            refine hK.out _ _ ?_ (fun hHeld => ?_)
            · (first | exact HI.out.drew | exact HI.out)
            clear hK K
            try simp only [Act.put, List.setIfInBounds_toArray, List.set_cons_zero, List.set_cons_succ]
            clear hHeld
            cases b2 with
            | true =>
              have s2 := E2.out.2.1 rfl
              clear E2
              iterate 3 (refine ord_take (v := ?_) (by rfl) ?_ ?_; rotate_left; (focus (intro w' hSw; have hk := fun i => blk_cell hSw.2 i; have hx0 := pw_cell_below hSw.1 HX.out.1; have hx1 := pw_cell_below hSw.1 HX.out.2; (try have hz0 := pw_cell_below hSw.1 HZ.out.1; have hz1 := pw_cell_below hSw.1 HZ.out.2); go_simp; (try with_reducible rfl); done)); try simp only [Act.put, List.setIfInBounds_toArray, List.set_cons_zero, List.set_cons_succ])
              refine ord_done ?_
              have hw : IntKind.i64.wrap ((i : Int) + 1) = ((i + 1 : Nat) : Int) := (i64_w _).trans ((wrap_in _ (by omega) (by omega)).trans (by omega))
              have hk := fun i => blk_cell HI.out.2 i
              go_wp2
              go_roundw
              case rel => exact ⟨i + 1, by omega, rfl, HI, ⟨HD.out.trans ⟨fun h => h.2, fun h => ⟨⟨s1, by first | exact s2 | exact fun _ => s2⟩, h⟩⟩⟩⟩
              case measure => simp [intOf]; omega
            | false =>
              obtain rfl : r = false := Bool.eq_false_iff.2 (fun e => Bool.noConfusion (E2.out.2.2 ((HD.out.1 e).1.2 c11)))
              iterate 3 (refine ord_take (v := ?_) (by rfl) ?_ ?_; rotate_left; (focus (intro w' hSw; have hk := fun i => blk_cell hSw.2 i; have hx0 := pw_cell_below hSw.1 HX.out.1; have hx1 := pw_cell_below hSw.1 HX.out.2; (try have hz0 := pw_cell_below hSw.1 HZ.out.1; have hz1 := pw_cell_below hSw.1 HZ.out.2); go_simp; (try with_reducible rfl); done)); try simp only [Act.put, List.setIfInBounds_toArray, List.set_cons_zero, List.set_cons_succ])
              refine ord_done ?_
              go_wp2
              go_ret
              exact ⟨rfl, HI.out.1⟩
          case neg =>
            have v4 : decide (0 < i) = false := decide_eq_false c11
            have s2 : 0 < i → lessD (rd_T46 x.f8 ((i - 1 : Nat) : Int)) y := fun h => absurd h c11
            (refine ord_take (v := ?_) (by rfl) ?_ ?_; rotate_left; (focus (intro w' hSw; have hk := fun i => blk_cell hSw.2 i; have hx0 := pw_cell_below hSw.1 HX.out.1; have hx1 := pw_cell_below hSw.1 HX.out.2; (try have hz0 := pw_cell_below hSw.1 HZ.out.1; have hz1 := pw_cell_below hSw.1 HZ.out.2); go_simp; (try with_reducible rfl); done)); try simp only [Act.put, List.setIfInBounds_toArray, List.set_cons_zero, List.set_cons_succ])
            repeat (first | (refine ord_skip (by rfl) ?_; try simp only [Act.put, List.setIfInBounds_toArray, List.set_cons_zero, List.set_cons_succ]) | (refine ord_pass (by rfl) ?_; try simp only [Act.put, List.setIfInBounds_toArray, List.set_cons_zero, List.set_cons_succ]) | (refine ord_take (v := ?_) (by rfl) ?_ ?_; rotate_left; (focus (intro w' hSw; have hk := fun i => blk_cell hSw.2 i; have hx0 := pw_cell_below hSw.1 HX.out.1; have hx1 := pw_cell_below hSw.1 HX.out.2; (try have hz0 := pw_cell_below hSw.1 HZ.out.1; have hz1 := pw_cell_below hSw.1 HZ.out.2); go_simp; (try with_reducible rfl); done)); try simp only [Act.put, List.setIfInBounds_toArray, List.set_cons_zero, List.set_cons_succ]))
            refine ord_done ?_
            have hw : IntKind.i64.wrap ((i : Int) + 1) = ((i + 1 : Nat) : Int) := (i64_w _).trans ((wrap_in _ (by omega) (by omega)).trans (by omega))
            have hk := fun i => blk_cell HI.out.2 i
            go_wp2
            go_roundw
            case rel => exact ⟨i + 1, by omega, rfl, HI, ⟨HD.out.trans ⟨fun h => h.2, fun h => ⟨⟨s1, by first | exact s2 | exact fun _ => s2⟩, h⟩⟩⟩⟩
            case measure => simp [intOf]; omega
        | false =>
          obtain rfl : r = false := Bool.eq_false_iff.2 (fun e => Bool.noConfusion (E1.out.2.2 (HD.out.1 e).1.1))
          repeat (first | (refine ord_skip (by rfl) ?_; try simp only [Act.put, List.setIfInBounds_toArray, List.set_cons_zero, List.set_cons_succ]) | (refine ord_pass (by rfl) ?_; try simp only [Act.put, List.setIfInBounds_toArray, List.set_cons_zero, List.set_cons_succ]) | (refine ord_take (v := ?_) (by rfl) ?_ ?_; rotate_left; (focus (intro w' hSw; have hk := fun i => blk_cell hSw.2 i; have hx0 := pw_cell_below hSw.1 HX.out.1; have hx1 := pw_cell_below hSw.1 HX.out.2; (try have hz0 := pw_cell_below hSw.1 HZ.out.1; have hz1 := pw_cell_below hSw.1 HZ.out.2); go_simp; (try with_reducible rfl); done)); try simp only [Act.put, List.setIfInBounds_toArray, List.set_cons_zero, List.set_cons_succ]))
          refine ord_done ?_
          go_wp2
          go_ret
          exact ⟨rfl, HI.out.1⟩
  have m3 : (x.f3 == 3) = false := beq_eq_false_iff_ne.2 k3
  obtain rfl : r = false := Bool.eq_false_iff.2 (fun e => by rcases HK.out.1 e with h | h | h; exact k1 h.1; exact k2 h.1; exact k3 h.1)
  go_wp2_with fail; go_ret; exact ⟨rfl, HI.out.1⟩
theorem refop_core (n : Int) (A1 : Option Addr) (c1 : Nat) (f : List Tbl) (x : Opr) (A2 : Option Addr) (c2 : Nat) (A10 : Option Addr) (c10 : Nat) (A11 : Option Addr) (c11 : Nat) (r : Bool) (w : World) (hn : 1 ≤ n ∧ n ≤ 5) (h1 : Kd.C k56 w A1 f.length f ∧ f.length ≤ c1) (h2 : Kd.C (Kd.int .i64) w A2 x.f1.length x.f1 ∧ x.f1.length ≤ c2) (h10 : Kd.C k92 w A10 x.f7.length x.f7 ∧ x.f7.length ≤ c10) (h11 : Kd.C k46 w A11 x.f8.length x.f8 ∧ x.f8.length ≤ c11) (hr : some (opB n f x) = some r) :
    Calls Tryz.prog 25 #[.int .i64 n, .slice A1 f.length c1, .agg #[.int .i64 x.f0.f0, .int .i64 x.f0.f1, .slice A2 x.f1.length c2, .int .i64 x.f2.f0, .int .i64 x.f2.f1, .int .i64 x.f2.f2, .int .i64 x.f3, .int .i64 x.f4, .string x.f5, .int .i64 x.f6, .slice A10 x.f7.length c10, .slice A11 x.f8.length c11]] w fun e w' => e = .returned (.bool r) ∧ Below w.heap.size w w' := by
  by_cases hno : wholeP n x ∧ (0 ≤ x.f4 ∧ x.f4 < (f.length : Int)) ∧ (1 ≤ x.f5.size ∧ x.f5.size ≤ 12)
  case neg => exact refop_no n A1 c1 f x A2 c2 A10 c10 A11 c11 r w hn h1 h2 h10 h11 hno hr
  have hk : r = true ↔ kindP f x := (opB_is hr).trans ⟨fun h => h.2.2.2, fun h => ⟨hno.1, hno.2.1, hno.2.2, h⟩⟩
  obtain ⟨⟨a1, a2, a3, a4, a5, a6, a7, a8, a9⟩, a10, a11⟩ := hno
  exact refop_yes n A1 c1 f x A2 c2 A10 c10 A11 c11 r w hn h1 h2 h10 h11 ⟨a1, a2⟩ ⟨a3, a4⟩ a5 a6 a7 a8 a9 a10 a11 rfl hk
def raddleref01_Op.f (a0 : Int) (l1 : List Tbl) (a1_0 : Int) (a1_1 : Int) (l1_2 : List Int) (a1_3 : Int) (a1_4 : Int) (a1_5 : Int) (a1_6 : Int) (a1_7 : Int) (a1_8 : ByteArray) (a1_9 : Int) (l1_10 : List Val) (l1_11 : List Dt) : Option Bool := if 1 ≤ a0 ∧ a0 ≤ 5 then some (opB a0 l1 ⟨⟨a1_0, a1_1⟩, l1_2, ⟨a1_3, a1_4, a1_5⟩, a1_6, a1_7, a1_8, a1_9, l1_10, l1_11⟩) else none
theorem raddleref01_Op.calls (a0 : Int) (A1 : Option Addr) (c1 : Nat) (l1 : List Tbl) (a1_0 : Int) (a1_1 : Int) (A1_2 : Option Addr) (c1_2 : Nat) (l1_2 : List Int) (a1_3 : Int) (a1_4 : Int) (a1_5 : Int) (a1_6 : Int) (a1_7 : Int) (a1_8 : ByteArray) (a1_9 : Int) (A1_10 : Option Addr) (c1_10 : Nat) (l1_10 : List Val) (A1_11 : Option Addr) (c1_11 : Nat) (l1_11 : List Dt) (r : Bool) (w : World) (hr1 : Kd.C k56 w A1 l1.length l1) (hc1 : l1.length ≤ c1) (hr1_2 : Kd.C (Kd.int .i64) w A1_2 l1_2.length l1_2) (hc1_2 : l1_2.length ≤ c1_2) (hr1_10 : Kd.C k92 w A1_10 l1_10.length l1_10) (hc1_10 : l1_10.length ≤ c1_10) (hr1_11 : Kd.C k46 w A1_11 l1_11.length l1_11) (hc1_11 : l1_11.length ≤ c1_11) (h : raddleref01_Op.f a0 l1 a1_0 a1_1 l1_2 a1_3 a1_4 a1_5 a1_6 a1_7 a1_8 a1_9 l1_10 l1_11 = some r) :
    Calls Tryz.prog 25 #[.int .i64 a0, .slice A1 l1.length c1, .agg #[.int .i64 a1_0, .int .i64 a1_1, .slice A1_2 l1_2.length c1_2, .int .i64 a1_3, .int .i64 a1_4, .int .i64 a1_5, .int .i64 a1_6, .int .i64 a1_7, .string a1_8, .int .i64 a1_9, .slice A1_10 l1_10.length c1_10, .slice A1_11 l1_11.length c1_11]] w fun e w' => e = .returned (.bool r) ∧ Below w.heap.size w w' := by
  unfold raddleref01_Op.f at h
  by_cases hn : 1 ≤ a0 ∧ a0 ≤ 5
  case neg => rw [if_neg hn] at h; exact absurd h (by simp)
  rw [if_pos hn] at h
  exact refop_core a0 A1 c1 l1 ⟨⟨a1_0, a1_1⟩, l1_2, ⟨a1_3, a1_4, a1_5⟩, a1_6, a1_7, a1_8, a1_9, l1_10, l1_11⟩ A1_2 c1_2 A1_10 c1_10 A1_11 c1_11 r w hn ⟨hr1, hc1⟩ ⟨hr1_2, hc1_2⟩ ⟨hr1_10, hc1_10⟩ ⟨hr1_11, hc1_11⟩ h
end Go.Proofs.YtnbjflcfdncocaaGreat.M
namespace Go.Proofs.YtnbjflcfdncocaaGreat.M
open Go.RowKit Go.Proofs.YtnbjflcfdncocaaGreatW.PrintWords Go.Proofs.YtnbjflcfdncocaaGreatW.PrintLast Go.Proofs.YtnbjflcfdncocaaGreatW.PrintMore
attribute [local go_sem] max2_int min2_int max_two min_two max_three min_three max_four min_four
set_option linter.unusedVariables false
set_option linter.unusedSimpArgs false
mutual
def raddleref01_Msg.j0 : Nat → Int → List (S56) → Bool → Int → Int → Int → List Int → List Int → List (S52) → Option (Bool)
 | 0, _, _, _, _, _, _, _, _, _ => none
 | k + 1, x0, x1, x29, x530000, x530001, x530002, x530003, x530004, x530005 => if x29 = true then (some false) else (raddleref01_Msg.l0 k x0 x1 0 x530000 x530001 x530002 x530003 x530004 x530005)
def raddleref01_Msg.l0 : Nat → Int → List (S56) → Int → Int → Int → Int → List Int → List Int → List (S52) → Option (Bool)
 | 0, _, _, _, _, _, _, _, _, _ => none
 | k + 1, x0, x1, x7, x530000, x530001, x530002, x530003, x530004, x530005 => if x7 < (x530005.length : Int) then (if 0 ≤ x7 then ((raddleref01_Op.f x0 x1 ((rd_T52 x530005 x7).f0.f0) ((rd_T52 x530005 x7).f0.f1) ((rd_T52 x530005 x7).f1) ((rd_T52 x530005 x7).f2.f0) ((rd_T52 x530005 x7).f2.f1) ((rd_T52 x530005 x7).f2.f2) ((rd_T52 x530005 x7).f3) ((rd_T52 x530005 x7).f4) ((rd_T52 x530005 x7).f5) ((rd_T52 x530005 x7).f6) ((rd_T52 x530005 x7).f7) ((rd_T52 x530005 x7).f8)).bind fun t533 => (if t533 = true then (raddleref01_Msg.l0 k x0 x1 (wrap64 (x7 + 1)) x530000 x530001 x530002 x530003 x530004 x530005) else (some false))) else (none)) else (if (x530003.length : Int) = x0 then ((raddleref01_Vector.f k x530003).bind fun t534 => (if t534 = 0 then ((raddleref01_Vector.f k x530004).bind fun t535 => (if t535 = 0 then ((raddleref01_Le.f k x530004 x530003).bind fun t536 => (raddleref01_Msg.j2 k t536 x530000 x530001 x530002 x530003 x530004 x530005)) else (raddleref01_Msg.j2 k false x530000 x530001 x530002 x530003 x530004 x530005))) else (raddleref01_Msg.j2 k false x530000 x530001 x530002 x530003 x530004 x530005))) else (raddleref01_Msg.j2 k false x530000 x530001 x530002 x530003 x530004 x530005))
def raddleref01_Msg.j2 : Nat → Bool → Int → Int → Int → List Int → List Int → List (S52) → Option (Bool)
 | 0, _, _, _, _, _, _, _ => none
 | k + 1, x8, x530000, x530001, x530002, x530003, x530004, x530005 => if x530000 = 1 then (if (x530005.length : Int) = 1 then (some ((wrap64 ((x530003.length : Int) + (x530004.length : Int))) == 0)) else (some false)) else (if x530000 = 2 then (if x8 = true then (some ((x530005.length : Int) == 0)) else (some false)) else (if x530000 = 3 then (some x8) else (some false)))
end
def raddleref01_Msg.f (k : Nat) (a0 : Int) (l1 : List (S56)) (a2_0 : Int) (a2_1 : Int) (a2_2 : Int) (l2_3 : List Int) (l2_4 : List Int) (l2_5 : List (S52)) : Option (Bool) := (raddleref01_in.f a2_1 0 (wrap64 (a0 - 1))).bind fun t530 => (if t530 = true then ((raddleref01_in.f a2_2 0 (wrap64 (a0 - 1))).bind fun t531 => (if t531 = true then (raddleref01_Msg.j0 k a0 l1 (a2_1 == a2_2) a2_0 a2_1 a2_2 l2_3 l2_4 l2_5) else (raddleref01_Msg.j0 k a0 l1 true a2_0 a2_1 a2_2 l2_3 l2_4 l2_5))) else (raddleref01_Msg.j0 k a0 l1 true a2_0 a2_1 a2_2 l2_3 l2_4 l2_5))
set_option maxHeartbeats 8000000 in
set_option maxRecDepth 100000 in
theorem raddleref01_Msg.calls (k : Nat) (a0 : Int) (A1 : Option Addr) (c1 : Nat) (l1 : List (S56)) (a2_0 : Int) (a2_1 : Int) (a2_2 : Int) (A2_3 : Option Addr) (c2_3 : Nat) (l2_3 : List Int) (A2_4 : Option Addr) (c2_4 : Nat) (l2_4 : List Int) (A2_5 : Option Addr) (c2_5 : Nat) (l2_5 : List (S52)) (r : Bool) (w : World) (hr1 : Kd.C k56 w A1 l1.length l1) (hc1 : l1.length ≤ c1) (hr2_3 : Kd.C (Kd.int .i64) w A2_3 l2_3.length l2_3) (hc2_3 : l2_3.length ≤ c2_3) (hr2_4 : Kd.C (Kd.int .i64) w A2_4 l2_4.length l2_4) (hc2_4 : l2_4.length ≤ c2_4) (hr2_5 : Kd.C k52 w A2_5 l2_5.length l2_5) (hc2_5 : l2_5.length ≤ c2_5) (h : raddleref01_Msg.f k a0 l1 a2_0 a2_1 a2_2 l2_3 l2_4 l2_5 = some r) :
  Calls Tryz.prog 10 #[.int .i64 a0, .slice A1 l1.length c1, .agg #[.int .i64 a2_0, .int .i64 a2_1, .int .i64 a2_2, .slice A2_3 l2_3.length c2_3, .slice A2_4 l2_4.length c2_4, .slice A2_5 l2_5.length c2_5]] w fun e w' => e = .returned (.bool r) ∧ Below w.heap.size w w' := by
 have hu26 := Tryz.underlying26
 have hu52 := Tryz.underlying52
 have HR1 := Aside0.mk hr1
 have HC1 := Aside0.mk hc1
 clear hr1 hc1
 have HR2_3 := Aside0.mk hr2_3
 have HC2_3 := Aside0.mk hc2_3
 clear hr2_3 hc2_3
 have HR2_4 := Aside0.mk hr2_4
 have HC2_4 := Aside0.mk hc2_4
 clear hr2_4 hc2_4
 have HR2_5 := Aside0.mk hr2_5
 have HC2_5 := Aside0.mk hc2_5
 clear hr2_5 hc2_5
 have HB := Aside0.mk (Below.refl w.heap.size w)
 have H : ((raddleref01_in.f a2_1 0 (wrap64 (a0 - 1))).bind fun t530 => (if t530 = true then ((raddleref01_in.f a2_2 0 (wrap64 (a0 - 1))).bind fun t531 => (if t531 = true then (raddleref01_Msg.j0 k a0 l1 (a2_1 == a2_2) a2_0 a2_1 a2_2 l2_3 l2_4 l2_5) else (raddleref01_Msg.j0 k a0 l1 true a2_0 a2_1 a2_2 l2_3 l2_4 l2_5))) else (raddleref01_Msg.j0 k a0 l1 true a2_0 a2_1 a2_2 l2_3 l2_4 l2_5))) = some r := h
 clear h
 have HC4 := Aside0.mk H
 clear H
 go_enter Tryz.func10, Tryz.ntmps10
 go_upto_region 1 with (first | ((with_reducible refine gate_dst (N := 5) rfl ?_); (try (refine gate_guard (by rfl) ?_; dsimp only)); refine box_event ?hg (N := 5) ?hd (cs := #[.int .i64 a2_0, .int .i64 a2_1, .int .i64 a2_2, .slice A2_3 l2_3.length c2_3, .slice A2_4 l2_4.length c2_4, .slice A2_5 l2_5.length c2_5]) (t := 26) ?hr ?_; (case hd => rfl); (case hg => rfl); (case hr => first | (go_simp; done) | (go_simp; rfl)); intro gb529 hg w5 hbox hb; have n0_ := Aside0.mk (below_step (by with_reducible repeat (first | exact HB.out | apply below_alloc | apply pw_below_drewN | apply below_drew1)) hb); have n1_ := Aside0.mk (hbox); have n2_ := Aside0.mk ((by rw [hg]; exact (below_size (by with_reducible repeat (first | exact HB.out | apply below_alloc | apply pw_below_drewN | apply below_drew1))) : w.heap.size ≤ gb529)); have n3_ := Aside0.mk ((by rw [hg]; exact (below_size (by with_reducible repeat (first | exact HB.out | apply below_alloc | apply pw_below_drewN | apply below_drew1))) : w.heap.size ≤ gb529)); clear HB; have HB := n0_; have BK529 := n1_; have GW529 := n2_; have GE529 := n3_; clear n0_ n1_ n2_ n3_; clear hb hbox hg))
 (try simp only [Act.put, List.setIfInBounds_toArray, List.set_cons_zero, List.set_cons_succ])
 go_cut [29] (fun v29 wc => ∃ (kq : Nat) (x29_3 : Bool), v29 = .bool x29_3 ∧ Aside0 (raddleref01_Msg.j0 kq a0 l1 x29_3 a2_0 a2_1 a2_2 l2_3 l2_4 l2_5 = some r) ∧ Aside0 (kq ≤ k) ∧ Aside0 (wc.heap[gb529]? = some (.cells #[.int .i64 a2_0, .int .i64 a2_1, .int .i64 a2_2, (.slice A2_3 l2_3.length c2_3), (.slice A2_4 l2_4.length c2_4), (.slice A2_5 l2_5.length c2_5)] 26 (0, 0))) ∧ Aside0 (Below w.heap.size w wc))
 case first =>
  have H := HC4.out
  clear HC4
  replace H := Option.bind_eq_some_iff.mp H
  obtain ⟨t530, A60, H⟩ := H
  try dsimp only at H
  have A6 := Aside0.mk A60
  clear A60
  by_cases c7 : t530 = true
  ·subst c7
   rw [if_pos rfl] at H
   replace H := Option.bind_eq_some_iff.mp H
   obtain ⟨t531, A80, H⟩ := H
   try dsimp only at H
   have A8 := Aside0.mk A80
   clear A80
   by_cases c9 : t531 = true
   ·subst c9
    rw [if_pos rfl] at H
    have H' := Aside0.mk H
    clear H
    have hcz10 := fun i_ => blk_cell BK529.out i_
    have hfz10 := fun i_ => blk_frozen BK529.out i_
    go_wp2_with (first | ((with_reducible refine gate_callee (f := 23) rfl ?_); refine goesL_ (some 13) rfl rfl Tryz.func23 (by kernel_rfl) rfl #[.int .i64 a2_1, .int .i64 0, .int .i64 (wrap64 (a0 - 1))] rfl (by (try simp only [List.map_toArray, List.map_cons, List.map_nil]); first | done | rfl | (simp only [List.length_drop, List.length_take]; rfl)) ?_; (with_reducible refine (raddleref01_in.calls a2_1 0 (wrap64 (a0 - 1)) true _ A6.out).mono ?_); rintro e w' ⟨rfl, ⟨nd, rfl⟩⟩; refine ⟨_, rfl, ?_⟩) | (go_at_call 23; (with_reducible refine (raddleref01_in.calls a2_2 0 (wrap64 (a0 - 1)) true _ A8.out).mono ?_); rintro e w' ⟨rfl, ⟨nd, rfl⟩⟩))
    go_meet
    case rel => exact ⟨_, ((a2_1 == a2_2)), (by first | rfl | (simp; done) | (simp [*]; done)), H', ⟨by first | omega | exact Nat.le_refl _⟩, ⟨by (with_reducible repeat (first | refine blk_drewN ?_ _ | refine blk_drew ?_ | refine blk_alloc ?_ _)); exact BK529.out⟩, ⟨by with_reducible repeat (first | exact HB.out | apply below_alloc | apply pw_below_drewN | apply below_drew1 | refine below_set ?_ GE529.out)⟩⟩
   ·replace c9 := Bool.eq_false_iff.mpr c9
    subst c9
    rw [if_neg (show ¬ (false = true) by decide)] at H
    have H' := Aside0.mk H
    clear H
    have hcz11 := fun i_ => blk_cell BK529.out i_
    have hfz11 := fun i_ => blk_frozen BK529.out i_
    go_wp2_with (first | ((with_reducible refine gate_callee (f := 23) rfl ?_); refine goesL_ (some 13) rfl rfl Tryz.func23 (by kernel_rfl) rfl #[.int .i64 a2_1, .int .i64 0, .int .i64 (wrap64 (a0 - 1))] rfl (by (try simp only [List.map_toArray, List.map_cons, List.map_nil]); first | done | rfl | (simp only [List.length_drop, List.length_take]; rfl)) ?_; (with_reducible refine (raddleref01_in.calls a2_1 0 (wrap64 (a0 - 1)) true _ A6.out).mono ?_); rintro e w' ⟨rfl, ⟨nd, rfl⟩⟩; refine ⟨_, rfl, ?_⟩) | (go_at_call 23; (with_reducible refine (raddleref01_in.calls a2_2 0 (wrap64 (a0 - 1)) false _ A8.out).mono ?_); rintro e w' ⟨rfl, ⟨nd, rfl⟩⟩))
    go_meet
    case rel => exact ⟨_, (true), (by first | rfl | (simp; done) | (simp [*]; done)), H', ⟨by first | omega | exact Nat.le_refl _⟩, ⟨by (with_reducible repeat (first | refine blk_drewN ?_ _ | refine blk_drew ?_ | refine blk_alloc ?_ _)); exact BK529.out⟩, ⟨by with_reducible repeat (first | exact HB.out | apply below_alloc | apply pw_below_drewN | apply below_drew1 | refine below_set ?_ GE529.out)⟩⟩
  ·replace c7 := Bool.eq_false_iff.mpr c7
   subst c7
   rw [if_neg (show ¬ (false = true) by decide)] at H
   have H' := Aside0.mk H
   clear H
   have hcz12 := fun i_ => blk_cell BK529.out i_
   have hfz12 := fun i_ => blk_frozen BK529.out i_
   go_wp2_with (first | ((with_reducible refine gate_callee (f := 23) rfl ?_); refine goesL_ (some 13) rfl rfl Tryz.func23 (by kernel_rfl) rfl #[.int .i64 a2_1, .int .i64 0, .int .i64 (wrap64 (a0 - 1))] rfl (by (try simp only [List.map_toArray, List.map_cons, List.map_nil]); first | done | rfl | (simp only [List.length_drop, List.length_take]; rfl)) ?_; (with_reducible refine (raddleref01_in.calls a2_1 0 (wrap64 (a0 - 1)) false _ A6.out).mono ?_); rintro e w' ⟨rfl, ⟨nd, rfl⟩⟩; refine ⟨_, rfl, ?_⟩))
   go_meet
   case rel => exact ⟨_, (true), (by first | rfl | (simp; done) | (simp [*]; done)), H', ⟨by first | omega | exact Nat.le_refl _⟩, ⟨by (with_reducible repeat (first | refine blk_drewN ?_ _ | refine blk_drew ?_ | refine blk_alloc ?_ _)); exact BK529.out⟩, ⟨by with_reducible repeat (first | exact HB.out | apply below_alloc | apply pw_below_drewN | apply below_drew1 | refine below_set ?_ GE529.out)⟩⟩
 case rest =>
  clear HC4
  try clear c1
  try clear c2
  try clear p2
  try clear p6
  try clear c7
  try clear c9
  try clear c10
  try clear hcz10_0
  try clear hcz10_1
  try clear hcz10_2
  try clear hcz10_3
  try clear hcz10_4
  try clear hcz10_5
  try clear hcz11_0
  try clear hcz11_1
  try clear hcz11_2
  try clear hcz11_3
  try clear hcz11_4
  try clear hcz11_5
  try clear hcz12_0
  try clear hcz12_1
  try clear hcz12_2
  try clear hcz12_3
  try clear hcz12_4
  try clear hcz12_5
  try clear hfz10_0
  try clear hfz10_1
  try clear hfz10_2
  try clear hfz10_3
  try clear hfz10_4
  try clear hfz10_5
  try clear hfz11_0
  try clear hfz11_1
  try clear hfz11_2
  try clear hfz11_3
  try clear hfz11_4
  try clear hfz11_5
  try clear hfz12_0
  try clear hfz12_1
  try clear hfz12_2
  try clear hfz12_3
  try clear hfz12_4
  try clear hfz12_5
  obtain ⟨kq, x29_3, rfl, HA, HJ3, BK529, HB⟩ := hcut
  cases kq with
  | zero => exact absurd HA.out (by simp [raddleref01_Msg.j0])
  | succ kj3 =>
   have H := HA.out
   clear HA
   simp only [raddleref01_Msg.j0] at H
   by_cases c13 : x29_3 = true
   ·subst c13
    rw [if_pos rfl] at H
    obtain rfl := Option.some.inj H
    go_wp2
    go_ret
    exact ⟨by first | rfl | (simp [errW_none, errW_some] <;> rfl) | (simp [*, errW_none, errW_some] <;> rfl), by with_reducible repeat (first | exact HB.out | apply below_alloc | apply pw_below_drewN | apply below_drew1 | refine below_set ?_ GE529.out)⟩
   ·replace c13 := Bool.eq_false_iff.mpr c13
    subst c13
    rw [if_neg (show ¬ (false = true) by decide)] at H
    have H' := Aside0.mk H
    clear H
    go_wp2
    go_loopg [7] kj3 (fun kq v7 w' => ∃ (x7_2 : Int), v7 = .int .i64 x7_2 ∧ Aside0 (raddleref01_Msg.l0 kq a0 l1 x7_2 a2_0 a2_1 a2_2 l2_3 l2_4 l2_5 = some r) ∧ Aside0 (kq ≤ kj3) ∧ Aside0 (w'.heap[gb529]? = some (.cells #[.int .i64 a2_0, .int .i64 a2_1, .int .i64 a2_2, (.slice A2_3 l2_3.length c2_3), (.slice A2_4 l2_4.length c2_4), (.slice A2_5 l2_5.length c2_5)] 26 (0, 0))) ∧ Aside0 (Below w.heap.size w w'))
    case atStart => exact ⟨(0), (by first | rfl | (simp; done) | (simp [*]; done)), H', ⟨Nat.le_refl _⟩, ⟨by (with_reducible repeat (first | refine blk_drewN ?_ _ | refine blk_drew ?_ | refine blk_alloc ?_ _)); exact BK529.out⟩, ⟨by with_reducible repeat (first | exact HB.out | apply below_alloc | apply pw_below_drewN | apply below_drew1 | refine below_set ?_ GE529.out)⟩⟩
    case round =>
     clear H'
     try clear c1
     try clear c2
     try clear p2
     try clear p6
     try clear c7
     try clear c9
     try clear c10
     try clear c13
     try clear hcz10_0
     try clear hcz10_1
     try clear hcz10_2
     try clear hcz10_3
     try clear hcz10_4
     try clear hcz10_5
     try clear hcz11_0
     try clear hcz11_1
     try clear hcz11_2
     try clear hcz11_3
     try clear hcz11_4
     try clear hcz11_5
     try clear hcz12_0
     try clear hcz12_1
     try clear hcz12_2
     try clear hcz12_3
     try clear hcz12_4
     try clear hcz12_5
     try clear hfz10_0
     try clear hfz10_1
     try clear hfz10_2
     try clear hfz10_3
     try clear hfz10_4
     try clear hfz10_5
     try clear hfz11_0
     try clear hfz11_1
     try clear hfz11_2
     try clear hfz11_3
     try clear hfz11_4
     try clear hfz11_5
     try clear hfz12_0
     try clear hfz12_1
     try clear hfz12_2
     try clear hfz12_3
     try clear hfz12_4
     try clear hfz12_5
     try clear p2
     try clear p6
     obtain ⟨x7_2, rfl, HA, HK2, BK529, HB⟩ := hrel
     cases gk with
     | zero => exact absurd HA.out (by simp [raddleref01_Msg.l0])
     | succ k2 =>
      have H := HA.out
      clear HA
      simp only [raddleref01_Msg.l0] at H
      by_cases c14 : x7_2 < (l2_5.length : Int)
      ·rw [if_pos c14] at H
       have c14b0 : decide (x7_2 < (l2_5.length : Int)) = true := decide_eq_true c14
       clear c14
       by_cases c15 : 0 ≤ x7_2
       ·rw [if_pos c15] at H
        have c15b0 : decide (0 ≤ x7_2) = true := decide_eq_true c15
        clear c15
        replace H := Option.bind_eq_some_iff.mp H
        obtain ⟨t533, A160, H⟩ := H
        try dsimp only at H
        have A16 := Aside0.mk A160
        clear A160
        by_cases c17 : t533 = true
        ·subst c17
         rw [if_pos rfl] at H
         have H' := Aside0.mk H
         clear H
         have hcz18 := fun i_ => blk_cell BK529.out i_
         have hfz18 := fun i_ => blk_frozen BK529.out i_
         have p532 : 0 ≤ (x7_2 : Int) := of_decide_eq_true (by first | (with_reducible assumption) | assumption)
         have q532 : x7_2 < (l2_5.length : Int) := of_decide_eq_true (by first | (with_reducible assumption) | assumption)
         obtain ⟨ad532, A532_2, c532_2, A532_10, c532_10, A532_11, c532_11, e532, hx532_0, hx532_1, hx532_2, hx532_3, hx532_4, hx532_5, hx532_6, hx532_7, hx532_8, hx532_9, hx532_10, hx532_11, hl532_2, hi532_2, hl532_10, hi532_10, hl532_11, hi532_11⟩ := at_T52 HR2_5.out x7_2 p532 q532
         cases e532
         replace hx532_0 := (HB.out.cell (World.block_lt_of_cell? w _ hx532_0)).trans hx532_0
         replace hx532_1 := (HB.out.cell (World.block_lt_of_cell? w _ hx532_1)).trans hx532_1
         replace hx532_2 := (HB.out.cell (World.block_lt_of_cell? w _ hx532_2)).trans hx532_2
         replace hx532_3 := (HB.out.cell (World.block_lt_of_cell? w _ hx532_3)).trans hx532_3
         replace hx532_4 := (HB.out.cell (World.block_lt_of_cell? w _ hx532_4)).trans hx532_4
         replace hx532_5 := (HB.out.cell (World.block_lt_of_cell? w _ hx532_5)).trans hx532_5
         replace hx532_6 := (HB.out.cell (World.block_lt_of_cell? w _ hx532_6)).trans hx532_6
         replace hx532_7 := (HB.out.cell (World.block_lt_of_cell? w _ hx532_7)).trans hx532_7
         replace hx532_8 := (HB.out.cell (World.block_lt_of_cell? w _ hx532_8)).trans hx532_8
         replace hx532_9 := (HB.out.cell (World.block_lt_of_cell? w _ hx532_9)).trans hx532_9
         replace hx532_10 := (HB.out.cell (World.block_lt_of_cell? w _ hx532_10)).trans hx532_10
         replace hx532_11 := (HB.out.cell (World.block_lt_of_cell? w _ hx532_11)).trans hx532_11
         have HR532_2 := Aside0.mk hi532_2
         have HC532_2 := Aside0.mk hl532_2
         clear hi532_2 hl532_2
         have HR532_10 := Aside0.mk hi532_10
         have HC532_10 := Aside0.mk hl532_10
         clear hi532_10 hl532_10
         have HR532_11 := Aside0.mk hi532_11
         have HC532_11 := Aside0.mk hl532_11
         clear hi532_11 hl532_11
         replace p532 := eq_true p532
         replace q532 := eq_true q532
         go_wp2_with (first | ((with_reducible refine gate_callee (f := 25) rfl ?_); refine goesL_ (some 44) rfl rfl Tryz.func25 (by kernel_rfl) rfl #[.int .i64 a0, .slice A1 l1.length c1, .agg #[.int .i64 ((rd_T52 l2_5 x7_2).f0.f0), .int .i64 ((rd_T52 l2_5 x7_2).f0.f1), .slice A532_2 ((rd_T52 l2_5 x7_2).f1).length c532_2, .int .i64 ((rd_T52 l2_5 x7_2).f2.f0), .int .i64 ((rd_T52 l2_5 x7_2).f2.f1), .int .i64 ((rd_T52 l2_5 x7_2).f2.f2), .int .i64 ((rd_T52 l2_5 x7_2).f3), .int .i64 ((rd_T52 l2_5 x7_2).f4), .string ((rd_T52 l2_5 x7_2).f5), .int .i64 ((rd_T52 l2_5 x7_2).f6), .slice A532_10 ((rd_T52 l2_5 x7_2).f7).length c532_10, .slice A532_11 ((rd_T52 l2_5 x7_2).f8).length c532_11]] rfl (by (try simp only [List.map_toArray, List.map_cons, List.map_nil]); first | done | rfl | (simp only [List.length_drop, List.length_take]; rfl)) ?_; (with_reducible refine (raddleref01_Op.calls a0 _ _ l1 ((rd_T52 l2_5 x7_2).f0.f0) ((rd_T52 l2_5 x7_2).f0.f1) _ _ ((rd_T52 l2_5 x7_2).f1) ((rd_T52 l2_5 x7_2).f2.f0) ((rd_T52 l2_5 x7_2).f2.f1) ((rd_T52 l2_5 x7_2).f2.f2) ((rd_T52 l2_5 x7_2).f3) ((rd_T52 l2_5 x7_2).f4) ((rd_T52 l2_5 x7_2).f5) ((rd_T52 l2_5 x7_2).f6) _ _ ((rd_T52 l2_5 x7_2).f7) _ _ ((rd_T52 l2_5 x7_2).f8) true _ ?side1 ?side2 ?side3 ?side4 ?side5 ?side6 ?side7 ?side8 A16.out).mono ?_); (case side1 => repeat (first | exact (Kd.C_below HR1.out HB.out) | (with_reducible refine Kd.C_alloc ?_ _) | (with_reducible refine Kd.C_drewN ?_ _) | (with_reducible refine Kd.C_drew ?_))); (case side2 => exact HC1.out); (case side3 => repeat (first | exact (Kd.C_below HR532_2.out HB.out) | (with_reducible refine Kd.C_alloc ?_ _) | (with_reducible refine Kd.C_drewN ?_ _) | (with_reducible refine Kd.C_drew ?_))); (case side4 => exact HC532_2.out); (case side5 => repeat (first | exact (Kd.C_below HR532_10.out HB.out) | (with_reducible refine Kd.C_alloc ?_ _) | (with_reducible refine Kd.C_drewN ?_ _) | (with_reducible refine Kd.C_drew ?_))); (case side6 => exact HC532_10.out); (case side7 => repeat (first | exact (Kd.C_below HR532_11.out HB.out) | (with_reducible refine Kd.C_alloc ?_ _) | (with_reducible refine Kd.C_drewN ?_ _) | (with_reducible refine Kd.C_drew ?_))); (case side8 => exact HC532_11.out); rintro e w19 ⟨rfl, hb⟩; refine ⟨_, rfl, ?_⟩; have n0_ := Aside0.mk (blk_below (g := gb529) (o := .cells #[.int .i64 a2_0, .int .i64 a2_1, .int .i64 a2_2, .slice A2_3 l2_3.length c2_3, .slice A2_4 l2_4.length c2_4, .slice (some ad532) l2_5.length c2_5] 26 (0, 0)) (by (with_reducible repeat (first | refine blk_drewN ?_ _ | refine blk_drew ?_ | refine blk_alloc ?_ _)); exact BK529.out) hb); have n1_ := Aside0.mk (below_step (by with_reducible repeat (first | exact HB.out | apply below_alloc | apply pw_below_drewN | apply below_drew1 | refine below_set ?_ GE529.out)) hb); clear BK529; clear HB; have BK529 := n0_; have HB := n1_; clear n0_ n1_; (try clear hb); (try clear hb2); (try clear hk); (try clear hi)))
         go_roundg k2
         case measure => have := HJ3.out; have := HK2.out; omega
         case rel => exact ⟨(wrap64 (x7_2 + 1)), (by first | rfl | (simp; done) | (simp [*]; done)), H', ⟨by have := HJ3.out; have := HK2.out; omega⟩, ⟨by (with_reducible repeat (first | refine blk_drewN ?_ _ | refine blk_drew ?_ | refine blk_alloc ?_ _)); exact BK529.out⟩, ⟨by with_reducible repeat (first | exact HB.out | apply below_alloc | apply pw_below_drewN | apply below_drew1 | refine below_set ?_ GE529.out)⟩⟩
        ·replace c17 := Bool.eq_false_iff.mpr c17
         subst c17
         rw [if_neg (show ¬ (false = true) by decide)] at H
         obtain rfl := Option.some.inj H
         have hcz20 := fun i_ => blk_cell BK529.out i_
         have hfz20 := fun i_ => blk_frozen BK529.out i_
         have p532 : 0 ≤ (x7_2 : Int) := of_decide_eq_true (by first | (with_reducible assumption) | assumption)
         have q532 : x7_2 < (l2_5.length : Int) := of_decide_eq_true (by first | (with_reducible assumption) | assumption)
         obtain ⟨ad532, A532_2, c532_2, A532_10, c532_10, A532_11, c532_11, e532, hx532_0, hx532_1, hx532_2, hx532_3, hx532_4, hx532_5, hx532_6, hx532_7, hx532_8, hx532_9, hx532_10, hx532_11, hl532_2, hi532_2, hl532_10, hi532_10, hl532_11, hi532_11⟩ := at_T52 HR2_5.out x7_2 p532 q532
         cases e532
         replace hx532_0 := (HB.out.cell (World.block_lt_of_cell? w _ hx532_0)).trans hx532_0
         replace hx532_1 := (HB.out.cell (World.block_lt_of_cell? w _ hx532_1)).trans hx532_1
         replace hx532_2 := (HB.out.cell (World.block_lt_of_cell? w _ hx532_2)).trans hx532_2
         replace hx532_3 := (HB.out.cell (World.block_lt_of_cell? w _ hx532_3)).trans hx532_3
         replace hx532_4 := (HB.out.cell (World.block_lt_of_cell? w _ hx532_4)).trans hx532_4
         replace hx532_5 := (HB.out.cell (World.block_lt_of_cell? w _ hx532_5)).trans hx532_5
         replace hx532_6 := (HB.out.cell (World.block_lt_of_cell? w _ hx532_6)).trans hx532_6
         replace hx532_7 := (HB.out.cell (World.block_lt_of_cell? w _ hx532_7)).trans hx532_7
         replace hx532_8 := (HB.out.cell (World.block_lt_of_cell? w _ hx532_8)).trans hx532_8
         replace hx532_9 := (HB.out.cell (World.block_lt_of_cell? w _ hx532_9)).trans hx532_9
         replace hx532_10 := (HB.out.cell (World.block_lt_of_cell? w _ hx532_10)).trans hx532_10
         replace hx532_11 := (HB.out.cell (World.block_lt_of_cell? w _ hx532_11)).trans hx532_11
         have HR532_2 := Aside0.mk hi532_2
         have HC532_2 := Aside0.mk hl532_2
         clear hi532_2 hl532_2
         have HR532_10 := Aside0.mk hi532_10
         have HC532_10 := Aside0.mk hl532_10
         clear hi532_10 hl532_10
         have HR532_11 := Aside0.mk hi532_11
         have HC532_11 := Aside0.mk hl532_11
         clear hi532_11 hl532_11
         replace p532 := eq_true p532
         replace q532 := eq_true q532
         go_wp2_with (first | ((with_reducible refine gate_callee (f := 25) rfl ?_); refine goesL_ (some 44) rfl rfl Tryz.func25 (by kernel_rfl) rfl #[.int .i64 a0, .slice A1 l1.length c1, .agg #[.int .i64 ((rd_T52 l2_5 x7_2).f0.f0), .int .i64 ((rd_T52 l2_5 x7_2).f0.f1), .slice A532_2 ((rd_T52 l2_5 x7_2).f1).length c532_2, .int .i64 ((rd_T52 l2_5 x7_2).f2.f0), .int .i64 ((rd_T52 l2_5 x7_2).f2.f1), .int .i64 ((rd_T52 l2_5 x7_2).f2.f2), .int .i64 ((rd_T52 l2_5 x7_2).f3), .int .i64 ((rd_T52 l2_5 x7_2).f4), .string ((rd_T52 l2_5 x7_2).f5), .int .i64 ((rd_T52 l2_5 x7_2).f6), .slice A532_10 ((rd_T52 l2_5 x7_2).f7).length c532_10, .slice A532_11 ((rd_T52 l2_5 x7_2).f8).length c532_11]] rfl (by (try simp only [List.map_toArray, List.map_cons, List.map_nil]); first | done | rfl | (simp only [List.length_drop, List.length_take]; rfl)) ?_; (with_reducible refine (raddleref01_Op.calls a0 _ _ l1 ((rd_T52 l2_5 x7_2).f0.f0) ((rd_T52 l2_5 x7_2).f0.f1) _ _ ((rd_T52 l2_5 x7_2).f1) ((rd_T52 l2_5 x7_2).f2.f0) ((rd_T52 l2_5 x7_2).f2.f1) ((rd_T52 l2_5 x7_2).f2.f2) ((rd_T52 l2_5 x7_2).f3) ((rd_T52 l2_5 x7_2).f4) ((rd_T52 l2_5 x7_2).f5) ((rd_T52 l2_5 x7_2).f6) _ _ ((rd_T52 l2_5 x7_2).f7) _ _ ((rd_T52 l2_5 x7_2).f8) false _ ?side1 ?side2 ?side3 ?side4 ?side5 ?side6 ?side7 ?side8 A16.out).mono ?_); (case side1 => repeat (first | exact (Kd.C_below HR1.out HB.out) | (with_reducible refine Kd.C_alloc ?_ _) | (with_reducible refine Kd.C_drewN ?_ _) | (with_reducible refine Kd.C_drew ?_))); (case side2 => exact HC1.out); (case side3 => repeat (first | exact (Kd.C_below HR532_2.out HB.out) | (with_reducible refine Kd.C_alloc ?_ _) | (with_reducible refine Kd.C_drewN ?_ _) | (with_reducible refine Kd.C_drew ?_))); (case side4 => exact HC532_2.out); (case side5 => repeat (first | exact (Kd.C_below HR532_10.out HB.out) | (with_reducible refine Kd.C_alloc ?_ _) | (with_reducible refine Kd.C_drewN ?_ _) | (with_reducible refine Kd.C_drew ?_))); (case side6 => exact HC532_10.out); (case side7 => repeat (first | exact (Kd.C_below HR532_11.out HB.out) | (with_reducible refine Kd.C_alloc ?_ _) | (with_reducible refine Kd.C_drewN ?_ _) | (with_reducible refine Kd.C_drew ?_))); (case side8 => exact HC532_11.out); rintro e w21 ⟨rfl, hb⟩; refine ⟨_, rfl, ?_⟩; have n0_ := Aside0.mk (blk_below (g := gb529) (o := .cells #[.int .i64 a2_0, .int .i64 a2_1, .int .i64 a2_2, .slice A2_3 l2_3.length c2_3, .slice A2_4 l2_4.length c2_4, .slice (some ad532) l2_5.length c2_5] 26 (0, 0)) (by (with_reducible repeat (first | refine blk_drewN ?_ _ | refine blk_drew ?_ | refine blk_alloc ?_ _)); exact BK529.out) hb); have n1_ := Aside0.mk (below_step (by with_reducible repeat (first | exact HB.out | apply below_alloc | apply pw_below_drewN | apply below_drew1 | refine below_set ?_ GE529.out)) hb); clear BK529; clear HB; have BK529 := n0_; have HB := n1_; clear n0_ n1_; (try clear hb); (try clear hb2); (try clear hk); (try clear hi)))
         go_ret
         exact ⟨by first | rfl | (simp [errW_none, errW_some] <;> rfl) | (simp [*, errW_none, errW_some] <;> rfl), by with_reducible repeat (first | exact HB.out | apply below_alloc | apply pw_below_drewN | apply below_drew1 | refine below_set ?_ GE529.out)⟩
       ·rw [if_neg c15] at H
        exact absurd H (by simp)
      ·rw [if_neg c14] at H
       have c14b0 : decide (x7_2 < (l2_5.length : Int)) = false := decide_eq_false c14
       clear c14
       have HC22 := Aside0.mk H
       clear H
       have hcz23 := fun i_ => blk_cell BK529.out i_
       have hfz23 := fun i_ => blk_frozen BK529.out i_
       go_upto_region 8 with (fail)
       go_cut [8] (fun v8 wc => ∃ (kq : Nat) (x8_21 : Bool), v8 = .bool x8_21 ∧ Aside0 (raddleref01_Msg.j2 kq x8_21 a2_0 a2_1 a2_2 l2_3 l2_4 l2_5 = some r) ∧ Aside0 (kq ≤ k2) ∧ Aside0 (wc.heap[gb529]? = some (.cells #[.int .i64 a2_0, .int .i64 a2_1, .int .i64 a2_2, (.slice A2_3 l2_3.length c2_3), (.slice A2_4 l2_4.length c2_4), (.slice A2_5 l2_5.length c2_5)] 26 (0, 0))) ∧ Aside0 (Below w.heap.size w wc))
       case first =>
        have H := HC22.out
        clear HC22
        by_cases c24 : (l2_3.length : Int) = a0
        ·rw [if_pos c24] at H
         have c24b0 : ((l2_3.length : Int) == a0) = true := beq_iff_eq.mpr c24
         have c24b1 : ((l2_3.length : Int) != a0) = false := bne_eq_false_iff_eq.mpr c24
         clear c24
         (first | rw [c24b0] | (simp only [i64_w, i32_w]; rw [c24b0]) | skip)
         replace H := Option.bind_eq_some_iff.mp H
         obtain ⟨t534, A250, H⟩ := H
         try dsimp only at H
         have A25 := Aside0.mk A250
         clear A250
         by_cases c26 : t534 = 0
         ·rw [if_pos c26] at H
          have c26b0 : (t534 == 0) = true := beq_iff_eq.mpr c26
          have c26b1 : (t534 != 0) = false := bne_eq_false_iff_eq.mpr c26
          clear c26
          replace H := Option.bind_eq_some_iff.mp H
          obtain ⟨t535, A270, H⟩ := H
          try dsimp only at H
          have A27 := Aside0.mk A270
          clear A270
          by_cases c28 : t535 = 0
          ·rw [if_pos c28] at H
           have c28b0 : (t535 == 0) = true := beq_iff_eq.mpr c28
           have c28b1 : (t535 != 0) = false := bne_eq_false_iff_eq.mpr c28
           clear c28
           replace H := Option.bind_eq_some_iff.mp H
           obtain ⟨t536, A290, H⟩ := H
           try dsimp only at H
           have A29 := Aside0.mk A290
           clear A290
           have H' := Aside0.mk H
           clear H
           have hcz30 := fun i_ => blk_cell BK529.out i_
           have hfz30 := fun i_ => blk_frozen BK529.out i_
           go_wp2_with (first | (go_at_call 26; (with_reducible refine (raddleref01_Vector.calls k2 _ _ l2_3 t534 _ ?side1 ?side2 A25.out).mono ?_); (case side1 => repeat (first | exact (Kd.C_below HR2_3.out HB.out) | (with_reducible refine Kd.C_alloc ?_ _) | (with_reducible refine Kd.C_drewN ?_ _) | (with_reducible refine Kd.C_drew ?_))); (case side2 => exact HC2_3.out); rintro e w' ⟨rfl, ⟨nd, rfl⟩⟩) | (go_at_call 26; (with_reducible refine (raddleref01_Vector.calls k2 _ _ l2_4 t535 _ ?side1 ?side2 A27.out).mono ?_); (case side1 => repeat (first | exact (Kd.C_below HR2_4.out (by with_reducible repeat (first | exact HB.out | apply below_alloc | apply pw_below_drewN | apply below_drew1 | refine below_set ?_ GE529.out))) | (with_reducible refine Kd.C_alloc ?_ _) | (with_reducible refine Kd.C_drewN ?_ _) | (with_reducible refine Kd.C_drew ?_))); (case side2 => exact HC2_4.out); rintro e w' ⟨rfl, ⟨nd, rfl⟩⟩) | (go_at_call 27; (with_reducible refine (raddleref01_Le.calls k2 _ _ l2_4 _ _ l2_3 t536 _ ?side1 ?side2 ?side3 ?side4 A29.out).mono ?_); (case side1 => repeat (first | exact (Kd.C_below HR2_4.out (by with_reducible repeat (first | exact HB.out | apply below_alloc | apply pw_below_drewN | apply below_drew1 | refine below_set ?_ GE529.out))) | (with_reducible refine Kd.C_alloc ?_ _) | (with_reducible refine Kd.C_drewN ?_ _) | (with_reducible refine Kd.C_drew ?_))); (case side2 => exact HC2_4.out); (case side3 => repeat (first | exact (Kd.C_below HR2_3.out (by with_reducible repeat (first | exact HB.out | apply below_alloc | apply pw_below_drewN | apply below_drew1 | refine below_set ?_ GE529.out))) | (with_reducible refine Kd.C_alloc ?_ _) | (with_reducible refine Kd.C_drewN ?_ _) | (with_reducible refine Kd.C_drew ?_))); (case side4 => exact HC2_3.out); rintro e w' ⟨rfl, ⟨nd, rfl⟩⟩))
           go_meet
           case rel => exact ⟨_, (t536), (by first | rfl | (simp; done) | (simp [*]; done)), H', ⟨by have := HJ3.out; have := HK2.out; first | omega | exact Nat.le_refl _⟩, ⟨by (with_reducible repeat (first | refine blk_drewN ?_ _ | refine blk_drew ?_ | refine blk_alloc ?_ _)); exact BK529.out⟩, ⟨by with_reducible repeat (first | exact HB.out | apply below_alloc | apply pw_below_drewN | apply below_drew1 | refine below_set ?_ GE529.out)⟩⟩
          ·rw [if_neg c28] at H
           have c28b0 : (t535 == 0) = false := beq_eq_false_iff_ne.mpr c28
           have c28b1 : (t535 != 0) = true := bne_iff_ne.mpr c28
           have H' := Aside0.mk H
           clear H
           have hcz31 := fun i_ => blk_cell BK529.out i_
           have hfz31 := fun i_ => blk_frozen BK529.out i_
           go_wp2_with (first | (go_at_call 26; (with_reducible refine (raddleref01_Vector.calls k2 _ _ l2_3 t534 _ ?side1 ?side2 A25.out).mono ?_); (case side1 => repeat (first | exact (Kd.C_below HR2_3.out HB.out) | (with_reducible refine Kd.C_alloc ?_ _) | (with_reducible refine Kd.C_drewN ?_ _) | (with_reducible refine Kd.C_drew ?_))); (case side2 => exact HC2_3.out); rintro e w' ⟨rfl, ⟨nd, rfl⟩⟩) | (go_at_call 26; (with_reducible refine (raddleref01_Vector.calls k2 _ _ l2_4 t535 _ ?side1 ?side2 A27.out).mono ?_); (case side1 => repeat (first | exact (Kd.C_below HR2_4.out (by with_reducible repeat (first | exact HB.out | apply below_alloc | apply pw_below_drewN | apply below_drew1 | refine below_set ?_ GE529.out))) | (with_reducible refine Kd.C_alloc ?_ _) | (with_reducible refine Kd.C_drewN ?_ _) | (with_reducible refine Kd.C_drew ?_))); (case side2 => exact HC2_4.out); rintro e w' ⟨rfl, ⟨nd, rfl⟩⟩))
           go_meet
           case rel => exact ⟨_, (false), (by first | rfl | (simp; done) | (simp [*]; done)), H', ⟨by have := HJ3.out; have := HK2.out; first | omega | exact Nat.le_refl _⟩, ⟨by (with_reducible repeat (first | refine blk_drewN ?_ _ | refine blk_drew ?_ | refine blk_alloc ?_ _)); exact BK529.out⟩, ⟨by with_reducible repeat (first | exact HB.out | apply below_alloc | apply pw_below_drewN | apply below_drew1 | refine below_set ?_ GE529.out)⟩⟩
         ·rw [if_neg c26] at H
          have c26b0 : (t534 == 0) = false := beq_eq_false_iff_ne.mpr c26
          have c26b1 : (t534 != 0) = true := bne_iff_ne.mpr c26
          have H' := Aside0.mk H
          clear H
          have hcz32 := fun i_ => blk_cell BK529.out i_
          have hfz32 := fun i_ => blk_frozen BK529.out i_
          go_wp2_with (first | (go_at_call 26; (with_reducible refine (raddleref01_Vector.calls k2 _ _ l2_3 t534 _ ?side1 ?side2 A25.out).mono ?_); (case side1 => repeat (first | exact (Kd.C_below HR2_3.out HB.out) | (with_reducible refine Kd.C_alloc ?_ _) | (with_reducible refine Kd.C_drewN ?_ _) | (with_reducible refine Kd.C_drew ?_))); (case side2 => exact HC2_3.out); rintro e w' ⟨rfl, ⟨nd, rfl⟩⟩))
          go_meet
          case rel => exact ⟨_, (false), (by first | rfl | (simp; done) | (simp [*]; done)), H', ⟨by have := HJ3.out; have := HK2.out; first | omega | exact Nat.le_refl _⟩, ⟨by (with_reducible repeat (first | refine blk_drewN ?_ _ | refine blk_drew ?_ | refine blk_alloc ?_ _)); exact BK529.out⟩, ⟨by with_reducible repeat (first | exact HB.out | apply below_alloc | apply pw_below_drewN | apply below_drew1 | refine below_set ?_ GE529.out)⟩⟩
        ·rw [if_neg c24] at H
         have c24b0 : ((l2_3.length : Int) == a0) = false := beq_eq_false_iff_ne.mpr c24
         have c24b1 : ((l2_3.length : Int) != a0) = true := bne_iff_ne.mpr c24
         (first | rw [c24b0] | (simp only [i64_w, i32_w]; rw [c24b0]) | skip)
         have H' := Aside0.mk H
         clear H
         have hcz33 := fun i_ => blk_cell BK529.out i_
         have hfz33 := fun i_ => blk_frozen BK529.out i_
         go_wp2
         go_meet
         case rel => exact ⟨_, (false), (by first | rfl | (simp; done) | (simp [*]; done)), H', ⟨by have := HJ3.out; have := HK2.out; first | omega | exact Nat.le_refl _⟩, ⟨by (with_reducible repeat (first | refine blk_drewN ?_ _ | refine blk_drew ?_ | refine blk_alloc ?_ _)); exact BK529.out⟩, ⟨by with_reducible repeat (first | exact HB.out | apply below_alloc | apply pw_below_drewN | apply below_drew1 | refine below_set ?_ GE529.out)⟩⟩
       case rest =>
        clear HC22
        try clear c1
        try clear c2
        try clear p2
        try clear c5
        try clear p5
        try clear q5
        try clear hx5
        try clear p6
        try clear c7
        try clear c9
        try clear c10
        try clear c13
        try clear c14
        try clear c14b0
        try clear c15
        try clear c15b0
        try clear c17
        try clear c23
        try clear c24
        try clear c24b0
        try clear c24b1
        try clear c25
        try clear c26
        try clear c26b0
        try clear c26b1
        try clear c28
        try clear c28b0
        try clear c28b1
        try clear hcz10_0
        try clear hcz10_1
        try clear hcz10_2
        try clear hcz10_3
        try clear hcz10_4
        try clear hcz10_5
        try clear hcz11_0
        try clear hcz11_1
        try clear hcz11_2
        try clear hcz11_3
        try clear hcz11_4
        try clear hcz11_5
        try clear hcz12_0
        try clear hcz12_1
        try clear hcz12_2
        try clear hcz12_3
        try clear hcz12_4
        try clear hcz12_5
        try clear hcz18_0
        try clear hcz18_1
        try clear hcz18_2
        try clear hcz18_3
        try clear hcz18_4
        try clear hcz18_5
        try clear hcz20_0
        try clear hcz20_1
        try clear hcz20_2
        try clear hcz20_3
        try clear hcz20_4
        try clear hcz20_5
        try clear hcz23_0
        try clear hcz23_1
        try clear hcz23_2
        try clear hcz23_3
        try clear hcz23_4
        try clear hcz23_5
        try clear hcz30_0
        try clear hcz30_1
        try clear hcz30_2
        try clear hcz30_3
        try clear hcz30_4
        try clear hcz30_5
        try clear hcz31_0
        try clear hcz31_1
        try clear hcz31_2
        try clear hcz31_3
        try clear hcz31_4
        try clear hcz31_5
        try clear hcz32_0
        try clear hcz32_1
        try clear hcz32_2
        try clear hcz32_3
        try clear hcz32_4
        try clear hcz32_5
        try clear hcz33_0
        try clear hcz33_1
        try clear hcz33_2
        try clear hcz33_3
        try clear hcz33_4
        try clear hcz33_5
        try clear hfz10_0
        try clear hfz10_1
        try clear hfz10_2
        try clear hfz10_3
        try clear hfz10_4
        try clear hfz10_5
        try clear hfz11_0
        try clear hfz11_1
        try clear hfz11_2
        try clear hfz11_3
        try clear hfz11_4
        try clear hfz11_5
        try clear hfz12_0
        try clear hfz12_1
        try clear hfz12_2
        try clear hfz12_3
        try clear hfz12_4
        try clear hfz12_5
        try clear hfz18_0
        try clear hfz18_1
        try clear hfz18_2
        try clear hfz18_3
        try clear hfz18_4
        try clear hfz18_5
        try clear hfz20_0
        try clear hfz20_1
        try clear hfz20_2
        try clear hfz20_3
        try clear hfz20_4
        try clear hfz20_5
        try clear hfz23_0
        try clear hfz23_1
        try clear hfz23_2
        try clear hfz23_3
        try clear hfz23_4
        try clear hfz23_5
        try clear hfz30_0
        try clear hfz30_1
        try clear hfz30_2
        try clear hfz30_3
        try clear hfz30_4
        try clear hfz30_5
        try clear hfz31_0
        try clear hfz31_1
        try clear hfz31_2
        try clear hfz31_3
        try clear hfz31_4
        try clear hfz31_5
        try clear hfz32_0
        try clear hfz32_1
        try clear hfz32_2
        try clear hfz32_3
        try clear hfz32_4
        try clear hfz32_5
        try clear hfz33_0
        try clear hfz33_1
        try clear hfz33_2
        try clear hfz33_3
        try clear hfz33_4
        try clear hfz33_5
        try clear hx532_0
        try clear hx532_1
        try clear hx532_10
        try clear hx532_11
        try clear hx532_2
        try clear hx532_3
        try clear hx532_4
        try clear hx532_5
        try clear hx532_6
        try clear hx532_7
        try clear hx532_8
        try clear hx532_9
        try clear p2
        try clear p532
        try clear p6
        try clear q532
        obtain ⟨kq, x8_21, rfl, HA, HJ21, BK529, HB⟩ := hcut
        cases kq with
        | zero => exact absurd HA.out (by simp [raddleref01_Msg.j2])
        | succ kj21 =>
         have H := HA.out
         clear HA
         simp only [raddleref01_Msg.j2] at H
         by_cases c34 : a2_0 = 1
         ·rw [if_pos c34] at H
          have c34b0 : (a2_0 == 1) = true := beq_iff_eq.mpr c34
          have c34b1 : (a2_0 != 1) = false := bne_eq_false_iff_eq.mpr c34
          clear c34
          by_cases c35 : (l2_5.length : Int) = 1
          ·rw [if_pos c35] at H
           have c35b0 : ((l2_5.length : Int) == 1) = true := beq_iff_eq.mpr c35
           have c35b1 : ((l2_5.length : Int) != 1) = false := bne_eq_false_iff_eq.mpr c35
           clear c35
           obtain rfl := Option.some.inj H
           have hcz36 := fun i_ => blk_cell BK529.out i_
           have hfz36 := fun i_ => blk_frozen BK529.out i_
           go_wp2
           go_ret
           exact ⟨by first | rfl | (simp [errW_none, errW_some] <;> rfl) | (simp [*, errW_none, errW_some] <;> rfl), by with_reducible repeat (first | exact HB.out | apply below_alloc | apply pw_below_drewN | apply below_drew1 | refine below_set ?_ GE529.out)⟩
          ·rw [if_neg c35] at H
           have c35b0 : ((l2_5.length : Int) == 1) = false := beq_eq_false_iff_ne.mpr c35
           have c35b1 : ((l2_5.length : Int) != 1) = true := bne_iff_ne.mpr c35
           obtain rfl := Option.some.inj H
           have hcz37 := fun i_ => blk_cell BK529.out i_
           have hfz37 := fun i_ => blk_frozen BK529.out i_
           go_wp2
           go_ret
           exact ⟨by first | rfl | (simp [errW_none, errW_some] <;> rfl) | (simp [*, errW_none, errW_some] <;> rfl), by with_reducible repeat (first | exact HB.out | apply below_alloc | apply pw_below_drewN | apply below_drew1 | refine below_set ?_ GE529.out)⟩
         ·rw [if_neg c34] at H
          have c34b0 : (a2_0 == 1) = false := beq_eq_false_iff_ne.mpr c34
          have c34b1 : (a2_0 != 1) = true := bne_iff_ne.mpr c34
          by_cases c38 : a2_0 = 2
          ·rw [if_pos c38] at H
           have c38b0 : (a2_0 == 2) = true := beq_iff_eq.mpr c38
           have c38b1 : (a2_0 != 2) = false := bne_eq_false_iff_eq.mpr c38
           clear c38
           by_cases c39 : x8_21 = true
           ·subst c39
            rw [if_pos rfl] at H
            obtain rfl := Option.some.inj H
            have hcz40 := fun i_ => blk_cell BK529.out i_
            have hfz40 := fun i_ => blk_frozen BK529.out i_
            go_wp2
            go_ret
            exact ⟨by first | rfl | (simp [errW_none, errW_some] <;> rfl) | (simp [*, errW_none, errW_some] <;> rfl), by with_reducible repeat (first | exact HB.out | apply below_alloc | apply pw_below_drewN | apply below_drew1 | refine below_set ?_ GE529.out)⟩
           ·replace c39 := Bool.eq_false_iff.mpr c39
            subst c39
            rw [if_neg (show ¬ (false = true) by decide)] at H
            obtain rfl := Option.some.inj H
            have hcz41 := fun i_ => blk_cell BK529.out i_
            have hfz41 := fun i_ => blk_frozen BK529.out i_
            go_wp2
            go_ret
            exact ⟨by first | rfl | (simp [errW_none, errW_some] <;> rfl) | (simp [*, errW_none, errW_some] <;> rfl), by with_reducible repeat (first | exact HB.out | apply below_alloc | apply pw_below_drewN | apply below_drew1 | refine below_set ?_ GE529.out)⟩
          ·rw [if_neg c38] at H
           have c38b0 : (a2_0 == 2) = false := beq_eq_false_iff_ne.mpr c38
           have c38b1 : (a2_0 != 2) = true := bne_iff_ne.mpr c38
           by_cases c42 : a2_0 = 3
           ·rw [if_pos c42] at H
            have c42b0 : (a2_0 == 3) = true := beq_iff_eq.mpr c42
            have c42b1 : (a2_0 != 3) = false := bne_eq_false_iff_eq.mpr c42
            clear c42
            obtain rfl := Option.some.inj H
            have hcz43 := fun i_ => blk_cell BK529.out i_
            have hfz43 := fun i_ => blk_frozen BK529.out i_
            go_wp2
            go_ret
            exact ⟨by first | rfl | (simp [errW_none, errW_some] <;> rfl) | (simp [*, errW_none, errW_some] <;> rfl), by with_reducible repeat (first | exact HB.out | apply below_alloc | apply pw_below_drewN | apply below_drew1 | refine below_set ?_ GE529.out)⟩
           ·rw [if_neg c42] at H
            have c42b0 : (a2_0 == 3) = false := beq_eq_false_iff_ne.mpr c42
            have c42b1 : (a2_0 != 3) = true := bne_iff_ne.mpr c42
            obtain rfl := Option.some.inj H
            have hcz44 := fun i_ => blk_cell BK529.out i_
            have hfz44 := fun i_ => blk_frozen BK529.out i_
            go_wp2
            go_ret
            exact ⟨by first | rfl | (simp [errW_none, errW_some] <;> rfl) | (simp [*, errW_none, errW_some] <;> rfl), by with_reducible repeat (first | exact HB.out | apply below_alloc | apply pw_below_drewN | apply below_drew1 | refine below_set ?_ GE529.out)⟩
end Go.Proofs.YtnbjflcfdncocaaGreat.M
namespace Go.Proofs.YtnbjflcfdncocaaGreat.M
open Go.RowKit Go.Proofs.YtnbjflcfdncocaaGreatW.PrintWords Go.Proofs.YtnbjflcfdncocaaGreatW.PrintLast Go.Proofs.YtnbjflcfdncocaaGreatW.PrintMore
def longT (t : Tbl) : Prop := ¬ (1 ≤ t.f0.length ∧ t.f0.length ≤ 4)
instance (t : Tbl) : Decidable (longT t) := by unfold longT; infer_instance
def wrongT (c : Int) : Prop := ¬ (2 ≤ c ∧ c ≤ 4)
instance (c : Int) : Decidable (wrongT c) := by unfold wrongT; infer_instance
def wrongL (l : List Int) : Prop := ∃ c ∈ l, wrongT c
instance (l : List Int) : Decidable (wrongL l) := by unfold wrongL; infer_instance
def wrongF (t : Tbl) : Prop := wrongL t.f0
instance (t : Tbl) : Decidable (wrongF t) := by unfold wrongF; infer_instance
def anyF (l : List Tbl) : Prop := ∃ t ∈ l, wrongF t
instance (l : List Tbl) : Decidable (anyF l) := by unfold anyF; infer_instance
theorem if_cong {p q : Prop} [Decidable p] [Decidable q] {α : Type} {a b : α} (h : p ↔ q) : (if p then a else b) = if q then a else b := by
  by_cases hp : p
  · rw [if_pos hp, if_pos (h.1 hp)]
  · rw [if_neg hp, if_neg (fun x => hp (h.2 x))]
def formsE (f : List Tbl) : Int := if ¬ (1 ≤ f.length ∧ f.length ≤ 3) then 2 else if ∃ t ∈ f, longT t then 2 else if anyF f then 10 else 0
def twoP (n : Int) (h s : List Int) : Prop := (h.length : Int) = n ∧ vecOk h ∧ vecOk s ∧ s.length = h.length ∧ ∀ i : Nat, i < s.length → rd s (i : Int) ≤ rd h (i : Int)
instance (n : Int) (h s : List Int) : Decidable (twoP n h s) := by unfold twoP; infer_instance
def msgP (n : Int) (f : List Tbl) (a b c : Int) (h s : List Int) (l : List Opr) : Prop :=
  (0 ≤ b ∧ b < n) ∧ (0 ≤ c ∧ c < n) ∧ b ≠ c ∧ (∀ x ∈ l, opP n f x) ∧ ((a = 1 ∧ l.length = 1 ∧ h.length + s.length = 0) ∨ (a = 2 ∧ l.length = 0 ∧ twoP n h s) ∨ (a = 3 ∧ twoP n h s))
instance (n : Int) (f : List Tbl) (a b c : Int) (h s : List Int) (l : List Opr) : Decidable (msgP n f a b c h s l) := by unfold msgP; infer_instance
theorem rdT_eq (f : List Tbl) (i : Nat) (h : i < f.length) : rd_T56 f (i : Int) = f[i] := by simp [rd_T56, h]
theorem forms1_p (t : Tbl) : contains_Forms_1.p t = decide (longT t) := by
  have h := contains_Forms_1.p_eq t
  have e : op_Forms_1.f t.f0 = some (decide (longT t)) := by
    unfold op_Forms_1.f
    by_cases h1 : (t.f0.length : Int) < 1
    · rw [if_pos h1, decide_eq_true (show longT t from fun x => by omega)]
    · rw [if_neg h1]; congr 1; rw [Bool.eq_iff_iff, decide_eq_true_eq, decide_eq_true_eq]; exact ⟨fun x y => by omega, fun x => Classical.byContradiction fun y => x ⟨by omega, by omega⟩⟩
  rw [e] at h; exact (Option.some.inj h).symm
theorem forms2_p (c : Int) : contains_Forms_2.p c = decide (wrongT c) := by
  have h := contains_Forms_2.p_eq c
  have e : op_Forms_2.f c = some (decide (wrongT c)) := by
    unfold op_Forms_2.f
    by_cases h1 : c < 2
    · rw [if_pos h1, decide_eq_true (show wrongT c from fun x => by omega)]
    · rw [if_neg h1]; congr 1; rw [Bool.eq_iff_iff, decide_eq_true_eq, decide_eq_true_eq]; exact ⟨fun x y => by omega, fun x => Classical.byContradiction fun y => x ⟨by omega, by omega⟩⟩
  rw [e] at h; exact (Option.some.inj h).symm
theorem any_ex {α : Type} (p : α → Bool) (q : α → Prop) [DecidablePred q] (h : ∀ x, p x = decide (q x)) (l : List α) : l.any p = decide (∃ x ∈ l, q x) := by
  rw [Bool.eq_iff_iff, List.any_eq_true, decide_eq_true_eq]
  simp only [h, decide_eq_true_eq]
theorem formsL (f : List Tbl) (hl : f.length ≤ 3) : ∀ (d k i : Nat), i + d = f.length → d < k → op_Forms.l0 k f (f.length : Int) (i : Int) = some (if anyF (f.drop i) then 10 else 0) := by
  intro d
  induction d with
  | zero =>
    intro k i hi hk
    obtain ⟨k, rfl⟩ : ∃ m, k = m + 1 := ⟨k - 1, by omega⟩
    simp only [op_Forms.l0]
    rw [if_neg (by omega), List.drop_of_length_le (by omega), if_neg (by simp [anyF])]
  | succ d ih =>
    intro k i hi hk
    obtain ⟨k, rfl⟩ : ∃ m, k = m + 1 := ⟨k - 1, by omega⟩
    have hlt : i < f.length := by omega
    simp only [op_Forms.l0]
    rw [if_pos (by omega), if_pos (by omega), if_pos (by omega), rdT_eq f i hlt, show wrap64 ((i : Int) + 1) = ((i + 1 : Nat) : Int) from by rw [wrap_in _ (by omega) (by omega)]; omega, ih k (i + 1) (by omega) (by omega), List.drop_eq_getElem_cons hlt]
    unfold contains_Forms_2.f
    rw [show f[i].f0.any contains_Forms_2.p = decide (wrongL f[i].f0) from any_ex _ wrongT forms2_p _, Option.bind_some]
    by_cases h : wrongL f[i].f0
    · rw [if_pos (decide_eq_true h), if_pos ⟨_, List.mem_cons_self .., h⟩]
    · rw [decide_eq_false h, if_neg (by decide)]
      congr 1
      refine if_cong ⟨fun ⟨t, h1, h2⟩ => ⟨t, List.mem_cons_of_mem _ h1, h2⟩, fun ⟨t, h1, h2⟩ => ?_⟩
      rcases List.mem_cons.1 h1 with rfl | h1
      · exact absurd h2 h
      · exact ⟨t, h1, h2⟩
theorem opForms_eq (f : List Tbl) (k : Nat) (hk : 5 < k) : op_Forms.f k f = some (formsE f) := by
  obtain ⟨k, rfl⟩ : ∃ m, k = m + 1 := ⟨k - 1, by omega⟩
  unfold op_Forms.f formsE
  by_cases h1 : (f.length : Int) < 1
  · rw [if_pos h1, if_pos (by omega)]; simp only [op_Forms.j0]; rw [if_pos trivial]
  rw [if_neg h1]
  by_cases h2 : (f.length : Int) > 3
  · rw [decide_eq_true h2, if_pos (by omega)]; simp only [op_Forms.j0]; rw [if_pos trivial]
  rw [decide_eq_false h2, if_neg (by omega)]
  simp only [op_Forms.j0]
  rw [if_neg (by decide)]
  unfold contains_Forms_1.f
  rw [any_ex _ longT forms1_p, Option.bind_some]
  by_cases h3 : ∃ t ∈ f, longT t
  · rw [if_pos (decide_eq_true h3), if_pos h3]
  · rw [decide_eq_false h3, if_neg (by decide), if_neg h3]
    have := formsL f (by omega) f.length k 0 (by omega) (by omega)
    rw [List.drop_zero] at this
    exact this
theorem refForms_l2 (f : List Tbl) (hl : f.length ≤ 3) (j : Nat) (hj : j < f.length) (hc : f[j].f0.length ≤ 4) (K : Nat) (hK : ∀ k, K < k → raddleref01_Forms.l1 k f ((j + 1 : Nat) : Int) = some (if anyF (f.drop (j + 1)) then 10 else 0)) :
    ∀ (d k i : Nat), i + d = f[j].f0.length → d + K + 1 < k → raddleref01_Forms.l2 k f (j : Int) (i : Int) = some (if wrongL (f[j].f0.drop i) ∨ anyF (f.drop (j + 1)) then 10 else 0) := by
  intro d
  induction d with
  | zero =>
    intro k i hi hk
    obtain ⟨k, rfl⟩ : ∃ m, k = m + 1 := ⟨k - 1, by omega⟩
    simp only [raddleref01_Forms.l2]
    rw [if_pos (by omega), if_pos (by omega), rdT_eq f j hj, if_neg (by omega), show wrap64 ((j : Int) + 1) = ((j + 1 : Nat) : Int) from by rw [wrap_in _ (by omega) (by omega)]; omega, hK k (by omega), List.drop_of_length_le (by omega : f[j].f0.length ≤ i)]
    simp [wrongL]
  | succ d ih =>
    intro k i hi hk
    obtain ⟨k, rfl⟩ : ∃ m, k = m + 1 := ⟨k - 1, by omega⟩
    have hlt : i < f[j].f0.length := by omega
    simp only [raddleref01_Forms.l2]
    rw [if_pos (by omega), if_pos (by omega), rdT_eq f j hj, if_pos (by omega), if_pos (by omega), show wrap64 ((i : Int) + 1) = ((i + 1 : Nat) : Int) from by rw [wrap_in _ (by omega) (by omega)]; omega, ih k (i + 1) (by omega) (by omega), drop_int _ _ hlt]
    unfold raddleref01_Type.f
    rw [refIn_eq, Option.bind_some, Option.bind_some]
    by_cases h : 2 ≤ rd f[j].f0 (i : Int) ∧ rd f[j].f0 (i : Int) ≤ 4
    · rw [if_pos (decide_eq_true h)]
      congr 1
      refine if_cong ⟨fun x => ?_, fun x => ?_⟩
      · rcases x with ⟨c, h1, h2⟩ | x
        · exact .inl ⟨c, List.mem_cons_of_mem _ h1, h2⟩
        · exact .inr x
      · rcases x with ⟨c, h1, h2⟩ | x
        · rcases List.mem_cons.1 h1 with rfl | h1
          · exact absurd h h2
          · exact .inl ⟨c, h1, h2⟩
        · exact .inr x
    · rw [decide_eq_false h, if_neg (by decide), if_pos (.inl ⟨_, List.mem_cons_self .., h⟩)]
theorem refForms_l1 (f : List Tbl) (hl : f.length ≤ 3) (hc : ∀ t ∈ f, t.f0.length ≤ 4) : ∀ (d k i : Nat), i + d = f.length → 7 * d < k → raddleref01_Forms.l1 k f (i : Int) = some (if anyF (f.drop i) then 10 else 0) := by
  intro d
  induction d with
  | zero =>
    intro k i hi hk
    obtain ⟨k, rfl⟩ : ∃ m, k = m + 1 := ⟨k - 1, by omega⟩
    simp only [raddleref01_Forms.l1]
    rw [if_neg (by omega), List.drop_of_length_le (by omega), if_neg (by simp [anyF])]
  | succ d ih =>
    intro k i hi hk
    obtain ⟨k, rfl⟩ : ∃ m, k = m + 1 := ⟨k - 1, by omega⟩
    have hlt : i < f.length := by omega
    have h4 := hc _ (List.getElem_mem hlt)
    have h := refForms_l2 f hl i hlt h4 (7 * d) (fun k' hk' => ih k' (i + 1) (by omega) hk') f[i].f0.length k 0 (by omega) (by omega)
    simp only [raddleref01_Forms.l1]
    rw [if_pos (by omega)]
    refine h.trans ?_
    rw [List.drop_zero, List.drop_eq_getElem_cons hlt]
    congr 1
    refine if_cong ⟨fun x => ?_, fun ⟨t, h1, h2⟩ => ?_⟩
    · rcases x with x | ⟨t, h1, h2⟩
      · exact ⟨_, List.mem_cons_self .., x⟩
      · exact ⟨t, List.mem_cons_of_mem _ h1, h2⟩
    · rcases List.mem_cons.1 h1 with rfl | h1
      · exact .inl h2
      · exact .inr ⟨t, h1, h2⟩
theorem refForms_l0 (f : List Tbl) (hl : f.length ≤ 3) : ∀ (d k i : Nat), i + d = f.length → (∀ t ∈ f.take i, ¬ longT t) → d + 30 < k → raddleref01_Forms.l0 k f (i : Int) = some (if ∃ t ∈ f.drop i, longT t then 2 else if anyF f then 10 else 0) := by
  intro d
  induction d with
  | zero =>
    intro k i hi ht hk
    obtain ⟨k, rfl⟩ : ∃ m, k = m + 1 := ⟨k - 1, by omega⟩
    have hi' : i = f.length := by omega
    subst hi'
    rw [List.take_length] at ht
    simp only [raddleref01_Forms.l0]
    rw [if_neg (by omega), List.drop_length, if_neg (by simp)]
    have := refForms_l1 f hl (fun t h => by have := ht t h; unfold longT at this; omega) f.length k 0 (by omega) (by omega)
    rw [List.drop_zero] at this
    exact this
  | succ d ih =>
    intro k i hi ht hk
    obtain ⟨k, rfl⟩ : ∃ m, k = m + 1 := ⟨k - 1, by omega⟩
    have hlt : i < f.length := by omega
    simp only [raddleref01_Forms.l0]
    rw [if_pos (by omega), if_pos (by omega), rdT_eq f i hlt, refIn_eq, Option.bind_some, show wrap64 ((i : Int) + 1) = ((i + 1 : Nat) : Int) from by rw [wrap_in _ (by omega) (by omega)]; omega, List.drop_eq_getElem_cons hlt]
    by_cases h : longT f[i]
    · rw [decide_eq_false (fun x => h ⟨by omega, by omega⟩), if_neg (by decide), if_pos ⟨_, List.mem_cons_self .., h⟩]
    · have h' : 1 ≤ f[i].f0.length ∧ f[i].f0.length ≤ 4 := Classical.byContradiction h
      rw [if_pos (decide_eq_true (by omega)), ih k (i + 1) (by omega) (fun t h1 => by
        rw [List.take_succ_eq_append_getElem hlt] at h1
        rcases List.mem_append.1 h1 with h1 | h1
        · exact ht t h1
        · rw [List.mem_singleton.1 h1]; exact h) (by omega)]
      congr 1
      refine if_cong ⟨fun ⟨t, h1, h2⟩ => ⟨t, List.mem_cons_of_mem _ h1, h2⟩, fun ⟨t, h1, h2⟩ => ?_⟩
      rcases List.mem_cons.1 h1 with rfl | h1
      · exact absurd h2 h
      · exact ⟨t, h1, h2⟩
theorem refForms_eq (f : List Tbl) (k : Nat) (hk : 40 < k) : raddleref01_Forms.f k f = some (formsE f) := by
  unfold raddleref01_Forms.f formsE
  rw [refIn_eq, Option.bind_some]
  by_cases h : 1 ≤ f.length ∧ f.length ≤ 3
  · rw [if_pos (decide_eq_true (by omega)), if_neg (by omega)]
    have := refForms_l0 f h.2 f.length k 0 (by omega) (by simp) (by omega)
    rw [List.drop_zero] at this
    exact this
  · rw [decide_eq_false (by omega), if_neg (by decide), if_pos (by omega)]
def leP (s h : List Int) : Prop := s.length = h.length ∧ ∀ i : Nat, i < s.length → rd s (i : Int) ≤ rd h (i : Int)
instance (s h : List Int) : Decidable (leP s h) := by unfold leP; infer_instance
theorem allF_le : ∀ s h : List Int, allF equal_Le_1.p s h = true ↔ leP s h
  | [], [] => by simp [allF, leP]
  | [], _ :: _ => by simp [allF, leP]
  | _ :: _, [] => by simp [allF, leP]
  | x :: s, y :: h => by
    have ih := allF_le s h
    have hp : equal_Le_1.p x y = decide (x ≤ y) := rfl
    simp only [allF, Bool.and_eq_true, hp, decide_eq_true_eq, ih, leP, List.length_cons, Nat.add_right_cancel_iff]
    constructor
    · rintro ⟨h1, h2, h3⟩
      refine ⟨h2, fun i hi => ?_⟩
      cases i with
      | zero => simpa [rd] using h1
      | succ i => have := h3 i (by omega); rw [rd_nat, rd_nat] at this ⊢; simpa using this
    · rintro ⟨h2, h3⟩
      refine ⟨by have := h3 0 (by omega); simpa [rd] using this, h2, fun i hi => ?_⟩
      have := h3 (i + 1) (by omega); rw [rd_nat, rd_nat] at this ⊢; simpa using this
theorem tells_eq (k : Nat) (hk : 1 < k) (n a b c : Int) (h s : List Int) (l : List Opr) : msg_tells.f k n a b c h s l = some (decide (twoP n h s)) := by
  unfold msg_tells.f
  by_cases h1 : (h.length : Int) = n
  case neg => rw [if_neg h1, decide_eq_false (fun x => h1 x.1)]
  obtain ⟨e, he, e1⟩ := dotCheck_eq h k hk
  obtain ⟨d, hd, d1⟩ := dotCheck_eq s k hk
  rw [if_pos h1, he, Option.bind_some]
  by_cases h2 : e = 0
  case neg => rw [if_neg h2, decide_eq_false (fun x => h2 (e1.2 x.2.1))]
  rw [if_pos h2, hd, Option.bind_some]
  by_cases h3 : d = 0
  case neg => rw [if_neg h3, decide_eq_false (fun x => h3 (d1.2 x.2.2.1))]
  rw [if_pos h3]
  unfold dot_Le.f equal_Le_1.f
  rw [Option.bind_some, Option.bind_some]
  congr 1
  rw [Bool.eq_iff_iff, decide_eq_true_eq, allF_le]
  exact ⟨fun x => ⟨h1, e1.1 h2, d1.1 h3, x⟩, fun x => x.2.2.2⟩
theorem opCheck_eq (k : Nat) (hk : 5 < k) (n : Int) (hn : 1 ≤ n ∧ n ≤ 5) (f : List Tbl) (hf : formsE f = 0) (x : Opr) :
    op_Check.f k n f x.f0.f0 x.f0.f1 x.f1 x.f2.f0 x.f2.f1 x.f2.f2 x.f3 x.f4 x.f5 x.f6 x.f7 x.f8 = some (if opP n f x then 0 else 1) := by
  unfold op_Check.f op_right.f
  rw [opForms_eq f k hk, hf, Option.bind_some, if_pos rfl, if_neg (by omega), if_neg (by omega), Option.bind_some]
  by_cases h : opP n f x
  · rw [if_pos h, if_pos (show opB n f _ = true from decide_eq_true h)]
  · rw [if_neg h, if_neg (show ¬ opB n f _ = true from fun e => h (of_decide_eq_true e))]
theorem msgOps_eq (k : Nat) (hk : 5 < k) (n : Int) (hn : 1 ≤ n ∧ n ≤ 5) (f : List Tbl) (hf : formsE f = 0) : ∀ l : List Opr, msg_ops.f k n f l = some (!decide (∀ x ∈ l, opP n f x))
  | [] => by simp [msg_ops.f]
  | x :: l => by
    unfold msg_ops.f
    rw [opCheck_eq k hk n hn f hf x, Option.bind_some, msgOps_eq k hk n hn f hf l]
    by_cases h : opP n f x
    · rw [if_pos h, if_pos rfl]
      congr 2
      exact decide_eq_decide.2 (by simp [h])
    · rw [if_neg h, if_neg (by decide), decide_eq_false (fun e => h (e x (List.mem_cons_self ..)))]; rfl
def kindM (n a : Int) (h s : List Int) (l : List Opr) : Prop := (a = 1 ∧ l.length = 1 ∧ h.length + s.length = 0) ∨ (a = 2 ∧ l.length = 0 ∧ twoP n h s) ∨ (a = 3 ∧ twoP n h s)
instance (n a : Int) (h s : List Int) (l : List Opr) : Decidable (kindM n a h s l) := by unfold kindM; infer_instance
theorem msgRight_eq (k : Nat) (hk : 5 < k) (n : Int) (hn : 1 ≤ n ∧ n ≤ 5) (f : List Tbl) (hf : formsE f = 0) (a b c : Int) (h s : List Int) (l : List Opr) (h1 : h.length ≤ 1000) (h2 : s.length ≤ 1000) :
    msg_right.f k n f a b c h s l = some (decide (msgP n f a b c h s l)) := by
  unfold msg_right.f
  by_cases g1 : b < 0 ∨ b ≥ n ∨ c < 0 ∨ c ≥ n ∨ b = c
  · rw [if_pos g1, decide_eq_false]
    rintro ⟨x, y, z, _⟩
    rcases g1 with g | g | g | g | g <;> first | omega | exact z g
  rw [if_neg g1, msgOps_eq k hk n hn f hf, Option.bind_some]
  by_cases g2 : ∀ x ∈ l, opP n f x
  case neg => rw [decide_eq_false g2, if_pos (by rfl), decide_eq_false (fun x => g2 x.2.2.2.1)]
  rw [decide_eq_true g2, if_neg (by decide)]
  have hm : decide (msgP n f a b c h s l) = decide (kindM n a h s l) := decide_eq_decide.2 ⟨fun x => x.2.2.2.2, fun x => ⟨by omega, by omega, fun e => g1 (by omega), g2, x⟩⟩
  rw [hm]
  have hw : wrap64 ((h.length : Int) + (s.length : Int)) = ((h.length + s.length : Nat) : Int) := by rw [wrap_in _ (by omega) (by omega)]; omega
  by_cases k1 : a = 1
  · subst k1
    rw [if_pos rfl, hw]
    congr 1
    rw [Bool.eq_iff_iff, Bool.and_eq_true, decide_eq_true_eq, decide_eq_true_eq, decide_eq_true_eq]
    exact ⟨fun x => .inl ⟨rfl, x.1, by omega⟩, fun x => by rcases x with x | x | x <;> omega⟩
  rw [if_neg k1]
  by_cases k2 : a = 2
  · subst k2
    rw [if_pos rfl]
    by_cases k4 : l.length = 0
    · rw [if_pos k4, tells_eq k (by omega)]
      congr 1
      exact decide_eq_decide.2 ⟨fun x => .inr (.inl ⟨rfl, k4, x⟩), fun x => by rcases x with x | x | x; omega; exact x.2.2; omega⟩
    · rw [if_neg k4, decide_eq_false (fun x => by rcases x with x | x | x <;> omega)]
  rw [if_neg k2]
  by_cases k3 : a = 3
  · subst k3
    rw [if_pos rfl, tells_eq k (by omega)]
    congr 1
    exact decide_eq_decide.2 ⟨fun x => .inr (.inr ⟨rfl, x⟩), fun x => by rcases x with x | x | x; omega; omega; exact x.2⟩
  · rw [if_neg k3, decide_eq_false (fun x => by rcases x with x | x | x <;> omega)]
def checkE (n : Int) (f : List Tbl) (a b c : Int) (h s : List Int) (l : List Opr) : Int := if formsE f = 0 then (if (1 ≤ n ∧ n ≤ 5) ∧ msgP n f a b c h s l then 0 else 1) else formsE f
theorem msgCheck_eq (k : Nat) (hk : 5 < k) (n : Int) (f : List Tbl) (a b c : Int) (h s : List Int) (l : List Opr) (h1 : h.length ≤ 1000) (h2 : s.length ≤ 1000) :
    msg_Check.f k n f a b c h s l = some (checkE n f a b c h s l) := by
  unfold msg_Check.f checkE
  rw [opForms_eq f k hk, Option.bind_some]
  by_cases hf : formsE f = 0
  case neg => rw [if_neg hf, if_neg hf]
  rw [if_pos hf, if_pos hf]
  by_cases g1 : n < 1
  · rw [if_pos g1, if_neg (fun x => by omega)]
  rw [if_neg g1]
  by_cases g2 : n > 5
  · rw [if_pos g2, if_neg (fun x => by omega)]
  rw [if_neg g2, msgRight_eq k hk n (by omega) f hf a b c h s l h1 h2, Option.bind_some]
  by_cases g3 : msgP n f a b c h s l
  · rw [if_pos (decide_eq_true g3), if_pos ⟨by omega, g3⟩]
  · rw [decide_eq_false g3, if_neg (by decide), if_neg (fun x => g3 x.2)]
theorem refVector_k (l : List Int) (k : Nat) (hk : 6 < k) : ∃ e, raddleref01_Vector.f k l = some e ∧ (e = 0 ↔ vecOk l) := by
  unfold raddleref01_Vector.f
  rw [refIn_eq, Option.bind_some]
  by_cases h : 1 ≤ l.length ∧ l.length ≤ 5
  · rw [if_pos (decide_eq_true (by omega))]
    obtain ⟨e, h1, h2⟩ := refVector_l0 l h.2 l.length k 0 (by omega) (by omega)
    exact ⟨e, h1, h2.trans ⟨fun x => ⟨h.1, h.2, x⟩, fun x => x.2.2⟩⟩
  · rw [decide_eq_false (by omega), if_neg (by decide)]
    exact ⟨2, rfl, Iff.intro (fun h' => absurd h' (by decide)) (fun h' => (h ⟨h'.1, h'.2.1⟩).elim)⟩
theorem refLe_eq (s h : List Int) (hl : s.length ≤ 1000) (k : Nat) (hk : s.length + 1 < k) : raddleref01_Le.f k s h = some (decide (leP s h)) := by
  unfold raddleref01_Le.f
  by_cases e : (s.length : Int) = (h.length : Int)
  case neg => rw [if_neg e, decide_eq_false (fun x => e (by rw [x.1]))]
  rw [if_pos e]
  have key : ∀ (d k i : Nat), i + d = s.length → d < k → raddleref01_Le.l0 k s h (i : Int) = some (decide (∀ j : Nat, j < s.length → i ≤ j → rd s (j : Int) ≤ rd h (j : Int))) := by
    intro d
    induction d with
    | zero =>
      intro k i hi hk
      obtain ⟨k, rfl⟩ : ∃ m, k = m + 1 := ⟨k - 1, by omega⟩
      simp only [raddleref01_Le.l0]
      rw [if_neg (by omega), decide_eq_true (fun j h1 h2 => by omega)]
    | succ d ih =>
      intro k i hi hk
      obtain ⟨k, rfl⟩ : ∃ m, k = m + 1 := ⟨k - 1, by omega⟩
      simp only [raddleref01_Le.l0]
      rw [if_pos (by omega), if_pos (by omega), if_pos (by omega), show wrap64 ((i : Int) + 1) = ((i + 1 : Nat) : Int) from by rw [wrap_in _ (by omega) (by omega)]; omega, ih k (i + 1) (by omega) (by omega)]
      by_cases g : rd s (i : Int) > rd h (i : Int)
      · rw [if_pos g, decide_eq_false (fun x => by have := x i (by omega) (Nat.le_refl _); omega)]
      · rw [if_neg g]
        congr 1
        exact decide_eq_decide.2 ⟨fun x j h1 h2 => by
          by_cases hj : j = i
          · subst hj; omega
          · exact x j h1 (by omega), fun x j h1 h2 => x j h1 (by omega)⟩
  refine (key s.length k 0 (by omega) (by omega)).trans ?_
  congr 1
  exact decide_eq_decide.2 ⟨fun x => ⟨by omega, fun i hi => x i hi (by omega)⟩, fun x j h1 _ => x.2 j h1⟩
theorem refMsg_tail (k : Nat) (n a b c : Int) (h s : List Int) (l : List Opr) (t : Bool) (ht : t = true ↔ twoP n h s) (h1 : h.length ≤ 1000) (h2 : s.length ≤ 1000) : raddleref01_Msg.j2 (k + 1) t a b c h s l = some (decide (kindM n a h s l)) := by
  have hw : wrap64 ((h.length : Int) + (s.length : Int)) = ((h.length + s.length : Nat) : Int) := by rw [wrap_in _ (by omega) (by omega)]; omega
  simp only [raddleref01_Msg.j2]
  by_cases k1 : a = 1
  · subst k1
    rw [if_pos rfl, hw]
    by_cases k4 : (l.length : Int) = 1
    · rw [if_pos k4]; congr 1
      rw [Bool.eq_iff_iff, beq_iff_eq, decide_eq_true_eq]
      exact ⟨fun x => .inl ⟨rfl, by omega, by omega⟩, fun x => by rcases x with x | x | x <;> omega⟩
    · rw [if_neg k4, decide_eq_false (fun x => by rcases x with x | x | x <;> omega)]
  rw [if_neg k1]
  by_cases k2 : a = 2
  · subst k2
    rw [if_pos rfl]
    by_cases k4 : t = true
    · rw [if_pos k4]; congr 1
      rw [Bool.eq_iff_iff, beq_iff_eq, decide_eq_true_eq]
      exact ⟨fun x => .inr (.inl ⟨rfl, by omega, ht.1 k4⟩), fun x => by rcases x with x | x | x <;> omega⟩
    · rw [if_neg k4, decide_eq_false (fun x => by rcases x with x | x | x; omega; exact k4 (ht.2 x.2.2); omega)]
  rw [if_neg k2]
  by_cases k3 : a = 3
  · subst k3
    rw [if_pos rfl]; congr 1
    rw [Bool.eq_iff_iff, ht, decide_eq_true_eq]
    exact ⟨fun x => .inr (.inr ⟨rfl, x⟩), fun x => by rcases x with x | x | x; omega; omega; exact x.2⟩
  · rw [if_neg k3, decide_eq_false (fun x => by rcases x with x | x | x <;> omega)]
theorem refMsg_l0 (n : Int) (hn : 1 ≤ n ∧ n ≤ 5) (f : List Tbl) (a b c : Int) (h s : List Int) (l : List Opr) (hl : l.length ≤ 1000) (h1 : h.length ≤ 1000) (h2 : s.length ≤ 1000) :
    ∀ (d k i : Nat), i + d = l.length → d + 1020 < k → raddleref01_Msg.l0 k n f (i : Int) a b c h s l = some (decide ((∀ x ∈ l.drop i, opP n f x) ∧ kindM n a h s l)) := by
  intro d
  induction d with
  | zero =>
    intro k i hi hk
    obtain ⟨k, rfl⟩ : ∃ m, k = m + 2 := ⟨k - 2, by omega⟩
    have hd : decide ((∀ x ∈ l.drop i, opP n f x) ∧ kindM n a h s l) = decide (kindM n a h s l) := decide_eq_decide.2 ⟨fun x => x.2, fun x => ⟨by rw [List.drop_of_length_le (by omega)]; simp, x⟩⟩
    rw [hd]
    simp only [raddleref01_Msg.l0]
    rw [if_neg (by omega)]
    obtain ⟨e, he, e1⟩ := refVector_k h (k + 1) (by omega)
    obtain ⟨d, hd, d1⟩ := refVector_k s (k + 1) (by omega)
    by_cases g1 : (h.length : Int) = n
    case neg => rw [if_neg g1]; exact refMsg_tail k n a b c h s l _ ⟨fun x => (Bool.noConfusion x), fun x => absurd x.1 g1⟩ h1 h2
    rw [if_pos g1, he, Option.bind_some]
    by_cases g2 : e = 0
    case neg => rw [if_neg g2]; exact refMsg_tail k n a b c h s l _ ⟨fun x => (Bool.noConfusion x), fun x => absurd (e1.2 x.2.1) g2⟩ h1 h2
    rw [if_pos g2, hd, Option.bind_some]
    by_cases g3 : d = 0
    case neg => rw [if_neg g3]; exact refMsg_tail k n a b c h s l _ ⟨fun x => (Bool.noConfusion x), fun x => absurd (d1.2 x.2.2.1) g3⟩ h1 h2
    rw [if_pos g3, refLe_eq s h h2 (k + 1) (by omega), Option.bind_some]
    exact refMsg_tail k n a b c h s l _ (by rw [decide_eq_true_eq]; exact ⟨fun x => ⟨g1, e1.1 g2, d1.1 g3, x⟩, fun x => x.2.2.2⟩) h1 h2
  | succ d ih =>
    intro k i hi hk
    obtain ⟨k, rfl⟩ : ∃ m, k = m + 1 := ⟨k - 1, by omega⟩
    have hlt : i < l.length := by omega
    have hrd : rd_T52 l (i : Int) = l[i] := by simp [rd_T52, hlt]
    simp only [raddleref01_Msg.l0]
    rw [if_pos (by omega), if_pos (by omega), hrd, show wrap64 ((i : Int) + 1) = ((i + 1 : Nat) : Int) from by rw [wrap_in _ (by omega) (by omega)]; omega, ih k (i + 1) (by omega) (by omega)]
    unfold raddleref01_Op.f
    rw [if_pos hn, Option.bind_some]
    by_cases g : opP n f l[i]
    · rw [if_pos (show opB n f _ = true from decide_eq_true g)]
      congr 1
      refine decide_eq_decide.2 (and_congr_left fun _ => ?_)
      rw [List.drop_eq_getElem_cons hlt]
      exact ⟨fun H x hx => by rcases List.mem_cons.1 hx with rfl | hx; exact g; exact H x hx, fun H x hx => H x (List.mem_cons_of_mem _ hx)⟩
    · rw [if_neg (show ¬ opB n f _ = true from fun e => g (of_decide_eq_true e)), decide_eq_false]
      rintro ⟨x, _⟩
      exact g (x _ (by rw [List.drop_eq_getElem_cons hlt]; exact List.mem_cons_self ..))
theorem refMsg_eq (n : Int) (hn : 1 ≤ n ∧ n ≤ 5) (f : List Tbl) (a b c : Int) (h s : List Int) (l : List Opr) (hl : l.length ≤ 1000) (h1 : h.length ≤ 1000) (h2 : s.length ≤ 1000) (k : Nat) (hk : 3000 < k) :
    raddleref01_Msg.f k n f a b c h s l = some (decide (msgP n f a b c h s l)) := by
  obtain ⟨k, rfl⟩ : ∃ m, k = m + 1 := ⟨k - 1, by omega⟩
  unfold raddleref01_Msg.f
  have hw : wrap64 (n - 1) = n - 1 := wrap_in _ (by omega) (by omega)
  rw [hw, refIn_eq, refIn_eq, Option.bind_some, Option.bind_some]
  simp only [raddleref01_Msg.j0]
  by_cases g1 : 0 ≤ b ∧ b ≤ n - 1
  case neg => rw [decide_eq_false g1, if_neg (by decide), if_pos trivial, decide_eq_false (fun x => g1 (by have := x.1; omega))]
  rw [if_pos (decide_eq_true g1)]
  by_cases g2 : 0 ≤ c ∧ c ≤ n - 1
  case neg => rw [decide_eq_false g2, if_neg (by decide), if_pos trivial, decide_eq_false (fun x => g2 (by have := x.2.1; omega))]
  rw [if_pos (decide_eq_true g2)]
  by_cases g3 : b = c
  · rw [if_pos (beq_iff_eq.2 g3), decide_eq_false (fun x => x.2.2.1 g3)]
  rw [if_neg (fun e => g3 (beq_iff_eq.1 e))]
  refine (refMsg_l0 n hn f a b c h s l hl h1 h2 l.length k 0 (by omega) (by omega)).trans ?_
  rw [List.drop_zero]
  congr 1
  exact decide_eq_decide.2 ⟨fun x => ⟨by omega, by omega, g3, x.1, x.2⟩, fun x => ⟨x.2.2.2.1, x.2.2.2.2⟩⟩
theorem long_tells (l : List Val) (hl : l.length ≤ 40) : ∀ (d k i : Nat), i + d = l.length → d < k → ∃ b, raddlelaw03_Long.l0 k l (i : Int) = some b := by
  intro d
  induction d with
  | zero =>
    intro k i hi hk
    obtain ⟨k, rfl⟩ : ∃ m, k = m + 1 := ⟨k - 1, by omega⟩
    exact ⟨false, by simp only [raddlelaw03_Long.l0]; rw [if_neg (by omega)]⟩
  | succ d ih =>
    intro k i hi hk
    obtain ⟨k, rfl⟩ : ∃ m, k = m + 1 := ⟨k - 1, by omega⟩
    obtain ⟨b, hb⟩ := ih k (i + 1) (by omega) (by omega)
    simp only [raddlelaw03_Long.l0]
    rw [if_pos (by omega), if_pos (by omega), wrap_in _ (by omega) (by omega), show (i : Int) + 1 = ((i + 1 : Nat) : Int) from by omega, hb]
    split
    · exact ⟨_, rfl⟩
    · exact ⟨_, rfl⟩
theorem heavy4_tells (l : List Val) (k : Nat) (hk : 50 < k) : raddlelaw04_Heavy.f k l = some true ∨ (raddlelaw04_Heavy.f k l = some false ∧ l.length ≤ 40) := by
  unfold raddlelaw04_Heavy.f
  by_cases h : (l.length : Int) > 40
  · rw [if_pos h]; exact .inl rfl
  · rw [if_neg h]
    obtain ⟨b, hb⟩ := long_tells l (by omega) l.length k 0 (by omega) (by omega)
    rw [show raddlelaw03_Long.f k l = some b from hb, Option.bind_some]
    cases b
    · exact .inr ⟨rfl, by omega⟩
    · exact .inl rfl
def light (x : Opr) : Prop := x.f1.length ≤ 30 ∧ x.f5.size ≤ 100 ∧ x.f7.length ≤ 40 ∧ x.f8.length ≤ 100
theorem heavy7_l0 (l : List Opr) (hl : l.length ≤ 300) : ∀ (d k i : Nat), i + d = l.length → d + 60 < k → raddlelaw07_Heavy.l0 k l (i : Int) = some true ∨ (raddlelaw07_Heavy.l0 k l (i : Int) = some false ∧ ∀ x ∈ l.drop i, light x) := by
  intro d
  induction d with
  | zero =>
    intro k i hi hk
    obtain ⟨k, rfl⟩ : ∃ m, k = m + 1 := ⟨k - 1, by omega⟩
    refine .inr ⟨by simp only [raddlelaw07_Heavy.l0]; rw [if_neg (by omega)], ?_⟩
    rw [List.drop_of_length_le (by omega)]
    intro x hx; simp at hx
  | succ d ih =>
    intro k i hi hk
    obtain ⟨k, rfl⟩ : ∃ m, k = m + 1 := ⟨k - 1, by omega⟩
    have hlt : i < l.length := by omega
    have hr : rd_T52 l (i : Int) = l[i] := by simp [rd_T52, hlt]
    simp only [raddlelaw07_Heavy.l0]
    rw [if_pos (by omega), if_pos (by omega), hr, wrap_in _ (by omega) (by omega), show (i : Int) + 1 = ((i + 1 : Nat) : Int) from by omega]
    by_cases h1 : ((l[i].f1).length : Int) > 30
    · rw [if_pos h1]; exact .inl rfl
    rw [if_neg h1]
    by_cases h2 : ((l[i].f5).size : Int) > 100
    · rw [if_pos h2]; exact .inl rfl
    rw [if_neg h2]
    rcases heavy4_tells l[i].f7 k (by omega) with h3 | ⟨h3, h4⟩
    · rw [h3, Option.bind_some, if_pos rfl]; exact .inl rfl
    rw [h3, Option.bind_some, if_neg (by decide)]
    by_cases h5 : ((l[i].f8).length : Int) > 100
    · rw [if_pos h5]; exact .inl rfl
    rw [if_neg h5]
    rcases ih k (i + 1) (by omega) (by omega) with h6 | ⟨h6, h7⟩
    · exact .inl h6
    · refine .inr ⟨h6, ?_⟩
      rw [List.drop_eq_getElem_cons hlt]
      intro x hx
      rcases List.mem_cons.1 hx with rfl | hx
      · exact ⟨by omega, by omega, h4, by omega⟩
      · exact h7 x hx
theorem heavy8_tells (a b c : Int) (h s : List Int) (l : List Opr) (k : Nat) (hk : 1000 < k) :
    raddlelaw08_Heavy.f k a b c h s l = some true ∨ (raddlelaw08_Heavy.f k a b c h s l = some false ∧ h.length ≤ 30 ∧ s.length ≤ 30 ∧ l.length ≤ 300 ∧ ∀ x ∈ l, light x) := by
  unfold raddlelaw08_Heavy.f
  by_cases h1 : (h.length : Int) > 30
  · rw [if_pos h1]; exact .inl rfl
  rw [if_neg h1]
  by_cases h2 : (s.length : Int) > 30
  · rw [if_pos h2]; exact .inl rfl
  rw [if_neg h2]
  unfold raddlelaw07_Heavy.f
  by_cases h3 : (l.length : Int) > 300
  · rw [if_pos h3, Option.bind_some]; exact .inl rfl
  rw [if_neg h3]
  rcases heavy7_l0 l (by omega) l.length k 0 (by omega) (by omega) with h4 | ⟨h4, h5⟩
  · rw [show ((0 : Nat) : Int) = 0 from rfl] at h4
    rw [h4, Option.bind_some]; exact .inl rfl
  · rw [show ((0 : Nat) : Int) = 0 from rfl] at h4
    rw [h4, Option.bind_some]
    exact .inr ⟨rfl, by omega, by omega, by omega, h5⟩
theorem twinInts_eq (l : List Int) (h : l.length ≤ 1000) : raddlekeep_TwinInts.f l = some l := by
  unfold raddlekeep_TwinInts.f
  rw [if_pos (by simp; omega)]; rfl
theorem twinOp_eq (x : Opr) (hx : light x) : raddlekeep_TwinOp.f x.f0.f0 x.f0.f1 x.f1 x.f2.f0 x.f2.f1 x.f2.f2 x.f3 x.f4 x.f5 x.f6 x.f7 x.f8 = some (x.f0.f0, x.f0.f1, x.f1, x.f2.f0, x.f2.f1, x.f2.f2, x.f3, x.f4, x.f5, x.f6, x.f7, x.f8) := by
  obtain ⟨h1, h2, h3, h4⟩ := hx
  unfold raddlekeep_TwinOp.f raddlekeep_TwinRow.f
  rw [twinInts_eq x.f1 (by omega), Option.bind_some, if_pos (by simp; omega), Option.bind_some, if_pos (by simp; omega)]
  rfl
theorem twinOps_eq (l : List Opr) (hl : l.length ≤ 300) (hx : ∀ x ∈ l, light x) : ∀ (d k i : Nat), i + d = l.length → d < k → raddlekeep_TwinOps.l0 k l (l.take i) (i : Int) = some l := by
  intro d
  induction d with
  | zero =>
    intro k i hi hk
    obtain ⟨k, rfl⟩ : ∃ m, k = m + 1 := ⟨k - 1, by omega⟩
    simp only [raddlekeep_TwinOps.l0]
    rw [if_neg (by omega), List.take_of_length_le (by omega)]
  | succ d ih =>
    intro k i hi hk
    obtain ⟨k, rfl⟩ : ∃ m, k = m + 1 := ⟨k - 1, by omega⟩
    have hlt : i < l.length := by omega
    have hrd : rd_T52 l (i : Int) = l[i] := by simp [rd_T52, hlt]
    simp only [raddlekeep_TwinOps.l0]
    rw [if_pos (by omega), if_pos (by omega), hrd, twinOp_eq _ (hx _ (List.getElem_mem hlt)), Option.bind_some, if_pos (by rw [List.length_take]; omega), show wrap64 ((i : Int) + 1) = ((i + 1 : Nat) : Int) from by rw [wrap_in _ (by omega) (by omega)]; omega]
    have e : l.take i ++ [l[i]] = l.take (i + 1) := (List.take_succ_eq_append_getElem hlt).symm
    have h := ih k (i + 1) (by omega) (by omega)
    rw [← e] at h
    exact h
theorem twinMsg_eq (a b c : Int) (h s : List Int) (l : List Opr) (h1 : h.length ≤ 30) (h2 : s.length ≤ 30) (h3 : l.length ≤ 300) (hx : ∀ x ∈ l, light x) (k : Nat) (hk : 400 < k) : raddlekeep_TwinMsg.f k a b c h s l = some (a, b, c, h, s, l) := by
  unfold raddlekeep_TwinMsg.f raddlekeep_TwinOps.f
  rw [twinInts_eq h (by omega), twinInts_eq s (by omega), Option.bind_some, Option.bind_some]
  have := twinOps_eq l h3 hx l.length k 0 (by omega) (by omega)
  rw [List.take_zero] at this
  rw [show ((0 : Nat) : Int) = 0 from rfl] at this
  rw [this]; rfl
set_option maxHeartbeats 1000000 in
set_option maxRecDepth 100000 in
theorem index_none (fv : Value) (w : World) : Calls Tryz.prog 106 #[.slice none 0 0, fv] w fun e w' => e = .returned (.int .i64 (-1)) ∧ w' = w := by
  go_enter Tryz.func106, Tryz.ntmps106
  go_wp2
  go_loopw [8] (fun v wr => v = .int .i64 0 ∧ wr = w) (fun _ _ => 0)
  case atStart => exact ⟨rfl, rfl⟩
  case round =>
    obtain ⟨rfl, rfl⟩ := hrel
    go_wp2
    go_ret
    exact ⟨rfl, rfl⟩
set_option maxHeartbeats 1000000 in
set_option maxRecDepth 100000 in
theorem contains_none (fv : Value) (w : World) : Calls Tryz.prog 78 #[.slice none 0 0, fv] w fun e w' => e = .returned (.bool false) ∧ w' = w := by
  go_enter Tryz.func78, Tryz.ntmps78
  go_wp2_with fail
  refine (index_none fv w).mono ?_
  rintro e w1 ⟨rfl, rfl⟩
  go_wp2
  go_ret
  exact ⟨rfl, rfl⟩
theorem tells0 : msg_tells.f 10 2 2 0 1 [2,1] [1,1] [] = some true := by decide
theorem forms0 : op_Forms.f 10 [⟨[3]⟩] = some 0 := by with_unfolding_all rfl
set_option maxHeartbeats 1000000 in
set_option maxRecDepth 100000 in
theorem right0 (A1 : Option Addr) (n1 c1 : Nat) (A3 : Option Addr) (c3 : Nat) (A4 : Option Addr) (c4 : Nat) (w : World) (hc3 : 2 ≤ c3) (hc4 : 2 ≤ c4) (h3 : Kd.C (Kd.int .i64) w A3 2 [2, 1]) (h4 : Kd.C (Kd.int .i64) w A4 2 [1, 1]) :
    Calls Tryz.prog 40 #[.int .i64 2, .slice A1 n1 c1, .agg #[.int .i64 2, .int .i64 0, .int .i64 1, .slice A3 2 c3, .slice A4 2 c4, .slice none 0 0]] w fun e w' => e = .returned (.bool true) ∧ Below w.heap.size w w' := by
  have H3 := Aside0.mk h3
  have H4 := Aside0.mk h4
  have C3 := Aside0.mk hc3
  have C4 := Aside0.mk hc4
  clear h3 h4 hc3 hc4
  go_enter Tryz.func40, Tryz.ntmps40
  go_wp2_with fail
  refine (contains_none _ _).mono ?_
  rintro e w1 ⟨rfl, rfl⟩
  go_wp2_with fail
  have HB := Aside0.mk (below_alloc (below_alloc (below_alloc (Below.refl w.heap.size w) (.cells #[.int .i64 2] 3)) (.cells #[.slice A1 n1 c1] 22)) (.cells #[.int .i64 2, .int .i64 0, .int .i64 1, .slice A3 2 c3, .slice A4 2 c4, .slice none 0 0] 26))
  refine (msg_tells.calls 10 2 2 0 1 A3 c3 [2, 1] A4 c4 [1, 1] none 0 [] true _ (Kd.C_below H3.out HB.out) C3.out (Kd.C_below H4.out HB.out) C4.out (Kd.C_nil _ _) (Nat.le_refl _) tells0).mono ?_
  rintro e w2 ⟨rfl, hb⟩
  have HB2 := Aside0.mk (below_step HB.out hb)
  clear hb HB
  go_wp2
  go_ret
  exact ⟨rfl, HB2.out⟩
set_option maxHeartbeats 1000000 in
set_option maxRecDepth 100000 in
theorem check0 (A1 : Option Addr) (c1 : Nat) (A3 : Option Addr) (c3 : Nat) (A4 : Option Addr) (c4 : Nat) (w : World) (hc1 : 1 ≤ c1) (h1 : Kd.C k56 w A1 1 [⟨[3]⟩]) (hc3 : 2 ≤ c3) (hc4 : 2 ≤ c4) (h3 : Kd.C (Kd.int .i64) w A3 2 [2, 1]) (h4 : Kd.C (Kd.int .i64) w A4 2 [1, 1]) :
    Calls Tryz.prog 13 #[.int .i64 2, .slice A1 1 c1, .agg #[.int .i64 2, .int .i64 0, .int .i64 1, .slice A3 2 c3, .slice A4 2 c4, .slice none 0 0]] w fun e w' => e = .returned (.int .i64 0) ∧ Below w.heap.size w w' := by
  have H1 := Aside0.mk h1
  have H3 := Aside0.mk h3
  have H4 := Aside0.mk h4
  have C1 := Aside0.mk hc1
  have C3 := Aside0.mk hc3
  have C4 := Aside0.mk hc4
  clear h1 h3 h4 hc1 hc3 hc4
  have HX := Aside0.mk (heap_alloc_new w (.cells #[.int .i64 2, .int .i64 0, .int .i64 1, .slice A3 2 c3, .slice A4 2 c4, .slice none 0 0] 26))
  go_enter Tryz.func13, Tryz.ntmps13
  go_wp2_with fail
  have HB := Aside0.mk (below_alloc (Below.refl w.heap.size w) (.cells #[.int .i64 2, .int .i64 0, .int .i64 1, .slice A3 2 c3, .slice A4 2 c4, .slice none 0 0] 26))
  refine (op_Forms.calls 10 A1 c1 [⟨[3]⟩] 0 _ (Kd.C_below H1.out HB.out) C1.out forms0).mono ?_
  rintro e w2 ⟨rfl, hb⟩
  have HB2 := Aside0.mk (below_step HB.out hb)
  have HX2 := Aside0.mk (blk_below HX.out hb)
  clear hb HB HX
  have hc := fun i => blk_cell HX2.out i
  go_wp2_with fail
  refine (right0 A1 1 c1 A3 c3 A4 c4 _ C3.out C4.out (Kd.C_below H3.out HB2.out) (Kd.C_below H4.out HB2.out)).mono ?_
  rintro e w3 ⟨rfl, hb⟩
  have HB3 := Aside0.mk (below_step HB2.out hb)
  clear hb HB2 hc HX2
  go_wp2
  go_ret
  exact ⟨rfl, HB3.out⟩
theorem C_one {α : Type} {d : Kd α} {W : World} {b t : Nat} {x : α} {cs : List Value} (hK : d.K W x cs) (h : W.heap[b]? = some (.cells cs.toArray t (0, 0))) : d.C W (some ⟨b, 0, none⟩) 1 [x] := by
  refine ⟨rfl, by omega, fun _ => ⟨⟨b, 0, none⟩, rfl, fun j p hj => ?_⟩⟩
  rcases j with _ | j
  · obtain rfl := Option.some.inj hj
    refine ⟨cs, d.K_len hK, hK, fun i u hu => ?_⟩
    rw [Nat.zero_mul, Nat.zero_add, add_plain, blk_cell h i]
    simpa using hu
  · simp at hj
theorem C_two {W : World} {b t : Nat} {x y : Int} (h : W.heap[b]? = some (.cells #[.int .i64 x, .int .i64 y] t (0, 0))) : Kd.C (Kd.int .i64) W (some ⟨b, 0, none⟩) 2 [x, y] := by
  refine Kd.C_of_reads (d := (0 : Int)) (h1 := fun _ => rfl) ⟨rfl, by omega, fun _ => ⟨⟨b, 0, none⟩, rfl, fun j hj => ?_⟩⟩
  rw [add_plain, blk_cell h j]
  rcases j with _ | _ | j
  · rfl
  · rfl
  · omega
theorem wk1 : msgB 2 0 1 [2,1] [1,1] [] = ((msgB 2 0 1 [2,1] [1,1] []).1, 0) ∧ (msgB 2 0 1 [2,1] [1,1] []).1.length = 27 ∧ readB (msgB 2 0 1 [2,1] [1,1] []).1 = ((2, 0, 1, [2, 1], [1, 1], []), 0) ∧ Bytes_ (msgB 2 0 1 [2,1] [1,1] []).1 := ⟨by kernel_rfl, by decide +kernel, by kernel_rfl, by decide +kernel⟩
theorem wk2 : raddlekeep_Msg.f 10 2 0 1 [2,1] [1,1] [] 2 0 1 [2,1] [1,1] [] = some true := by decide +kernel
theorem wk3 : ∃ B : List Int, msg_Bytes.f 2 0 1 [2,1] [1,1] [] = some (B, 0) ∧ B.length = 27 ∧ msg_Read.f B = some (2, 0, 1, [2, 1], [1, 1], [], 0) := by
  obtain ⟨h1, h2, h3, h4⟩ := wk1
  refine ⟨_, (if_pos ⟨by decide, by decide, by decide, by simp⟩).trans (congrArg some h1), h2, ?_⟩
  unfold msg_Read.f
  rw [if_pos ⟨h4, by omega⟩, h3]
set_option maxHeartbeats 4000000 in
set_option maxRecDepth 100000 in
def raddlelaw08_wakes.f : Option Bool := some true
theorem raddlelaw08_wakes.calls (r : Bool) (w : World) (h : raddlelaw08_wakes.f = some r) : Calls Tryz.prog 16 #[] w fun e w' => e = .returned (.bool r) ∧ Below w.heap.size w w' := by
  obtain rfl := Option.some.inj h
  clear h
  obtain ⟨B, f1, f2, f3⟩ := wk3
  have F1 := Aside0.mk f1
  have F2 := Aside0.mk f2
  have F3 := Aside0.mk f3
  have f4 : ((B.length : Int) == 27) = true := by rw [f2]; rfl
  have f5 : ((B.length : Int) != 27) = false := by rw [f2]; rfl
  clear f1 f2 f3
  have D1 := Aside0.mk (heap_alloc_new w (.cells #[.int .i64 2, .int .i64 1] 3))
  have D2 := Aside0.mk (heap_alloc_new (w.alloc (.cells #[.int .i64 2, .int .i64 1] 3)) (.cells #[.int .i64 1, .int .i64 1] 3))
  have HB := Aside0.mk (below_alloc (below_alloc (Below.refl w.heap.size w) (.cells #[.int .i64 2, .int .i64 1] 3)) (.cells #[.int .i64 1, .int .i64 1] 3))
  obtain ⟨W, hW⟩ : ∃ W, W = (w.alloc (.cells #[.int .i64 2, .int .i64 1] 3)).alloc (.cells #[.int .i64 1, .int .i64 1] 3) := ⟨_, rfl⟩
  have E1 := Aside0.mk (show W.heap[w.heap.size]? = some (.cells #[.int .i64 2, .int .i64 1] 3 (0, 0)) from by rw [hW]; exact blk_alloc D1.out _)
  have E2 := Aside0.mk (show W.heap[w.heap.size + 1]? = some (.cells #[.int .i64 1, .int .i64 1] 3 (0, 0)) from by have := D2.out; rw [hW]; simpa using this)
  have ES := Aside0.mk (show W.heap.size = w.heap.size + 1 + 1 from by rw [hW]; simp)
  have HB1 := Aside0.mk (show Below w.heap.size w W from by rw [hW]; exact HB.out)
  have HW := Aside0.mk hW
  clear hW D1 D2 HB
  go_enter Tryz.func16, Tryz.ntmps16
  go_wp2_with fail
  rw [← HW.out, ← ES.out]
  have E3 := Aside0.mk (heap_alloc_new W (.cells #[.int .i64 2, .int .i64 0, .int .i64 1, .slice (some ⟨w.heap.size, 0, none⟩) 2 2, .slice (some ⟨w.heap.size + 1, 0, none⟩) 2 2, .slice none 0 0] 26))
  have HA := Aside0.mk (below_alloc (Below.refl W.heap.size W) (.cells #[.int .i64 2, .int .i64 0, .int .i64 1, .slice (some ⟨w.heap.size, 0, none⟩) 2 2, .slice (some ⟨w.heap.size + 1, 0, none⟩) 2 2, .slice none 0 0] 26))
  have G3 := Aside0.mk (C_two E1.out)
  have G4 := Aside0.mk (C_two E2.out)
  have HB2 := Aside0.mk (below_step HB1.out HA.out)
  clear HW
  refine (msg_Bytes.calls 2 0 1 _ 2 [2, 1] _ 2 [1, 1] none 0 [] B 0 _ (Kd.C_below G3.out HA.out) (by decide) (Kd.C_below G4.out HA.out) (by decide) (Kd.C_nil _ _) (Nat.le_refl _) F1.out).mono ?_
  rintro e w1 ⟨v1, rfl, ho, hb⟩
  obtain ⟨A1, c1, rfl⟩ := Kd.R_slice ho
  have HO := Aside0.mk (Kd.R_reads' ho)
  have HB3 := Aside0.mk (below_step HA.out hb)
  have HB4 := Aside0.mk (below_step HB1.out HB3.out)
  have E4 := Aside0.mk (blk_below E3.out hb)
  clear ho hb HA E3 HB2
  go_wp2_with fail
  refine (msg_Read.calls A1 c1 B 2 0 1 [2, 1] [1, 1] [] 0 w1 HO.out.2.2 HO.out.2.1 F3.out).mono ?_
  rintro e w2 ⟨v2, v3, v4, rfl, ho2, ho3, ho4, hb⟩
  obtain ⟨A2, c2, rfl⟩ := Kd.R_slice ho2
  obtain ⟨A3, c3, rfl⟩ := Kd.R_slice ho3
  have HO2 := Aside0.mk (Kd.R_reads' ho2)
  have HO3 := Aside0.mk (Kd.R_reads' ho3)
  obtain ⟨A4, c4, hv4, hl4, hc4⟩ := Kd.S_reads ho4
  subst hv4
  have HO4 := Aside0.mk hc4
  have HL4 := Aside0.mk hl4
  have HB5 := Aside0.mk (below_step HB4.out hb)
  have HB6 := Aside0.mk (below_step HB3.out hb)
  have E5 := Aside0.mk (blk_alloc (blk_below E4.out hb) (.cells #[.int .i64 2, .int .i64 0, .int .i64 1, .slice A2 2 c2, .slice A3 2 c3, .slice A4 0 c4] 26))
  clear ho2 ho3 ho4 hb E4 HB3 HB4 hl4 hc4
  have hc := fun i => blk_cell E5.out i
  go_wp2_with fail
  have AL := Aside0.mk (below_alloc (Below.refl w2.heap.size w2) (.cells #[.int .i64 2, .int .i64 0, .int .i64 1, .slice A2 2 c2, .slice A3 2 c3, .slice A4 0 c4] 26))
  have HB7 := Aside0.mk (below_step HB6.out AL.out)
  have HB8 := Aside0.mk (below_step HB5.out AL.out)
  refine (raddlekeep_Msg.calls 10 2 0 1 A2 c2 [2, 1] A3 c3 [1, 1] A4 c4 [] 2 0 1 _ 2 [2, 1] _ 2 [1, 1] none 0 [] true _ (Kd.C_below HO2.out.2.2 AL.out) HO2.out.2.1 (Kd.C_below HO3.out.2.2 AL.out) HO3.out.2.1 (Kd.C_below HO4.out AL.out) HL4.out (Kd.C_below G3.out HB7.out) (Nat.le_refl _) (Kd.C_below G4.out HB7.out) (Nat.le_refl _) (Kd.C_nil _ _) (Nat.le_refl _) wk2).mono ?_
  rintro e w3 ⟨rfl, hb⟩
  have E6 := Aside0.mk (blk_below E5.out hb)
  have HB9 := Aside0.mk (below_step HB7.out hb)
  have HB10 := Aside0.mk (below_step HB8.out hb)
  clear hc hb E5 HB7 HB8 AL HB5 HB6 HO2 HO3 HO4 HL4
  have D3 := Aside0.mk (blk_alloc (blk_alloc E6.out (.cells #[.int .i64 3] 3)) (.cells #[.slice (some ⟨w3.heap.size, 0, none⟩) 1 1] 56))
  have hc := fun i => blk_cell D3.out i
  go_wp2_with fail
  have X1 := Aside0.mk (blk_alloc (heap_alloc_new w3 (.cells #[.int .i64 3] 3)) (.cells #[.slice (some ⟨w3.heap.size, 0, none⟩) 1 1] 56))
  have X2 := Aside0.mk (show ((w3.alloc (.cells #[.int .i64 3] 3)).alloc (.cells #[.slice (some ⟨w3.heap.size, 0, none⟩) 1 1] 56)).heap[w3.heap.size + 1]? = some (.cells #[.slice (some ⟨w3.heap.size, 0, none⟩) 1 1] 56 (0, 0)) from by have := heap_alloc_new (w3.alloc (.cells #[.int .i64 3] 3)) (.cells #[.slice (some ⟨w3.heap.size, 0, none⟩) 1 1] 56); simpa using this)
  have AL := Aside0.mk (below_alloc (below_alloc (Below.refl w3.heap.size w3) (.cells #[.int .i64 3] 3)) (.cells #[.slice (some ⟨w3.heap.size, 0, none⟩) 1 1] 56))
  have HB11 := Aside0.mk (below_step HB9.out AL.out)
  have HB12 := Aside0.mk (below_step HB10.out AL.out)
  obtain ⟨W3, hW3⟩ : ∃ W3, W3 = (w3.alloc (.cells #[.int .i64 3] 3)).alloc (.cells #[.slice (some ⟨w3.heap.size, 0, none⟩) 1 1] 56) := ⟨_, rfl⟩
  rw [← hW3]
  have Y1 : W3.heap[w3.heap.size]? = some (.cells #[.int .i64 3] 3 (0, 0)) := by rw [hW3]; exact X1.out
  have Y2 : W3.heap[w3.heap.size + 1]? = some (.cells #[.slice (some ⟨w3.heap.size, 0, none⟩) 1 1] 56 (0, 0)) := by rw [hW3]; exact X2.out
  have Y3 : Below W.heap.size W W3 := by rw [hW3]; exact HB11.out
  have Y4 : Below w.heap.size w W3 := by rw [hW3]; exact HB12.out
  clear hW3 X1 X2 AL HB11 HB12 D3
  have Z1 : Kd.C (Kd.int .i64) W3 (some ⟨w3.heap.size, 0, none⟩) 1 [3] := C_one (d := Kd.int .i64) (cs := [.int .i64 3]) rfl Y1
  have Z2 : Kd.C k56 W3 (some ⟨w3.heap.size + 1, 0, none⟩) 1 [⟨[3]⟩] := C_one (d := k56) (cs := [.slice (some ⟨w3.heap.size, 0, none⟩) 1 1]) (k56_mk W3 ⟨[3]⟩ (Nat.le_refl 1) Z1) Y2
  refine (check0 _ 1 _ 2 _ 2 W3 (Nat.le_refl _) Z2 (Nat.le_refl _) (Nat.le_refl _) (Kd.C_below G3.out Y3) (Kd.C_below G4.out Y3)).mono ?_
  rintro e w4 ⟨rfl, hb⟩
  have HB13 := Aside0.mk (below_step Y4 hb)
  clear hc hb Y1 Y2 Y3 Y4 Z1 Z2
  go_wp2
  go_ret
  exact ⟨rfl, HB13.out⟩
def At2 (w : World) (g : Nat) (a : Obj) (h : Nat) (b : Obj) (W : World) : Prop := Below w.heap.size w W ∧ W.heap[g]? = some a ∧ W.heap[h]? = some b
theorem At2.step {w W W' : World} {g h : Nat} {a b : Obj} (H : At2 w g a h b W) (hb : Below W.heap.size W W') : At2 w g a h b W' := ⟨below_step H.1 hb, blk_below H.2.1 hb, blk_below H.2.2 hb⟩
theorem At2.drew {w W : World} {g h : Nat} {a b : Obj} (H : At2 w g a h b W) : At2 w g a h b W.drew := ⟨below_drew H.1, H.2⟩
theorem At2.start {w W : World} {g : Nat} {a : Obj} (H : Below w.heap.size w W ∧ W.heap[g]? = some a) (b : Obj) : At2 w g a W.heap.size b (W.alloc b) := ⟨below_alloc H.1 _, blk_alloc H.2 _, heap_alloc_new W b⟩
def At3 (w : World) (g : Nat) (a : Obj) (h : Nat) (b : Obj) (p : Addr) (v : Value) (W : World) : Prop := At2 w g a h b W ∧ W.cell? p = some v
theorem At3.drew {w W : World} {g h : Nat} {a b : Obj} {p : Addr} {v : Value} (H : At3 w g a h b p v W) : At3 w g a h b p v W.drew := ⟨H.1.drew, H.2⟩
def At2B (w : World) (g : Nat) (a : Obj) (h : Nat) (b : Obj) (V W : World) : Prop := At2 w g a h b W ∧ Below V.heap.size V W
theorem two_bounds (n : Int) (f : List Tbl) (a b c : Int) (h s : List Int) (l : List Opr) (hn : 1 ≤ n) (ha : a ≠ 1) (e : msgP n f a b c h s l) : 0 < h.length ∧ 0 < s.length ∧ -1 ≤ rd h 0 ∧ rd h 0 ≤ 1073741824 := by
  have h2 : twoP n h s := by
    rcases e.2.2.2.2 with y | y | y
    · exact absurd y.1 ha
    · exact y.2.2
    · exact y.2
  obtain ⟨y1, y2, y3, y4, y5⟩ := h2
  have y6 := y2.2.2 (rd h 0) (by
    rw [show (0 : Int) = ((0 : Nat) : Int) from rfl, rd_nat, List.getD_eq_getElem?_getD, List.getElem?_eq_getElem (show 0 < h.length by omega)]
    exact List.getElem_mem _)
  exact ⟨by omega, by omega, by omega, by omega⟩
theorem heavyForms_at (f : List Tbl) : ∃ k b, Aside0 (raddlelaw07_HeavyForms.f k f = some b ∧ (b = false → True ∧ True)) := by
  have key : ∀ (d k i : Nat), i + d = f.length → f.length ≤ 30 → d < k → ∃ b, raddlelaw07_HeavyForms.l0 k f (i : Int) = some b := by
    intro d
    induction d with
    | zero =>
      intro k i hi hl hk
      obtain ⟨k, rfl⟩ : ∃ m, k = m + 1 := ⟨k - 1, by omega⟩
      exact ⟨false, by simp only [raddlelaw07_HeavyForms.l0]; rw [if_neg (by omega)]⟩
    | succ d ih =>
      intro k i hi hl hk
      obtain ⟨k, rfl⟩ : ∃ m, k = m + 1 := ⟨k - 1, by omega⟩
      obtain ⟨b, hb⟩ := ih k (i + 1) (by omega) hl (by omega)
      simp only [raddlelaw07_HeavyForms.l0]
      rw [if_pos (by omega), if_pos (by omega), show wrap64 ((i : Int) + 1) = ((i + 1 : Nat) : Int) from by rw [wrap_in _ (by omega) (by omega)]; omega, hb]
      split
      · exact ⟨true, rfl⟩
      · exact ⟨b, rfl⟩
  by_cases hl : (f.length : Int) > 30
  · exact ⟨0, true, ⟨by unfold raddlelaw07_HeavyForms.f; rw [if_pos hl], fun _ => ⟨trivial, trivial⟩⟩⟩
  · obtain ⟨b, hb⟩ := key f.length (f.length + 1) 0 (by omega) (by omega) (by omega)
    exact ⟨f.length + 1, b, ⟨by unfold raddlelaw07_HeavyForms.f; rw [if_neg hl]; exact hb, fun _ => ⟨trivial, trivial⟩⟩⟩
set_option maxHeartbeats 4000000 in
set_option maxRecDepth 100000 in
theorem kinds_no (n : Int) (A1 : Option Addr) (c1 : Nat) (f : List Tbl) (a b c : Int) (A3 : Option Addr) (c3 : Nat) (h : List Int) (A4 : Option Addr) (c4 : Nat) (s : List Int) (A5 : Option Addr) (c5 : Nat) (l : List Opr) (what : Int) (w : World) (h1 : Kd.C k56 w A1 f.length f ∧ f.length ≤ c1) (h3 : Kd.C (Kd.int .i64) w A3 h.length h ∧ h.length ≤ c3) (h4 : Kd.C (Kd.int .i64) w A4 s.length s ∧ s.length ≤ c4) (h5 : Kd.C k52 w A5 l.length l ∧ l.length ≤ c5) (hno : ¬ ((h.length ≤ 30 ∧ s.length ≤ 30 ∧ l.length ≤ 300 ∧ ∀ x ∈ l, light x) ∧ True ∧ formsE f = 0 ∧ (1 ≤ n ∧ n ≤ 5) ∧ msgP n f a b c h s l)) :
    Calls Tryz.prog 5 #[.int .i64 n, .slice A1 f.length c1, .agg #[.int .i64 a, .int .i64 b, .int .i64 c, .slice A3 h.length c3, .slice A4 s.length c4, .slice A5 l.length c5], .int .i64 what] w fun e w' => e = .returned (.bool true) ∧ Below w.heap.size w w' := by
  have H1 := Aside0.mk h1; have H3 := Aside0.mk h3; have H4 := Aside0.mk h4; have H5 := Aside0.mk h5
  clear h1 h3 h4 h5
  rcases heavy8_tells a b c h s l 2000 (by omega) with e0 | ⟨e0, p0⟩
  case inl =>
    have E0 := Aside0.mk e0; clear e0
    go_enter Tryz.func5, Tryz.ntmps5
    go_wp2_with fail
    obtain ⟨W, hW, HI⟩ := One.start w (.cells #[.int .i64 a, .int .i64 b, .int .i64 c, .slice A3 h.length c3, .slice A4 s.length c4, .slice A5 l.length c5] 26)
    rw [← hW]; clear hW
    have hk := fun i => blk_cell HI.out.2 i
    go_wp2_with fail
    refine (raddlelaw08_Heavy.calls 2000 a b c A3 c3 h A4 c4 s A5 c5 l true _ (Kd.C_below H3.out.1 HI.out.1) H3.out.2 (Kd.C_below H4.out.1 HI.out.1) H4.out.2 (Kd.C_below H5.out.1 HI.out.1) H5.out.2 E0.out).mono ?_
    rintro e w1 ⟨rfl, hb⟩
    (try clear hk); replace HI := Aside0.mk (HI.out.step (by first | exact hb | exact hb.below)); clear hb
    have hk := fun i => blk_cell HI.out.2 i
    go_wp2_with fail; go_ret; exact ⟨rfl, HI.out.1⟩
  have E0 := Aside0.mk e0; have P0 := Aside0.mk p0; obtain ⟨p01, p02, p03, -⟩ := p0; clear e0
  obtain ⟨kf, b1, E1⟩ := heavyForms_at f
  go_enter Tryz.func5, Tryz.ntmps5
  go_wp2_with fail
  obtain ⟨W, hW, HI⟩ := One.start w (.cells #[.int .i64 a, .int .i64 b, .int .i64 c, .slice A3 h.length c3, .slice A4 s.length c4, .slice A5 l.length c5] 26)
  rw [← hW]; clear hW
  have hk := fun i => blk_cell HI.out.2 i
  go_wp2_with fail
  refine (raddlelaw08_Heavy.calls 2000 a b c A3 c3 h A4 c4 s A5 c5 l false _ (Kd.C_below H3.out.1 HI.out.1) H3.out.2 (Kd.C_below H4.out.1 HI.out.1) H4.out.2 (Kd.C_below H5.out.1 HI.out.1) H5.out.2 E0.out).mono ?_
  rintro e w1 ⟨rfl, hb⟩
  (try clear hk); replace HI := Aside0.mk (HI.out.step (by first | exact hb | exact hb.below)); clear hb
  have hk := fun i => blk_cell HI.out.2 i
  go_wp2_with fail
  refine (raddlelaw07_HeavyForms.calls kf A1 c1 f b1 _ (Kd.C_below H1.out.1 HI.out.1) H1.out.2 E1.out.1).mono ?_
  rintro e w1 ⟨rfl, hb⟩
  (try clear hk); replace HI := Aside0.mk (HI.out.step (by first | exact hb | exact hb.below)); clear hb
  have hk := fun i => blk_cell HI.out.2 i
  cases b1 with
  | true =>
    go_wp2_with fail; go_ret; exact ⟨rfl, HI.out.1⟩
  | false =>
    obtain ⟨p1, -⟩ := E1.out.2 rfl
    have E2 := Aside0.mk (refForms_eq f 100 (by omega))
    go_wp2_with fail
    refine (raddleref01_Forms.calls 100 A1 c1 f (formsE f) _ (Kd.C_below H1.out.1 HI.out.1) H1.out.2 E2.out).mono ?_
    rintro e w1 ⟨rfl, hb⟩
    (try clear hk); replace HI := Aside0.mk (HI.out.step (by first | exact hb | exact hb.below)); clear hb
    have hk := fun i => blk_cell HI.out.2 i
    by_cases p2 : formsE f = 0
    case neg => (have g0 : (formsE f != 0) = true := bne_iff_ne.2 p2; clear p2; go_wp2_with fail; go_ret; exact ⟨rfl, HI.out.1⟩)
    have g0 : (formsE f != 0) = false := bne_eq_false_iff_eq.2 p2
    have P2 := Aside0.mk p2; clear p2
    by_cases q1 : n < 1
    case pos => (have g1 : decide (n < 1) = true := decide_eq_true q1; clear q1; go_wp2_with fail; go_ret; exact ⟨rfl, HI.out.1⟩)
    have g1 : decide (n < 1) = false := decide_eq_false q1
    by_cases q2 : 5 < n
    case pos => (have g2 : decide (5 < n) = true := decide_eq_true q2; clear q1 q2; go_wp2_with fail; go_ret; exact ⟨rfl, HI.out.1⟩)
    have g2 : decide (5 < n) = false := decide_eq_false q2
    have EM := Aside0.mk (refMsg_eq n (by omega) f a b c h s l (by omega) (by omega) (by omega) 4000 (by omega))
    go_wp2_with fail
    refine (raddleref01_Msg.calls 4000 n A1 c1 f a b c A3 c3 h A4 c4 s A5 c5 l (decide (msgP n f a b c h s l)) _ (Kd.C_below H1.out.1 HI.out.1) H1.out.2 (Kd.C_below H3.out.1 HI.out.1) H3.out.2 (Kd.C_below H4.out.1 HI.out.1) H4.out.2 (Kd.C_below H5.out.1 HI.out.1) H5.out.2 EM.out).mono ?_
    rintro e w1 ⟨rfl, hb⟩
    (try clear hk); replace HI := Aside0.mk (HI.out.step (by first | exact hb | exact hb.below)); clear hb
    have hk := fun i => blk_cell HI.out.2 i
    by_cases q3 : msgP n f a b c h s l
    case pos => exact absurd ⟨P0.out, trivial, P2.out, by omega, q3⟩ hno
    have g3 : decide (msgP n f a b c h s l) = false := decide_eq_false q3
    clear q1 q2 q3
    go_wp2_with fail; go_ret; exact ⟨rfl, HI.out.1⟩
set_option maxHeartbeats 4000000 in
set_option maxRecDepth 100000 in
theorem kinds_0 (n : Int) (A1 : Option Addr) (c1 : Nat) (f : List Tbl) (a b c : Int) (A3 : Option Addr) (c3 : Nat) (h : List Int) (A4 : Option Addr) (c4 : Nat) (s : List Int) (A5 : Option Addr) (c5 : Nat) (l : List Opr) (what : Int) (w : World) (h1 : Kd.C k56 w A1 f.length f ∧ f.length ≤ c1) (h3 : Kd.C (Kd.int .i64) w A3 h.length h ∧ h.length ≤ c3) (h4 : Kd.C (Kd.int .i64) w A4 s.length s ∧ s.length ≤ c4) (h5 : Kd.C k52 w A5 l.length l ∧ l.length ≤ c5) (e0 : raddlelaw08_Heavy.f 2000 a b c h s l = some false) (e1 : ∃ k, raddlelaw07_HeavyForms.f k f = some false) (e2 : formsE f = 0) (hn : 1 ≤ n ∧ n ≤ 5) (e3 : msgP n f a b c h s l) (hb3 : h.length ≤ 30) (hb4 : s.length ≤ 30) (hb5 : l.length ≤ 300) (hli : ∀ x ∈ l, light x) (hq : Int.tmod (IntKind.u64.wrap what) 5 = 0) (hx : ¬ msgP n f a n c h s l) :
    Calls Tryz.prog 5 #[.int .i64 n, .slice A1 f.length c1, .agg #[.int .i64 a, .int .i64 b, .int .i64 c, .slice A3 h.length c3, .slice A4 s.length c4, .slice A5 l.length c5], .int .i64 what] w fun e w' => e = .returned (.bool true) ∧ Below w.heap.size w w' := by
  have EX := Aside0.mk ((msgCheck_eq 100 (by omega) n f a n c h s l (by omega) (by omega)).trans (congrArg some (show checkE n f a n c h s l = 1 from by unfold checkE; rw [if_pos e2, if_neg (fun y => hx y.2)])))
  clear hx
  have r0 : (Int.tmod (IntKind.u64.wrap what) 5 == 0) = true := by rw [hq]; rfl
  clear hq
  have H1 := Aside0.mk h1; have H3 := Aside0.mk h3; have H4 := Aside0.mk h4; have H5 := Aside0.mk h5
  clear h1 h3 h4 h5
  obtain ⟨kf, e1⟩ := e1
  have E0 := Aside0.mk e0; have E1 := Aside0.mk e1
  have E2 := Aside0.mk ((refForms_eq f 100 (by omega)).trans (congrArg some e2))
  have EM := Aside0.mk ((refMsg_eq n hn f a b c h s l (by omega) (by omega) (by omega) 4000 (by omega)).trans (congrArg some (decide_eq_true e3)))
  have ET := Aside0.mk (twinMsg_eq a b c h s l hb3 hb4 hb5 hli 1000 (by omega))
  have EC := Aside0.mk ((msgCheck_eq 100 (by omega) n f a b c h s l (by omega) (by omega)).trans (congrArg some (show checkE n f a b c h s l = 0 from by unfold checkE; rw [if_pos e2, if_pos ⟨hn, e3⟩])))
  have g1 : decide (n < 1) = false := decide_eq_false (by omega)
  have g2 : decide (5 < n) = false := decide_eq_false (by omega)
  have EP := Aside0.mk (And.intro e2 (And.intro hn e3)); clear e0 e1 e2 hn e3
  go_enter Tryz.func5, Tryz.ntmps5
  go_wp2_with fail
  obtain ⟨W, hW, HI⟩ := One.start w (.cells #[.int .i64 a, .int .i64 b, .int .i64 c, .slice A3 h.length c3, .slice A4 s.length c4, .slice A5 l.length c5] 26)
  rw [← hW]; clear hW
  have hk := fun i => blk_cell HI.out.2 i
  go_wp2_with fail
  refine (raddlelaw08_Heavy.calls 2000 a b c A3 c3 h A4 c4 s A5 c5 l false _ (Kd.C_below H3.out.1 HI.out.1) H3.out.2 (Kd.C_below H4.out.1 HI.out.1) H4.out.2 (Kd.C_below H5.out.1 HI.out.1) H5.out.2 E0.out).mono ?_
  rintro e w1 ⟨rfl, hb⟩
  (try clear hk); replace HI := Aside0.mk (HI.out.step (by first | exact hb | exact hb.below)); clear hb
  have hk := fun i => blk_cell HI.out.2 i
  go_wp2_with fail
  refine (raddlelaw07_HeavyForms.calls kf A1 c1 f false _ (Kd.C_below H1.out.1 HI.out.1) H1.out.2 E1.out).mono ?_
  rintro e w1 ⟨rfl, hb⟩
  (try clear hk); replace HI := Aside0.mk (HI.out.step (by first | exact hb | exact hb.below)); clear hb
  have hk := fun i => blk_cell HI.out.2 i
  go_wp2_with fail
  refine (raddleref01_Forms.calls 100 A1 c1 f 0 _ (Kd.C_below H1.out.1 HI.out.1) H1.out.2 E2.out).mono ?_
  rintro e w1 ⟨rfl, hb⟩
  (try clear hk); replace HI := Aside0.mk (HI.out.step (by first | exact hb | exact hb.below)); clear hb
  have hk := fun i => blk_cell HI.out.2 i
  go_wp2_with fail
  refine (raddleref01_Msg.calls 4000 n A1 c1 f a b c A3 c3 h A4 c4 s A5 c5 l true _ (Kd.C_below H1.out.1 HI.out.1) H1.out.2 (Kd.C_below H3.out.1 HI.out.1) H3.out.2 (Kd.C_below H4.out.1 HI.out.1) H4.out.2 (Kd.C_below H5.out.1 HI.out.1) H5.out.2 EM.out).mono ?_
  rintro e w1 ⟨rfl, hb⟩
  (try clear hk); replace HI := Aside0.mk (HI.out.step (by first | exact hb | exact hb.below)); clear hb
  have hk := fun i => blk_cell HI.out.2 i
  go_wp2_with fail
  refine (raddlekeep_TwinMsg.calls 1000 a b c A3 c3 h A4 c4 s A5 c5 l a b c h s l _ (Kd.C_below H3.out.1 HI.out.1) H3.out.2 (Kd.C_below H4.out.1 HI.out.1) H4.out.2 (Kd.C_below H5.out.1 HI.out.1) H5.out.2 ET.out).mono ?_
  rintro e w1 ⟨v3, v4, v5, rfl, hR3, hR4, hS5, hb⟩
  (try clear hk); replace HI := Aside0.mk (HI.out.step (by first | exact hb | exact hb.below)); clear hb
  have hk := fun i => blk_cell HI.out.2 i
  obtain ⟨B3, d3, rfl, m3, q3⟩ := Kd.R_reads hR3
  obtain ⟨B4, d4, rfl, m4, q4⟩ := Kd.R_reads hR4
  obtain ⟨B5, d5, rfl, m5, q5⟩ := Kd.R_reads (Kd.S_R hS5)
  have Q3 := Aside0.mk (And.intro q3 m3); have Q4 := Aside0.mk (And.intro q4 m4); have Q5 := Aside0.mk (And.intro q5 m5); clear hR3 hR4 hS5 q3 m3 q4 m4 q5 m5
  have hA := fun (o : Obj) (i : Nat) => blk_cell (blk_alloc HI.out.2 o) i
  go_wp2_with fail
  have HJ := Aside0.mk (At2.start HI.out (.cells #[.int .i64 a, .int .i64 n, .int .i64 c, .slice B3 h.length d3, .slice B4 s.length d4, .slice B5 l.length d5] 26))
  refine (msg_Check.calls 100 n A1 c1 f a b c A3 c3 h A4 c4 s A5 c5 l 0 _ (Kd.C_below H1.out.1 HJ.out.1) H1.out.2 (Kd.C_below H3.out.1 HJ.out.1) H3.out.2 (Kd.C_below H4.out.1 HJ.out.1) H4.out.2 (Kd.C_below H5.out.1 HJ.out.1) H5.out.2 EC.out).mono ?_
  rintro e w2 ⟨rfl, hb⟩
  have HB2 := Aside0.mk hb; (try clear hA); (try clear hk); replace HJ := Aside0.mk (HJ.out.step hb); clear hb
  have hk := fun i => blk_cell HJ.out.2.1 i; have hl := fun i => blk_cell HJ.out.2.2 i
  go_wp2_with fail
  refine (msg_Check.calls 100 n A1 c1 f a n c B3 d3 h B4 d4 s B5 d5 l 1 _ (Kd.C_below H1.out.1 HJ.out.1) H1.out.2 (Kd.C_below (Kd.C_below Q3.out.1 (below_alloc (Below.refl _ w1) _)) HB2.out) Q3.out.2 (Kd.C_below (Kd.C_below Q4.out.1 (below_alloc (Below.refl _ w1) _)) HB2.out) Q4.out.2 (Kd.C_below (Kd.C_below Q5.out.1 (below_alloc (Below.refl _ w1) _)) HB2.out) Q5.out.2 EX.out).mono ?_
  rintro e w3 ⟨rfl, hb⟩
  clear hk hl; replace HJ := Aside0.mk (HJ.out.step hb); clear hb
  go_wp2_with fail
  refine (raddlelaw08_wakes.calls true _ rfl).mono ?_
  rintro e w4 ⟨rfl, hb⟩
  replace HJ := Aside0.mk (HJ.out.step hb); clear hb
  go_wp2
  go_ret
  exact ⟨rfl, HJ.out.1⟩
set_option maxHeartbeats 4000000 in
set_option maxRecDepth 100000 in
theorem kinds_1 (n : Int) (A1 : Option Addr) (c1 : Nat) (f : List Tbl) (a b c : Int) (A3 : Option Addr) (c3 : Nat) (h : List Int) (A4 : Option Addr) (c4 : Nat) (s : List Int) (A5 : Option Addr) (c5 : Nat) (l : List Opr) (what : Int) (w : World) (h1 : Kd.C k56 w A1 f.length f ∧ f.length ≤ c1) (h3 : Kd.C (Kd.int .i64) w A3 h.length h ∧ h.length ≤ c3) (h4 : Kd.C (Kd.int .i64) w A4 s.length s ∧ s.length ≤ c4) (h5 : Kd.C k52 w A5 l.length l ∧ l.length ≤ c5) (e0 : raddlelaw08_Heavy.f 2000 a b c h s l = some false) (e1 : ∃ k, raddlelaw07_HeavyForms.f k f = some false) (e2 : formsE f = 0) (hn : 1 ≤ n ∧ n ≤ 5) (e3 : msgP n f a b c h s l) (hb3 : h.length ≤ 30) (hb4 : s.length ≤ 30) (hb5 : l.length ≤ 300) (hli : ∀ x ∈ l, light x) (hq : Int.tmod (IntKind.u64.wrap what) 5 = 1) (hx : ¬ msgP n f a b b h s l) :
    Calls Tryz.prog 5 #[.int .i64 n, .slice A1 f.length c1, .agg #[.int .i64 a, .int .i64 b, .int .i64 c, .slice A3 h.length c3, .slice A4 s.length c4, .slice A5 l.length c5], .int .i64 what] w fun e w' => e = .returned (.bool true) ∧ Below w.heap.size w w' := by
  have EX := Aside0.mk ((msgCheck_eq 100 (by omega) n f a b b h s l (by omega) (by omega)).trans (congrArg some (show checkE n f a b b h s l = 1 from by unfold checkE; rw [if_pos e2, if_neg (fun y => hx y.2)])))
  clear hx
  have r0 : (Int.tmod (IntKind.u64.wrap what) 5 == 0) = false := by rw [hq]; rfl
  have r1 : (Int.tmod (IntKind.u64.wrap what) 5 == 1) = true := by rw [hq]; rfl
  clear hq
  have H1 := Aside0.mk h1; have H3 := Aside0.mk h3; have H4 := Aside0.mk h4; have H5 := Aside0.mk h5
  clear h1 h3 h4 h5
  obtain ⟨kf, e1⟩ := e1
  have E0 := Aside0.mk e0; have E1 := Aside0.mk e1
  have E2 := Aside0.mk ((refForms_eq f 100 (by omega)).trans (congrArg some e2))
  have EM := Aside0.mk ((refMsg_eq n hn f a b c h s l (by omega) (by omega) (by omega) 4000 (by omega)).trans (congrArg some (decide_eq_true e3)))
  have ET := Aside0.mk (twinMsg_eq a b c h s l hb3 hb4 hb5 hli 1000 (by omega))
  have EC := Aside0.mk ((msgCheck_eq 100 (by omega) n f a b c h s l (by omega) (by omega)).trans (congrArg some (show checkE n f a b c h s l = 0 from by unfold checkE; rw [if_pos e2, if_pos ⟨hn, e3⟩])))
  have g1 : decide (n < 1) = false := decide_eq_false (by omega)
  have g2 : decide (5 < n) = false := decide_eq_false (by omega)
  have EP := Aside0.mk (And.intro e2 (And.intro hn e3)); clear e0 e1 e2 hn e3
  go_enter Tryz.func5, Tryz.ntmps5
  go_wp2_with fail
  obtain ⟨W, hW, HI⟩ := One.start w (.cells #[.int .i64 a, .int .i64 b, .int .i64 c, .slice A3 h.length c3, .slice A4 s.length c4, .slice A5 l.length c5] 26)
  rw [← hW]; clear hW
  have hk := fun i => blk_cell HI.out.2 i
  go_wp2_with fail
  refine (raddlelaw08_Heavy.calls 2000 a b c A3 c3 h A4 c4 s A5 c5 l false _ (Kd.C_below H3.out.1 HI.out.1) H3.out.2 (Kd.C_below H4.out.1 HI.out.1) H4.out.2 (Kd.C_below H5.out.1 HI.out.1) H5.out.2 E0.out).mono ?_
  rintro e w1 ⟨rfl, hb⟩
  (try clear hk); replace HI := Aside0.mk (HI.out.step (by first | exact hb | exact hb.below)); clear hb
  have hk := fun i => blk_cell HI.out.2 i
  go_wp2_with fail
  refine (raddlelaw07_HeavyForms.calls kf A1 c1 f false _ (Kd.C_below H1.out.1 HI.out.1) H1.out.2 E1.out).mono ?_
  rintro e w1 ⟨rfl, hb⟩
  (try clear hk); replace HI := Aside0.mk (HI.out.step (by first | exact hb | exact hb.below)); clear hb
  have hk := fun i => blk_cell HI.out.2 i
  go_wp2_with fail
  refine (raddleref01_Forms.calls 100 A1 c1 f 0 _ (Kd.C_below H1.out.1 HI.out.1) H1.out.2 E2.out).mono ?_
  rintro e w1 ⟨rfl, hb⟩
  (try clear hk); replace HI := Aside0.mk (HI.out.step (by first | exact hb | exact hb.below)); clear hb
  have hk := fun i => blk_cell HI.out.2 i
  go_wp2_with fail
  refine (raddleref01_Msg.calls 4000 n A1 c1 f a b c A3 c3 h A4 c4 s A5 c5 l true _ (Kd.C_below H1.out.1 HI.out.1) H1.out.2 (Kd.C_below H3.out.1 HI.out.1) H3.out.2 (Kd.C_below H4.out.1 HI.out.1) H4.out.2 (Kd.C_below H5.out.1 HI.out.1) H5.out.2 EM.out).mono ?_
  rintro e w1 ⟨rfl, hb⟩
  (try clear hk); replace HI := Aside0.mk (HI.out.step (by first | exact hb | exact hb.below)); clear hb
  have hk := fun i => blk_cell HI.out.2 i
  go_wp2_with fail
  refine (raddlekeep_TwinMsg.calls 1000 a b c A3 c3 h A4 c4 s A5 c5 l a b c h s l _ (Kd.C_below H3.out.1 HI.out.1) H3.out.2 (Kd.C_below H4.out.1 HI.out.1) H4.out.2 (Kd.C_below H5.out.1 HI.out.1) H5.out.2 ET.out).mono ?_
  rintro e w1 ⟨v3, v4, v5, rfl, hR3, hR4, hS5, hb⟩
  (try clear hk); replace HI := Aside0.mk (HI.out.step (by first | exact hb | exact hb.below)); clear hb
  have hk := fun i => blk_cell HI.out.2 i
  obtain ⟨B3, d3, rfl, m3, q3⟩ := Kd.R_reads hR3
  obtain ⟨B4, d4, rfl, m4, q4⟩ := Kd.R_reads hR4
  obtain ⟨B5, d5, rfl, m5, q5⟩ := Kd.R_reads (Kd.S_R hS5)
  have Q3 := Aside0.mk (And.intro q3 m3); have Q4 := Aside0.mk (And.intro q4 m4); have Q5 := Aside0.mk (And.intro q5 m5); clear hR3 hR4 hS5 q3 m3 q4 m4 q5 m5
  have hA := fun (o : Obj) (i : Nat) => blk_cell (blk_alloc HI.out.2 o) i
  go_wp2_with fail
  have HJ := Aside0.mk (At2.start HI.out (.cells #[.int .i64 a, .int .i64 b, .int .i64 b, .slice B3 h.length d3, .slice B4 s.length d4, .slice B5 l.length d5] 26))
  refine (msg_Check.calls 100 n A1 c1 f a b c A3 c3 h A4 c4 s A5 c5 l 0 _ (Kd.C_below H1.out.1 HJ.out.1) H1.out.2 (Kd.C_below H3.out.1 HJ.out.1) H3.out.2 (Kd.C_below H4.out.1 HJ.out.1) H4.out.2 (Kd.C_below H5.out.1 HJ.out.1) H5.out.2 EC.out).mono ?_
  rintro e w2 ⟨rfl, hb⟩
  have HB2 := Aside0.mk hb; (try clear hA); (try clear hk); replace HJ := Aside0.mk (HJ.out.step hb); clear hb
  have hk := fun i => blk_cell HJ.out.2.1 i; have hl := fun i => blk_cell HJ.out.2.2 i
  go_wp2_with fail
  refine (msg_Check.calls 100 n A1 c1 f a b b B3 d3 h B4 d4 s B5 d5 l 1 _ (Kd.C_below H1.out.1 HJ.out.1) H1.out.2 (Kd.C_below (Kd.C_below Q3.out.1 (below_alloc (Below.refl _ w1) _)) HB2.out) Q3.out.2 (Kd.C_below (Kd.C_below Q4.out.1 (below_alloc (Below.refl _ w1) _)) HB2.out) Q4.out.2 (Kd.C_below (Kd.C_below Q5.out.1 (below_alloc (Below.refl _ w1) _)) HB2.out) Q5.out.2 EX.out).mono ?_
  rintro e w3 ⟨rfl, hb⟩
  clear hk hl; replace HJ := Aside0.mk (HJ.out.step hb); clear hb
  go_wp2_with fail
  refine (raddlelaw08_wakes.calls true _ rfl).mono ?_
  rintro e w4 ⟨rfl, hb⟩
  replace HJ := Aside0.mk (HJ.out.step hb); clear hb
  go_wp2
  go_ret
  exact ⟨rfl, HJ.out.1⟩
set_option maxHeartbeats 4000000 in
set_option maxRecDepth 100000 in
theorem kinds_2 (n : Int) (A1 : Option Addr) (c1 : Nat) (f : List Tbl) (a b c : Int) (A3 : Option Addr) (c3 : Nat) (h : List Int) (A4 : Option Addr) (c4 : Nat) (s : List Int) (A5 : Option Addr) (c5 : Nat) (l : List Opr) (what : Int) (w : World) (h1 : Kd.C k56 w A1 f.length f ∧ f.length ≤ c1) (h3 : Kd.C (Kd.int .i64) w A3 h.length h ∧ h.length ≤ c3) (h4 : Kd.C (Kd.int .i64) w A4 s.length s ∧ s.length ≤ c4) (h5 : Kd.C k52 w A5 l.length l ∧ l.length ≤ c5) (e0 : raddlelaw08_Heavy.f 2000 a b c h s l = some false) (e1 : ∃ k, raddlelaw07_HeavyForms.f k f = some false) (e2 : formsE f = 0) (hn : 1 ≤ n ∧ n ≤ 5) (e3 : msgP n f a b c h s l) (hb3 : h.length ≤ 30) (hb4 : s.length ≤ 30) (hb5 : l.length ≤ 300) (hli : ∀ x ∈ l, light x) (hq : Int.tmod (IntKind.u64.wrap what) 5 = 2) (hx : ¬ msgP n f 0 b c h s l) :
    Calls Tryz.prog 5 #[.int .i64 n, .slice A1 f.length c1, .agg #[.int .i64 a, .int .i64 b, .int .i64 c, .slice A3 h.length c3, .slice A4 s.length c4, .slice A5 l.length c5], .int .i64 what] w fun e w' => e = .returned (.bool true) ∧ Below w.heap.size w w' := by
  have EX := Aside0.mk ((msgCheck_eq 100 (by omega) n f 0 b c h s l (by omega) (by omega)).trans (congrArg some (show checkE n f 0 b c h s l = 1 from by unfold checkE; rw [if_pos e2, if_neg (fun y => hx y.2)])))
  clear hx
  have r0 : (Int.tmod (IntKind.u64.wrap what) 5 == 0) = false := by rw [hq]; rfl
  have r1 : (Int.tmod (IntKind.u64.wrap what) 5 == 1) = false := by rw [hq]; rfl
  have r2 : (Int.tmod (IntKind.u64.wrap what) 5 == 2) = true := by rw [hq]; rfl
  clear hq
  have H1 := Aside0.mk h1; have H3 := Aside0.mk h3; have H4 := Aside0.mk h4; have H5 := Aside0.mk h5
  clear h1 h3 h4 h5
  obtain ⟨kf, e1⟩ := e1
  have E0 := Aside0.mk e0; have E1 := Aside0.mk e1
  have E2 := Aside0.mk ((refForms_eq f 100 (by omega)).trans (congrArg some e2))
  have EM := Aside0.mk ((refMsg_eq n hn f a b c h s l (by omega) (by omega) (by omega) 4000 (by omega)).trans (congrArg some (decide_eq_true e3)))
  have ET := Aside0.mk (twinMsg_eq a b c h s l hb3 hb4 hb5 hli 1000 (by omega))
  have EC := Aside0.mk ((msgCheck_eq 100 (by omega) n f a b c h s l (by omega) (by omega)).trans (congrArg some (show checkE n f a b c h s l = 0 from by unfold checkE; rw [if_pos e2, if_pos ⟨hn, e3⟩])))
  have g1 : decide (n < 1) = false := decide_eq_false (by omega)
  have g2 : decide (5 < n) = false := decide_eq_false (by omega)
  have EP := Aside0.mk (And.intro e2 (And.intro hn e3)); clear e0 e1 e2 hn e3
  go_enter Tryz.func5, Tryz.ntmps5
  go_wp2_with fail
  obtain ⟨W, hW, HI⟩ := One.start w (.cells #[.int .i64 a, .int .i64 b, .int .i64 c, .slice A3 h.length c3, .slice A4 s.length c4, .slice A5 l.length c5] 26)
  rw [← hW]; clear hW
  have hk := fun i => blk_cell HI.out.2 i
  go_wp2_with fail
  refine (raddlelaw08_Heavy.calls 2000 a b c A3 c3 h A4 c4 s A5 c5 l false _ (Kd.C_below H3.out.1 HI.out.1) H3.out.2 (Kd.C_below H4.out.1 HI.out.1) H4.out.2 (Kd.C_below H5.out.1 HI.out.1) H5.out.2 E0.out).mono ?_
  rintro e w1 ⟨rfl, hb⟩
  (try clear hk); replace HI := Aside0.mk (HI.out.step (by first | exact hb | exact hb.below)); clear hb
  have hk := fun i => blk_cell HI.out.2 i
  go_wp2_with fail
  refine (raddlelaw07_HeavyForms.calls kf A1 c1 f false _ (Kd.C_below H1.out.1 HI.out.1) H1.out.2 E1.out).mono ?_
  rintro e w1 ⟨rfl, hb⟩
  (try clear hk); replace HI := Aside0.mk (HI.out.step (by first | exact hb | exact hb.below)); clear hb
  have hk := fun i => blk_cell HI.out.2 i
  go_wp2_with fail
  refine (raddleref01_Forms.calls 100 A1 c1 f 0 _ (Kd.C_below H1.out.1 HI.out.1) H1.out.2 E2.out).mono ?_
  rintro e w1 ⟨rfl, hb⟩
  (try clear hk); replace HI := Aside0.mk (HI.out.step (by first | exact hb | exact hb.below)); clear hb
  have hk := fun i => blk_cell HI.out.2 i
  go_wp2_with fail
  refine (raddleref01_Msg.calls 4000 n A1 c1 f a b c A3 c3 h A4 c4 s A5 c5 l true _ (Kd.C_below H1.out.1 HI.out.1) H1.out.2 (Kd.C_below H3.out.1 HI.out.1) H3.out.2 (Kd.C_below H4.out.1 HI.out.1) H4.out.2 (Kd.C_below H5.out.1 HI.out.1) H5.out.2 EM.out).mono ?_
  rintro e w1 ⟨rfl, hb⟩
  (try clear hk); replace HI := Aside0.mk (HI.out.step (by first | exact hb | exact hb.below)); clear hb
  have hk := fun i => blk_cell HI.out.2 i
  go_wp2_with fail
  refine (raddlekeep_TwinMsg.calls 1000 a b c A3 c3 h A4 c4 s A5 c5 l a b c h s l _ (Kd.C_below H3.out.1 HI.out.1) H3.out.2 (Kd.C_below H4.out.1 HI.out.1) H4.out.2 (Kd.C_below H5.out.1 HI.out.1) H5.out.2 ET.out).mono ?_
  rintro e w1 ⟨v3, v4, v5, rfl, hR3, hR4, hS5, hb⟩
  (try clear hk); replace HI := Aside0.mk (HI.out.step (by first | exact hb | exact hb.below)); clear hb
  have hk := fun i => blk_cell HI.out.2 i
  obtain ⟨B3, d3, rfl, m3, q3⟩ := Kd.R_reads hR3
  obtain ⟨B4, d4, rfl, m4, q4⟩ := Kd.R_reads hR4
  obtain ⟨B5, d5, rfl, m5, q5⟩ := Kd.R_reads (Kd.S_R hS5)
  have Q3 := Aside0.mk (And.intro q3 m3); have Q4 := Aside0.mk (And.intro q4 m4); have Q5 := Aside0.mk (And.intro q5 m5); clear hR3 hR4 hS5 q3 m3 q4 m4 q5 m5
  have hA := fun (o : Obj) (i : Nat) => blk_cell (blk_alloc HI.out.2 o) i
  go_wp2_with fail
  have HJ := Aside0.mk (At2.start HI.out (.cells #[.int .i64 0, .int .i64 b, .int .i64 c, .slice B3 h.length d3, .slice B4 s.length d4, .slice B5 l.length d5] 26))
  refine (msg_Check.calls 100 n A1 c1 f a b c A3 c3 h A4 c4 s A5 c5 l 0 _ (Kd.C_below H1.out.1 HJ.out.1) H1.out.2 (Kd.C_below H3.out.1 HJ.out.1) H3.out.2 (Kd.C_below H4.out.1 HJ.out.1) H4.out.2 (Kd.C_below H5.out.1 HJ.out.1) H5.out.2 EC.out).mono ?_
  rintro e w2 ⟨rfl, hb⟩
  have HB2 := Aside0.mk hb; (try clear hA); (try clear hk); replace HJ := Aside0.mk (HJ.out.step hb); clear hb
  have hk := fun i => blk_cell HJ.out.2.1 i; have hl := fun i => blk_cell HJ.out.2.2 i
  go_wp2_with fail
  refine (msg_Check.calls 100 n A1 c1 f 0 b c B3 d3 h B4 d4 s B5 d5 l 1 _ (Kd.C_below H1.out.1 HJ.out.1) H1.out.2 (Kd.C_below (Kd.C_below Q3.out.1 (below_alloc (Below.refl _ w1) _)) HB2.out) Q3.out.2 (Kd.C_below (Kd.C_below Q4.out.1 (below_alloc (Below.refl _ w1) _)) HB2.out) Q4.out.2 (Kd.C_below (Kd.C_below Q5.out.1 (below_alloc (Below.refl _ w1) _)) HB2.out) Q5.out.2 EX.out).mono ?_
  rintro e w3 ⟨rfl, hb⟩
  clear hk hl; replace HJ := Aside0.mk (HJ.out.step hb); clear hb
  go_wp2_with fail
  refine (raddlelaw08_wakes.calls true _ rfl).mono ?_
  rintro e w4 ⟨rfl, hb⟩
  replace HJ := Aside0.mk (HJ.out.step hb); clear hb
  go_wp2
  go_ret
  exact ⟨rfl, HJ.out.1⟩
set_option maxHeartbeats 4000000 in
set_option maxRecDepth 100000 in
theorem kinds_heavy (n : Int) (A1 : Option Addr) (c1 : Nat) (f : List Tbl) (a b c : Int) (A3 : Option Addr) (c3 : Nat) (h : List Int) (A4 : Option Addr) (c4 : Nat) (s : List Int) (A5 : Option Addr) (c5 : Nat) (l : List Opr) (what : Int) (w : World) (h1 : Kd.C k56 w A1 f.length f ∧ f.length ≤ c1) (h3 : Kd.C (Kd.int .i64) w A3 h.length h ∧ h.length ≤ c3) (h4 : Kd.C (Kd.int .i64) w A4 s.length s ∧ s.length ≤ c4) (h5 : Kd.C k52 w A5 l.length l ∧ l.length ≤ c5) (e0 : raddlelaw08_Heavy.f 2000 a b c h s l = some true) :
    Calls Tryz.prog 5 #[.int .i64 n, .slice A1 f.length c1, .agg #[.int .i64 a, .int .i64 b, .int .i64 c, .slice A3 h.length c3, .slice A4 s.length c4, .slice A5 l.length c5], .int .i64 what] w fun e w' => e = .returned (.bool true) ∧ Below w.heap.size w w' := by
  have H1 := Aside0.mk h1; have H3 := Aside0.mk h3; have H4 := Aside0.mk h4; have H5 := Aside0.mk h5
  clear h1 h3 h4 h5
  have E0 := Aside0.mk e0; clear e0
  go_enter Tryz.func5, Tryz.ntmps5
  go_wp2_with fail
  obtain ⟨W, hW, HI⟩ := One.start w (.cells #[.int .i64 a, .int .i64 b, .int .i64 c, .slice A3 h.length c3, .slice A4 s.length c4, .slice A5 l.length c5] 26)
  rw [← hW]; clear hW
  have hk := fun i => blk_cell HI.out.2 i
  go_wp2_with fail
  refine (raddlelaw08_Heavy.calls 2000 a b c A3 c3 h A4 c4 s A5 c5 l true _ (Kd.C_below H3.out.1 HI.out.1) H3.out.2 (Kd.C_below H4.out.1 HI.out.1) H4.out.2 (Kd.C_below H5.out.1 HI.out.1) H5.out.2 E0.out).mono ?_
  rintro e w1 ⟨rfl, hb⟩
  (try clear hk); replace HI := Aside0.mk (HI.out.step (by first | exact hb | exact hb.below)); clear hb
  have hk := fun i => blk_cell HI.out.2 i
  go_wp2_with fail; go_ret; exact ⟨rfl, HI.out.1⟩
set_option maxHeartbeats 4000000 in
set_option maxRecDepth 100000 in
theorem kinds_hforms (n : Int) (A1 : Option Addr) (c1 : Nat) (f : List Tbl) (a b c : Int) (A3 : Option Addr) (c3 : Nat) (h : List Int) (A4 : Option Addr) (c4 : Nat) (s : List Int) (A5 : Option Addr) (c5 : Nat) (l : List Opr) (what : Int) (w : World) (h1 : Kd.C k56 w A1 f.length f ∧ f.length ≤ c1) (h3 : Kd.C (Kd.int .i64) w A3 h.length h ∧ h.length ≤ c3) (h4 : Kd.C (Kd.int .i64) w A4 s.length s ∧ s.length ≤ c4) (h5 : Kd.C k52 w A5 l.length l ∧ l.length ≤ c5) (e0 : raddlelaw08_Heavy.f 2000 a b c h s l = some false) (k : Nat) (e1 : raddlelaw07_HeavyForms.f k f = some true) :
    Calls Tryz.prog 5 #[.int .i64 n, .slice A1 f.length c1, .agg #[.int .i64 a, .int .i64 b, .int .i64 c, .slice A3 h.length c3, .slice A4 s.length c4, .slice A5 l.length c5], .int .i64 what] w fun e w' => e = .returned (.bool true) ∧ Below w.heap.size w w' := by
  have H1 := Aside0.mk h1; have H3 := Aside0.mk h3; have H4 := Aside0.mk h4; have H5 := Aside0.mk h5
  clear h1 h3 h4 h5
  have E0 := Aside0.mk e0; have E1 := Aside0.mk e1; clear e0 e1
  go_enter Tryz.func5, Tryz.ntmps5
  go_wp2_with fail
  obtain ⟨W, hW, HI⟩ := One.start w (.cells #[.int .i64 a, .int .i64 b, .int .i64 c, .slice A3 h.length c3, .slice A4 s.length c4, .slice A5 l.length c5] 26)
  rw [← hW]; clear hW
  have hk := fun i => blk_cell HI.out.2 i
  go_wp2_with fail
  refine (raddlelaw08_Heavy.calls 2000 a b c A3 c3 h A4 c4 s A5 c5 l false _ (Kd.C_below H3.out.1 HI.out.1) H3.out.2 (Kd.C_below H4.out.1 HI.out.1) H4.out.2 (Kd.C_below H5.out.1 HI.out.1) H5.out.2 E0.out).mono ?_
  rintro e w1 ⟨rfl, hb⟩
  (try clear hk); replace HI := Aside0.mk (HI.out.step (by first | exact hb | exact hb.below)); clear hb
  have hk := fun i => blk_cell HI.out.2 i
  go_wp2_with fail
  refine (raddlelaw07_HeavyForms.calls k A1 c1 f true _ (Kd.C_below H1.out.1 HI.out.1) H1.out.2 E1.out).mono ?_
  rintro e w1 ⟨rfl, hb⟩
  (try clear hk); replace HI := Aside0.mk (HI.out.step (by first | exact hb | exact hb.below)); clear hb
  have hk := fun i => blk_cell HI.out.2 i
  go_wp2_with fail; go_ret; exact ⟨rfl, HI.out.1⟩
set_option maxHeartbeats 4000000 in
set_option maxRecDepth 100000 in
theorem kinds_3 (n : Int) (A1 : Option Addr) (c1 : Nat) (f : List Tbl) (a b c : Int) (A3 : Option Addr) (c3 : Nat) (h : List Int) (A4 : Option Addr) (c4 : Nat) (s : List Int) (A5 : Option Addr) (c5 : Nat) (l : List Opr) (what : Int) (w : World) (h1 : Kd.C k56 w A1 f.length f ∧ f.length ≤ c1) (h3 : Kd.C (Kd.int .i64) w A3 h.length h ∧ h.length ≤ c3) (h4 : Kd.C (Kd.int .i64) w A4 s.length s ∧ s.length ≤ c4) (h5 : Kd.C k52 w A5 l.length l ∧ l.length ≤ c5) (e0 : raddlelaw08_Heavy.f 2000 a b c h s l = some false) (e1 : ∃ k, raddlelaw07_HeavyForms.f k f = some false) (e2 : formsE f = 0) (hn : 1 ≤ n ∧ n ≤ 5) (e3 : msgP n f a b c h s l) (hb3 : h.length ≤ 30) (hb4 : s.length ≤ 30) (hb5 : l.length ≤ 300) (hli : ∀ x ∈ l, light x) (hq : Int.tmod (IntKind.u64.wrap what) 5 = 3) (hx : ¬ msgP n f a b c (h ++ [0]) s l) :
    Calls Tryz.prog 5 #[.int .i64 n, .slice A1 f.length c1, .agg #[.int .i64 a, .int .i64 b, .int .i64 c, .slice A3 h.length c3, .slice A4 s.length c4, .slice A5 l.length c5], .int .i64 what] w fun e w' => e = .returned (.bool true) ∧ Below w.heap.size w w' := by
  have EX := Aside0.mk ((msgCheck_eq 100 (by omega) n f a b c (h ++ [0]) s l (by rw [List.length_append, List.length_singleton]; omega) (by omega)).trans (congrArg some (show checkE n f a b c (h ++ [0]) s l = 1 from by unfold checkE; rw [if_pos e2, if_neg (fun y => hx y.2)])))
  obtain ⟨h', hh⟩ : ∃ h', h' = h ++ [0] := ⟨_, rfl⟩
  rw [← hh] at EX
  have HH := Aside0.mk hh
  clear hx hh
  have info3 : (Tryz.prog.info? 3).map (fun i => (i.zero, i.size, i.bytes)) = some (some (.int .i64 0), 1, 8) := by kernel_rfl
  have r0 : (Int.tmod (IntKind.u64.wrap what) 5 == 0) = false := by rw [hq]; rfl
  have r1 : (Int.tmod (IntKind.u64.wrap what) 5 == 1) = false := by rw [hq]; rfl
  have r2 : (Int.tmod (IntKind.u64.wrap what) 5 == 2) = false := by rw [hq]; rfl
  have r3 : (Int.tmod (IntKind.u64.wrap what) 5 == 3) = true := by rw [hq]; rfl
  clear hq
  have H1 := Aside0.mk h1; have H3 := Aside0.mk h3; have H4 := Aside0.mk h4; have H5 := Aside0.mk h5
  clear h1 h3 h4 h5
  obtain ⟨kf, e1⟩ := e1
  have E0 := Aside0.mk e0; have E1 := Aside0.mk e1
  have E2 := Aside0.mk ((refForms_eq f 100 (by omega)).trans (congrArg some e2))
  have EM := Aside0.mk ((refMsg_eq n hn f a b c h s l (by omega) (by omega) (by omega) 4000 (by omega)).trans (congrArg some (decide_eq_true e3)))
  have ET := Aside0.mk (twinMsg_eq a b c h s l hb3 hb4 hb5 hli 1000 (by omega))
  have EC := Aside0.mk ((msgCheck_eq 100 (by omega) n f a b c h s l (by omega) (by omega)).trans (congrArg some (show checkE n f a b c h s l = 0 from by unfold checkE; rw [if_pos e2, if_pos ⟨hn, e3⟩])))
  have g1 : decide (n < 1) = false := decide_eq_false (by omega)
  have g2 : decide (5 < n) = false := decide_eq_false (by omega)
  have EP := Aside0.mk (And.intro e2 (And.intro hn e3)); clear e0 e1 e2 hn e3
  go_enter Tryz.func5, Tryz.ntmps5
  go_wp2_with fail
  obtain ⟨W, hW, HI⟩ := One.start w (.cells #[.int .i64 a, .int .i64 b, .int .i64 c, .slice A3 h.length c3, .slice A4 s.length c4, .slice A5 l.length c5] 26)
  rw [← hW]; clear hW
  have hk := fun i => blk_cell HI.out.2 i
  go_wp2_with fail
  refine (raddlelaw08_Heavy.calls 2000 a b c A3 c3 h A4 c4 s A5 c5 l false _ (Kd.C_below H3.out.1 HI.out.1) H3.out.2 (Kd.C_below H4.out.1 HI.out.1) H4.out.2 (Kd.C_below H5.out.1 HI.out.1) H5.out.2 E0.out).mono ?_
  rintro e w1 ⟨rfl, hb⟩
  (try clear hk); replace HI := Aside0.mk (HI.out.step (by first | exact hb | exact hb.below)); clear hb
  have hk := fun i => blk_cell HI.out.2 i
  go_wp2_with fail
  refine (raddlelaw07_HeavyForms.calls kf A1 c1 f false _ (Kd.C_below H1.out.1 HI.out.1) H1.out.2 E1.out).mono ?_
  rintro e w1 ⟨rfl, hb⟩
  (try clear hk); replace HI := Aside0.mk (HI.out.step (by first | exact hb | exact hb.below)); clear hb
  have hk := fun i => blk_cell HI.out.2 i
  go_wp2_with fail
  refine (raddleref01_Forms.calls 100 A1 c1 f 0 _ (Kd.C_below H1.out.1 HI.out.1) H1.out.2 E2.out).mono ?_
  rintro e w1 ⟨rfl, hb⟩
  (try clear hk); replace HI := Aside0.mk (HI.out.step (by first | exact hb | exact hb.below)); clear hb
  have hk := fun i => blk_cell HI.out.2 i
  go_wp2_with fail
  refine (raddleref01_Msg.calls 4000 n A1 c1 f a b c A3 c3 h A4 c4 s A5 c5 l true _ (Kd.C_below H1.out.1 HI.out.1) H1.out.2 (Kd.C_below H3.out.1 HI.out.1) H3.out.2 (Kd.C_below H4.out.1 HI.out.1) H4.out.2 (Kd.C_below H5.out.1 HI.out.1) H5.out.2 EM.out).mono ?_
  rintro e w1 ⟨rfl, hb⟩
  (try clear hk); replace HI := Aside0.mk (HI.out.step (by first | exact hb | exact hb.below)); clear hb
  have hk := fun i => blk_cell HI.out.2 i
  go_wp2_with fail
  refine (raddlekeep_TwinMsg.calls 1000 a b c A3 c3 h A4 c4 s A5 c5 l a b c h s l _ (Kd.C_below H3.out.1 HI.out.1) H3.out.2 (Kd.C_below H4.out.1 HI.out.1) H4.out.2 (Kd.C_below H5.out.1 HI.out.1) H5.out.2 ET.out).mono ?_
  rintro e w1 ⟨v3, v4, v5, rfl, hR3, hR4, hS5, hb⟩
  have hs := below_size HI.out.1; (try clear hk); replace HI := Aside0.mk (HI.out.step (by first | exact hb | exact hb.below)); clear hb
  have hk := fun i => blk_cell HI.out.2 i
  have R3 := Aside0.mk (Kd.R_mono (Kd.R_lower hR3 hs) (fun _ _ => trivial) : Kd.R (Kd.int .i64) 3 w1 w.heap.size (fun _ => True) v3 h)
  have R4 := Aside0.mk hR4; have S5 := Aside0.mk hS5; clear hR3 hR4 hS5
  obtain ⟨B3, d3, eq3⟩ := Kd.R_slice R3.out; subst eq3
  obtain ⟨B4, d4, eq4⟩ := Kd.R_slice R4.out; subst eq4
  obtain ⟨B5, d5, eq5⟩ := Kd.R_slice (Kd.S_R S5.out); subst eq5
  have hA := fun (o : Obj) (i : Nat) => blk_cell (blk_alloc HI.out.2 o) i
  have hcA := fun (o o' : Obj) (i : Nat) => blk_cell (blk_alloc (blk_alloc HI.out.2 o) o') i
  go_wp2_with (first | (at_builtin; go_loud (refine Kd.R_append (Kd.int .i64) (w0 := w) w.heap.size rfl (.tmp 76) (.tmp 77) 23 3 (.int .i64 0) 8 rfl Tryz.underlying23 info3 rfl (by decide) (by omega) (.slice B3 h.length d3) h 0 [.int .i64 0] (fun _ => True) (fun _ => False) rfl (by first | (go_simp; done) | (go_simp; rfl)) rfl (fun _ hk => hk.elim) (fun _ _ => trivial) (Kd.R_alloc R3.out _) (below_alloc HI.out.1 _) (Nat.le_trans (below_size HI.out.1) (by rw [World.size_alloc]; omega)) (by omega) ?_); intro v2 w2 ho hb hg hat; have BM := Aside0.mk (blk_grown (blk_alloc HI.out.2 _) hg (Kd.R_ne R3.out HI.out.2 (by decide))); have BX := Aside0.mk (blk_grown (g := w1.heap.size) (heap_alloc_new w1 _) hg (fun e => absurd (Kd.R_lt R3.out _ e.symm) (Nat.lt_irrefl _))); have T4 := Aside0.mk (Kd.R_grown (Kd.R_alloc R4.out _) hg (fun _ hk => hk)); have T5 := Aside0.mk (Kd.S_grown (Kd.S_alloc S5.out _) hg (fun _ hk => hk.1)); rw [← HH.out] at ho; obtain ⟨E3, e3, eq3⟩ := Kd.R_slice ho; subst eq3; have HB := Aside0.mk hb; have HO := Aside0.mk ho; clear hb ho hg hat; have hA3 := fun (v : Value) (i : Nat) => blk_cell (blk_far BM.out (p := ⟨w1.heap.size, 3, none⟩) (Nat.ne_of_lt (blk_lt HI.out.2)) v) i; have hcx := fun i => blk_cell BX.out i; have hfx := fun i => blk_frozen BX.out i))
  clear hA hcx hfx hA3
  have HJ := Aside0.mk (show At2 w w.heap.size (.cells #[.int .i64 a, .int .i64 b, .int .i64 c, .slice A3 h.length c3, .slice A4 s.length c4, .slice A5 l.length c5] 26) w1.heap.size (.cells #[.int .i64 a, .int .i64 b, .int .i64 c, .slice E3 h'.length e3, .slice B4 s.length d4, .slice B5 l.length d5] 26) _ from ⟨below_set HB.out (below_size HI.out.1), blk_far BM.out (p := ⟨w1.heap.size, 3, none⟩) (Nat.ne_of_lt (blk_lt HI.out.2)) (.slice E3 h'.length e3), blk_put BX.out 3 (.slice E3 h'.length e3) rfl⟩)
  have U3 := Kd.R_reads' (Kd.R_set HO.out BX.out (by decide) 3 (.slice E3 h'.length e3))
  have U4 := Kd.R_reads' (Kd.R_set T4.out BX.out (by decide) 3 (.slice E3 h'.length e3))
  have U5 := Kd.R_reads' (Kd.R_set (Kd.S_R T5.out) BX.out (by decide) 3 (.slice E3 h'.length e3))
  have Q3 := Aside0.mk U3.2; have Q4 := Aside0.mk U4.2; have Q5 := Aside0.mk U5.2; clear U3 U4 U5
  refine (msg_Check.calls 100 n A1 c1 f a b c A3 c3 h A4 c4 s A5 c5 l 0 _ (Kd.C_below H1.out.1 HJ.out.1) H1.out.2 (Kd.C_below H3.out.1 HJ.out.1) H3.out.2 (Kd.C_below H4.out.1 HJ.out.1) H4.out.2 (Kd.C_below H5.out.1 HJ.out.1) H5.out.2 EC.out).mono ?_
  rintro e w2 ⟨rfl, hb⟩
  have HB2 := Aside0.mk hb; (try clear hA); (try clear hk); replace HJ := Aside0.mk (HJ.out.step hb); clear hb
  have hk := fun i => blk_cell HJ.out.2.1 i; have hl := fun i => blk_cell HJ.out.2.2 i
  go_wp2_with fail
  refine (msg_Check.calls 100 n A1 c1 f a b c E3 e3 h' B4 d4 s B5 d5 l 1 _ (Kd.C_below H1.out.1 HJ.out.1) H1.out.2 (Kd.C_below Q3.out.2 HB2.out) Q3.out.1 (Kd.C_below Q4.out.2 HB2.out) Q4.out.1 (Kd.C_below Q5.out.2 HB2.out) Q5.out.1 EX.out).mono ?_
  rintro e w3 ⟨rfl, hb⟩
  clear hk hl; replace HJ := Aside0.mk (HJ.out.step hb); clear hb
  go_wp2_with fail
  refine (raddlelaw08_wakes.calls true _ rfl).mono ?_
  rintro e w4 ⟨rfl, hb⟩
  replace HJ := Aside0.mk (HJ.out.step hb); clear hb
  go_wp2
  go_ret
  exact ⟨rfl, HJ.out.1⟩
set_option maxHeartbeats 4000000 in
set_option maxRecDepth 100000 in
theorem kinds_4b (n : Int) (A1 : Option Addr) (c1 : Nat) (f : List Tbl) (a b c : Int) (A3 : Option Addr) (c3 : Nat) (h : List Int) (A4 : Option Addr) (c4 : Nat) (s : List Int) (A5 : Option Addr) (c5 : Nat) (l : List Opr) (what : Int) (w : World) (h1 : Kd.C k56 w A1 f.length f ∧ f.length ≤ c1) (h3 : Kd.C (Kd.int .i64) w A3 h.length h ∧ h.length ≤ c3) (h4 : Kd.C (Kd.int .i64) w A4 s.length s ∧ s.length ≤ c4) (h5 : Kd.C k52 w A5 l.length l ∧ l.length ≤ c5) (e0 : raddlelaw08_Heavy.f 2000 a b c h s l = some false) (e1 : ∃ k, raddlelaw07_HeavyForms.f k f = some false) (e2 : formsE f = 0) (hn : 1 ≤ n ∧ n ≤ 5) (e3 : msgP n f a b c h s l) (hb3 : h.length ≤ 30) (hb4 : s.length ≤ 30) (hb5 : l.length ≤ 300) (hli : ∀ x ∈ l, light x) (hq : Int.tmod (IntKind.u64.wrap what) 5 = 4) (ha : a ≠ 1) (s' : List Int) (hs' : s' = s.set 0 (rd h 0 + 1)) (hx : ¬ msgP n f a b c h s' l) :
    Calls Tryz.prog 5 #[.int .i64 n, .slice A1 f.length c1, .agg #[.int .i64 a, .int .i64 b, .int .i64 c, .slice A3 h.length c3, .slice A4 s.length c4, .slice A5 l.length c5], .int .i64 what] w fun e w' => e = .returned (.bool true) ∧ Below w.heap.size w w' := by
  have EX := Aside0.mk ((msgCheck_eq 100 (by omega) n f a b c h s' l (by omega) (by rw [hs', List.length_set]; omega)).trans (congrArg some (show checkE n f a b c h s' l = 1 from by unfold checkE; rw [if_pos e2, if_neg (fun y => hx y.2)])))
  clear hx
  have el : s.length = s'.length := by rw [hs', List.length_set]
  have HS := Aside0.mk (And.intro hs' el); clear hs' el
  obtain ⟨hp3, hp4, hr1, hr2⟩ := two_bounds n f a b c h s l hn.1 ha e3
  have r4 : (a == 1) = false := beq_eq_false_iff_ne.2 ha
  clear ha
  have r0 : (Int.tmod (IntKind.u64.wrap what) 5 == 0) = false := by rw [hq]; rfl
  have r1 : (Int.tmod (IntKind.u64.wrap what) 5 == 1) = false := by rw [hq]; rfl
  have r2 : (Int.tmod (IntKind.u64.wrap what) 5 == 2) = false := by rw [hq]; rfl
  have r3 : (Int.tmod (IntKind.u64.wrap what) 5 == 3) = false := by rw [hq]; rfl
  clear hq
  have H1 := Aside0.mk h1; have H3 := Aside0.mk h3; have H4 := Aside0.mk h4; have H5 := Aside0.mk h5
  clear h1 h3 h4 h5
  obtain ⟨kf, e1⟩ := e1
  have E0 := Aside0.mk e0; have E1 := Aside0.mk e1
  have E2 := Aside0.mk ((refForms_eq f 100 (by omega)).trans (congrArg some e2))
  have EM := Aside0.mk ((refMsg_eq n hn f a b c h s l (by omega) (by omega) (by omega) 4000 (by omega)).trans (congrArg some (decide_eq_true e3)))
  have ET := Aside0.mk (twinMsg_eq a b c h s l hb3 hb4 hb5 hli 1000 (by omega))
  have EC := Aside0.mk ((msgCheck_eq 100 (by omega) n f a b c h s l (by omega) (by omega)).trans (congrArg some (show checkE n f a b c h s l = 0 from by unfold checkE; rw [if_pos e2, if_pos ⟨hn, e3⟩])))
  have g1 : decide (n < 1) = false := decide_eq_false (by omega)
  have g2 : decide (5 < n) = false := decide_eq_false (by omega)
  have EP := Aside0.mk (And.intro e2 (And.intro hn e3)); clear e0 e1 e2 hn e3
  go_enter Tryz.func5, Tryz.ntmps5
  go_wp2_with fail
  obtain ⟨W, hW, HI⟩ := One.start w (.cells #[.int .i64 a, .int .i64 b, .int .i64 c, .slice A3 h.length c3, .slice A4 s.length c4, .slice A5 l.length c5] 26)
  rw [← hW]; clear hW
  have hk := fun i => blk_cell HI.out.2 i
  go_wp2_with fail
  refine (raddlelaw08_Heavy.calls 2000 a b c A3 c3 h A4 c4 s A5 c5 l false _ (Kd.C_below H3.out.1 HI.out.1) H3.out.2 (Kd.C_below H4.out.1 HI.out.1) H4.out.2 (Kd.C_below H5.out.1 HI.out.1) H5.out.2 E0.out).mono ?_
  rintro e w1 ⟨rfl, hb⟩
  (try clear hk); replace HI := Aside0.mk (HI.out.step (by first | exact hb | exact hb.below)); clear hb
  have hk := fun i => blk_cell HI.out.2 i
  go_wp2_with fail
  refine (raddlelaw07_HeavyForms.calls kf A1 c1 f false _ (Kd.C_below H1.out.1 HI.out.1) H1.out.2 E1.out).mono ?_
  rintro e w1 ⟨rfl, hb⟩
  (try clear hk); replace HI := Aside0.mk (HI.out.step (by first | exact hb | exact hb.below)); clear hb
  have hk := fun i => blk_cell HI.out.2 i
  go_wp2_with fail
  refine (raddleref01_Forms.calls 100 A1 c1 f 0 _ (Kd.C_below H1.out.1 HI.out.1) H1.out.2 E2.out).mono ?_
  rintro e w1 ⟨rfl, hb⟩
  (try clear hk); replace HI := Aside0.mk (HI.out.step (by first | exact hb | exact hb.below)); clear hb
  have hk := fun i => blk_cell HI.out.2 i
  go_wp2_with fail
  refine (raddleref01_Msg.calls 4000 n A1 c1 f a b c A3 c3 h A4 c4 s A5 c5 l true _ (Kd.C_below H1.out.1 HI.out.1) H1.out.2 (Kd.C_below H3.out.1 HI.out.1) H3.out.2 (Kd.C_below H4.out.1 HI.out.1) H4.out.2 (Kd.C_below H5.out.1 HI.out.1) H5.out.2 EM.out).mono ?_
  rintro e w1 ⟨rfl, hb⟩
  (try clear hk); replace HI := Aside0.mk (HI.out.step (by first | exact hb | exact hb.below)); clear hb
  have hk := fun i => blk_cell HI.out.2 i
  go_wp2_with fail
  refine (raddlekeep_TwinMsg.calls 1000 a b c A3 c3 h A4 c4 s A5 c5 l a b c h s l _ (Kd.C_below H3.out.1 HI.out.1) H3.out.2 (Kd.C_below H4.out.1 HI.out.1) H4.out.2 (Kd.C_below H5.out.1 HI.out.1) H5.out.2 ET.out).mono ?_
  rintro e w1 ⟨v3, v4, v5, rfl, hR3, hR4, hS5, hb⟩
  have hs := below_size HI.out.1; (try clear hk); replace HI := Aside0.mk (HI.out.step (by first | exact hb | exact hb.below)); clear hb
  have hk := fun i => blk_cell HI.out.2 i
  have R3 := Aside0.mk (Kd.R_lower hR3 hs); have R4 := Aside0.mk (Kd.R_lower hR4 hs); have S5 := Aside0.mk (Kd.S_lower hS5 hs); clear hR3 hR4 hS5
  obtain ⟨g4, d4, eq4, HL', HLT', cells, hg4⟩ := Kd.R_form R4.out hp4; subst eq4
  have HG := Aside0.mk hg4; have HL := Aside0.mk HL'; have HLT := Aside0.mk HLT'; have HNE := Aside0.mk (blk_ne HI.out.2 hg4 (by decide)); clear hg4 HL' HLT'
  obtain ⟨B3, d3, eq3⟩ := Kd.R_slice R3.out; subst eq3
  obtain ⟨B5, d5, eq5⟩ := Kd.R_slice (Kd.S_R S5.out); subst eq5
  obtain ⟨ad, eA, hcell⟩ := Kd.at_int (Kd.R_reads' R3.out).2.2 0 (by omega) (by omega)
  subst eA
  rw [show ad.add (0 : Int).toNat = ad from addr_zero ad] at hcell
  have HX := Aside0.mk hcell; clear hcell
  obtain ⟨a4, eS, hcell⟩ := Kd.at_int (Kd.R_reads' R4.out).2.2 0 (by omega) (by omega)
  obtain rfl := Option.some.inj eS
  rw [show (⟨g4, 0, none⟩ : Addr).add (0 : Int).toNat = ⟨g4, 0, none⟩ from addr_zero _] at hcell
  have HS0 := Aside0.mk hcell; clear hcell eS
  have y1 := eq_true (show (0 : Int) < (h.length : Int) by omega); have y2 := eq_true (show (0 : Int) < (s.length : Int) by omega)
  have gw : IntKind.i64.wrap (rd h 0 + 1) = rd h 0 + 1 := (i64_w _).trans (wrap_in _ (by omega) (by omega))
  have hA := fun (o : Obj) (i : Nat) => blk_cell (blk_alloc HI.out.2 o) i
  go_wp2_with fail
  have HI0 := HI
  replace HI := Aside0.mk (show At3 w w.heap.size (.cells #[.int .i64 a, .int .i64 b, .int .i64 c, .slice A3 h.length c3, .slice A4 s.length c4, .slice A5 l.length c5] 26 (0, 0)) w1.heap.size (.cells #[.int .i64 a, .int .i64 b, .int .i64 c, .slice (some ad) h.length d3, .slice (some ⟨g4, 0, none⟩) s.length d4, .slice B5 l.length d5] 26 (0, 0)) ad (.int .i64 (rd h 0)) _ from ⟨At2.start HI0.out (.cells #[.int .i64 a, .int .i64 b, .int .i64 c, .slice (some ad) h.length d3, .slice (some ⟨g4, 0, none⟩) s.length d4, .slice B5 l.length d5] 26), pw_cell_below (below_alloc (Below.refl _ w1) _) HX.out⟩)
  clear hA hk
  refine wp_ord (S := At3 w w.heap.size (.cells #[.int .i64 a, .int .i64 b, .int .i64 c, .slice A3 h.length c3, .slice A4 s.length c4, .slice A5 l.length c5] 26 (0, 0)) w1.heap.size (.cells #[.int .i64 a, .int .i64 b, .int .i64 c, .slice (some ad) h.length d3, .slice (some ⟨g4, 0, none⟩) s.length d4, .slice B5 l.length d5] 26 (0, 0)) ad (.int .i64 (rd h 0))) [false, false, false, false, false, false, false, false, true] (by kernel_rfl) (by kernel_rfl) (fun _ _ d _ _ h => by cases d <;> exact h) ?_ (fun hHeld => ?_)
  · (first | exact HI.out.drew | exact HI.out)
  replace HI := Aside0.mk hHeld; clear hHeld
  iterate 8 (refine ord_take (v := ?_) (by rfl) ?_ ?_; rotate_left; (focus (intro w' hSw; have hl := fun i => blk_cell hSw.1.2.2 i; have hc := hSw.2; go_simp; (try with_reducible rfl); done)); try simp only [Act.put, List.setIfInBounds_toArray, List.set_cons_zero, List.set_cons_succ])
  refine ord_call (by rfl) (fun K hK => ?_)
  have hfx := blk_frozen (blk_drew (blk_alloc HG.out (.cells #[.int .i64 a, .int .i64 b, .int .i64 c, .slice (some ad) h.length d3, .slice (some ⟨g4, 0, none⟩) s.length d4, .slice B5 l.length d5] 26))) 0
  have hfx2 := blk_frozen (blk_alloc HG.out (.cells #[.int .i64 a, .int .i64 b, .int .i64 c, .slice (some ad) h.length d3, .slice (some ⟨g4, 0, none⟩) s.length d4, .slice B5 l.length d5] 26)) 0
  have hcx := pw_cell_below (below_alloc (Below.refl _ w1) (.cells #[.int .i64 a, .int .i64 b, .int .i64 c, .slice (some ad) h.length d3, .slice (some ⟨g4, 0, none⟩) s.length d4, .slice B5 l.length d5] 26)) HS0.out
  go_simp
  clear hfx hfx2 hcx
  have HP := Aside0.mk (Kd.R_put (Kd.R_alloc R4.out (.cells #[.int .i64 a, .int .i64 b, .int .i64 c, .slice (some ad) h.length d3, .slice (some ⟨g4, 0, none⟩) s.length d4, .slice B5 l.length d5] 26)) 0 (rd h 0 + 1))
  have V3 := Aside0.mk (show Kd.R (Kd.int .i64) 3 ((w1.alloc (.cells #[.int .i64 a, .int .i64 b, .int .i64 c, .slice (some ad) h.length d3, .slice (some ⟨g4, 0, none⟩) s.length d4, .slice B5 l.length d5] 26)).setCell ⟨g4, 0, none⟩ (.int .i64 (rd h 0 + 1))) w.heap.size _ _ h from Kd.R_grown (Kd.R_alloc R3.out _) HP.out.2 (fun _ hk => hk))
  have V5 := Aside0.mk (show Kd.S k52 52 ((w1.alloc (.cells #[.int .i64 a, .int .i64 b, .int .i64 c, .slice (some ad) h.length d3, .slice (some ⟨g4, 0, none⟩) s.length d4, .slice B5 l.length d5] 26)).setCell ⟨g4, 0, none⟩ (.int .i64 (rd h 0 + 1))) w.heap.size _ _ l from Kd.S_grown (Kd.S_alloc S5.out _) HP.out.2 (fun _ hk => hk.2))
  have V4 := Aside0.mk (show Kd.R (Kd.int .i64) 3 ((w1.alloc (.cells #[.int .i64 a, .int .i64 b, .int .i64 c, .slice (some ad) h.length d3, .slice (some ⟨g4, 0, none⟩) s.length d4, .slice B5 l.length d5] 26)).setCell ⟨g4, 0, none⟩ (.int .i64 (rd h 0 + 1))) w.heap.size _ (.slice (some ⟨g4, 0, none⟩) s.length d4) s' from by rw [HS.out.1]; exact HP.out.1)
  have HW := Aside0.mk (show At2 w w.heap.size (.cells #[.int .i64 a, .int .i64 b, .int .i64 c, .slice A3 h.length c3, .slice A4 s.length c4, .slice A5 l.length c5] 26 (0, 0)) w1.heap.size (.cells #[.int .i64 a, .int .i64 b, .int .i64 c, .slice (some ad) h.length d3, .slice (some ⟨g4, 0, none⟩) s.length d4, .slice B5 l.length d5] 26 (0, 0)) ((w1.alloc (.cells #[.int .i64 a, .int .i64 b, .int .i64 c, .slice (some ad) h.length d3, .slice (some ⟨g4, 0, none⟩) s.length d4, .slice B5 l.length d5] 26)).setCell ⟨g4, 0, none⟩ (.int .i64 (rd h 0 + 1))).drew from ⟨below_drew (below_set (below_alloc HI0.out.1 _) HL.out), blk_drew (blk_far (blk_alloc HI0.out.2 _) (p := ⟨g4, 0, none⟩) HNE.out _), blk_drew (blk_far (heap_alloc_new w1 _) (p := ⟨g4, 0, none⟩) (Nat.ne_of_gt HLT.out) _)⟩)
  refine hK.out _ _ ?_ (fun hHeld => ?_)
  · obtain ⟨ad', eA, hcell⟩ := Kd.at_int (Kd.R_reads' V3.out).2.2 0 (by omega) (by omega)
    obtain rfl := Option.some.inj eA
    rw [show ad.add (0 : Int).toNat = ad from addr_zero ad] at hcell
    exact ⟨HW.out, pw_cell_below (below_drew (Below.refl _ _)) hcell⟩
  clear hK K hHeld
  try simp only [Act.put, List.setIfInBounds_toArray, List.set_cons_zero, List.set_cons_succ]
  refine ord_done ?_
  have hA := fun i => blk_cell HW.out.2.1 i; have hl := fun i => blk_cell HW.out.2.2 i
  have HJ := Aside0.mk (show At2 w w.heap.size (.cells #[.int .i64 a, .int .i64 b, .int .i64 c, .slice A3 h.length c3, .slice A4 s.length c4, .slice A5 l.length c5] 26 (0, 0)) w1.heap.size (.cells #[.int .i64 a, .int .i64 b, .int .i64 c, .slice (some ad) h.length d3, .slice (some ⟨g4, 0, none⟩) s'.length d4, .slice B5 l.length d5] 26 (0, 0)) ((w1.alloc (.cells #[.int .i64 a, .int .i64 b, .int .i64 c, .slice (some ad) h.length d3, .slice (some ⟨g4, 0, none⟩) s.length d4, .slice B5 l.length d5] 26)).setCell ⟨g4, 0, none⟩ (.int .i64 (rd h 0 + 1))).drew from by rw [← HS.out.2]; exact HW.out)
  go_wp2_with fail
  clear hl
  have Q3 := Aside0.mk (Kd.R_reads' (Kd.R_drew V3.out)).2
  have Q4 := Aside0.mk (Kd.R_reads' (Kd.R_drew V4.out)).2
  have Q5 := Aside0.mk (Kd.R_reads' (Kd.R_drew (Kd.S_R V5.out))).2
  refine (msg_Check.calls 100 n A1 c1 f a b c A3 c3 h A4 c4 s A5 c5 l 0 _ (Kd.C_below H1.out.1 HJ.out.1) H1.out.2 (Kd.C_below H3.out.1 HJ.out.1) H3.out.2 (Kd.C_below H4.out.1 HJ.out.1) H4.out.2 (Kd.C_below H5.out.1 HJ.out.1) H5.out.2 EC.out).mono ?_
  rintro e w2 ⟨rfl, hb⟩
  have HB2 := Aside0.mk hb; (try clear hA); (try clear hk); replace HJ := Aside0.mk (HJ.out.step hb); clear hb
  have hk := fun i => blk_cell HJ.out.2.1 i; have hl := fun i => blk_cell HJ.out.2.2 i
  go_wp2_with fail
  refine (msg_Check.calls 100 n A1 c1 f a b c (some ad) d3 h (some ⟨g4, 0, none⟩) d4 s' B5 d5 l 1 _ (Kd.C_below H1.out.1 HJ.out.1) H1.out.2 (Kd.C_below Q3.out.2 HB2.out) Q3.out.1 (Kd.C_below Q4.out.2 HB2.out) (HS.out.2 ▸ Q4.out.1) (Kd.C_below Q5.out.2 HB2.out) Q5.out.1 EX.out).mono ?_
  rintro e w3 ⟨rfl, hb⟩
  clear hk hl; replace HJ := Aside0.mk (HJ.out.step hb); clear hb
  go_wp2_with fail
  refine (raddlelaw08_wakes.calls true _ rfl).mono ?_
  rintro e w4 ⟨rfl, hb⟩
  replace HJ := Aside0.mk (HJ.out.step hb); clear hb
  go_wp2
  go_ret
  exact ⟨rfl, HJ.out.1⟩
set_option maxHeartbeats 4000000 in
set_option maxRecDepth 100000 in
theorem kinds_4a (n : Int) (A1 : Option Addr) (c1 : Nat) (f : List Tbl) (a b c : Int) (A3 : Option Addr) (c3 : Nat) (h : List Int) (A4 : Option Addr) (c4 : Nat) (s : List Int) (A5 : Option Addr) (c5 : Nat) (l : List Opr) (what : Int) (w : World) (h1 : Kd.C k56 w A1 f.length f ∧ f.length ≤ c1) (h3 : Kd.C (Kd.int .i64) w A3 h.length h ∧ h.length ≤ c3) (h4 : Kd.C (Kd.int .i64) w A4 s.length s ∧ s.length ≤ c4) (h5 : Kd.C k52 w A5 l.length l ∧ l.length ≤ c5) (e0 : raddlelaw08_Heavy.f 2000 a b c h s l = some false) (e1 : ∃ k, raddlelaw07_HeavyForms.f k f = some false) (e2 : formsE f = 0) (hn : 1 ≤ n ∧ n ≤ 5) (e3 : msgP n f a b c h s l) (hb3 : h.length ≤ 30) (hb4 : s.length ≤ 30) (hb5 : l.length ≤ 300) (hli : ∀ x ∈ l, light x) (hq : Int.tmod (IntKind.u64.wrap what) 5 = 4) (ha : a = 1) (l' : List Opr) (hl' : l' = l ++ [l.getD 0 z52]) (hp5 : 0 < l.length) (hx : ¬ msgP n f a b c h s l') :
    Calls Tryz.prog 5 #[.int .i64 n, .slice A1 f.length c1, .agg #[.int .i64 a, .int .i64 b, .int .i64 c, .slice A3 h.length c3, .slice A4 s.length c4, .slice A5 l.length c5], .int .i64 what] w fun e w' => e = .returned (.bool true) ∧ Below w.heap.size w w' := by
  have EX := Aside0.mk ((msgCheck_eq 100 (by omega) n f a b c h s l' (by omega) (by omega)).trans (congrArg some (show checkE n f a b c h s l' = 1 from by unfold checkE; rw [if_pos e2, if_neg (fun y => hx y.2)])))
  clear hx
  have r4 : (a == 1) = true := beq_iff_eq.2 ha
  clear ha
  have r0 : (Int.tmod (IntKind.u64.wrap what) 5 == 0) = false := by rw [hq]; rfl
  have r1 : (Int.tmod (IntKind.u64.wrap what) 5 == 1) = false := by rw [hq]; rfl
  have r2 : (Int.tmod (IntKind.u64.wrap what) 5 == 2) = false := by rw [hq]; rfl
  have r3 : (Int.tmod (IntKind.u64.wrap what) 5 == 3) = false := by rw [hq]; rfl
  clear hq
  have H1 := Aside0.mk h1; have H3 := Aside0.mk h3; have H4 := Aside0.mk h4; have H5 := Aside0.mk h5
  clear h1 h3 h4 h5
  obtain ⟨kf, e1⟩ := e1
  have E0 := Aside0.mk e0; have E1 := Aside0.mk e1
  have E2 := Aside0.mk ((refForms_eq f 100 (by omega)).trans (congrArg some e2))
  have EM := Aside0.mk ((refMsg_eq n hn f a b c h s l (by omega) (by omega) (by omega) 4000 (by omega)).trans (congrArg some (decide_eq_true e3)))
  have ET := Aside0.mk (twinMsg_eq a b c h s l hb3 hb4 hb5 hli 1000 (by omega))
  have EC := Aside0.mk ((msgCheck_eq 100 (by omega) n f a b c h s l (by omega) (by omega)).trans (congrArg some (show checkE n f a b c h s l = 0 from by unfold checkE; rw [if_pos e2, if_pos ⟨hn, e3⟩])))
  have g1 : decide (n < 1) = false := decide_eq_false (by omega)
  have g2 : decide (5 < n) = false := decide_eq_false (by omega)
  have EP := Aside0.mk (And.intro e2 (And.intro hn e3)); clear e0 e1 e2 hn e3
  go_enter Tryz.func5, Tryz.ntmps5
  go_wp2_with fail
  obtain ⟨W, hW, HI⟩ := One.start w (.cells #[.int .i64 a, .int .i64 b, .int .i64 c, .slice A3 h.length c3, .slice A4 s.length c4, .slice A5 l.length c5] 26)
  rw [← hW]; clear hW
  have hk := fun i => blk_cell HI.out.2 i
  go_wp2_with fail
  refine (raddlelaw08_Heavy.calls 2000 a b c A3 c3 h A4 c4 s A5 c5 l false _ (Kd.C_below H3.out.1 HI.out.1) H3.out.2 (Kd.C_below H4.out.1 HI.out.1) H4.out.2 (Kd.C_below H5.out.1 HI.out.1) H5.out.2 E0.out).mono ?_
  rintro e w1 ⟨rfl, hb⟩
  (try clear hk); replace HI := Aside0.mk (HI.out.step (by first | exact hb | exact hb.below)); clear hb
  have hk := fun i => blk_cell HI.out.2 i
  go_wp2_with fail
  refine (raddlelaw07_HeavyForms.calls kf A1 c1 f false _ (Kd.C_below H1.out.1 HI.out.1) H1.out.2 E1.out).mono ?_
  rintro e w1 ⟨rfl, hb⟩
  (try clear hk); replace HI := Aside0.mk (HI.out.step (by first | exact hb | exact hb.below)); clear hb
  have hk := fun i => blk_cell HI.out.2 i
  go_wp2_with fail
  refine (raddleref01_Forms.calls 100 A1 c1 f 0 _ (Kd.C_below H1.out.1 HI.out.1) H1.out.2 E2.out).mono ?_
  rintro e w1 ⟨rfl, hb⟩
  (try clear hk); replace HI := Aside0.mk (HI.out.step (by first | exact hb | exact hb.below)); clear hb
  have hk := fun i => blk_cell HI.out.2 i
  go_wp2_with fail
  refine (raddleref01_Msg.calls 4000 n A1 c1 f a b c A3 c3 h A4 c4 s A5 c5 l true _ (Kd.C_below H1.out.1 HI.out.1) H1.out.2 (Kd.C_below H3.out.1 HI.out.1) H3.out.2 (Kd.C_below H4.out.1 HI.out.1) H4.out.2 (Kd.C_below H5.out.1 HI.out.1) H5.out.2 EM.out).mono ?_
  rintro e w1 ⟨rfl, hb⟩
  (try clear hk); replace HI := Aside0.mk (HI.out.step (by first | exact hb | exact hb.below)); clear hb
  have hk := fun i => blk_cell HI.out.2 i
  go_wp2_with fail
  refine (raddlekeep_TwinMsg.calls 1000 a b c A3 c3 h A4 c4 s A5 c5 l a b c h s l _ (Kd.C_below H3.out.1 HI.out.1) H3.out.2 (Kd.C_below H4.out.1 HI.out.1) H4.out.2 (Kd.C_below H5.out.1 HI.out.1) H5.out.2 ET.out).mono ?_
  rintro e w1 ⟨v3, v4, v5, rfl, hR3, hR4, hS5, hb⟩
  have hs := below_size HI.out.1; (try clear hk); replace HI := Aside0.mk (HI.out.step (by first | exact hb | exact hb.below)); clear hb
  have hk := fun i => blk_cell HI.out.2 i
  have R3 := Aside0.mk (Kd.R_lower hR3 hs); have R4 := Aside0.mk (Kd.R_lower hR4 hs)
  have N5 := Aside0.mk (Kd.N_mono (Kd.N_bound (Kd.S_N (Kd.S_lower hS5 hs))) (fun k hk => (Nat.ne_of_lt hk.2 : k ≠ w1.heap.size))); clear hR3 hR4 hS5
  obtain ⟨g5, d5, eq5, HL', HLT', cells, hg5⟩ := Kd.N_form N5.out hp5; subst eq5; clear HL' HLT' hg5 cells
  obtain ⟨B3, d3, eq3⟩ := Kd.R_slice R3.out; subst eq3
  obtain ⟨B4, d4, eq4⟩ := Kd.R_slice R4.out; subst eq4
  obtain ⟨W, hW⟩ : ∃ W, W = (w1.alloc (.cells #[.int .i64 a, .int .i64 b, .int .i64 c, .slice B3 h.length d3, .slice B4 s.length d4, .slice (some ⟨g5, 0, none⟩) l.length d5] 26)).drew := ⟨_, rfl⟩
  have HWE := Aside0.mk hW
  have HW2 := Aside0.mk (show At2 w w.heap.size (.cells #[.int .i64 a, .int .i64 b, .int .i64 c, .slice A3 h.length c3, .slice A4 s.length c4, .slice A5 l.length c5] 26 (0, 0)) w1.heap.size (.cells #[.int .i64 a, .int .i64 b, .int .i64 c, .slice B3 h.length d3, .slice B4 s.length d4, .slice (some ⟨g5, 0, none⟩) l.length d5] 26 (0, 0)) W from by rw [hW]; exact (At2.start HI.out _).drew)
  have NW := Aside0.mk (show Kd.N k52 52 W w.heap.size (fun k => k ≠ w1.heap.size) (.slice (some ⟨g5, 0, none⟩) l.length d5) l from by rw [hW]; exact Kd.N_drew (Kd.N_alloc N5.out _))
  have RW3 := Aside0.mk (show Kd.R (Kd.int .i64) 3 W w.heap.size _ _ h from by rw [hW]; exact Kd.R_drew (Kd.R_alloc R3.out _))
  have RW4 := Aside0.mk (show Kd.R (Kd.int .i64) 3 W w.heap.size _ _ s from by rw [hW]; exact Kd.R_drew (Kd.R_alloc R4.out _))
  have HSZ := Aside0.mk (show w1.heap.size < W.heap.size from by rw [hW, World.size_drew, World.size_alloc]; omega)
  clear hW
  obtain ⟨ce, -, hF, hcc⟩ := Kd.N_get NW.out z52 0 (by omega) (by omega)
  rw [Int.toNat_zero] at hF hcc
  obtain ⟨y, hyd⟩ : ∃ y, y = l.getD 0 z52 := ⟨_, rfl⟩
  rw [← hyd] at hF hl'
  clear hyd
  have HH := Aside0.mk hl'; clear hl'
  obtain ⟨Y2, e2, Y10, e10, Y11, e11, rfl, -, -, -, -, -, -⟩ := k52_openF hF
  have HF := Aside0.mk hF; clear hF
  have HY : Aside0 (∀ (j : Nat) u, [.int .i64 y.f0.f0, .int .i64 y.f0.f1, .slice Y2 y.f1.length e2, .int .i64 y.f2.f0, .int .i64 y.f2.f1, .int .i64 y.f2.f2, .int .i64 y.f3, .int .i64 y.f4, .string y.f5, .int .i64 y.f6, .slice Y10 y.f7.length e10, .slice Y11 y.f8.length e11][j]? = some u → W.cell? ⟨g5, j, none⟩ = some u) := ⟨fun j u h => by have := hcc j u h; rw [add_plain, Nat.zero_mul, Nat.zero_add] at this; exact this⟩
  clear hcc
  have y2 := eq_true (show (0 : Int) < (l.length : Int) by omega)
  have hA := fun (o : Obj) (i : Nat) => blk_cell (blk_alloc HI.out.2 o) i
  go_wp2_with fail
  clear hA hk
  refine start_ (n := 10) (ds := [7, 9]) (S := At2B w w.heap.size (.cells #[.int .i64 a, .int .i64 b, .int .i64 c, .slice A3 h.length c3, .slice A4 s.length c4, .slice A5 l.length c5] 26 (0, 0)) w1.heap.size (.cells #[.int .i64 a, .int .i64 b, .int .i64 c, .slice B3 h.length d3, .slice B4 s.length d4, .slice (some ⟨g5, 0, none⟩) l.length d5] 26 (0, 0)) W) #[false, false, false, false, false, false, false, false, false, false] (by kernel_rfl) rfl rfl (by rw [← HWE.out]; exact ⟨HW2.out, Below.refl _ _⟩) (fun hHeld => ?_)
  rw [← HWE.out] at hHeld ⊢
  refine pure_ (i := 0) (N := some 44) (v := ?_) (a' := ?_) #[true, false, false, false, false, false, false, false, false, false] rfl rfl (by kernel_rfl) (fun _ _ _ h => h) (Or.inl ⟨by rfl, ?_⟩) ?_ ?_
  rotate_left
  · intro w'; go_simp; with_reducible rfl
  rotate_left
  · simp only [Act.put, List.setIfInBounds_toArray, List.set_cons_zero, List.set_cons_succ]; rfl
  refine pure_ (i := 2) (N := some 46) (v := ?_) (a' := ?_) #[true, false, true, false, false, false, false, false, false, false] rfl rfl (by kernel_rfl) (fun _ _ _ h => h) (Or.inl ⟨by rfl, ?_⟩) ?_ ?_
  rotate_left
  · intro w'; go_simp; with_reducible rfl
  rotate_left
  · simp only [Act.put, List.setIfInBounds_toArray, List.set_cons_zero, List.set_cons_succ]; rfl
  refine take_ (i := 1) (N := some 45) (v := ?_) (a' := ?_) #[true, true, true, false, false, false, false, false, false, false] rfl rfl (by kernel_rfl) (fun _ _ _ h => h) (Or.inl ⟨by rfl, ?_⟩) hHeld ?_ ?_
  rotate_left
  · intro w' hSw; have hl := fun i => blk_cell hSw.1.2.2 i; have hy := fun j u (h : [.int .i64 y.f0.f0, .int .i64 y.f0.f1, .slice Y2 y.f1.length e2, .int .i64 y.f2.f0, .int .i64 y.f2.f1, .int .i64 y.f2.f2, .int .i64 y.f3, .int .i64 y.f4, .string y.f5, .int .i64 y.f6, .slice Y10 y.f7.length e10, .slice Y11 y.f8.length e11][j]? = some u) => pw_cell_below hSw.2 (HY.out j u h)
    have z0 := hy 0 _ rfl; have z1 := hy 1 _ rfl; have z2 := hy 2 _ rfl; have z3 := hy 3 _ rfl; have z4 := hy 4 _ rfl; have z5 := hy 5 _ rfl; have z6 := hy 6 _ rfl; have z7 := hy 7 _ rfl; have z8 := hy 8 _ rfl; have z9 := hy 9 _ rfl; have z10 := hy 10 _ rfl; have z11 := hy 11 _ rfl; clear hy
    go_simp; with_reducible rfl
  rotate_left
  · simp only [Act.put, List.setIfInBounds_toArray, List.set_cons_zero, List.set_cons_succ]; rfl
  refine take_ (i := 3) (N := some 47) (v := ?_) (a' := ?_) #[true, true, true, true, false, false, false, false, false, false] rfl rfl (by kernel_rfl) (fun _ _ _ h => h) (Or.inl ⟨by rfl, ?_⟩) hHeld ?_ ?_
  rotate_left
  · intro w' hSw; have hl := fun i => blk_cell hSw.1.2.2 i; have hy := fun j u (h : [.int .i64 y.f0.f0, .int .i64 y.f0.f1, .slice Y2 y.f1.length e2, .int .i64 y.f2.f0, .int .i64 y.f2.f1, .int .i64 y.f2.f2, .int .i64 y.f3, .int .i64 y.f4, .string y.f5, .int .i64 y.f6, .slice Y10 y.f7.length e10, .slice Y11 y.f8.length e11][j]? = some u) => pw_cell_below hSw.2 (HY.out j u h)
    have z0 := hy 0 _ rfl; have z1 := hy 1 _ rfl; have z2 := hy 2 _ rfl; have z3 := hy 3 _ rfl; have z4 := hy 4 _ rfl; have z5 := hy 5 _ rfl; have z6 := hy 6 _ rfl; have z7 := hy 7 _ rfl; have z8 := hy 8 _ rfl; have z9 := hy 9 _ rfl; have z10 := hy 10 _ rfl; have z11 := hy 11 _ rfl; clear hy
    go_simp; with_reducible rfl
  rotate_left
  · simp only [Act.put, List.setIfInBounds_toArray, List.set_cons_zero, List.set_cons_succ]; rfl
  refine pure_ (i := 4) (N := some 48) (v := ?_) (a' := ?_) #[true, true, true, true, true, false, false, false, false, false] rfl rfl (by kernel_rfl) (fun _ _ _ h => h) (Or.inl ⟨by rfl, ?_⟩) ?_ ?_
  rotate_left
  · intro w'; go_simp; with_reducible rfl
  rotate_left
  · simp only [Act.put, List.setIfInBounds_toArray, List.set_cons_zero, List.set_cons_succ]; rfl
  refine take_ (i := 5) (N := some 49) (v := ?_) (a' := ?_) #[true, true, true, true, true, true, false, false, false, false] rfl rfl (by kernel_rfl) (fun _ _ _ h => h) (Or.inl ⟨by rfl, ?_⟩) hHeld ?_ ?_
  rotate_left
  · intro w' hSw; have hl := fun i => blk_cell hSw.1.2.2 i; have hy := fun j u (h : [.int .i64 y.f0.f0, .int .i64 y.f0.f1, .slice Y2 y.f1.length e2, .int .i64 y.f2.f0, .int .i64 y.f2.f1, .int .i64 y.f2.f2, .int .i64 y.f3, .int .i64 y.f4, .string y.f5, .int .i64 y.f6, .slice Y10 y.f7.length e10, .slice Y11 y.f8.length e11][j]? = some u) => pw_cell_below hSw.2 (HY.out j u h)
    have z0 := hy 0 _ rfl; have z1 := hy 1 _ rfl; have z2 := hy 2 _ rfl; have z3 := hy 3 _ rfl; have z4 := hy 4 _ rfl; have z5 := hy 5 _ rfl; have z6 := hy 6 _ rfl; have z7 := hy 7 _ rfl; have z8 := hy 8 _ rfl; have z9 := hy 9 _ rfl; have z10 := hy 10 _ rfl; have z11 := hy 11 _ rfl; clear hy
    go_simp; with_reducible rfl
  rotate_left
  · simp only [Act.put, List.setIfInBounds_toArray, List.set_cons_zero, List.set_cons_succ]; rfl
  refine one_ (i := 6) (N := some 50) #[true, true, true, true, true, true, true, false, false, false] rfl rfl (by kernel_rfl) (by decide) (fun K hK => ?_)
  refine value_ (w1 := ?_) (v := ?_) (by rfl) rfl ?_ ?_
  rotate_left 2
  · go_simp
    constructor
    · rfl
    · rfl
  refine hK.out _ _ ⟨⟨below_alloc HW2.out.1 _, blk_alloc HW2.out.2.1 _, blk_alloc HW2.out.2.2 _⟩, below_alloc (Below.refl _ _) _⟩ (fun hHeld => ?_)
  clear hK K hHeld
  refine norm_ (a' := ?_) ?_ ?_
  rotate_left
  · show Act.put _ (some 50) _ = _; simp only [Act.put, List.setIfInBounds_toArray, List.set_cons_zero, List.set_cons_succ]; rfl
  refine last_ (i := 7) (N := some 51) #[true, true, true, true, true, true, true, true, false, false] rfl rfl (by kernel_rfl) (by decide) (fun K hK => ?_)
  refine Kd.N_append_step k52 (w0 := w) w.heap.size (by rfl) (.tmp 45) (.tmp 50) 24 52 (.agg #[(.int .i64 0), (.int .i64 0), (.slice none 0 0), (.int .i64 0), (.int .i64 0), (.int .i64 0), (.int .i64 0), (.int .i64 0), (.string ⟨#[]⟩), (.int .i64 0), (.slice none 0 0), (.slice none 0 0)]) 152 rfl Tryz.underlying24 info52 rfl (by decide) (by omega) (.slice (some ⟨g5, 0, none⟩) l.length d5) l y [.int .i64 y.f0.f0, .int .i64 y.f0.f1, .slice Y2 y.f1.length e2, .int .i64 y.f2.f0, .int .i64 y.f2.f1, .int .i64 y.f2.f2, .int .i64 y.f3, .int .i64 y.f4, .string y.f5, .int .i64 y.f6, .slice Y10 y.f7.length e10, .slice Y11 y.f8.length e11] (fun k => k ≠ w1.heap.size) (fun k => k ≠ w1.heap.size ∧ some k ≠ (.slice (some ⟨g5, 0, none⟩) l.length d5 : Value).ownBlock) rfl rfl HF.out (fun _ hk => hk) (fun k hk => by have := HSZ.out; omega) NW.out HW2.out.1 (below_size HW2.out.1) (by omega) ?_
  intro v6 w5 ho hb hg hat
  have BM := Aside0.mk (blk_grown HW2.out.2.1 hg (Kd.N_ne NW.out HW2.out.2.1 (by decide)))
  have BX := Aside0.mk (blk_grown HW2.out.2.2 hg (Kd.N_ne NW.out HW2.out.2.2 (by decide)))
  have T3 := Aside0.mk (Kd.R_over' RW3.out (Kd.N_typed NW.out) (by decide) hg)
  have T4 := Aside0.mk (Kd.R_over' RW4.out (Kd.N_typed NW.out) (by decide) hg)
  rw [← HH.out] at ho
  obtain ⟨E5, e5, eq6⟩ := Kd.N_slice ho
  subst eq6
  have HB := Aside0.mk hb; have HO := Aside0.mk ho; clear hb ho hg hat
  refine hK.out _ _ ?_
  clear hK K
  refine norm_ (a' := ?_) ?_ ?_
  rotate_left
  · show Act.put _ (some 51) _ = _; simp only [Act.put, List.setIfInBounds_toArray, List.set_cons_zero, List.set_cons_succ]; rfl
  refine pure_ (i := 8) (N := some 52) (v := ?_) (a' := ?_) #[true, true, true, true, true, true, true, true, true, false] rfl rfl (by kernel_rfl) (fun _ _ _ h => h) (Or.inl ⟨by rfl, ?_⟩) ?_ ?_
  rotate_left
  · intro w'; go_simp; with_reducible rfl
  rotate_left
  · simp only [Act.put, List.setIfInBounds_toArray, List.set_cons_zero, List.set_cons_succ]; rfl
  refine last_ (i := 9) (N := none) #[true, true, true, true, true, true, true, true, true, true] rfl rfl (by kernel_rfl) (by decide) (fun K hK => ?_)
  have hcx := fun i => blk_cell BX.out i; have hfx := fun i => blk_frozen BX.out i
  go_simp
  clear hcx hfx
  refine hK.out _ _ ?_
  clear hK K
  try simp only [Act.put]
  refine done_ (by kernel_rfl) ?_
  have HJ := Aside0.mk (show At2 w w.heap.size (.cells #[.int .i64 a, .int .i64 b, .int .i64 c, .slice A3 h.length c3, .slice A4 s.length c4, .slice A5 l.length c5] 26 (0, 0)) w1.heap.size (.cells #[.int .i64 a, .int .i64 b, .int .i64 c, .slice B3 h.length d3, .slice B4 s.length d4, .slice E5 l'.length e5] 26 (0, 0)) _ from ⟨below_set HB.out (below_size HI.out.1), blk_far BM.out (p := ⟨w1.heap.size, 5, none⟩) (Nat.ne_of_lt (blk_lt HI.out.2)) (.slice E5 l'.length e5), blk_put BX.out 5 (.slice E5 l'.length e5) rfl⟩)
  have hA := fun i => blk_cell HJ.out.2.1 i
  have Q3 := Aside0.mk (Kd.R_reads' (Kd.R_set T3.out BX.out (by decide) 5 (.slice E5 l'.length e5))).2
  have Q4 := Aside0.mk (Kd.R_reads' (Kd.R_set T4.out BX.out (by decide) 5 (.slice E5 l'.length e5))).2
  have Q5 := Aside0.mk (Kd.N_reads' (Kd.N_far HO.out (p := ⟨w1.heap.size, 5, none⟩) (fun _ hk => hk) (.slice E5 l'.length e5))).2
  go_wp2_with fail
  refine (msg_Check.calls 100 n A1 c1 f a b c A3 c3 h A4 c4 s A5 c5 l 0 _ (Kd.C_below H1.out.1 HJ.out.1) H1.out.2 (Kd.C_below H3.out.1 HJ.out.1) H3.out.2 (Kd.C_below H4.out.1 HJ.out.1) H4.out.2 (Kd.C_below H5.out.1 HJ.out.1) H5.out.2 EC.out).mono ?_
  rintro e w2 ⟨rfl, hb⟩
  have HB2 := Aside0.mk hb; (try clear hA); (try clear hk); replace HJ := Aside0.mk (HJ.out.step hb); clear hb
  have hk := fun i => blk_cell HJ.out.2.1 i; have hl := fun i => blk_cell HJ.out.2.2 i
  go_wp2_with fail
  refine (msg_Check.calls 100 n A1 c1 f a b c B3 d3 h B4 d4 s E5 e5 l' 1 _ (Kd.C_below H1.out.1 HJ.out.1) H1.out.2 (Kd.C_below Q3.out.2 HB2.out) Q3.out.1 (Kd.C_below Q4.out.2 HB2.out) Q4.out.1 (Kd.C_below Q5.out.2 HB2.out) Q5.out.1 EX.out).mono ?_
  rintro e w3 ⟨rfl, hb⟩
  clear hk hl; replace HJ := Aside0.mk (HJ.out.step hb); clear hb
  go_wp2_with fail
  refine (raddlelaw08_wakes.calls true _ rfl).mono ?_
  rintro e w4 ⟨rfl, hb⟩
  replace HJ := Aside0.mk (HJ.out.step hb); clear hb
  go_wp2
  go_ret
  exact ⟨rfl, HJ.out.1⟩
theorem tmod5 (x : Int) : Int.tmod (IntKind.u64.wrap x) 5 = 0 ∨ Int.tmod (IntKind.u64.wrap x) 5 = 1 ∨ Int.tmod (IntKind.u64.wrap x) 5 = 2 ∨ Int.tmod (IntKind.u64.wrap x) 5 = 3 ∨ Int.tmod (IntKind.u64.wrap x) 5 = 4 := by
  have h : 0 ≤ IntKind.u64.wrap x := by
    show 0 ≤ _
    unfold IntKind.wrap
    simp [IntKind.signed, IntKind.bits]
    omega
  rw [Int.tmod_eq_emod_of_nonneg h]
  omega
theorem kinds_all (n : Int) (A1 : Option Addr) (c1 : Nat) (f : List Tbl) (a b c : Int) (A3 : Option Addr) (c3 : Nat) (h : List Int) (A4 : Option Addr) (c4 : Nat) (s : List Int) (A5 : Option Addr) (c5 : Nat) (l : List Opr) (what : Int) (w : World) (h1 : Kd.C k56 w A1 f.length f ∧ f.length ≤ c1) (h3 : Kd.C (Kd.int .i64) w A3 h.length h ∧ h.length ≤ c3) (h4 : Kd.C (Kd.int .i64) w A4 s.length s ∧ s.length ≤ c4) (h5 : Kd.C k52 w A5 l.length l ∧ l.length ≤ c5) :
    Calls Tryz.prog 5 #[.int .i64 n, .slice A1 f.length c1, .agg #[.int .i64 a, .int .i64 b, .int .i64 c, .slice A3 h.length c3, .slice A4 s.length c4, .slice A5 l.length c5], .int .i64 what] w fun e w' => e = .returned (.bool true) ∧ Below w.heap.size w w' := by
  rcases heavy8_tells a b c h s l 2000 (by omega) with e0 | ⟨e0, p0⟩
  case inl => exact kinds_heavy n A1 c1 f a b c A3 c3 h A4 c4 s A5 c5 l what w h1 h3 h4 h5 e0
  obtain ⟨kf, b1, E1⟩ := heavyForms_at f
  cases b1 with
  | true => exact kinds_hforms n A1 c1 f a b c A3 c3 h A4 c4 s A5 c5 l what w h1 h3 h4 h5 e0 kf E1.out.1
  | false =>
    by_cases hno : (h.length ≤ 30 ∧ s.length ≤ 30 ∧ l.length ≤ 300 ∧ ∀ x ∈ l, light x) ∧ True ∧ formsE f = 0 ∧ (1 ≤ n ∧ n ≤ 5) ∧ msgP n f a b c h s l
    case neg => exact kinds_no n A1 c1 f a b c A3 c3 h A4 c4 s A5 c5 l what w h1 h3 h4 h5 hno
    obtain ⟨⟨q1, q2, q3, q4⟩, -, e2, hn, e3⟩ := hno
    have hq := tmod5 what
    have hk := e3.2.2.2.2
    rcases hq with hq | hq | hq | hq | hq
    · exact kinds_0 n A1 c1 f a b c A3 c3 h A4 c4 s A5 c5 l what w h1 h3 h4 h5 e0 ⟨kf, E1.out.1⟩ e2 hn e3 q1 q2 q3 q4 hq (fun y => by have := y.1; omega)
    · exact kinds_1 n A1 c1 f a b c A3 c3 h A4 c4 s A5 c5 l what w h1 h3 h4 h5 e0 ⟨kf, E1.out.1⟩ e2 hn e3 q1 q2 q3 q4 hq (fun y => y.2.2.1 rfl)
    · exact kinds_2 n A1 c1 f a b c A3 c3 h A4 c4 s A5 c5 l what w h1 h3 h4 h5 e0 ⟨kf, E1.out.1⟩ e2 hn e3 q1 q2 q3 q4 hq (fun y => by rcases y.2.2.2.2 with z | z | z <;> omega)
    · refine kinds_3 n A1 c1 f a b c A3 c3 h A4 c4 s A5 c5 l what w h1 h3 h4 h5 e0 ⟨kf, E1.out.1⟩ e2 hn e3 q1 q2 q3 q4 hq (fun y => ?_)
      have hl : (h ++ [(0 : Int)]).length = _ := List.length_append
      rw [List.length_singleton] at hl
      rcases y.2.2.2.2 with z | z | z <;> rcases hk with x | x | x <;> first | omega | (have := z.2.2.1; have := x.2.2.1; omega) | (have := z.2.1; have := x.2.1; omega) | (have := z.2.2.1; have := x.2.1; omega) | (have := z.2.1; have := x.2.2.1; omega)
    · by_cases ha : a = 1
      · refine kinds_4a n A1 c1 f a b c A3 c3 h A4 c4 s A5 c5 l what w h1 h3 h4 h5 e0 ⟨kf, E1.out.1⟩ e2 hn e3 q1 q2 q3 q4 hq ha (l ++ [l.getD 0 z52]) rfl (by rcases hk with x | x | x <;> omega) (fun y => ?_)
        have hl : (l ++ [l.getD 0 z52]).length = _ := List.length_append
        rw [List.length_singleton] at hl
        rcases y.2.2.2.2 with z | z | z <;> rcases hk with x | x | x <;> omega
      · refine kinds_4b n A1 c1 f a b c A3 c3 h A4 c4 s A5 c5 l what w h1 h3 h4 h5 e0 ⟨kf, E1.out.1⟩ e2 hn e3 q1 q2 q3 q4 hq ha (s.set 0 (rd h 0 + 1)) rfl (fun y => ?_)
        obtain ⟨t1, t2, t3, t4⟩ := two_bounds n f a b c h s l hn.1 ha e3
        have hz : twoP n h (s.set 0 (rd h 0 + 1)) := by
          rcases y.2.2.2.2 with z | z | z
          · exact absurd z.1 ha
          · exact z.2.2
          · exact z.2
        have h5 := hz.2.2.2.2 0 (by rw [List.length_set]; exact t2)
        have h6 : rd (s.set 0 (rd h 0 + 1)) ((0 : Nat) : Int) = rd h 0 + 1 := by rw [rd_nat, List.getD_eq_getElem?_getD, List.getElem?_set_self t2]; rfl
        rw [h6] at h5
        have h7 : rd h ((0 : Nat) : Int) = rd h 0 := rfl
        omega
end Go.Proofs.YtnbjflcfdncocaaGreat.M
namespace Go.Proofs.YtnbjflcfdncocaaGreat.M
open Go.RowKit Go.ChangeShapes Go.WideShapes Go.Proofs.YtnbjflcfdncocaaGreatW.PrintWords Go.Proofs.YtnbjflcfdncocaaGreatW.PrintLast Go.Proofs.YtnbjflcfdncocaaGreatW.PrintMore
def Opens {α : Type} (t : TypeId) (d : Kd α) : Prop := Tryz.prog.cellsOf t = d.sz ∧ ∀ {H : Type} (enc : TypeId × Value → H) (w : World) (base : Nat) (sp : Nat → Bool) (held : Bool) (fuel : Nat) (cs : List Value) (x : DataW H × List MemPlace), DataW.trod enc Tryz.prog w base sp held fuel t cs = some x → ∃ a, d.K w a cs
theorem opens_int {t : TypeId} {k : IntKind} (ht : Tryz.prog.underlying t = some (.int k)) (hc : Tryz.prog.cellsOf t = 1) : Opens t (Kd.int k) := by
  refine ⟨hc, fun enc w base sp held fuel cs x h => ?_⟩
  cases fuel with
  | zero => simp [DataW.trod] at h
  | succ fuel =>
    simp only [DataW.trod, ht] at h
    split at h <;> simp_all
    exact ⟨_, rfl⟩
theorem opens_string {t : TypeId} (ht : Tryz.prog.underlying t = some .string) (hc : Tryz.prog.cellsOf t = 1) : Opens t Kd.string := by
  refine ⟨hc, fun enc w base sp held fuel cs x h => ?_⟩
  cases fuel with
  | zero => simp [DataW.trod] at h
  | succ fuel =>
    simp only [DataW.trod, ht] at h
    split at h <;> simp_all
    exact ⟨_, rfl⟩
theorem opens_slice {α : Type} {t e : TypeId} {d : Kd α} (z : α) (ht : Tryz.prog.underlying t = some (.slice e)) (hc : Tryz.prog.cellsOf t = 1) (he : Opens e d) : Opens t (Kd.slice e d) := by
  refine ⟨hc, fun enc w base sp held fuel cs x h => ?_⟩
  rcases Go.Deep.open_slice ht h with ⟨rfl, _⟩ | ⟨a, len, cap, m, n, D, Pl, rfl, hb, hl, hm, hmm, _, hx⟩
  · exact ⟨[], none, 0, rfl, Nat.le_refl _, Kd.C_nil _ _⟩
  · have hlm : len ≤ m := by rw [hmm]; split <;> omega
    letI : Inhabited α := ⟨z⟩
    obtain ⟨f, hf⟩ := Go.Deep.choose_lt (α := α) (n := len) (p := fun i y => ∃ cs', w.cells? base (a.add (i * Tryz.prog.cellsOf e)) (Tryz.prog.cellsOf e) = some cs' ∧ d.K w y cs') (fun i hi => by
      obtain ⟨cs', h1, h2⟩ := hx i (by omega)
      obtain ⟨y, hy⟩ := he.2 _ _ _ _ _ _ _ _ h2
      exact ⟨y, cs', h1, hy⟩)
    have hlen : ((List.range len).map f).length = len := by simp
    refine ⟨(List.range len).map f, some a, cap, by rw [hlen], by rw [hlen]; exact hl, ?_⟩
    rw [hlen]
    refine ⟨hlen, by have : maxLen ≤ 9223372036854775807 := by decide
                     omega, fun _ => ⟨a, rfl, fun j p hj => ?_⟩⟩
    obtain ⟨hj1, hj2⟩ := List.getElem?_eq_some_iff.1 hj
    rw [hlen] at hj1
    simp only [List.getElem_map, List.getElem_range] at hj2
    obtain ⟨cs', h1, h2⟩ := hf j hj1
    rw [hj2] at h2
    obtain ⟨_, g2, g3⟩ := World.cells?_some h1
    refine ⟨cs', d.K_len h2, h2, fun i u hu => ?_⟩
    obtain ⟨hi, _⟩ := List.getElem?_eq_some_iff.1 hu
    have g4 := g3 i (by omega)
    rw [Go.Deep.add_add, he.1, hu] at g4
    exact g4
def OpensF {α : Type} (fs : List Field) (o n : Nat) (d : Kd α) : Prop := o + d.sz = n ∧ ∀ {H : Type} (enc : TypeId × Value → H) (w : World) (base : Nat) (sp : Nat → Bool) (held : Bool) (fuel : Nat) (cs : List Value) (xs : List (DataW H × List MemPlace)), cs.length = n →
  fs.mapM (fun f => DataW.trod enc Tryz.prog w base sp held fuel f.type ((cs.drop f.offset).take (Tryz.prog.cellsOf f.type))) = some xs → ∃ a, d.K w a (cs.drop o)
theorem opensF_one {α : Type} {f : Field} {o n : Nat} {d : Kd α} (ho : f.offset = o) (hd : Opens f.type d) (hn : o + d.sz = n) : OpensF [f] o n d := by
  refine ⟨hn, fun enc w base sp held fuel cs xs hl h => ?_⟩
  rw [List.mapM_cons] at h
  obtain ⟨x, hx, _⟩ := Option.bind_eq_some_iff.1 h
  obtain ⟨a, ha⟩ := hd.2 _ _ _ _ _ _ _ _ hx
  rw [ho, hd.1, List.take_of_length_le (by simp; omega)] at ha
  exact ⟨a, ha⟩
theorem opensF_cons {α β : Type} {f : Field} {fs : List Field} {o n : Nat} {d : Kd α} {e : Kd β} (ho : f.offset = o) (hd : Opens f.type d) (he : OpensF fs (o + d.sz) n e) : OpensF (f :: fs) o n (Kd.pair d e) := by
  refine ⟨by have := he.1; show o + (d.sz + e.sz) = n; omega, fun enc w base sp held fuel cs xs hl h => ?_⟩
  rw [List.mapM_cons] at h
  obtain ⟨x, hx, h2⟩ := Option.bind_eq_some_iff.1 h
  obtain ⟨y, hy, _⟩ := Option.bind_eq_some_iff.1 h2
  obtain ⟨a, ha⟩ := hd.2 _ _ _ _ _ _ _ _ hx
  obtain ⟨b, hb⟩ := he.2 _ _ _ _ _ _ _ _ hl hy
  rw [ho, hd.1] at ha
  refine ⟨(a, b), _, _, ?_, ha, hb⟩
  rw [← List.drop_drop, List.take_append_drop]
theorem opens_struct {α β : Type} {t : TypeId} {fs : Array Field} {d : Kd α} {g : β → α} (ht : Tryz.prog.underlying t = some (.struct fs)) (hd : OpensF fs.toList 0 (Tryz.prog.cellsOf t) d) (hg : ∀ a, ∃ b, g b = a) : Opens t (Kd.iso d g) := by
  refine ⟨by have := hd.1; show _ = d.sz; omega, fun enc w base sp held fuel cs x h => ?_⟩
  cases fuel with
  | zero => simp [DataW.trod] at h
  | succ fuel =>
    have h2 : (if cs.length = Tryz.prog.cellsOf t then (fs.toList.mapM fun f => DataW.trod enc Tryz.prog w base sp held fuel f.type ((cs.drop f.offset).take (Tryz.prog.cellsOf f.type))).map fun xs => (DataW.agg (xs.map (·.1)), xs.flatMap (·.2)) else none) = some x := by
      rw [← h]; simp only [DataW.trod, ht]
    split at h2
    · rename_i hl
      obtain ⟨xs, hxs, _⟩ := Option.map_eq_some_iff.1 h2
      obtain ⟨a, ha⟩ := hd.2 _ _ _ _ _ _ _ _ hl hxs
      obtain ⟨b, rfl⟩ := hg a
      exact ⟨b, ha⟩
    · cases h2
theorem opens_read {α : Type} {t : TypeId} {d : Kd α} {H : Type} {enc : TypeId × Value → H} {w : World} {base : Nat} {sp : Nat → Bool} {held : Bool} {v : Value} {x : DataW H} {p : List MemPlace} (h : Opens t d) (hf : DataW.Trod enc Tryz.prog w base sp held t v x p) : ∃ a, d.K w a v.cells.toList := by
  obtain ⟨fuel, hf⟩ := hf
  exact h.2 _ _ _ _ _ _ _ _ hf
theorem oi : Opens 3 (Kd.int .i64) := opens_int Tryz.underlying3 (by kernel_rfl)
theorem ois : Opens 23 (Kd.slice 3 (Kd.int .i64)) := opens_slice 0 Tryz.underlying23 (by kernel_rfl) oi
theorem ostr : Opens 9 Kd.string := opens_string Tryz.underlying9 (by kernel_rfl)
theorem oDot : Opens 46 k46 := opens_struct Tryz.underlying46 (opensF_cons rfl oi (opensF_one rfl oi (by kernel_rfl))) (fun a => ⟨⟨a.1, a.2⟩, rfl⟩)
theorem oStamp : Opens 48 k48 := opens_struct Tryz.underlying48 (opensF_cons rfl oi (opensF_cons rfl oi (opensF_one rfl oi (by kernel_rfl)))) (fun a => ⟨⟨a.1, a.2.1, a.2.2⟩, rfl⟩)
theorem oValue : Opens 92 k92 := opens_struct Tryz.underlying92 (opensF_cons rfl oi (opensF_cons rfl oi (opensF_one rfl ostr (by kernel_rfl)))) (fun a => ⟨⟨a.1, a.2.1, a.2.2⟩, rfl⟩)
theorem oVals : Opens 49 (Kd.slice 92 k92) := opens_slice z92 Tryz.underlying49 (by kernel_rfl) oValue
theorem oDots : Opens 50 (Kd.slice 46 k46) := opens_slice z46 Tryz.underlying50 (by kernel_rfl) oDot
theorem oOp : Opens 52 k52 := opens_struct Tryz.underlying52 (opensF_cons rfl oDot (opensF_cons rfl ois (opensF_cons rfl oStamp (opensF_cons rfl oi (opensF_cons rfl oi (opensF_cons rfl ostr (opensF_cons rfl oi (opensF_cons rfl oVals (opensF_one rfl oDots (by kernel_rfl))))))))))
  (fun a => ⟨⟨a.1, a.2.1, a.2.2.1, a.2.2.2.1, a.2.2.2.2.1, a.2.2.2.2.2.1, a.2.2.2.2.2.2.1, a.2.2.2.2.2.2.2.1, a.2.2.2.2.2.2.2.2⟩, rfl⟩)
theorem oOps : Opens 24 (Kd.slice 52 k52) := opens_slice z52 Tryz.underlying24 (by kernel_rfl) oOp
theorem oMsg : Opens 26 k26 := opens_struct Tryz.underlying26 (opensF_cons rfl oi (opensF_cons rfl oi (opensF_cons rfl oi (opensF_cons rfl ois (opensF_cons rfl ois (opensF_one rfl oOps (by kernel_rfl)))))))
  (fun a => ⟨⟨a.1, a.2.1, a.2.2.1, a.2.2.2.1, a.2.2.2.2.1, a.2.2.2.2.2⟩, rfl⟩)
theorem oTable : Opens 56 k56 := opens_struct Tryz.underlying56 (opensF_one rfl ois (by kernel_rfl)) (fun a => ⟨⟨a⟩, rfl⟩)
theorem oForms : Opens 22 (Kd.slice 56 k56) := opens_slice z56 Tryz.underlying22 (by kernel_rfl) oTable
set_option maxRecDepth 100000 in
theorem msg_in {H : Type} {enc : TypeId × Value → H} {r : Reach} {w : World} {base b0 : Nat} {sp : Nat → Bool} {held : Bool} {v : Value} {d : DataW H} {p : List MemPlace} (hv : Value.okWide Tryz.prog w r b0 26 v) (h : DataW.Trod enc Tryz.prog w base sp held 26 v d p) :
    ∃ (x : S26) (A3 : Option Addr) (c3 : Nat) (A4 : Option Addr) (c4 : Nat) (A5 : Option Addr) (c5 : Nat), v = .agg #[.int .i64 x.f0, .int .i64 x.f1, .int .i64 x.f2, .slice A3 x.f3.length c3, .slice A4 x.f4.length c4, .slice A5 x.f5.length c5] ∧ x.f3.length ≤ c3 ∧ Kd.C (Kd.int .i64) w A3 x.f3.length x.f3 ∧ x.f4.length ≤ c4 ∧ Kd.C (Kd.int .i64) w A4 x.f4.length x.f4 ∧ x.f5.length ≤ c5 ∧ Kd.C k52 w A5 x.f5.length x.f5 := by
  obtain ⟨cs, rfl, _⟩ := okWide_struct Tryz.underlying26 hv
  obtain ⟨x, hx⟩ := opens_read oMsg h
  obtain ⟨A3, c3, A4, c4, A5, c5, e, h1, h2, h3, h4, h5, h6⟩ := k26_open hx
  refine ⟨x, A3, c3, A4, c4, A5, c5, ?_, h1, h2, h3, h4, h5, h6⟩
  have e2 : (Value.agg cs).cells.toList = cs.toList := rfl
  rw [e2] at e
  rw [show cs = cs.toList.toArray from (Array.toArray_toList).symm, e]
set_option maxRecDepth 100000 in
theorem forms_in {H : Type} {enc : TypeId × Value → H} {r : Reach} {w : World} {base b0 : Nat} {sp : Nat → Bool} {held : Bool} {v : Value} {d : DataW H} {p : List MemPlace} (hv : Value.okWide Tryz.prog w r b0 22 v) (h : DataW.Trod enc Tryz.prog w base sp held 22 v d p) :
    ∃ (l : List S56) (A0 : Option Addr) (c0 : Nat), v = .slice A0 l.length c0 ∧ l.length ≤ c0 ∧ Kd.C k56 w A0 l.length l := by
  obtain ⟨a0, len0, cap0, rfl⟩ := okWide_slice Tryz.underlying22 hv
  obtain ⟨x, A, c, e, h1, h2⟩ := opens_read oForms h
  have e2 : (Value.slice a0 len0 cap0).cells.toList = [Value.slice a0 len0 cap0] := rfl
  rw [e2] at e
  obtain ⟨rfl, rfl, rfl⟩ : a0 = A ∧ len0 = x.length ∧ cap0 = c := by simpa using e
  exact ⟨x, _, _, rfl, h1, h2⟩
end Go.Proofs.YtnbjflcfdncocaaGreat.M
namespace Go.Proofs.YtnbjflcfdncocaaGreatW.PrintWords
open Go.ChangeShapes Go.WideShapes
end Go.Proofs.YtnbjflcfdncocaaGreatW.PrintWords
namespace Go.Proofs.YtnbjflcfdncocaaGreat.msgKinds
open Go.ChangeShapes Go.WideShapes Go.ChangeAt Go.RowKit
open Go.ChangeMaps (open_string shut_string)
set_option linter.unusedVariables false
theorem own : ownKnob Tryz.prog.godebug = none := by kernel_rfl
theorem laidOut : laidOutB Tryz.prog = true := by kernel_rfl
set_option maxRecDepth 100000 in
theorem lifted (os : Os) (started : os.Started) (H : Type) (enc : TypeId × Value → H) :
    ReturnsInHanded {} Tryz.checked os 5 .any (Rows.msgKindsSpec.pre6 enc Tryz.prog Tryz.f5 Rows.msgKindsRow.domain false) (Rows.msgKindsSpec.post enc Tryz.prog Tryz.f5 false true false false) := by
  refine returnsInHanded_of_change_sized (C := Tryz.checked) own started (by kernel_rfl) Tryz.func5
    (ChangeSpec.witness6 (enc := enc) (C := Tryz.checked) false ⟨#[], #[.int .i64 0, .slice none 0 0, .agg #[.int .i64 0, .int .i64 0, .int .i64 0, .slice none 0 0, .slice none 0 0, .slice none 0 0], .int .i64 0], []⟩ 8 (by kernel_rfl) (by kernel_rfl) (by kernel_rfl) (by kernel_rfl)) ?_
  intro W base args ds gs before hval0 hW hcnd hsz0 _
  have hval : ∀ (j : Nat) t v, Tryz.f5.params[j]? = some t → args[j]? = some v → Value.okWide Tryz.prog W .any base t v := hval0
  have hW' := hW
  obtain ⟨p, q, hA0, hV, rfl, hfz, hnd⟩ := hW
  have hA : DataW.TrodAll enc Tryz.prog W 0 (fun _ => true) true Tryz.f5.params.toList args.toList ds p := hA0
  rw [Tryz.params5] at hA hval
  obtain ⟨v0, vs0, d0, ds0, p0, q0, hargs, rfl, rfl, h0, r0⟩ := trodAll_cons hA
  obtain ⟨v1, vs1, d1, ds1, p1, q1, rfl, rfl, rfl, h1, r1⟩ := trodAll_cons r0
  obtain ⟨v2, vs2, d2, ds2, p2, q2, rfl, rfl, rfl, h2, r2⟩ := trodAll_cons r1
  obtain ⟨v3, vs3, d3, ds3, p3, q3, rfl, rfl, rfl, h3, r3⟩ := trodAll_cons r2
  obtain ⟨rfl, rfl, rfl⟩ := trodAll_nil r3
  obtain rfl : args = #[v0, v1, v2, v3] := by cases args; simp_all
  obtain ⟨rfl, rfl⟩ := trodVars_none hV
  obtain ⟨a0, rfl, rfl, rfl, w0⟩ := open_int Tryz.underlying3 (hval 0 3 v0 rfl rfl) h0
  have k1 := h1
  have lt1 : ∀ x ∈ p1, x.block < W.heap.size := by obtain ⟨m, hm⟩ := k1; exact DataW.trod_lt m _ _ _ hm
  obtain ⟨l1, A1, c1, rfl, b1, g1⟩ := M.forms_in (hval 1 22 v1 rfl rfl) h1
  have k2 := h2
  have lt2 : ∀ x ∈ p2, x.block < W.heap.size := by obtain ⟨m, hm⟩ := k2; exact DataW.trod_lt m _ _ _ hm
  obtain ⟨x2, A2_3, c2_3, A2_4, c2_4, A2_5, c2_5, rfl, l2_3, g2_3, l2_4, g2_4, l2_5, g2_5⟩ := M.msg_in (hval 2 26 v2 rfl rfl) h2
  obtain ⟨a3, rfl, rfl, rfl, w3⟩ := open_int Tryz.underlying3 (hval 3 3 v3 rfl rfl) h3
  clear hA0 hval0 hsz0
  refine (M.kinds_all a0 A1 c1 l1 x2.f0 x2.f1 x2.f2 A2_3 c2_3 x2.f3 A2_4 c2_4 x2.f4 A2_5 c2_5 x2.f5 a3 W ⟨g1, b1⟩ ⟨g2_3, l2_3⟩ ⟨g2_4, l2_4⟩ ⟨g2_5, l2_5⟩).mono fun e W' ⟨he, bel⟩ => ?_
  subst he
  exact ⟨_, rfl, _, _, _, [], _, [], hW', trodAll_mk1 (shut_bool Tryz.underlying4 _), (trodAll_cons_mk (shut_int Tryz.underlying3 w0) (trodAll_cons_mk (Below.trod laidOut (by kernel_rfl) (of_decide_eq_true (by kernel_rfl)) k1 bel lt1) (trodAll_cons_mk (Below.trod laidOut (by kernel_rfl) (of_decide_eq_true (by kernel_rfl)) k2 bel lt2) (trodAll_cons_mk (shut_int Tryz.underlying3 w3) trodAll_mk0)))), rfl, bel.frame _, fun h => by cases h⟩
theorem over : Rows.msgKindsRow.holds Tryz.pinned (OpenSpec.ofChange Rows.msgKindsSpec) :=
  OpenClaim.holds_of_wide 5 Tryz.f5 rfl rfl rfl rfl rfl rfl rfl ⟨rfl, rfl, rfl, rfl, rfl⟩ rfl rfl rfl rfl rfl (by kernel_rfl) Tryz.func5 (by kernel_rfl)
    (of_decide_eq_true (by kernel_rfl)) (by unfold Func.isWrapper; first | (rw [if_pos (by decide +kernel)]; kernel_rfl) | (rw [if_neg (by decide +kernel)]; exact ⟨rfl, rfl⟩))
    (fun os started H enc _ => lifted os started H enc)
theorem proved : Rows.MsgKindsSaid := over
#print axioms proved
end Go.Proofs.YtnbjflcfdncocaaGreat.msgKinds
namespace Go.Proofs.YtnbjflcfdncocaaGreat
theorem msgKinds_holds : Rows.MsgKindsSaid := msgKinds.proved
end Go.Proofs.YtnbjflcfdncocaaGreat
