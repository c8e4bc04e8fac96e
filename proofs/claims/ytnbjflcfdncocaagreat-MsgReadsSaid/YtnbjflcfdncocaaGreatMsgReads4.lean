/- The law MsgReads of the program's messages holds for every input (its row stands in the last of these texts): part 4 of 6. -/
import Derived.Test.YtnbjflcfdncocaaGreatMsgReads2
import Derived.Test.YtnbjflcfdncocaaGreatMsgReads3
namespace Go.Proofs.YtnbjflcfdncocaaGreat.M
open Go.RowKit Go.Proofs.YtnbjflcfdncocaaGreatW.PrintWords Go.Proofs.YtnbjflcfdncocaaGreatW.PrintLast Go.Proofs.YtnbjflcfdncocaaGreatW.PrintMore
attribute [local go_sem] max2_int min2_int max_two min_two max_three min_three max_four min_four
set_option linter.unusedVariables false
set_option linter.unusedSimpArgs false
def row_Check.f (l0 : List (S92)) : Option (Int) := if (l0.length : Int) > 12 then (some 2) else ((contains_wrong.f l0).bind fun t196 => (if t196 = true then (some 1) else (some 0)))
set_option maxHeartbeats 8000000 in
set_option maxRecDepth 100000 in
theorem row_Check.calls (A0 : Option Addr) (c0 : Nat) (l0 : List (S92)) (r : Int) (w : World) (hr0 : Kd.C k92 w A0 l0.length l0) (hc0 : l0.length ≤ c0) (h : row_Check.f l0 = some r) :
  Calls Tryz.prog 100 #[.slice A0 l0.length c0] w fun e w' => e = .returned (.int .i64 r) ∧ Below w.heap.size w w' := by
 have HR0 := Aside0.mk hr0
 have HC0 := Aside0.mk hc0
 clear hr0 hc0
 have HB := Aside0.mk (Below.refl w.heap.size w)
 have H : (if (l0.length : Int) > 12 then (some 2) else ((contains_wrong.f l0).bind fun t196 => (if t196 = true then (some 1) else (some 0)))) = some r := h
 clear h
 by_cases c2 : (l0.length : Int) > 12
 ·rw [if_pos c2] at H
  have c2b0 : decide (12 < (l0.length : Int)) = true := decide_eq_true c2
  have c2b1 : decide (12 < l0.length) = true := decide_eq_true (by omega)
  clear c2
  obtain rfl := Option.some.inj H
  go_enter Tryz.func100, Tryz.ntmps100
  go_wp2
  go_ret
  exact ⟨by first | rfl | (simp [errW_none, errW_some] <;> rfl) | (simp [*, errW_none, errW_some] <;> rfl), by with_reducible repeat (first | exact HB.out | apply below_alloc | apply pw_below_drewN | apply below_drew1)⟩
 ·rw [if_neg c2] at H
  have c2b0 : decide (12 < (l0.length : Int)) = false := decide_eq_false c2
  have c2b1 : decide (12 < l0.length) = false := decide_eq_false (by omega)
  clear c2
  replace H := Option.bind_eq_some_iff.mp H
  obtain ⟨t196, A30, H⟩ := H
  try dsimp only at H
  have A3 := Aside0.mk A30
  clear A30
  by_cases c4 : t196 = true
  ·subst c4
   rw [if_pos rfl] at H
   obtain rfl := Option.some.inj H
   go_enter Tryz.func100, Tryz.ntmps100
   go_wp2_with (first | (go_at_call 119; (with_reducible refine (contains_wrong.calls _ _ l0 true _ ?side1 ?side2 A3.out).mono ?_); (case side1 => repeat (first | exact HR0.out | (with_reducible refine Kd.C_alloc ?_ _) | (with_reducible refine Kd.C_drewN ?_ _) | (with_reducible refine Kd.C_drew ?_))); (case side2 => exact HC0.out); rintro e w5 ⟨rfl, hb⟩; have n0_ := Aside0.mk (below_step (by with_reducible repeat (first | exact HB.out | apply below_alloc | apply pw_below_drewN | apply below_drew1)) hb); clear HB; have HB := n0_; clear n0_; (try clear hb); (try clear hb2); (try clear hk); (try clear hi)))
   go_ret
   exact ⟨by first | rfl | (simp [errW_none, errW_some] <;> rfl) | (simp [*, errW_none, errW_some] <;> rfl), by with_reducible repeat (first | exact HB.out | apply below_alloc | apply pw_below_drewN | apply below_drew1)⟩
  ·replace c4 := Bool.eq_false_iff.mpr c4
   subst c4
   rw [if_neg (show ¬ (false = true) by decide)] at H
   obtain rfl := Option.some.inj H
   go_enter Tryz.func100, Tryz.ntmps100
   go_wp2_with (first | (go_at_call 119; (with_reducible refine (contains_wrong.calls _ _ l0 false _ ?side1 ?side2 A3.out).mono ?_); (case side1 => repeat (first | exact HR0.out | (with_reducible refine Kd.C_alloc ?_ _) | (with_reducible refine Kd.C_drewN ?_ _) | (with_reducible refine Kd.C_drew ?_))); (case side2 => exact HC0.out); rintro e w6 ⟨rfl, hb⟩; have n0_ := Aside0.mk (below_step (by with_reducible repeat (first | exact HB.out | apply below_alloc | apply pw_below_drewN | apply below_drew1)) hb); clear HB; have HB := n0_; clear n0_; (try clear hb); (try clear hb2); (try clear hk); (try clear hi)))
   go_ret
   exact ⟨by first | rfl | (simp [errW_none, errW_some] <;> rfl) | (simp [*, errW_none, errW_some] <;> rfl), by with_reducible repeat (first | exact HB.out | apply below_alloc | apply pw_below_drewN | apply below_drew1)⟩
def wire_PutInt.j0 : Nat → List Int → Int → Bool → Option (List Int × Int)
 | 0, _, _, _ => none
 | k + 1, x0, x1, x12 => if x12 = true then (some (([] : List Int), 1)) else (if x1 < 0 then ((slices_Clone_byte_byte.f x0).bind fun t197 => (if t197.length < 140737488355328 then ((wire_big.f k (t197 ++ [1]) (wrap64 (-x1)) 8).bind fun t203 => (some (t203, 0))) else (none))) else ((slices_Clone_byte_byte.f x0).bind fun t206 => (if t206.length < 140737488355328 then ((wire_big.f k (t206 ++ [0]) x1 8).bind fun t212 => (some (t212, 0))) else (none))))
def wire_PutInt.f (k : Nat) (l0 : List Int) (a1 : Int) : Option (List Int × Int) := if a1 < (-1152921504606846976) then (wire_PutInt.j0 k l0 a1 true) else (wire_PutInt.j0 k l0 a1 (decide (a1 > 1152921504606846976)))
set_option maxHeartbeats 8000000 in
set_option maxRecDepth 100000 in
theorem wire_PutInt.calls (k : Nat) (A0 : Option Addr) (c0 : Nat) (l0 : List Int) (a1 : Int) (r1 : List Int) (r2 : Int) (w : World) (hr0 : Kd.C (Kd.int .u8) w A0 l0.length l0) (hc0 : l0.length ≤ c0) (h : wire_PutInt.f k l0 a1 = some (r1, r2)) :
  Calls Tryz.prog 122 #[.slice A0 l0.length c0, .int .i64 a1] w fun e w' => ∃ v0_ : Value, e = .returned (.tuple #[v0_, .int .i64 r2]) ∧ Kd.R (Kd.int .u8) 5 w' w.heap.size (fun _ => True) v0_ r1 ∧ Below w.heap.size w w' := by
 have HR0 := Aside0.mk hr0
 have HC0 := Aside0.mk hc0
 clear hr0 hc0
 have HB := Aside0.mk (Below.refl w.heap.size w)
 have H : (if a1 < (-1152921504606846976) then (wire_PutInt.j0 k l0 a1 true) else (wire_PutInt.j0 k l0 a1 (decide (a1 > 1152921504606846976)))) = some (r1, r2) := h
 clear h
 have HC3 := Aside0.mk H
 clear H
 go_enter Tryz.func122, Tryz.ntmps122
 go_upto_region 1 with (fail)
 go_cut [12] (fun v12 wc => ∃ (kq : Nat) (x12_2 : Bool), v12 = .bool x12_2 ∧ Aside0 (wire_PutInt.j0 kq l0 a1 x12_2 = some (r1, r2)) ∧ Aside0 (kq ≤ k) ∧ Aside0 (Below w.heap.size w wc))
 case first =>
  have H := HC3.out
  clear HC3
  by_cases c4 : a1 < (-1152921504606846976)
  ·rw [if_pos c4] at H
   have c4b0 : decide (a1 < (-1152921504606846976)) = true := decide_eq_true c4
   clear c4
   (first | rw [c4b0] | (simp only [i64_w, i32_w]; rw [c4b0]) | skip)
   have H' := Aside0.mk H
   clear H
   go_wp2
   go_meet
   case rel => exact ⟨_, (true), (by first | rfl | (simp; done) | (simp [*]; done)), H', ⟨by first | omega | exact Nat.le_refl _⟩, ⟨by with_reducible repeat (first | exact HB.out | apply below_alloc | apply pw_below_drewN | apply below_drew1)⟩⟩
  ·rw [if_neg c4] at H
   have c4b0 : decide (a1 < (-1152921504606846976)) = false := decide_eq_false c4
   clear c4
   (first | rw [c4b0] | (simp only [i64_w, i32_w]; rw [c4b0]) | skip)
   have H' := Aside0.mk H
   clear H
   go_wp2
   go_meet
   case rel => exact ⟨_, (decide (a1 > 1152921504606846976)), (by first | rfl | (simp; done) | (simp [*]; done)), H', ⟨by first | omega | exact Nat.le_refl _⟩, ⟨by with_reducible repeat (first | exact HB.out | apply below_alloc | apply pw_below_drewN | apply below_drew1)⟩⟩
 case rest =>
  clear HC3
  try clear c1
  try clear p2
  try clear c4
  try clear c4b0
  obtain ⟨kq, x12_2, rfl, HA, HJ2, HB⟩ := hcut
  cases kq with
  | zero => exact absurd HA.out (by simp [wire_PutInt.j0])
  | succ kj2 =>
   have H := HA.out
   clear HA
   simp only [wire_PutInt.j0] at H
   by_cases c5 : x12_2 = true
   ·subst c5
    rw [if_pos rfl] at H
    simp only [Option.some.injEq, Prod.mk.injEq] at H
    obtain ⟨rfl, rfl⟩ := H
    go_wp2
    go_ret2
    exact ⟨_, by first | rfl | (simp [errW_none, errW_some] <;> rfl) | (simp [*, errW_none, errW_some] <;> rfl), by first | exact Kd.R_nil _ _ _ _ _ | exact Kd.N_nil _ _ _ _ _ | exact Kd.V_nil _ _ _ _ _ | exact Kd.Q_nil _ _ _ _ _ | exact Kd.S_nil _ _ _ _ _, by with_reducible repeat (first | exact HB.out | apply below_alloc | apply pw_below_drewN | apply below_drew1)⟩
   ·replace c5 := Bool.eq_false_iff.mpr c5
    subst c5
    rw [if_neg (show ¬ (false = true) by decide)] at H
    by_cases c6 : a1 < 0
    ·rw [if_pos c6] at H
     have c6b0 : decide (a1 < 0) = true := decide_eq_true c6
     clear c6
     replace H := Option.bind_eq_some_iff.mp H
     obtain ⟨t197, A70, H⟩ := H
     try dsimp only at H
     have A7 := Aside0.mk A70
     clear A70
     by_cases c8 : t197.length < 140737488355328
     ·rw [if_pos c8] at H
      have LMc8 := Aside0.mk c8
      clear c8
      obtain ⟨y200, hy200⟩ : ∃ y_ : List Int, y_ = (t197 ++ [1]) := ⟨_, rfl⟩
      replace H : ((wire_big.f kj2 y200 (wrap64 (-a1)) 8).bind fun t203 => (some (t203, 0))) = some (r1, r2) := by first | (rw [hy200]; with_reducible exact H) | (have H2_ := (Option.bind_some _ _).symm.trans H; rw [hy200]; with_reducible exact H2_) | (have H2_ := (Option.bind_some _ _).symm.trans H; with_reducible exact H2_) | with_reducible exact H | (rw [hy200]; exact H) | exact H
      have Ny200 := Aside0.mk hy200
      clear hy200
      replace H := Option.bind_eq_some_iff.mp H
      obtain ⟨t203, A90, H⟩ := H
      try dsimp only at H
      have A9 := Aside0.mk A90
      clear A90
      simp only [Option.some.injEq, Prod.mk.injEq] at H
      obtain ⟨rfl, rfl⟩ := H
      go_wp2_with (first | ((with_reducible refine gate_callee (f := 66) rfl ?_); refine goesL_ (some 18) rfl rfl Tryz.func66 (by kernel_rfl) rfl #[.slice A0 l0.length c0] rfl (by (try simp only [List.map_toArray, List.map_cons, List.map_nil]); first | done | rfl | (simp only [List.length_drop, List.length_take]; rfl)) ?_; (with_reducible refine (slices_Clone_byte_byte.calls _ _ l0 t197 _ ?side1 ?side2 A7.out).mono ?_); (case side1 => repeat (first | exact (Kd.C_below HR0.out HB.out) | (with_reducible refine Kd.C_alloc ?_ _) | (with_reducible refine Kd.C_drewN ?_ _) | (with_reducible refine Kd.C_drew ?_))); (case side2 => exact HC0.out); rintro e w10 ⟨v198, rfl, ho0, hb⟩; refine ⟨_, rfl, ?_⟩; have n0_ := Aside0.mk (Kd.R_lower ho0 (below_size (by with_reducible repeat (first | exact HB.out | apply below_alloc | apply pw_below_drewN | apply below_drew1)))); have n1_ := Aside0.mk (below_step (by with_reducible repeat (first | exact HB.out | apply below_alloc | apply pw_below_drewN | apply below_drew1)) hb); clear HB; have HO199 := n0_; have HB := n1_; clear n0_ n1_; (try clear hb); (try clear hb2); (try clear hk); (try clear hi); (try clear ho0)) | ((with_reducible refine gate_builtin (b := .append) (xs := #[.tmp 18, .tmp 20]) rfl ?_); at_builtin; refine Kd.R_append (Kd.int .u8) (w0 := w) w.heap.size rfl (.tmp 18) (.tmp 20) 33 5 (.int .u8 0) 1 rfl Tryz.underlying33 info5 rfl (by decide) (by omega) v198 t197 1 [.int .u8 1] (fun _ => True) (fun _ => False) rfl rfl ?aP (fun _ hk => hk.elim) ?aF ?aO ?aB ?aS ?aL ?_; (case aP => exact rfl); (case aB => exact (by with_reducible repeat (first | exact HB.out | apply below_alloc | apply pw_below_drewN | apply below_drew1))); (case aF => exact (fun _ _ => trivial)); (case aO => exact (by (with_reducible repeat (first | apply Kd.R_alloc | apply Kd.R_drewN | apply Kd.R_drew)); exact HO199.out)); (case aS => exact (below_size (by with_reducible repeat (first | exact HB.out | apply below_alloc | apply pw_below_drewN | apply below_drew1)))); (case aL => have := LMc8.out; omega); intro v201 w11 ho hb hg hat; rw [← Ny200.out] at ho; have n0_ := Aside0.mk (hb); have n1_ := Aside0.mk (ho); clear HB; clear HO199; have HB := n0_; have HO202 := n1_; clear n0_ n1_; clear ho hb hg hat; obtain ⟨Ao12, co12, eo12⟩ := Kd.R_slice HO202.out; subst eo12) | ((with_reducible refine gate_callee (f := 98) rfl ?_); refine goesL_ (some 23) rfl rfl Tryz.func98 (by kernel_rfl) rfl #[.slice Ao12 y200.length co12, .int .i64 (wrap64 (-a1)), .int .i64 8] rfl (by (try simp only [List.map_toArray, List.map_cons, List.map_nil]); first | done | rfl | (simp only [List.length_drop, List.length_take]; rfl)) ?_; (with_reducible refine (wire_big.calls kj2 _ _ y200 (wrap64 (-a1)) 8 t203 _ ?side1 ?side2 A9.out).mono ?_); (case side1 => repeat (first | exact (Kd.R_reads' HO202.out).2.2 | (with_reducible refine Kd.C_alloc ?_ _) | (with_reducible refine Kd.C_drewN ?_ _) | (with_reducible refine Kd.C_drew ?_))); (case side2 => exact (Kd.R_reads' HO202.out).2.1); rintro e w13 ⟨v204, rfl, ho0, hb⟩; refine ⟨_, rfl, ?_⟩; have n0_ := Aside0.mk (Kd.R_elder' (by (with_reducible repeat (first | apply Kd.R_alloc | apply Kd.R_drewN | apply Kd.R_drew)); exact HO202.out) (Kd.R_base ho0) hb); have n1_ := Aside0.mk (Kd.R_lower (Kd.R_new' ho0 (Kd.R_lt (by (with_reducible repeat (first | apply Kd.R_alloc | apply Kd.R_drewN | apply Kd.R_drew)); exact HO202.out))) (below_size (by with_reducible repeat (first | exact HB.out | apply below_alloc | apply pw_below_drewN | apply below_drew1)))); have n2_ := Aside0.mk (below_step (by with_reducible repeat (first | exact HB.out | apply below_alloc | apply pw_below_drewN | apply below_drew1)) hb); clear HO202; clear HB; have HO202 := n0_; have HO205 := n1_; have HB := n2_; clear n0_ n1_ n2_; (try clear hb); (try clear hb2); (try clear hk); (try clear hi); (try clear ho0)))
      go_ret2
      exact ⟨_, by first | rfl | (simp [errW_none, errW_some] <;> rfl) | (simp [*, errW_none, errW_some] <;> rfl), by (with_reducible repeat (first | apply Kd.R_alloc | apply Kd.R_drewN | apply Kd.R_drew)); exact Kd.R_mono HO205.out (fun _ hk => trivial), by with_reducible repeat (first | exact HB.out | apply below_alloc | apply pw_below_drewN | apply below_drew1)⟩
     ·rw [if_neg c8] at H
      exact absurd H (by simp)
    ·rw [if_neg c6] at H
     have c6b0 : decide (a1 < 0) = false := decide_eq_false c6
     clear c6
     replace H := Option.bind_eq_some_iff.mp H
     obtain ⟨t206, A140, H⟩ := H
     try dsimp only at H
     have A14 := Aside0.mk A140
     clear A140
     by_cases c15 : t206.length < 140737488355328
     ·rw [if_pos c15] at H
      have LMc15 := Aside0.mk c15
      clear c15
      obtain ⟨y209, hy209⟩ : ∃ y_ : List Int, y_ = (t206 ++ [0]) := ⟨_, rfl⟩
      replace H : ((wire_big.f kj2 y209 a1 8).bind fun t212 => (some (t212, 0))) = some (r1, r2) := by first | (rw [hy209]; with_reducible exact H) | (have H2_ := (Option.bind_some _ _).symm.trans H; rw [hy209]; with_reducible exact H2_) | (have H2_ := (Option.bind_some _ _).symm.trans H; with_reducible exact H2_) | with_reducible exact H | (rw [hy209]; exact H) | exact H
      have Ny209 := Aside0.mk hy209
      clear hy209
      replace H := Option.bind_eq_some_iff.mp H
      obtain ⟨t212, A160, H⟩ := H
      try dsimp only at H
      have A16 := Aside0.mk A160
      clear A160
      simp only [Option.some.injEq, Prod.mk.injEq] at H
      obtain ⟨rfl, rfl⟩ := H
      go_wp2_with (first | ((with_reducible refine gate_callee (f := 66) rfl ?_); refine goesL_ (some 18) rfl rfl Tryz.func66 (by kernel_rfl) rfl #[.slice A0 l0.length c0] rfl (by (try simp only [List.map_toArray, List.map_cons, List.map_nil]); first | done | rfl | (simp only [List.length_drop, List.length_take]; rfl)) ?_; (with_reducible refine (slices_Clone_byte_byte.calls _ _ l0 t206 _ ?side1 ?side2 A14.out).mono ?_); (case side1 => repeat (first | exact (Kd.C_below HR0.out HB.out) | (with_reducible refine Kd.C_alloc ?_ _) | (with_reducible refine Kd.C_drewN ?_ _) | (with_reducible refine Kd.C_drew ?_))); (case side2 => exact HC0.out); rintro e w17 ⟨v207, rfl, ho0, hb⟩; refine ⟨_, rfl, ?_⟩; have n0_ := Aside0.mk (Kd.R_lower ho0 (below_size (by with_reducible repeat (first | exact HB.out | apply below_alloc | apply pw_below_drewN | apply below_drew1)))); have n1_ := Aside0.mk (below_step (by with_reducible repeat (first | exact HB.out | apply below_alloc | apply pw_below_drewN | apply below_drew1)) hb); clear HB; have HO208 := n0_; have HB := n1_; clear n0_ n1_; (try clear hb); (try clear hb2); (try clear hk); (try clear hi); (try clear ho0)) | ((with_reducible refine gate_builtin (b := .append) (xs := #[.tmp 18, .tmp 20]) rfl ?_); at_builtin; refine Kd.R_append (Kd.int .u8) (w0 := w) w.heap.size rfl (.tmp 18) (.tmp 20) 33 5 (.int .u8 0) 1 rfl Tryz.underlying33 info5 rfl (by decide) (by omega) v207 t206 0 [.int .u8 0] (fun _ => True) (fun _ => False) rfl rfl ?aP (fun _ hk => hk.elim) ?aF ?aO ?aB ?aS ?aL ?_; (case aP => exact rfl); (case aB => exact (by with_reducible repeat (first | exact HB.out | apply below_alloc | apply pw_below_drewN | apply below_drew1))); (case aF => exact (fun _ _ => trivial)); (case aO => exact (by (with_reducible repeat (first | apply Kd.R_alloc | apply Kd.R_drewN | apply Kd.R_drew)); exact HO208.out)); (case aS => exact (below_size (by with_reducible repeat (first | exact HB.out | apply below_alloc | apply pw_below_drewN | apply below_drew1)))); (case aL => have := LMc15.out; omega); intro v210 w18 ho hb hg hat; rw [← Ny209.out] at ho; have n0_ := Aside0.mk (hb); have n1_ := Aside0.mk (ho); clear HB; clear HO208; have HB := n0_; have HO211 := n1_; clear n0_ n1_; clear ho hb hg hat; obtain ⟨Ao19, co19, eo19⟩ := Kd.R_slice HO211.out; subst eo19) | ((with_reducible refine gate_callee (f := 98) rfl ?_); refine goesL_ (some 23) rfl rfl Tryz.func98 (by kernel_rfl) rfl #[.slice Ao19 y209.length co19, .int .i64 a1, .int .i64 8] rfl (by (try simp only [List.map_toArray, List.map_cons, List.map_nil]); first | done | rfl | (simp only [List.length_drop, List.length_take]; rfl)) ?_; (with_reducible refine (wire_big.calls kj2 _ _ y209 a1 8 t212 _ ?side1 ?side2 A16.out).mono ?_); (case side1 => repeat (first | exact (Kd.R_reads' HO211.out).2.2 | (with_reducible refine Kd.C_alloc ?_ _) | (with_reducible refine Kd.C_drewN ?_ _) | (with_reducible refine Kd.C_drew ?_))); (case side2 => exact (Kd.R_reads' HO211.out).2.1); rintro e w20 ⟨v213, rfl, ho0, hb⟩; refine ⟨_, rfl, ?_⟩; have n0_ := Aside0.mk (Kd.R_elder' (by (with_reducible repeat (first | apply Kd.R_alloc | apply Kd.R_drewN | apply Kd.R_drew)); exact HO211.out) (Kd.R_base ho0) hb); have n1_ := Aside0.mk (Kd.R_lower (Kd.R_new' ho0 (Kd.R_lt (by (with_reducible repeat (first | apply Kd.R_alloc | apply Kd.R_drewN | apply Kd.R_drew)); exact HO211.out))) (below_size (by with_reducible repeat (first | exact HB.out | apply below_alloc | apply pw_below_drewN | apply below_drew1)))); have n2_ := Aside0.mk (below_step (by with_reducible repeat (first | exact HB.out | apply below_alloc | apply pw_below_drewN | apply below_drew1)) hb); clear HO211; clear HB; have HO211 := n0_; have HO214 := n1_; have HB := n2_; clear n0_ n1_ n2_; (try clear hb); (try clear hb2); (try clear hk); (try clear hi); (try clear ho0)))
      go_ret2
      exact ⟨_, by first | rfl | (simp [errW_none, errW_some] <;> rfl) | (simp [*, errW_none, errW_some] <;> rfl), by (with_reducible repeat (first | apply Kd.R_alloc | apply Kd.R_drewN | apply Kd.R_drew)); exact Kd.R_mono HO214.out (fun _ hk => trivial), by with_reducible repeat (first | exact HB.out | apply below_alloc | apply pw_below_drewN | apply below_drew1)⟩
     ·rw [if_neg c15] at H
      exact absurd H (by simp)
def value_Bytes.f (k : Nat) (a0_0 : Int) (a0_1 : Int) (a0_2 : ByteArray) : Option (List Int × Int) := (value_Check.f a0_0 a0_1 a0_2).bind fun t216 => (if t216 = 0 then ((some (([(a0_0) % 256] : List Int) : List Int)).bind fun y217 => (if a0_0 = 2 then (if y217.length < 140737488355328 then (some ((y217 ++ [(a0_1) % 256]), 0)) else (none)) else (if a0_0 = 3 then ((wire_PutInt.f k y217 a0_1).bind fun bt223 => (some (bt223.1, bt223.2))) else (if a0_0 = 4 then ((wire_PutText.f y217 a0_2).bind fun bt227 => (some (bt227.1, bt227.2))) else (some (y217, 0)))))) else (some (([] : List Int), t216)))
set_option maxHeartbeats 8000000 in
set_option maxRecDepth 100000 in
theorem value_Bytes.calls (k : Nat) (a0_0 : Int) (a0_1 : Int) (a0_2 : ByteArray) (r1 : List Int) (r2 : Int) (w : World) (h : value_Bytes.f k a0_0 a0_1 a0_2 = some (r1, r2)) :
  Calls Tryz.prog 101 #[.agg #[.int .i64 a0_0, .int .i64 a0_1, .string a0_2]] w fun e w' => ∃ v0_ : Value, e = .returned (.tuple #[v0_, .int .i64 r2]) ∧ Kd.R (Kd.int .u8) 5 w' w.heap.size (fun _ => True) v0_ r1 ∧ Below w.heap.size w w' := by
 have hu92 := Tryz.underlying92
 have HB := Aside0.mk (Below.refl w.heap.size w)
 have H : ((value_Check.f a0_0 a0_1 a0_2).bind fun t216 => (if t216 = 0 then ((some (([(a0_0) % 256] : List Int) : List Int)).bind fun y217 => (if a0_0 = 2 then (if y217.length < 140737488355328 then (some ((y217 ++ [(a0_1) % 256]), 0)) else (none)) else (if a0_0 = 3 then ((wire_PutInt.f k y217 a0_1).bind fun bt223 => (some (bt223.1, bt223.2))) else (if a0_0 = 4 then ((wire_PutText.f y217 a0_2).bind fun bt227 => (some (bt227.1, bt227.2))) else (some (y217, 0)))))) else (some (([] : List Int), t216)))) = some (r1, r2) := h
 clear h
 replace H := Option.bind_eq_some_iff.mp H
 obtain ⟨t216, A20, H⟩ := H
 try dsimp only at H
 have A2 := Aside0.mk A20
 clear A20
 by_cases c3 : t216 = 0
 ·rw [if_pos c3] at H
  have c3b0 : (t216 == 0) = true := beq_iff_eq.mpr c3
  have c3b1 : (t216 != 0) = false := bne_eq_false_iff_eq.mpr c3
  clear c3
  obtain ⟨y217, hy217⟩ : ∃ y_ : List Int, y_ = (([(a0_0) % 256] : List Int)) := ⟨_, rfl⟩
  replace H : (if a0_0 = 2 then (if y217.length < 140737488355328 then (some ((y217 ++ [(a0_1) % 256]), 0)) else (none)) else (if a0_0 = 3 then ((wire_PutInt.f k y217 a0_1).bind fun bt223 => (some (bt223.1, bt223.2))) else (if a0_0 = 4 then ((wire_PutText.f y217 a0_2).bind fun bt227 => (some (bt227.1, bt227.2))) else (some (y217, 0))))) = some (r1, r2) := by first | (rw [hy217]; with_reducible exact H) | (have H2_ := (Option.bind_some _ _).symm.trans H; rw [hy217]; with_reducible exact H2_) | (have H2_ := (Option.bind_some _ _).symm.trans H; with_reducible exact H2_) | with_reducible exact H | (rw [hy217]; exact H) | exact H
  have Ny217 := Aside0.mk hy217
  clear hy217
  by_cases c4 : a0_0 = 2
  ·rw [if_pos c4] at H
   have c4b0 : (a0_0 == 2) = true := beq_iff_eq.mpr c4
   have c4b1 : (a0_0 != 2) = false := bne_eq_false_iff_eq.mpr c4
   clear c4
   by_cases c5 : y217.length < 140737488355328
   ·rw [if_pos c5] at H
    have LMc5 := Aside0.mk c5
    clear c5
    obtain ⟨y220, hy220⟩ : ∃ y_ : List Int, y_ = (y217 ++ [(a0_1) % 256]) := ⟨_, rfl⟩
    replace H : (some (y220, 0)) = some (r1, r2) := by first | (rw [hy220]; with_reducible exact H) | (have H2_ := (Option.bind_some _ _).symm.trans H; rw [hy220]; with_reducible exact H2_) | (have H2_ := (Option.bind_some _ _).symm.trans H; with_reducible exact H2_) | with_reducible exact H | (rw [hy220]; exact H) | exact H
    have Ny220 := Aside0.mk hy220
    clear hy220
    simp only [Option.some.injEq, Prod.mk.injEq] at H
    obtain ⟨rfl, rfl⟩ := H
    go_enter Tryz.func101, Tryz.ntmps101
    go_wp2_with (first | ((with_reducible refine gate_dst (N := 1) rfl ?_); refine box_event ?hg (N := 1) ?hd (cs := #[.int .i64 a0_0, .int .i64 a0_1, .string a0_2]) (t := 92) ?hr ?_; (case hd => rfl); (case hg => rfl); (case hr => first | (go_simp; done) | (go_simp; rfl)); intro gb215 hg w6 hbox hb; have n0_ := Aside0.mk (below_step (by with_reducible repeat (first | exact HB.out | apply below_alloc | apply pw_below_drewN | apply below_drew1)) hb); have n1_ := Aside0.mk (hbox); have n2_ := Aside0.mk ((by rw [hg]; exact (below_size (by with_reducible repeat (first | exact HB.out | apply below_alloc | apply pw_below_drewN | apply below_drew1))) : w.heap.size ≤ gb215)); have n3_ := Aside0.mk ((by rw [hg]; exact (below_size (by with_reducible repeat (first | exact HB.out | apply below_alloc | apply pw_below_drewN | apply below_drew1))) : w.heap.size ≤ gb215)); clear HB; have HB := n0_; have BK215 := n1_; have GW215 := n2_; have GE215 := n3_; clear n0_ n1_ n2_ n3_; clear hb hbox hg; have hcz7 := fun i_ => blk_cell BK215.out i_; have hfz7 := fun i_ => blk_frozen BK215.out i_) | ((with_reducible refine gate_callee (f := 121) rfl ?_); refine goesL_ (some 7) rfl rfl Tryz.func121 (by kernel_rfl) rfl #[.agg #[.int .i64 a0_0, .int .i64 a0_1, .string a0_2]] rfl (by (try simp only [List.map_toArray, List.map_cons, List.map_nil]); first | done | rfl | (simp only [List.length_drop, List.length_take]; rfl)) ?_; (with_reducible refine (value_Check.calls a0_0 a0_1 a0_2 t216 _ A2.out).mono ?_); rintro e w8 ⟨rfl, hb⟩; refine ⟨_, rfl, ?_⟩; have n0_ := Aside0.mk (blk_below (g := gb215) (o := .cells #[.int .i64 a0_0, .int .i64 a0_1, .string a0_2] 92 (0, 0)) (by (with_reducible repeat (first | refine blk_drewN ?_ _ | refine blk_drew ?_ | refine blk_alloc ?_ _)); exact BK215.out) hb); have n1_ := Aside0.mk (below_step (by with_reducible repeat (first | exact HB.out | apply below_alloc | apply pw_below_drewN | apply below_drew1 | refine below_set ?_ GE215.out)) hb); clear BK215; clear HB; have BK215 := n0_; have HB := n1_; clear n0_ n1_; (try clear hb); (try clear hb2); (try clear hk); (try clear hi); have hcz9 := fun i_ => blk_cell BK215.out i_; have hfz9 := fun i_ => blk_frozen BK215.out i_) | ((with_reducible refine gate_dst (N := 14) rfl ?_); refine Kd.R_lit (Kd.int .u8) _ 5 ?hg (N := 14) ?hd (xs := ([(a0_0) % 256] : List Int)) (inner := [.int .u8 ((a0_0) % 256)]) (ok := fun _ => True) (okp := fun _ => True) ?hr ?hp (fun _ hk => hk) trivial (Below.refl _ _) (Nat.le_refl _) (by simp) ?_; (case hd => rfl); (case hg => rfl); (case hr => first | (go_simp; done) | (go_simp; rfl)); (case hp => exact (Reps.one (show Kd.M (Kd.int .u8) _ _ _ ((a0_0) % 256) [.int .u8 ((a0_0) % 256)] from rfl) (Reps.none _ _))); intro v218 w10 ho11 hb hg_ hnew_; clear hg_ hnew_; (first | rw [← Ny217.out] at ho11 | (simp only [Int.reduceToNat] at ho11; rw [← Ny217.out] at ho11)); have n0_ := Aside0.mk (Kd.R_lower ho11 (below_size (by with_reducible repeat (first | exact HB.out | apply below_alloc | apply pw_below_drewN | apply below_drew1 | refine below_set ?_ GE215.out)))); have n1_ := Aside0.mk (blk_below (g := gb215) (o := .cells #[.int .i64 a0_0, .int .i64 a0_1, .string a0_2] 92 (0, 0)) (by (with_reducible repeat (first | refine blk_drewN ?_ _ | refine blk_drew ?_ | refine blk_alloc ?_ _)); exact BK215.out) hb); have n2_ := Aside0.mk (below_step (by with_reducible repeat (first | exact HB.out | apply below_alloc | apply pw_below_drewN | apply below_drew1 | refine below_set ?_ GE215.out)) hb); clear BK215; clear HB; have HO219 := n0_; have BK215 := n1_; have HB := n2_; clear n0_ n1_ n2_; clear hb ho11; have hcz12 := fun i_ => blk_cell BK215.out i_; have hfz12 := fun i_ => blk_frozen BK215.out i_) | ((with_reducible refine gate_builtin (b := .append) (xs := #[.tmp 19, .tmp 23]) rfl ?_); at_builtin; refine Kd.R_append (Kd.int .u8) (w0 := w) w.heap.size rfl (.tmp 19) (.tmp 23) 33 5 (.int .u8 0) 1 rfl Tryz.underlying33 info5 rfl (by decide) (by omega) v218 y217 ((a0_1) % 256) [.int .u8 ((a0_1) % 256)] (fun _ => True) (fun _ => False) rfl rfl ?aP (fun _ hk => hk.elim) ?aF ?aO ?aB ?aS ?aL ?_; (case aP => exact rfl); (case aB => exact (by with_reducible repeat (first | exact HB.out | apply below_alloc | apply pw_below_drewN | apply below_drew1 | refine below_set ?_ GE215.out))); (case aF => exact (fun _ _ => trivial)); (case aO => exact (by (with_reducible repeat (first | apply Kd.R_alloc | apply Kd.R_drewN | apply Kd.R_drew)); exact HO219.out)); (case aS => exact (below_size (by with_reducible repeat (first | exact HB.out | apply below_alloc | apply pw_below_drewN | apply below_drew1 | refine below_set ?_ GE215.out)))); (case aL => have := LMc5.out; omega); intro v221 w13 ho hb hg hat; rw [← Ny220.out] at ho; have n0_ := Aside0.mk (blk_grown (g := gb215) (o := .cells #[.int .i64 a0_0, .int .i64 a0_1, .string a0_2] 92 (0, 0)) (by (with_reducible repeat (first | refine blk_drewN ?_ _ | refine blk_drew ?_ | refine blk_alloc ?_ _)); exact BK215.out) hg (Kd.R_ne HO219.out BK215.out (by decide))); have n1_ := Aside0.mk (hb); have n2_ := Aside0.mk (ho); clear BK215; clear HB; clear HO219; have BK215 := n0_; have HB := n1_; have HO222 := n2_; clear n0_ n1_ n2_; clear ho hb hg hat))
    go_ret2
    exact ⟨_, by first | rfl | (simp [errW_none, errW_some] <;> rfl) | (simp [*, errW_none, errW_some] <;> rfl), by (with_reducible repeat (first | apply Kd.R_alloc | apply Kd.R_drewN | apply Kd.R_drew)); exact HO222.out, by with_reducible repeat (first | exact HB.out | apply below_alloc | apply pw_below_drewN | apply below_drew1 | refine below_set ?_ GE215.out)⟩
   ·rw [if_neg c5] at H
    exact absurd H (by simp)
  ·rw [if_neg c4] at H
   have c4b0 : (a0_0 == 2) = false := beq_eq_false_iff_ne.mpr c4
   have c4b1 : (a0_0 != 2) = true := bne_iff_ne.mpr c4
   by_cases c14 : a0_0 = 3
   ·rw [if_pos c14] at H
    have c14b0 : (a0_0 == 3) = true := beq_iff_eq.mpr c14
    have c14b1 : (a0_0 != 3) = false := bne_eq_false_iff_eq.mpr c14
    clear c14
    replace H := Option.bind_eq_some_iff.mp H
    obtain ⟨⟨t223, t224⟩, A150, H⟩ := H
    try dsimp only at H
    have A15 := Aside0.mk A150
    clear A150
    simp only [Option.some.injEq, Prod.mk.injEq] at H
    obtain ⟨rfl, rfl⟩ := H
    go_enter Tryz.func101, Tryz.ntmps101
    go_wp2_with (first | ((with_reducible refine gate_dst (N := 1) rfl ?_); refine box_event ?hg (N := 1) ?hd (cs := #[.int .i64 a0_0, .int .i64 a0_1, .string a0_2]) (t := 92) ?hr ?_; (case hd => rfl); (case hg => rfl); (case hr => first | (go_simp; done) | (go_simp; rfl)); intro gb215 hg w16 hbox hb; have n0_ := Aside0.mk (below_step (by with_reducible repeat (first | exact HB.out | apply below_alloc | apply pw_below_drewN | apply below_drew1)) hb); have n1_ := Aside0.mk (hbox); have n2_ := Aside0.mk ((by rw [hg]; exact (below_size (by with_reducible repeat (first | exact HB.out | apply below_alloc | apply pw_below_drewN | apply below_drew1))) : w.heap.size ≤ gb215)); have n3_ := Aside0.mk ((by rw [hg]; exact (below_size (by with_reducible repeat (first | exact HB.out | apply below_alloc | apply pw_below_drewN | apply below_drew1))) : w.heap.size ≤ gb215)); clear HB; have HB := n0_; have BK215 := n1_; have GW215 := n2_; have GE215 := n3_; clear n0_ n1_ n2_ n3_; clear hb hbox hg; have hcz17 := fun i_ => blk_cell BK215.out i_; have hfz17 := fun i_ => blk_frozen BK215.out i_) | ((with_reducible refine gate_callee (f := 121) rfl ?_); refine goesL_ (some 7) rfl rfl Tryz.func121 (by kernel_rfl) rfl #[.agg #[.int .i64 a0_0, .int .i64 a0_1, .string a0_2]] rfl (by (try simp only [List.map_toArray, List.map_cons, List.map_nil]); first | done | rfl | (simp only [List.length_drop, List.length_take]; rfl)) ?_; (with_reducible refine (value_Check.calls a0_0 a0_1 a0_2 t216 _ A2.out).mono ?_); rintro e w18 ⟨rfl, hb⟩; refine ⟨_, rfl, ?_⟩; have n0_ := Aside0.mk (blk_below (g := gb215) (o := .cells #[.int .i64 a0_0, .int .i64 a0_1, .string a0_2] 92 (0, 0)) (by (with_reducible repeat (first | refine blk_drewN ?_ _ | refine blk_drew ?_ | refine blk_alloc ?_ _)); exact BK215.out) hb); have n1_ := Aside0.mk (below_step (by with_reducible repeat (first | exact HB.out | apply below_alloc | apply pw_below_drewN | apply below_drew1 | refine below_set ?_ GE215.out)) hb); clear BK215; clear HB; have BK215 := n0_; have HB := n1_; clear n0_ n1_; (try clear hb); (try clear hb2); (try clear hk); (try clear hi); have hcz19 := fun i_ => blk_cell BK215.out i_; have hfz19 := fun i_ => blk_frozen BK215.out i_) | ((with_reducible refine gate_dst (N := 14) rfl ?_); refine Kd.R_lit (Kd.int .u8) _ 5 ?hg (N := 14) ?hd (xs := ([(a0_0) % 256] : List Int)) (inner := [.int .u8 ((a0_0) % 256)]) (ok := fun _ => True) (okp := fun _ => True) ?hr ?hp (fun _ hk => hk) trivial (Below.refl _ _) (Nat.le_refl _) (by simp) ?_; (case hd => rfl); (case hg => rfl); (case hr => first | (go_simp; done) | (go_simp; rfl)); (case hp => exact (Reps.one (show Kd.M (Kd.int .u8) _ _ _ ((a0_0) % 256) [.int .u8 ((a0_0) % 256)] from rfl) (Reps.none _ _))); intro v218 w20 ho21 hb hg_ hnew_; clear hg_ hnew_; (first | rw [← Ny217.out] at ho21 | (simp only [Int.reduceToNat] at ho21; rw [← Ny217.out] at ho21)); have n0_ := Aside0.mk (Kd.R_lower ho21 (below_size (by with_reducible repeat (first | exact HB.out | apply below_alloc | apply pw_below_drewN | apply below_drew1 | refine below_set ?_ GE215.out)))); have n1_ := Aside0.mk (blk_below (g := gb215) (o := .cells #[.int .i64 a0_0, .int .i64 a0_1, .string a0_2] 92 (0, 0)) (by (with_reducible repeat (first | refine blk_drewN ?_ _ | refine blk_drew ?_ | refine blk_alloc ?_ _)); exact BK215.out) hb); have n2_ := Aside0.mk (below_step (by with_reducible repeat (first | exact HB.out | apply below_alloc | apply pw_below_drewN | apply below_drew1 | refine below_set ?_ GE215.out)) hb); clear BK215; clear HB; have HO219 := n0_; have BK215 := n1_; have HB := n2_; clear n0_ n1_ n2_; clear hb ho21; have hcz22 := fun i_ => blk_cell BK215.out i_; have hfz22 := fun i_ => blk_frozen BK215.out i_; obtain ⟨Ao23, co23, eo23⟩ := Kd.R_slice HO219.out; subst eo23) | ((with_reducible refine gate_callee (f := 122) rfl ?_); refine goesL_ (some 30) rfl rfl Tryz.func122 (by kernel_rfl) rfl #[.slice Ao23 y217.length co23, .int .i64 a0_1] rfl (by (try simp only [List.map_toArray, List.map_cons, List.map_nil]); first | done | rfl | (simp only [List.length_drop, List.length_take]; rfl)) ?_; (with_reducible refine (wire_PutInt.calls k _ _ y217 a0_1 t223 t224 _ ?side1 ?side2 A15.out).mono ?_); (case side1 => repeat (first | exact (Kd.R_reads' HO219.out).2.2 | (with_reducible refine Kd.C_alloc ?_ _) | (with_reducible refine Kd.C_drewN ?_ _) | (with_reducible refine Kd.C_drew ?_))); (case side2 => exact (Kd.R_reads' HO219.out).2.1); rintro e w24 ⟨v225, rfl, ho0, hb⟩; refine ⟨_, rfl, ?_⟩; have n0_ := Aside0.mk (Kd.R_elder' (by (with_reducible repeat (first | apply Kd.R_alloc | apply Kd.R_drewN | apply Kd.R_drew)); exact HO219.out) (Kd.R_base ho0) hb); have n1_ := Aside0.mk (Kd.R_lower (Kd.R_new' ho0 (Kd.R_lt (by (with_reducible repeat (first | apply Kd.R_alloc | apply Kd.R_drewN | apply Kd.R_drew)); exact HO219.out))) (below_size (by with_reducible repeat (first | exact HB.out | apply below_alloc | apply pw_below_drewN | apply below_drew1 | refine below_set ?_ GE215.out)))); have n2_ := Aside0.mk (blk_below (g := gb215) (o := .cells #[.int .i64 a0_0, .int .i64 a0_1, .string a0_2] 92 (0, 0)) (by (with_reducible repeat (first | refine blk_drewN ?_ _ | refine blk_drew ?_ | refine blk_alloc ?_ _)); exact BK215.out) hb); have n3_ := Aside0.mk (below_step (by with_reducible repeat (first | exact HB.out | apply below_alloc | apply pw_below_drewN | apply below_drew1 | refine below_set ?_ GE215.out)) hb); clear HO219; clear BK215; clear HB; have HO219 := n0_; have HO226 := n1_; have BK215 := n2_; have HB := n3_; clear n0_ n1_ n2_ n3_; (try clear hb); (try clear hb2); (try clear hk); (try clear hi); (try clear ho0)))
    go_ret2
    exact ⟨_, by first | rfl | (simp [errW_none, errW_some] <;> rfl) | (simp [*, errW_none, errW_some] <;> rfl), by (with_reducible repeat (first | apply Kd.R_alloc | apply Kd.R_drewN | apply Kd.R_drew)); exact Kd.R_mono HO226.out (fun _ hk => trivial), by with_reducible repeat (first | exact HB.out | apply below_alloc | apply pw_below_drewN | apply below_drew1 | refine below_set ?_ GE215.out)⟩
   ·rw [if_neg c14] at H
    have c14b0 : (a0_0 == 3) = false := beq_eq_false_iff_ne.mpr c14
    have c14b1 : (a0_0 != 3) = true := bne_iff_ne.mpr c14
    by_cases c25 : a0_0 = 4
    ·rw [if_pos c25] at H
     have c25b0 : (a0_0 == 4) = true := beq_iff_eq.mpr c25
     have c25b1 : (a0_0 != 4) = false := bne_eq_false_iff_eq.mpr c25
     clear c25
     replace H := Option.bind_eq_some_iff.mp H
     obtain ⟨⟨t227, t228⟩, A260, H⟩ := H
     try dsimp only at H
     have A26 := Aside0.mk A260
     clear A260
     simp only [Option.some.injEq, Prod.mk.injEq] at H
     obtain ⟨rfl, rfl⟩ := H
     go_enter Tryz.func101, Tryz.ntmps101
     go_wp2_with (first | ((with_reducible refine gate_dst (N := 1) rfl ?_); refine box_event ?hg (N := 1) ?hd (cs := #[.int .i64 a0_0, .int .i64 a0_1, .string a0_2]) (t := 92) ?hr ?_; (case hd => rfl); (case hg => rfl); (case hr => first | (go_simp; done) | (go_simp; rfl)); intro gb215 hg w27 hbox hb; have n0_ := Aside0.mk (below_step (by with_reducible repeat (first | exact HB.out | apply below_alloc | apply pw_below_drewN | apply below_drew1)) hb); have n1_ := Aside0.mk (hbox); have n2_ := Aside0.mk ((by rw [hg]; exact (below_size (by with_reducible repeat (first | exact HB.out | apply below_alloc | apply pw_below_drewN | apply below_drew1))) : w.heap.size ≤ gb215)); have n3_ := Aside0.mk ((by rw [hg]; exact (below_size (by with_reducible repeat (first | exact HB.out | apply below_alloc | apply pw_below_drewN | apply below_drew1))) : w.heap.size ≤ gb215)); clear HB; have HB := n0_; have BK215 := n1_; have GW215 := n2_; have GE215 := n3_; clear n0_ n1_ n2_ n3_; clear hb hbox hg; have hcz28 := fun i_ => blk_cell BK215.out i_; have hfz28 := fun i_ => blk_frozen BK215.out i_) | ((with_reducible refine gate_callee (f := 121) rfl ?_); refine goesL_ (some 7) rfl rfl Tryz.func121 (by kernel_rfl) rfl #[.agg #[.int .i64 a0_0, .int .i64 a0_1, .string a0_2]] rfl (by (try simp only [List.map_toArray, List.map_cons, List.map_nil]); first | done | rfl | (simp only [List.length_drop, List.length_take]; rfl)) ?_; (with_reducible refine (value_Check.calls a0_0 a0_1 a0_2 t216 _ A2.out).mono ?_); rintro e w29 ⟨rfl, hb⟩; refine ⟨_, rfl, ?_⟩; have n0_ := Aside0.mk (blk_below (g := gb215) (o := .cells #[.int .i64 a0_0, .int .i64 a0_1, .string a0_2] 92 (0, 0)) (by (with_reducible repeat (first | refine blk_drewN ?_ _ | refine blk_drew ?_ | refine blk_alloc ?_ _)); exact BK215.out) hb); have n1_ := Aside0.mk (below_step (by with_reducible repeat (first | exact HB.out | apply below_alloc | apply pw_below_drewN | apply below_drew1 | refine below_set ?_ GE215.out)) hb); clear BK215; clear HB; have BK215 := n0_; have HB := n1_; clear n0_ n1_; (try clear hb); (try clear hb2); (try clear hk); (try clear hi); have hcz30 := fun i_ => blk_cell BK215.out i_; have hfz30 := fun i_ => blk_frozen BK215.out i_) | ((with_reducible refine gate_dst (N := 14) rfl ?_); refine Kd.R_lit (Kd.int .u8) _ 5 ?hg (N := 14) ?hd (xs := ([(a0_0) % 256] : List Int)) (inner := [.int .u8 ((a0_0) % 256)]) (ok := fun _ => True) (okp := fun _ => True) ?hr ?hp (fun _ hk => hk) trivial (Below.refl _ _) (Nat.le_refl _) (by simp) ?_; (case hd => rfl); (case hg => rfl); (case hr => first | (go_simp; done) | (go_simp; rfl)); (case hp => exact (Reps.one (show Kd.M (Kd.int .u8) _ _ _ ((a0_0) % 256) [.int .u8 ((a0_0) % 256)] from rfl) (Reps.none _ _))); intro v218 w31 ho32 hb hg_ hnew_; clear hg_ hnew_; (first | rw [← Ny217.out] at ho32 | (simp only [Int.reduceToNat] at ho32; rw [← Ny217.out] at ho32)); have n0_ := Aside0.mk (Kd.R_lower ho32 (below_size (by with_reducible repeat (first | exact HB.out | apply below_alloc | apply pw_below_drewN | apply below_drew1 | refine below_set ?_ GE215.out)))); have n1_ := Aside0.mk (blk_below (g := gb215) (o := .cells #[.int .i64 a0_0, .int .i64 a0_1, .string a0_2] 92 (0, 0)) (by (with_reducible repeat (first | refine blk_drewN ?_ _ | refine blk_drew ?_ | refine blk_alloc ?_ _)); exact BK215.out) hb); have n2_ := Aside0.mk (below_step (by with_reducible repeat (first | exact HB.out | apply below_alloc | apply pw_below_drewN | apply below_drew1 | refine below_set ?_ GE215.out)) hb); clear BK215; clear HB; have HO219 := n0_; have BK215 := n1_; have HB := n2_; clear n0_ n1_ n2_; clear hb ho32; have hcz33 := fun i_ => blk_cell BK215.out i_; have hfz33 := fun i_ => blk_frozen BK215.out i_; obtain ⟨Ao34, co34, eo34⟩ := Kd.R_slice HO219.out; subst eo34) | ((with_reducible refine gate_callee (f := 99) rfl ?_); refine goesL_ (some 38) rfl rfl Tryz.func99 (by kernel_rfl) rfl #[.slice Ao34 y217.length co34, .string a0_2] rfl (by (try simp only [List.map_toArray, List.map_cons, List.map_nil]); first | done | rfl | (simp only [List.length_drop, List.length_take]; rfl)) ?_; (with_reducible refine (wire_PutText.calls _ _ y217 a0_2 t227 t228 _ ?side1 ?side2 A26.out).mono ?_); (case side1 => repeat (first | exact (Kd.R_reads' HO219.out).2.2 | (with_reducible refine Kd.C_alloc ?_ _) | (with_reducible refine Kd.C_drewN ?_ _) | (with_reducible refine Kd.C_drew ?_))); (case side2 => exact (Kd.R_reads' HO219.out).2.1); rintro e w35 ⟨v229, rfl, ho0, hb⟩; refine ⟨_, rfl, ?_⟩; have n0_ := Aside0.mk (Kd.R_elder' (by (with_reducible repeat (first | apply Kd.R_alloc | apply Kd.R_drewN | apply Kd.R_drew)); exact HO219.out) (Kd.R_base ho0) hb); have n1_ := Aside0.mk (Kd.R_lower (Kd.R_new' ho0 (Kd.R_lt (by (with_reducible repeat (first | apply Kd.R_alloc | apply Kd.R_drewN | apply Kd.R_drew)); exact HO219.out))) (below_size (by with_reducible repeat (first | exact HB.out | apply below_alloc | apply pw_below_drewN | apply below_drew1 | refine below_set ?_ GE215.out)))); have n2_ := Aside0.mk (blk_below (g := gb215) (o := .cells #[.int .i64 a0_0, .int .i64 a0_1, .string a0_2] 92 (0, 0)) (by (with_reducible repeat (first | refine blk_drewN ?_ _ | refine blk_drew ?_ | refine blk_alloc ?_ _)); exact BK215.out) hb); have n3_ := Aside0.mk (below_step (by with_reducible repeat (first | exact HB.out | apply below_alloc | apply pw_below_drewN | apply below_drew1 | refine below_set ?_ GE215.out)) hb); clear HO219; clear BK215; clear HB; have HO219 := n0_; have HO230 := n1_; have BK215 := n2_; have HB := n3_; clear n0_ n1_ n2_ n3_; (try clear hb); (try clear hb2); (try clear hk); (try clear hi); (try clear ho0)))
     go_ret2
     exact ⟨_, by first | rfl | (simp [errW_none, errW_some] <;> rfl) | (simp [*, errW_none, errW_some] <;> rfl), by (with_reducible repeat (first | apply Kd.R_alloc | apply Kd.R_drewN | apply Kd.R_drew)); exact Kd.R_mono HO230.out (fun _ hk => trivial), by with_reducible repeat (first | exact HB.out | apply below_alloc | apply pw_below_drewN | apply below_drew1 | refine below_set ?_ GE215.out)⟩
    ·rw [if_neg c25] at H
     have c25b0 : (a0_0 == 4) = false := beq_eq_false_iff_ne.mpr c25
     have c25b1 : (a0_0 != 4) = true := bne_iff_ne.mpr c25
     simp only [Option.some.injEq, Prod.mk.injEq] at H
     obtain ⟨rfl, rfl⟩ := H
     go_enter Tryz.func101, Tryz.ntmps101
     go_wp2_with (first | ((with_reducible refine gate_dst (N := 1) rfl ?_); refine box_event ?hg (N := 1) ?hd (cs := #[.int .i64 a0_0, .int .i64 a0_1, .string a0_2]) (t := 92) ?hr ?_; (case hd => rfl); (case hg => rfl); (case hr => first | (go_simp; done) | (go_simp; rfl)); intro gb215 hg w36 hbox hb; have n0_ := Aside0.mk (below_step (by with_reducible repeat (first | exact HB.out | apply below_alloc | apply pw_below_drewN | apply below_drew1)) hb); have n1_ := Aside0.mk (hbox); have n2_ := Aside0.mk ((by rw [hg]; exact (below_size (by with_reducible repeat (first | exact HB.out | apply below_alloc | apply pw_below_drewN | apply below_drew1))) : w.heap.size ≤ gb215)); have n3_ := Aside0.mk ((by rw [hg]; exact (below_size (by with_reducible repeat (first | exact HB.out | apply below_alloc | apply pw_below_drewN | apply below_drew1))) : w.heap.size ≤ gb215)); clear HB; have HB := n0_; have BK215 := n1_; have GW215 := n2_; have GE215 := n3_; clear n0_ n1_ n2_ n3_; clear hb hbox hg; have hcz37 := fun i_ => blk_cell BK215.out i_; have hfz37 := fun i_ => blk_frozen BK215.out i_) | ((with_reducible refine gate_callee (f := 121) rfl ?_); refine goesL_ (some 7) rfl rfl Tryz.func121 (by kernel_rfl) rfl #[.agg #[.int .i64 a0_0, .int .i64 a0_1, .string a0_2]] rfl (by (try simp only [List.map_toArray, List.map_cons, List.map_nil]); first | done | rfl | (simp only [List.length_drop, List.length_take]; rfl)) ?_; (with_reducible refine (value_Check.calls a0_0 a0_1 a0_2 t216 _ A2.out).mono ?_); rintro e w38 ⟨rfl, hb⟩; refine ⟨_, rfl, ?_⟩; have n0_ := Aside0.mk (blk_below (g := gb215) (o := .cells #[.int .i64 a0_0, .int .i64 a0_1, .string a0_2] 92 (0, 0)) (by (with_reducible repeat (first | refine blk_drewN ?_ _ | refine blk_drew ?_ | refine blk_alloc ?_ _)); exact BK215.out) hb); have n1_ := Aside0.mk (below_step (by with_reducible repeat (first | exact HB.out | apply below_alloc | apply pw_below_drewN | apply below_drew1 | refine below_set ?_ GE215.out)) hb); clear BK215; clear HB; have BK215 := n0_; have HB := n1_; clear n0_ n1_; (try clear hb); (try clear hb2); (try clear hk); (try clear hi); have hcz39 := fun i_ => blk_cell BK215.out i_; have hfz39 := fun i_ => blk_frozen BK215.out i_) | ((with_reducible refine gate_dst (N := 14) rfl ?_); refine Kd.R_lit (Kd.int .u8) _ 5 ?hg (N := 14) ?hd (xs := ([(a0_0) % 256] : List Int)) (inner := [.int .u8 ((a0_0) % 256)]) (ok := fun _ => True) (okp := fun _ => True) ?hr ?hp (fun _ hk => hk) trivial (Below.refl _ _) (Nat.le_refl _) (by simp) ?_; (case hd => rfl); (case hg => rfl); (case hr => first | (go_simp; done) | (go_simp; rfl)); (case hp => exact (Reps.one (show Kd.M (Kd.int .u8) _ _ _ ((a0_0) % 256) [.int .u8 ((a0_0) % 256)] from rfl) (Reps.none _ _))); intro v218 w40 ho41 hb hg_ hnew_; clear hg_ hnew_; (first | rw [← Ny217.out] at ho41 | (simp only [Int.reduceToNat] at ho41; rw [← Ny217.out] at ho41)); have n0_ := Aside0.mk (Kd.R_lower ho41 (below_size (by with_reducible repeat (first | exact HB.out | apply below_alloc | apply pw_below_drewN | apply below_drew1 | refine below_set ?_ GE215.out)))); have n1_ := Aside0.mk (blk_below (g := gb215) (o := .cells #[.int .i64 a0_0, .int .i64 a0_1, .string a0_2] 92 (0, 0)) (by (with_reducible repeat (first | refine blk_drewN ?_ _ | refine blk_drew ?_ | refine blk_alloc ?_ _)); exact BK215.out) hb); have n2_ := Aside0.mk (below_step (by with_reducible repeat (first | exact HB.out | apply below_alloc | apply pw_below_drewN | apply below_drew1 | refine below_set ?_ GE215.out)) hb); clear BK215; clear HB; have HO219 := n0_; have BK215 := n1_; have HB := n2_; clear n0_ n1_ n2_; clear hb ho41; have hcz42 := fun i_ => blk_cell BK215.out i_; have hfz42 := fun i_ => blk_frozen BK215.out i_))
     go_ret2
     exact ⟨_, by first | rfl | (simp [errW_none, errW_some] <;> rfl) | (simp [*, errW_none, errW_some] <;> rfl), by (with_reducible repeat (first | apply Kd.R_alloc | apply Kd.R_drewN | apply Kd.R_drew)); exact HO219.out, by with_reducible repeat (first | exact HB.out | apply below_alloc | apply pw_below_drewN | apply below_drew1 | refine below_set ?_ GE215.out)⟩
 ·rw [if_neg c3] at H
  have c3b0 : (t216 == 0) = false := beq_eq_false_iff_ne.mpr c3
  have c3b1 : (t216 != 0) = true := bne_iff_ne.mpr c3
  simp only [Option.some.injEq, Prod.mk.injEq] at H
  obtain ⟨rfl, rfl⟩ := H
  go_enter Tryz.func101, Tryz.ntmps101
  go_wp2_with (first | ((with_reducible refine gate_dst (N := 1) rfl ?_); refine box_event ?hg (N := 1) ?hd (cs := #[.int .i64 a0_0, .int .i64 a0_1, .string a0_2]) (t := 92) ?hr ?_; (case hd => rfl); (case hg => rfl); (case hr => first | (go_simp; done) | (go_simp; rfl)); intro gb215 hg w43 hbox hb; have n0_ := Aside0.mk (below_step (by with_reducible repeat (first | exact HB.out | apply below_alloc | apply pw_below_drewN | apply below_drew1)) hb); have n1_ := Aside0.mk (hbox); have n2_ := Aside0.mk ((by rw [hg]; exact (below_size (by with_reducible repeat (first | exact HB.out | apply below_alloc | apply pw_below_drewN | apply below_drew1))) : w.heap.size ≤ gb215)); have n3_ := Aside0.mk ((by rw [hg]; exact (below_size (by with_reducible repeat (first | exact HB.out | apply below_alloc | apply pw_below_drewN | apply below_drew1))) : w.heap.size ≤ gb215)); clear HB; have HB := n0_; have BK215 := n1_; have GW215 := n2_; have GE215 := n3_; clear n0_ n1_ n2_ n3_; clear hb hbox hg; have hcz44 := fun i_ => blk_cell BK215.out i_; have hfz44 := fun i_ => blk_frozen BK215.out i_) | ((with_reducible refine gate_callee (f := 121) rfl ?_); refine goesL_ (some 7) rfl rfl Tryz.func121 (by kernel_rfl) rfl #[.agg #[.int .i64 a0_0, .int .i64 a0_1, .string a0_2]] rfl (by (try simp only [List.map_toArray, List.map_cons, List.map_nil]); first | done | rfl | (simp only [List.length_drop, List.length_take]; rfl)) ?_; (with_reducible refine (value_Check.calls a0_0 a0_1 a0_2 t216 _ A2.out).mono ?_); rintro e w45 ⟨rfl, hb⟩; refine ⟨_, rfl, ?_⟩; have n0_ := Aside0.mk (blk_below (g := gb215) (o := .cells #[.int .i64 a0_0, .int .i64 a0_1, .string a0_2] 92 (0, 0)) (by (with_reducible repeat (first | refine blk_drewN ?_ _ | refine blk_drew ?_ | refine blk_alloc ?_ _)); exact BK215.out) hb); have n1_ := Aside0.mk (below_step (by with_reducible repeat (first | exact HB.out | apply below_alloc | apply pw_below_drewN | apply below_drew1 | refine below_set ?_ GE215.out)) hb); clear BK215; clear HB; have BK215 := n0_; have HB := n1_; clear n0_ n1_; (try clear hb); (try clear hb2); (try clear hk); (try clear hi)))
  go_ret2
  exact ⟨_, by first | rfl | (simp [errW_none, errW_some] <;> rfl) | (simp [*, errW_none, errW_some] <;> rfl), by first | exact Kd.R_nil _ _ _ _ _ | exact Kd.N_nil _ _ _ _ _ | exact Kd.V_nil _ _ _ _ _ | exact Kd.Q_nil _ _ _ _ _ | exact Kd.S_nil _ _ _ _ _, by with_reducible repeat (first | exact HB.out | apply below_alloc | apply pw_below_drewN | apply below_drew1 | refine below_set ?_ GE215.out)⟩
def row_Bytes.l0 : Nat → List Int → List (S92) → Int → Int → Option (List Int × Int)
 | 0, _, _, _, _ => none
 | k + 1, x5, x19, x20, x21 => if x21 < x20 then (if 0 ≤ x21 then (if x21 < (x19.length : Int) then ((value_Bytes.f k ((rd_T92 x19 x21).f0) ((rd_T92 x19 x21).f1) ((rd_T92 x19 x21).f2)).bind fun bt237 => (if x5.length + bt237.1.length < 140737488355328 then (row_Bytes.l0 k (x5 ++ bt237.1) x19 x20 (wrap64 (x21 + 1))) else (none))) else (none)) else (none)) else (some (x5, 0))
def row_Bytes.f (k : Nat) (l0 : List (S92)) : Option (List Int × Int) := (row_Check.f l0).bind fun t231 => (if t231 = 0 then (row_Bytes.l0 k (([((l0.length : Int)) % 256] : List Int)) l0 (l0.length : Int) 0) else (some (([] : List Int), t231)))
set_option maxHeartbeats 8000000 in
set_option maxRecDepth 100000 in
theorem row_Bytes.calls (k : Nat) (A0 : Option Addr) (c0 : Nat) (l0 : List (S92)) (r1 : List Int) (r2 : Int) (w : World) (hr0 : Kd.C k92 w A0 l0.length l0) (hc0 : l0.length ≤ c0) (h : row_Bytes.f k l0 = some (r1, r2)) :
  Calls Tryz.prog 64 #[.slice A0 l0.length c0] w fun e w' => ∃ v0_ : Value, e = .returned (.tuple #[v0_, .int .i64 r2]) ∧ Kd.R (Kd.int .u8) 5 w' w.heap.size (fun _ => True) v0_ r1 ∧ Below w.heap.size w w' := by
 have hu92 := Tryz.underlying92
 have HR0 := Aside0.mk hr0
 have HC0 := Aside0.mk hc0
 clear hr0 hc0
 have HB := Aside0.mk (Below.refl w.heap.size w)
 have H : ((row_Check.f l0).bind fun t231 => (if t231 = 0 then (row_Bytes.l0 k (([((l0.length : Int)) % 256] : List Int)) l0 (l0.length : Int) 0) else (some (([] : List Int), t231)))) = some (r1, r2) := h
 clear h
 replace H := Option.bind_eq_some_iff.mp H
 obtain ⟨t231, A20, H⟩ := H
 try dsimp only at H
 have A2 := Aside0.mk A20
 clear A20
 by_cases c3 : t231 = 0
 ·rw [if_pos c3] at H
  have c3b0 : (t231 == 0) = true := beq_iff_eq.mpr c3
  have c3b1 : (t231 != 0) = false := bne_eq_false_iff_eq.mpr c3
  clear c3
  obtain ⟨y232, hy232⟩ : ∃ y_ : List Int, y_ = (([((l0.length : Int)) % 256] : List Int)) := ⟨_, rfl⟩
  replace H : (row_Bytes.l0 k y232 l0 (l0.length : Int) 0) = some (r1, r2) := by first | (rw [hy232]; with_reducible exact H) | (have H2_ := (Option.bind_some _ _).symm.trans H; rw [hy232]; with_reducible exact H2_) | (have H2_ := (Option.bind_some _ _).symm.trans H; with_reducible exact H2_) | with_reducible exact H | (rw [hy232]; exact H) | exact H
  have Ny232 := Aside0.mk hy232
  clear hy232
  have H' := Aside0.mk H
  clear H
  go_enter Tryz.func64, Tryz.ntmps64
  go_wp2_with (first | ((with_reducible refine gate_callee (f := 100) rfl ?_); refine goesL_ (some 11) rfl rfl Tryz.func100 (by kernel_rfl) rfl #[.slice A0 l0.length c0] rfl (by (try simp only [List.map_toArray, List.map_cons, List.map_nil]); first | done | rfl | (simp only [List.length_drop, List.length_take]; rfl)) ?_; (with_reducible refine (row_Check.calls _ _ l0 t231 _ ?side1 ?side2 A2.out).mono ?_); (case side1 => repeat (first | exact HR0.out | (with_reducible refine Kd.C_alloc ?_ _) | (with_reducible refine Kd.C_drewN ?_ _) | (with_reducible refine Kd.C_drew ?_))); (case side2 => exact HC0.out); rintro e w4 ⟨rfl, hb⟩; refine ⟨_, rfl, ?_⟩; have n0_ := Aside0.mk (below_step (by with_reducible repeat (first | exact HB.out | apply below_alloc | apply pw_below_drewN | apply below_drew1)) hb); clear HB; have HB := n0_; clear n0_; (try clear hb); (try clear hb2); (try clear hk); (try clear hi)) | ((with_reducible refine gate_dst (N := 18) rfl ?_); refine Kd.R_lit (Kd.int .u8) _ 5 ?hg (N := 18) ?hd (xs := ([((l0.length : Int)) % 256] : List Int)) (inner := [.int .u8 (((l0.length : Int)) % 256)]) (ok := fun _ => True) (okp := fun _ => True) ?hr ?hp (fun _ hk => hk) trivial (Below.refl _ _) (Nat.le_refl _) (by simp) ?_; (case hd => rfl); (case hg => rfl); (case hr => first | (go_simp; done) | (go_simp; rfl)); (case hp => exact (Reps.one (show Kd.M (Kd.int .u8) _ _ _ (((l0.length : Int)) % 256) [.int .u8 (((l0.length : Int)) % 256)] from rfl) (Reps.none _ _))); intro v233 w5 ho6 hb hg_ hnew_; clear hg_ hnew_; (first | rw [← Ny232.out] at ho6 | (simp only [Int.reduceToNat] at ho6; rw [← Ny232.out] at ho6)); have n0_ := Aside0.mk (Kd.R_lower ho6 (below_size (by with_reducible repeat (first | exact HB.out | apply below_alloc | apply pw_below_drewN | apply below_drew1)))); have n1_ := Aside0.mk (below_step (by with_reducible repeat (first | exact HB.out | apply below_alloc | apply pw_below_drewN | apply below_drew1)) hb); clear HB; have HO234 := n0_; have HB := n1_; clear n0_ n1_; clear hb ho6))
  go_loopg [5, 21] k (fun kq v5 v21 w' => ∃ (x5_1 : List Int) (x21_1 : Int), v21 = .int .i64 x21_1 ∧ Aside0 (row_Bytes.l0 kq x5_1 l0 (l0.length : Int) x21_1 = some (r1, r2)) ∧ Aside0 (kq ≤ k) ∧ Aside0 (Kd.R (Kd.int .u8) 5 w' w.heap.size (fun _ => True) v5 x5_1) ∧ Aside0 (Below w.heap.size w w'))
  case atStart => exact ⟨(y232), (0), (by first | rfl | (simp; done) | (simp [*]; done)), H', ⟨Nat.le_refl _⟩, ⟨by (with_reducible repeat (first | apply Kd.R_alloc | apply Kd.R_drewN | apply Kd.R_drew)); exact HO234.out⟩, ⟨by with_reducible repeat (first | exact HB.out | apply below_alloc | apply pw_below_drewN | apply below_drew1)⟩⟩
  case round =>
   clear H'
   try clear c1
   try clear p2
   try clear c3
   try clear c3b0
   try clear c3b1
   try clear c6
   obtain ⟨x5_1, x21_1, rfl, HA, HK1, HO_5, HB⟩ := hrel
   cases gk with
   | zero => exact absurd HA.out (by simp [row_Bytes.l0])
   | succ k1 =>
    have H := HA.out
    clear HA
    simp only [row_Bytes.l0] at H
    by_cases c7 : x21_1 < (l0.length : Int)
    ·rw [if_pos c7] at H
     have c7b0 : decide (x21_1 < (l0.length : Int)) = true := decide_eq_true c7
     clear c7
     by_cases c8 : 0 ≤ x21_1
     ·rw [if_pos c8] at H
      have c8b0 : decide (0 ≤ x21_1) = true := decide_eq_true c8
      clear c8
      by_cases c9 : x21_1 < (l0.length : Int)
      ·rw [if_pos c9] at H
       have c9b0 : decide (x21_1 < (l0.length : Int)) = true := decide_eq_true c9
       clear c9
       replace H := Option.bind_eq_some_iff.mp H
       obtain ⟨⟨t237, t240⟩, A100, H⟩ := H
       try dsimp only at H
       have A10 := Aside0.mk A100
       clear A100
       by_cases c11 : x5_1.length + t237.length < 140737488355328
       ·rw [if_pos c11] at H
        have LMc11 := Aside0.mk c11
        clear c11
        obtain ⟨y241, hy241⟩ : ∃ y_ : List Int, y_ = (x5_1 ++ t237) := ⟨_, rfl⟩
        replace H : (row_Bytes.l0 k1 y241 l0 (l0.length : Int) (wrap64 (x21_1 + 1))) = some (r1, r2) := by first | (rw [hy241]; with_reducible exact H) | (have H2_ := (Option.bind_some _ _).symm.trans H; rw [hy241]; with_reducible exact H2_) | (have H2_ := (Option.bind_some _ _).symm.trans H; with_reducible exact H2_) | with_reducible exact H | (rw [hy241]; exact H) | exact H
        have Ny241 := Aside0.mk hy241
        clear hy241
        have H' := Aside0.mk H
        clear H
        have p235 : 0 ≤ (x21_1 : Int) := of_decide_eq_true (by first | (with_reducible assumption) | assumption)
        have q235 : x21_1 < (l0.length : Int) := of_decide_eq_true (by first | (with_reducible assumption) | assumption)
        obtain ⟨ad235, e235, hx235_0, hx235_1, hx235_2⟩ := at_T92 HR0.out x21_1 p235 q235
        cases e235
        replace hx235_0 := (HB.out.cell (World.block_lt_of_cell? w _ hx235_0)).trans hx235_0
        replace hx235_1 := (HB.out.cell (World.block_lt_of_cell? w _ hx235_1)).trans hx235_1
        replace hx235_2 := (HB.out.cell (World.block_lt_of_cell? w _ hx235_2)).trans hx235_2
        replace p235 := eq_true p235
        replace q235 := eq_true q235
        go_wp2_with (first | ((with_reducible refine gate_dst (N := 7) rfl ?_); refine box_event ?hg (N := 7) ?hd (cs := #[.int .i64 0, .int .i64 0, .string (⟨#[]⟩ : ByteArray)]) (t := 92) ?hr ?_; (case hd => rfl); (case hg => rfl); (case hr => first | (go_simp; done) | (go_simp; rfl)); intro gb236 hg w12 hbox hb; have n0_ := Aside0.mk (Kd.R_below (by (with_reducible repeat (first | apply Kd.R_alloc | apply Kd.R_drewN | apply Kd.R_drew)); exact HO_5.out) hb); have n1_ := Aside0.mk (below_step (by with_reducible repeat (first | exact HB.out | apply below_alloc | apply pw_below_drewN | apply below_drew1)) hb); have n2_ := Aside0.mk (hbox); have n3_ := Aside0.mk ((by rw [hg]; exact (below_size (by with_reducible repeat (first | exact HB.out | apply below_alloc | apply pw_below_drewN | apply below_drew1))) : w.heap.size ≤ gb236)); have n4_ := Aside0.mk ((by rw [hg]; exact (below_size (by with_reducible repeat (first | exact HB.out | apply below_alloc | apply pw_below_drewN | apply below_drew1))) : w.heap.size ≤ gb236)); clear HO_5; clear HB; have HO_5 := n0_; have HB := n1_; have BK236 := n2_; have GW236 := n3_; have GE236 := n4_; clear n0_ n1_ n2_ n3_ n4_; clear hb hbox hg; have hcz13 := fun i_ => blk_cell BK236.out i_; have hfz13 := fun i_ => blk_frozen BK236.out i_) | ((with_reducible refine gate_callee (f := 101) rfl ?_); refine goesL_ (some 27) rfl rfl Tryz.func101 (by kernel_rfl) rfl #[.agg #[.int .i64 ((rd_T92 l0 x21_1).f0), .int .i64 ((rd_T92 l0 x21_1).f1), .string ((rd_T92 l0 x21_1).f2)]] rfl (by (try simp only [List.map_toArray, List.map_cons, List.map_nil]); first | done | rfl | (simp only [List.length_drop, List.length_take]; rfl)) ?_; (with_reducible refine (value_Bytes.calls k1 ((rd_T92 l0 x21_1).f0) ((rd_T92 l0 x21_1).f1) ((rd_T92 l0 x21_1).f2) t237 t240 _ A10.out).mono ?_); rintro e w14 ⟨v238, rfl, ho0, hb⟩; refine ⟨_, rfl, ?_⟩; have n0_ := Aside0.mk (Kd.R_elder' (by (with_reducible repeat (first | apply Kd.R_alloc | apply Kd.R_drewN | apply Kd.R_drew)); exact (Kd.R_mono (Kd.R_far (p := ⟨gb236, 2, none⟩) (Kd.R_far (p := ⟨gb236, 1, none⟩) (Kd.R_far (p := ⟨gb236, 0, none⟩) (Kd.R_types HO_5.out BK236.out (by decide)) (fun _ hk => hk.2) (.int .i64 ((rd_T92 l0 x21_1).f0))) (fun _ hk => hk.2) (.int .i64 ((rd_T92 l0 x21_1).f1))) (fun _ hk => hk.2) (.string ((rd_T92 l0 x21_1).f2))) (fun _ h_ => h_.1))) (Kd.R_base ho0) hb); have n1_ := Aside0.mk (Kd.R_lower (Kd.R_new' ho0 (Kd.R_lt (by (with_reducible repeat (first | apply Kd.R_alloc | apply Kd.R_drewN | apply Kd.R_drew)); exact (Kd.R_mono (Kd.R_far (p := ⟨gb236, 2, none⟩) (Kd.R_far (p := ⟨gb236, 1, none⟩) (Kd.R_far (p := ⟨gb236, 0, none⟩) (Kd.R_types HO_5.out BK236.out (by decide)) (fun _ hk => hk.2) (.int .i64 ((rd_T92 l0 x21_1).f0))) (fun _ hk => hk.2) (.int .i64 ((rd_T92 l0 x21_1).f1))) (fun _ hk => hk.2) (.string ((rd_T92 l0 x21_1).f2))) (fun _ h_ => h_.1))))) (below_size (by with_reducible repeat (first | exact HB.out | apply below_alloc | apply pw_below_drewN | apply below_drew1 | refine below_set ?_ GE236.out)))); have n2_ := Aside0.mk (blk_below (g := gb236) (o := .cells #[.int .i64 ((rd_T92 l0 x21_1).f0), .int .i64 ((rd_T92 l0 x21_1).f1), .string ((rd_T92 l0 x21_1).f2)] 92 (0, 0)) (by (with_reducible repeat (first | refine blk_drewN ?_ _ | refine blk_drew ?_ | refine blk_alloc ?_ _)); refine blk_put (cs := #[.int .i64 ((rd_T92 l0 x21_1).f0), .int .i64 ((rd_T92 l0 x21_1).f1), .string (⟨#[]⟩ : ByteArray)]) ?_ 2 _ rfl; (with_reducible repeat (first | refine blk_drewN ?_ _ | refine blk_drew ?_ | refine blk_alloc ?_ _)); refine blk_put (cs := #[.int .i64 ((rd_T92 l0 x21_1).f0), .int .i64 0, .string (⟨#[]⟩ : ByteArray)]) ?_ 1 _ rfl; (with_reducible repeat (first | refine blk_drewN ?_ _ | refine blk_drew ?_ | refine blk_alloc ?_ _)); refine blk_put (cs := #[.int .i64 0, .int .i64 0, .string (⟨#[]⟩ : ByteArray)]) ?_ 0 _ rfl; (with_reducible repeat (first | refine blk_drewN ?_ _ | refine blk_drew ?_ | refine blk_alloc ?_ _)); exact BK236.out) hb); have n3_ := Aside0.mk (below_step (by with_reducible repeat (first | exact HB.out | apply below_alloc | apply pw_below_drewN | apply below_drew1 | refine below_set ?_ GE236.out)) hb); clear HO_5; clear BK236; clear HB; have HO_5 := n0_; have HO239 := n1_; have BK236 := n2_; have HB := n3_; clear n0_ n1_ n2_ n3_; (try clear hb); (try clear hb2); (try clear hk); (try clear hi); (try clear ho0); obtain ⟨Ao16, co16, eo16⟩ := Kd.R_slice HO239.out; subst eo16) | ((with_reducible refine gate_builtin (b := .append) (xs := #[.tmp 30, .tmp 31]) rfl ?_); at_builtin; refine Kd.R_append_rows (Kd.int .u8) (w0 := w) w.heap.size rfl (.tmp 30) (.tmp 31) 33 5 (.int .u8 0) 1 rfl Tryz.underlying33 info5 rfl (by decide) (by omega) u5 x5_1 t237 _ _ _ (fun k_ => some k_ ≠ (.slice Ao16 t237.length co16 : Value).ownBlock) (fun _ => False) rfl rfl ?aO ?aR (fun _ _ h => h) (fun _ h => h.elim) ?aF ?aB ?aS ?aL ?_; (case aR => repeat (first | exact (Kd.R_reads' HO239.out).2.2 | (with_reducible refine Kd.C_alloc ?_ _) | (with_reducible refine Kd.C_drewN ?_ _) | (with_reducible refine Kd.C_drew ?_))); (case aB => exact (by with_reducible repeat (first | exact HB.out | apply below_alloc | apply pw_below_drewN | apply below_drew1 | refine below_set ?_ GE236.out))); (case aF => exact (fun k_ hk => Kd.fresh' (Kd.R_lt (by (with_reducible repeat (first | apply Kd.R_alloc | apply Kd.R_drewN | apply Kd.R_drew)); exact HO239.out)) k_ hk)); (case aO => exact (by (with_reducible repeat (first | apply Kd.R_alloc | apply Kd.R_drewN | apply Kd.R_drew)); exact Kd.R_mono HO_5.out (fun _ hk => hk.2))); (case aS => exact (below_size (by with_reducible repeat (first | exact HB.out | apply below_alloc | apply pw_below_drewN | apply below_drew1 | refine below_set ?_ GE236.out)))); (case aL => have := LMc11.out; omega); intro v242 w15 ho hb hg hat; rw [← Ny241.out] at ho; have n0_ := Aside0.mk (blk_grown (g := gb236) (o := .cells #[.int .i64 ((rd_T92 l0 x21_1).f0), .int .i64 ((rd_T92 l0 x21_1).f1), .string ((rd_T92 l0 x21_1).f2)] 92 (0, 0)) (by (with_reducible repeat (first | refine blk_drewN ?_ _ | refine blk_drew ?_ | refine blk_alloc ?_ _)); exact BK236.out) hg (Kd.R_ne HO_5.out BK236.out (by decide))); have n1_ := Aside0.mk (Kd.R_after (ok := (fun _ => True)) (by (with_reducible repeat (first | apply Kd.R_alloc | apply Kd.R_drewN | apply Kd.R_drew)); exact HO239.out) hg hat); have n2_ := Aside0.mk (hb); have n3_ := Aside0.mk (ho); clear BK236; clear HO239; clear HB; clear HO_5; have BK236 := n0_; have HO239 := n1_; have HB := n2_; have HO243 := n3_; clear n0_ n1_ n2_ n3_; clear ho hb hg hat))
        go_roundg k1
        case measure => have := HK1.out; omega
        case rel => exact ⟨(y241), (wrap64 (x21_1 + 1)), (by first | rfl | (simp; done) | (simp [*]; done)), H', ⟨by have := HK1.out; omega⟩, ⟨by (with_reducible repeat (first | apply Kd.R_alloc | apply Kd.R_drewN | apply Kd.R_drew)); exact Kd.R_mono HO243.out (fun _ hk => trivial)⟩, ⟨by with_reducible repeat (first | exact HB.out | apply below_alloc | apply pw_below_drewN | apply below_drew1 | refine below_set ?_ GE236.out)⟩⟩
       ·rw [if_neg c11] at H
        exact absurd H (by simp)
      ·rw [if_neg c9] at H
       exact absurd H (by simp)
     ·rw [if_neg c8] at H
      exact absurd H (by simp)
    ·rw [if_neg c7] at H
     have c7b0 : decide (x21_1 < (l0.length : Int)) = false := decide_eq_false c7
     clear c7
     simp only [Option.some.injEq, Prod.mk.injEq] at H
     obtain ⟨rfl, rfl⟩ := H
     go_wp2
     go_ret2
     exact ⟨_, by first | rfl | (simp [errW_none, errW_some] <;> rfl) | (simp [*, errW_none, errW_some] <;> rfl), by (with_reducible repeat (first | apply Kd.R_alloc | apply Kd.R_drewN | apply Kd.R_drew)); exact HO_5.out, by with_reducible repeat (first | exact HB.out | apply below_alloc | apply pw_below_drewN | apply below_drew1)⟩
 ·rw [if_neg c3] at H
  have c3b0 : (t231 == 0) = false := beq_eq_false_iff_ne.mpr c3
  have c3b1 : (t231 != 0) = true := bne_iff_ne.mpr c3
  simp only [Option.some.injEq, Prod.mk.injEq] at H
  obtain ⟨rfl, rfl⟩ := H
  go_enter Tryz.func64, Tryz.ntmps64
  go_wp2_with (first | ((with_reducible refine gate_callee (f := 100) rfl ?_); refine goesL_ (some 11) rfl rfl Tryz.func100 (by kernel_rfl) rfl #[.slice A0 l0.length c0] rfl (by (try simp only [List.map_toArray, List.map_cons, List.map_nil]); first | done | rfl | (simp only [List.length_drop, List.length_take]; rfl)) ?_; (with_reducible refine (row_Check.calls _ _ l0 t231 _ ?side1 ?side2 A2.out).mono ?_); (case side1 => repeat (first | exact HR0.out | (with_reducible refine Kd.C_alloc ?_ _) | (with_reducible refine Kd.C_drewN ?_ _) | (with_reducible refine Kd.C_drew ?_))); (case side2 => exact HC0.out); rintro e w17 ⟨rfl, hb⟩; refine ⟨_, rfl, ?_⟩; have n0_ := Aside0.mk (below_step (by with_reducible repeat (first | exact HB.out | apply below_alloc | apply pw_below_drewN | apply below_drew1)) hb); clear HB; have HB := n0_; clear n0_; (try clear hb); (try clear hb2); (try clear hk); (try clear hi)))
  go_ret2
  exact ⟨_, by first | rfl | (simp [errW_none, errW_some] <;> rfl) | (simp [*, errW_none, errW_some] <;> rfl), by first | exact Kd.R_nil _ _ _ _ _ | exact Kd.N_nil _ _ _ _ _ | exact Kd.V_nil _ _ _ _ _ | exact Kd.Q_nil _ _ _ _ _ | exact Kd.S_nil _ _ _ _ _, by with_reducible repeat (first | exact HB.out | apply below_alloc | apply pw_below_drewN | apply below_drew1)⟩
end Go.Proofs.YtnbjflcfdncocaaGreat.M
namespace Go.Proofs.YtnbjflcfdncocaaGreat.M
open Go.RowKit Go.Proofs.YtnbjflcfdncocaaGreatW.PrintWords Go.Proofs.YtnbjflcfdncocaaGreatW.PrintLast Go.Proofs.YtnbjflcfdncocaaGreatW.PrintMore
abbrev Val := S92
def goodV (v : Val) : Prop := (v.f0 = 1 ∧ v.f1 = 0 ∧ v.f2.toList = []) ∨ (v.f0 = 2 ∧ (v.f1 = 0 ∨ v.f1 = 1) ∧ v.f2.toList = []) ∨ (v.f0 = 3 ∧ -1152921504606846976 ≤ v.f1 ∧ v.f1 ≤ 1152921504606846976 ∧ v.f2.toList = []) ∨ (v.f0 = 4 ∧ v.f1 = 0 ∧ (v.f2.size : Int) ≤ 24)
instance (v : Val) : Decidable (goodV v) := by unfold goodV; infer_instance
theorem Check_eq (v : Val) : value_Check.f v.f0 v.f1 v.f2 = some (if goodV v then 0 else 1) := by
  obtain ⟨a, b, s⟩ := v
  unfold value_Check.f value_within.f goodV
  have hw : wrap64 (-1152921504606846976) = -1152921504606846976 := wrap_in _ (by omega) (by omega)
  simp only [hw]
  by_cases h1 : a = 1
  · subst h1
    by_cases h2 : b = 0 <;> by_cases h3 : s.toList = [] <;> simp [h2, h3]
  · by_cases h2 : a = 2
    · subst h2
      by_cases h4 : b = 0
      · subst h4
        by_cases h3 : s.toList = [] <;> simp [h3]
      · by_cases h5 : b = 1
        · subst h5
          by_cases h3 : s.toList = [] <;> simp [h3]
        · simp [h4, h5]
    · by_cases h3 : a = 3
      · subst h3
        by_cases h4 : b ≥ -1152921504606846976
        · by_cases h5 : b ≤ 1152921504606846976
          · by_cases h6 : s.toList = [] <;> simp [h4, h5, h6]
          · simp [h4, h5]
        · have : ¬ (-1152921504606846976 ≤ b) := h4
          simp [this]
      · by_cases h4 : a = 4
        · subst h4
          by_cases h5 : b = 0 <;> by_cases h6 : (s.size : Int) ≤ 24 <;> simp [h5, h6]
        · simp [h1, h2, h3, h4]
def intL (n : Int) : List Int := if n < 0 then 1 :: be 8 (-n) else 0 :: be 8 n
def valL (v : Val) : List Int := v.f0 % 256 :: (if v.f0 = 2 then [v.f1 % 256] else if v.f0 = 3 then intL v.f1 else if v.f0 = 4 then (v.f2.size : Int) % 256 :: bytesOf v.f2 else [])
theorem intL_length (n : Int) : (intL n).length = 9 := by
  unfold intL; split <;> simp [be_length]
theorem valL_length (v : Val) (h : goodV v) : (valL v).length ≤ 26 := by
  unfold valL
  rw [List.length_cons]
  split
  · simp
  · split
    · rw [intL_length]; omega
    · split
      · rename_i h4
        rcases h with h | h | h | h
        · omega
        · omega
        · omega
        · simp only [List.length_cons, bytesOf_length]; omega
      · simp
theorem PutInt_eq (l : List Int) (n : Int) (h0 : -1152921504606846976 ≤ n) (h1 : n ≤ 1152921504606846976) (hl : l.length < 1000000) (k : Nat) (hk : 12 < k) : wire_PutInt.f k l n = some (l ++ intL n, 0) := by
  obtain ⟨k, rfl⟩ : ∃ m, k = m + 1 := ⟨k - 1, by omega⟩
  unfold wire_PutInt.f intL
  rw [if_neg (by omega), show decide (n > 1152921504606846976) = false from decide_eq_false (by omega), wire_PutInt.j0, if_neg (by decide)]
  unfold slices_Clone_byte_byte.f
  have e8 : (8 : Int) = ((8 : Nat) : Int) := rfl
  by_cases hn : n < 0
  · rw [if_pos hn, if_pos hn, if_pos (by omega), Option.bind_some, if_pos (by omega), wrap_in _ (by omega) (by omega), e8, big_eq _ _ 8 (by omega) k (by omega) (by simp; omega), Option.bind_some, List.append_assoc]
    rfl
  · rw [if_neg hn, if_neg hn, if_pos (by omega), Option.bind_some, if_pos (by omega), e8, big_eq _ _ 8 (by omega) k (by omega) (by simp; omega), Option.bind_some, List.append_assoc]
    rfl
theorem valBytes_eq (v : Val) (h : goodV v) (k : Nat) (hk : 12 < k) : value_Bytes.f k v.f0 v.f1 v.f2 = some (valL v, 0) := by
  unfold value_Bytes.f valL
  rw [Check_eq, if_pos h, Option.bind_some, if_pos rfl, Option.bind_some]
  by_cases h2 : v.f0 = 2
  · rw [if_pos h2, if_pos h2, if_pos (by simp)]; rfl
  · rw [if_neg h2, if_neg h2]
    by_cases h3 : v.f0 = 3
    · rw [if_pos h3, if_pos h3]
      have hb : -1152921504606846976 ≤ v.f1 ∧ v.f1 ≤ 1152921504606846976 := by
        rcases h with h | h | h | h
        · omega
        · omega
        · exact ⟨h.2.1, h.2.2.1⟩
        · omega
      rw [PutInt_eq _ _ hb.1 hb.2 (by simp) k hk, Option.bind_some]; rfl
    · rw [if_neg h3, if_neg h3]
      by_cases h4 : v.f0 = 4
      · rw [if_pos h4, if_pos h4]
        have hb : (v.f2.size : Int) ≤ 24 := by
          rcases h with h | h | h | h
          · omega
          · omega
          · omega
          · exact h.2.2
        unfold wire_PutText.f slices_Clone_byte_byte.f
        rw [if_neg (by omega), if_pos (by simp), Option.bind_some, if_pos (by simp), Option.bind_some, if_pos (by simp; omega), Option.bind_some]
        simp
      · rw [if_neg h4, if_neg h4]
def valsL (l : List Val) : List Int := l.flatMap valL
def rowL (l : List Val) : List Int := (l.length : Int) % 256 :: valsL l
theorem valsL_length : ∀ (l : List Val), (∀ v ∈ l, goodV v) → (valsL l).length ≤ 26 * l.length
  | [], _ => by simp [valsL]
  | v :: l, h => by
    have h1 := valL_length v (h v (by simp))
    have h2 := valsL_length l (fun u hu => h u (by simp [hu]))
    simp only [valsL, List.flatMap_cons, List.length_append, List.length_cons] at h2 ⊢; omega
theorem contains_wrong_p (v : Val) : contains_wrong.p v = decide (¬ goodV v) := by
  unfold contains_wrong.p row_wrong.f
  rw [Check_eq, Option.bind_some]
  by_cases h : goodV v <;> simp [h]
theorem any_wrong (l : List Val) : l.any contains_wrong.p = decide (¬ ∀ v ∈ l, goodV v) := by
  rw [Bool.eq_iff_iff, decide_eq_true_eq, List.any_eq_true]
  constructor
  · rintro ⟨v, hv, hp⟩ h
    rw [contains_wrong_p, decide_eq_true_eq] at hp
    exact hp (h v hv)
  · intro h
    apply Classical.byContradiction
    intro hne
    exact h (fun v hv => Classical.byContradiction fun hg => hne ⟨v, hv, by rw [contains_wrong_p]; exact decide_eq_true hg⟩)
def rowB (l : List Val) : List Int × Int := if l.length > 12 then ([], 2) else if ∀ v ∈ l, goodV v then (rowL l, 0) else ([], 1)
theorem rowB_length (l : List Val) : (rowB l).1.length ≤ 320 := by
  unfold rowB
  split
  · simp
  · split
    · rename_i h1 h2
      have := valsL_length l h2
      simp only [rowL, List.length_cons]; omega
    · simp
theorem rowB_l0 (l : List Val) (hg : ∀ v ∈ l, goodV v) (hl : l.length ≤ 12) : ∀ (d i k : Nat) (acc : List Int), i + d = l.length → d + 15 < k → acc.length + 26 * d < 1000000 →
    row_Bytes.l0 k acc l (l.length : Int) (i : Int) = some (acc ++ valsL (l.drop i), 0) := by
  intro d
  induction d with
  | zero =>
    intro i k acc h1 h2 h3
    obtain ⟨k, rfl⟩ : ∃ m, k = m + 1 := ⟨k - 1, by omega⟩
    simp only [row_Bytes.l0]
    rw [if_neg (by omega), List.drop_of_length_le (by omega)]
    simp [valsL]
  | succ d ih =>
    intro i k acc h1 h2 h3
    obtain ⟨k, rfl⟩ : ∃ m, k = m + 1 := ⟨k - 1, by omega⟩
    have hi : i < l.length := by omega
    have hr : rd_T92 l (i : Int) = l[i] := by simp [rd_T92, hi]
    have hgi := hg l[i] (List.getElem_mem hi)
    have hvl := valL_length _ hgi
    simp only [row_Bytes.l0]
    rw [if_pos (by omega), if_pos (by omega), if_pos (by omega), hr, valBytes_eq _ hgi k (by omega), Option.bind_some, if_pos (by simp only; omega), wrap_in _ (by omega) (by omega), show (i : Int) + 1 = ((i + 1 : Nat) : Int) from by omega, ih (i + 1) k _ (by omega) (by omega) (by simp; omega), List.drop_eq_getElem_cons hi]
    simp only [valsL, List.flatMap_cons, List.append_assoc]
theorem rowBytes_eq (l : List Val) (k : Nat) (hk : 40 < k) : row_Bytes.f k l = some (rowB l) := by
  unfold row_Bytes.f row_Check.f rowB contains_wrong.f
  by_cases h : l.length > 12
  · rw [if_pos (show (l.length : Int) > 12 by omega), if_pos h, Option.bind_some, if_neg (by decide)]
  · rw [if_neg (show ¬ (l.length : Int) > 12 by omega), if_neg h, Option.bind_some, any_wrong]
    by_cases hg : ∀ v ∈ l, goodV v
    · rw [if_pos hg, decide_eq_false (fun h => h hg), if_neg (by decide), Option.bind_some, if_pos rfl]
      have := rowB_l0 l hg (by omega) l.length 0 k [(l.length : Int) % 256] (by omega) (by omega) (by simp; omega)
      rw [show ((0 : Nat) : Int) = 0 from rfl] at this
      rw [this]
      rfl
    · rw [if_neg hg, decide_eq_true hg, if_pos rfl, Option.bind_some, if_neg (by decide)]
end Go.Proofs.YtnbjflcfdncocaaGreat.M
namespace Go.Proofs.YtnbjflcfdncocaaGreat.M
open Go.RowKit Go.Proofs.YtnbjflcfdncocaaGreatW.PrintWords Go.Proofs.YtnbjflcfdncocaaGreatW.PrintLast Go.Proofs.YtnbjflcfdncocaaGreatW.PrintMore
attribute [local go_sem] max2_int min2_int max_two min_two max_three min_three max_four min_four
set_option linter.unusedVariables false
set_option linter.unusedSimpArgs false
mutual
def wire_GetInt.j0 : Nat → List Int → Int → Bool → Option (Int × Int × Int)
 | 0, _, _, _ => none
 | k + 1, x0, x1, x15 => if x15 = true then (some (0, 0, 1)) else (if (wrap64 ((x0.length : Int) - x1)) < 9 then (wire_GetInt.j1 k x0 x1 true) else (if 0 ≤ x1 then (if x1 < (x0.length : Int) then (wire_GetInt.j1 k x0 x1 (decide ((rd x0 x1) > 1))) else (none)) else (none)))
def wire_GetInt.j1 : Nat → List Int → Int → Bool → Option (Int × Int × Int)
 | 0, _, _, _ => none
 | k + 1, x0, x1, x27 => if x27 = true then (some (0, 0, 3)) else (if 0 ≤ (wrap64 (x1 + 1)) then (if (wrap64 (x1 + 1)) ≤ (wrap64 (x1 + 9)) then (if (wrap64 (x1 + 9)) ≤ (x0.length : Int) then ((wire_num.f k ((x0.take ((wrap64 (x1 + 9)) : Int).toNat).drop ((wrap64 (x1 + 1)) : Int).toNat)).bind fun t314 => (if t314 > 1152921504606846976 then (wire_GetInt.j2 k x0 x1 t314 true) else (if 0 ≤ x1 then (if x1 < (x0.length : Int) then (if (rd x0 x1) = 1 then (wire_GetInt.j2 k x0 x1 t314 (t314 == 0)) else (wire_GetInt.j2 k x0 x1 t314 false)) else (none)) else (none)))) else (none)) else (none)) else (none))
def wire_GetInt.j2 : Nat → List Int → Int → Int → Bool → Option (Int × Int × Int)
 | 0, _, _, _, _ => none
 | k + 1, x0, x1, x7, x35 => if x35 = true then (some (0, 0, 3)) else (if 0 ≤ x1 then (if x1 < (x0.length : Int) then (if (rd x0 x1) = 1 then (some (wrap64 (-(wrap64 (x7))), wrap64 (x1 + 9), 0)) else (some (wrap64 (x7), wrap64 (x1 + 9), 0))) else (none)) else (none))
end
def wire_GetInt.f (k : Nat) (l0 : List Int) (a1 : Int) : Option (Int × Int × Int) := if a1 < 0 then (wire_GetInt.j0 k l0 a1 true) else (wire_GetInt.j0 k l0 a1 (decide (a1 > (l0.length : Int))))
set_option maxHeartbeats 8000000 in
set_option maxRecDepth 100000 in
theorem wire_GetInt.calls (k : Nat) (A0 : Option Addr) (c0 : Nat) (l0 : List Int) (a1 : Int) (r1 : Int) (r2 : Int) (r3 : Int) (w : World) (hr0 : Kd.C (Kd.int .u8) w A0 l0.length l0) (hc0 : l0.length ≤ c0) (h : wire_GetInt.f k l0 a1 = some (r1, r2, r3)) :
  Calls Tryz.prog 132 #[.slice A0 l0.length c0, .int .i64 a1] w fun e w' => e = .returned (.tuple #[.int .i64 r1, .int .i64 r2, .int .i64 r3]) ∧ Drawn0 w w' := by
 have HR0 := Aside0.mk hr0
 have HC0 := Aside0.mk hc0
 clear hr0 hc0
 have H : (if a1 < 0 then (wire_GetInt.j0 k l0 a1 true) else (wire_GetInt.j0 k l0 a1 (decide (a1 > (l0.length : Int))))) = some (r1, r2, r3) := h
 clear h
 have HC3 := Aside0.mk H
 clear H
 go_enter Tryz.func132, Tryz.ntmps132
 go_upto_region 1 with (fail)
 go_cut [15] (fun v15 wc => ∃ (kq : Nat) (x15_2 : Bool), v15 = .bool x15_2 ∧ Aside0 (wire_GetInt.j0 kq l0 a1 x15_2 = some (r1, r2, r3)) ∧ Aside0 (kq ≤ k) ∧ Drawn0 w wc)
 case first =>
  have H := HC3.out
  clear HC3
  by_cases c4 : a1 < 0
  ·rw [if_pos c4] at H
   have c4b0 : decide (a1 < 0) = true := decide_eq_true c4
   clear c4
   (first | rw [c4b0] | (simp only [i64_w, i32_w]; rw [c4b0]) | skip)
   have H' := Aside0.mk H
   clear H
   go_wp2
   go_meet
   case rel => exact ⟨_, (true), (by first | rfl | (simp; done) | (simp [*]; done)), H', ⟨by first | omega | exact Nat.le_refl _⟩, by repeat (first | exact Drawn0.refl _ | apply Drawn0.step)⟩
  ·rw [if_neg c4] at H
   have c4b0 : decide (a1 < 0) = false := decide_eq_false c4
   clear c4
   (first | rw [c4b0] | (simp only [i64_w, i32_w]; rw [c4b0]) | skip)
   have H' := Aside0.mk H
   clear H
   go_wp2
   go_meet
   case rel => exact ⟨_, (decide (a1 > (l0.length : Int))), (by first | rfl | (simp; done) | (simp [*]; done)), H', ⟨by first | omega | exact Nat.le_refl _⟩, by repeat (first | exact Drawn0.refl _ | apply Drawn0.step)⟩
 case rest =>
  clear HC3
  try clear c1
  try clear p2
  try clear c4
  try clear c4b0
  obtain ⟨kq, x15_2, rfl, HA, HJ2, ⟨mc2, rfl⟩⟩ := hcut
  cases kq with
  | zero => exact absurd HA.out (by simp [wire_GetInt.j0])
  | succ kj2 =>
   have H := HA.out
   clear HA
   simp only [wire_GetInt.j0] at H
   by_cases c5 : x15_2 = true
   ·subst c5
    rw [if_pos rfl] at H
    simp only [Option.some.injEq, Prod.mk.injEq] at H
    obtain ⟨rfl, rfl, rfl⟩ := H
    go_wp2
    go_ret3
    exact ⟨by first | rfl | (simp; done) | (simp [*]; done), by repeat (first | exact Drawn0.refl _ | apply Drawn0.step)⟩
   ·replace c5 := Bool.eq_false_iff.mpr c5
    subst c5
    rw [if_neg (show ¬ (false = true) by decide)] at H
    have HC6 := Aside0.mk H
    clear H
    go_upto_region 3 with (fail)
    go_cut [27] (fun v27 wc => ∃ (kq : Nat) (x27_5 : Bool), v27 = .bool x27_5 ∧ Aside0 (wire_GetInt.j1 kq l0 a1 x27_5 = some (r1, r2, r3)) ∧ Aside0 (kq ≤ kj2) ∧ Drawn0 w wc)
    case first =>
     have H := HC6.out
     clear HC6
     by_cases c7 : (wrap64 ((l0.length : Int) - a1)) < 9
     ·rw [if_pos c7] at H
      have c7b0 : decide ((wrap64 ((l0.length : Int) - a1)) < 9) = true := decide_eq_true c7
      clear c7
      (first | rw [c7b0] | (simp only [i64_w, i32_w]; rw [c7b0]) | skip)
      have H' := Aside0.mk H
      clear H
      go_wp2
      go_meet
      case rel => exact ⟨_, (true), (by first | rfl | (simp; done) | (simp [*]; done)), H', ⟨by have := HJ2.out; first | omega | exact Nat.le_refl _⟩, by repeat (first | exact Drawn0.refl _ | apply Drawn0.step)⟩
     ·rw [if_neg c7] at H
      have c7b0 : decide ((wrap64 ((l0.length : Int) - a1)) < 9) = false := decide_eq_false c7
      clear c7
      (first | rw [c7b0] | (simp only [i64_w, i32_w]; rw [c7b0]) | skip)
      by_cases c8 : 0 ≤ a1
      ·rw [if_pos c8] at H
       have c8b0 : decide (0 ≤ a1) = true := decide_eq_true c8
       clear c8
       by_cases c9 : a1 < (l0.length : Int)
       ·rw [if_pos c9] at H
        have c9b0 : decide (a1 < (l0.length : Int)) = true := decide_eq_true c9
        clear c9
        have H' := Aside0.mk H
        clear H
        have p312 : 0 ≤ (a1 : Int) := of_decide_eq_true (by first | (with_reducible assumption) | assumption)
        have q312 : a1 < (l0.length : Int) := of_decide_eq_true (by first | (with_reducible assumption) | assumption)
        obtain ⟨ad312, e312, hx312_0⟩ := Kd.at_int HR0.out a1 p312 q312
        cases e312
        replace p312 := eq_true p312
        replace q312 := eq_true q312
        go_wp2
        go_meet
        case rel => exact ⟨_, (decide ((rd l0 a1) > 1)), (by first | rfl | (simp; done) | (simp [*]; done)), H', ⟨by have := HJ2.out; first | omega | exact Nat.le_refl _⟩, by repeat (first | exact Drawn0.refl _ | apply Drawn0.step)⟩
       ·rw [if_neg c9] at H
        exact absurd H (by simp)
      ·rw [if_neg c8] at H
       exact absurd H (by simp)
    case rest =>
     clear HC6
     try clear c1
     try clear c2
     try clear p2
     try clear p3
     try clear q3
     try clear hx3
     try clear c4
     try clear c4b0
     try clear c5
     try clear p6
     try clear c7
     try clear c7b0
     try clear c8
     try clear c8b0
     try clear c9
     try clear c9b0
     try clear hx312_0
     try clear p2
     try clear p312
     try clear q312
     obtain ⟨kq, x27_5, rfl, HA, HJ5, ⟨mc5, rfl⟩⟩ := hcut
     cases kq with
     | zero => exact absurd HA.out (by simp [wire_GetInt.j1])
     | succ kj5 =>
      have H := HA.out
      clear HA
      simp only [wire_GetInt.j1] at H
      by_cases c10 : x27_5 = true
      ·subst c10
       rw [if_pos rfl] at H
       simp only [Option.some.injEq, Prod.mk.injEq] at H
       obtain ⟨rfl, rfl, rfl⟩ := H
       go_wp2
       go_ret3
       exact ⟨by first | rfl | (simp; done) | (simp [*]; done), by repeat (first | exact Drawn0.refl _ | apply Drawn0.step)⟩
      ·replace c10 := Bool.eq_false_iff.mpr c10
       subst c10
       rw [if_neg (show ¬ (false = true) by decide)] at H
       obtain ⟨ji11, hji11⟩ : ∃ j_ : Int, (wrap64 (a1 + 1)) = j_ := ⟨_, rfl⟩
       replace H : (if 0 ≤ (ji11) then (if (ji11) ≤ (wrap64 (a1 + 9)) then (if (wrap64 (a1 + 9)) ≤ (l0.length : Int) then ((wire_num.f kj5 ((l0.take ((wrap64 (a1 + 9)) : Int).toNat).drop ((ji11) : Int).toNat)).bind fun t314 => (if t314 > 1152921504606846976 then (wire_GetInt.j2 kj5 l0 a1 t314 true) else (if 0 ≤ a1 then (if a1 < (l0.length : Int) then (if (rd l0 a1) = 1 then (wire_GetInt.j2 kj5 l0 a1 t314 (t314 == 0)) else (wire_GetInt.j2 kj5 l0 a1 t314 false)) else (none)) else (none)))) else (none)) else (none)) else (none)) = some (r1, r2, r3) := by first | (rw [hji11] at H; exact H) | (simp only [hji11] at H ⊢; exact H)
       have hji11w : (IntKind.i64.wrap (a1 + 1)) = ji11 := (i64_w _).trans hji11
       by_cases c12 : 0 ≤ (ji11)
       ·rw [if_pos c12] at H
        have c12b0 := eq_true c12
        have c12b1 : decide (0 ≤ (ji11)) = true := decide_eq_true c12
        clear c12
        by_cases c13 : (ji11) ≤ (wrap64 (a1 + 9))
        ·rw [if_pos c13] at H
         have c13b0 := eq_true c13
         have c13b1 : decide ((ji11) ≤ (wrap64 (a1 + 9))) = true := decide_eq_true c13
         by_cases c14 : (wrap64 (a1 + 9)) ≤ (l0.length : Int)
         ·rw [if_pos c14] at H
          have c14b0 := eq_true c14
          have c14b1 : decide ((wrap64 (a1 + 9)) ≤ (l0.length : Int)) = true := decide_eq_true c14
          replace H := Option.bind_eq_some_iff.mp H
          obtain ⟨t314, A150, H⟩ := H
          try dsimp only at H
          have A15 := Aside0.mk A150
          clear A150
          have HC16 := Aside0.mk H
          clear H
          obtain ⟨i017, hi017, _, hsz17, _⟩ := info_parts info5
          obtain ⟨A17, hcut17, hA17, hC17⟩ := print_mid_of (P := Tryz.prog) (Value.int .u8) 0 33 5 .i64 .i64 Tryz.underlying33 hi017 hsz17 A0 c0 l0 (ji11) (wrap64 (a1 + 9)) (of_decide_eq_true (by first | (with_reducible assumption) | assumption)) (by first | omega | exact of_decide_eq_true (by first | (with_reducible assumption) | assumption)) (of_decide_eq_true (by first | (with_reducible assumption) | assumption)) HC0.out
          have HR313 := Aside0.mk (Kd.C_of_reads (h1 := fun _ => rfl) (hA17 _ (Kd.reads_of_C HR0.out)))
          have HC313 := Aside0.mk hC17
          clear hA17 hC17 hi017 hsz17
          go_upto_region 6 with (first | ((with_reducible refine gate_callee (f := 114) rfl ?_); refine goesL_ (some 34) rfl rfl Tryz.func114 (by kernel_rfl) rfl #[.slice A17 ((l0.take ((wrap64 (a1 + 9)) : Int).toNat).drop ((ji11) : Int).toNat).length (c0 - (ji11).toNat)] rfl (by (try simp only [List.map_toArray, List.map_cons, List.map_nil]); first | done | (rw [show ((l0.take ((wrap64 (a1 + 9)) : Int).toNat).drop ((ji11) : Int).toNat).length = ((wrap64 (a1 + 9)).toNat - (ji11).toNat) from (by rw [List.length_drop, List.length_take]; have h_ : ((wrap64 (a1 + 9)) : Int) ≤ (l0.length : Int) := of_decide_eq_true (by first | (with_reducible assumption) | assumption); omega)] <;> rfl) | (simp only [hji11]; rfl) | rfl | (simp only [List.length_drop, List.length_take]; rfl)) ?_; (with_reducible refine (wire_num.calls kj5 _ _ ((l0.take ((wrap64 (a1 + 9)) : Int).toNat).drop ((ji11) : Int).toNat) t314 _ ?side1 ?side2 A15.out).mono ?_); (case side1 => repeat (first | exact HR313.out | (with_reducible refine Kd.C_alloc ?_ _) | (with_reducible refine Kd.C_drewN ?_ _) | (with_reducible refine Kd.C_drew ?_))); (case side2 => exact HC313.out); rintro e w' ⟨rfl, ⟨nd, rfl⟩⟩; refine ⟨_, rfl, ?_⟩))
          (try simp only [Act.put, List.setIfInBounds_toArray, List.set_cons_zero, List.set_cons_succ])
          go_cut [35] (fun v35 wc => ∃ (kq : Nat) (x35_15 : Bool), v35 = .bool x35_15 ∧ Aside0 (wire_GetInt.j2 kq l0 a1 t314 x35_15 = some (r1, r2, r3)) ∧ Aside0 (kq ≤ kj5) ∧ Drawn0 w wc)
          case first =>
           have H := HC16.out
           clear HC16
           by_cases c18 : t314 > 1152921504606846976
           ·rw [if_pos c18] at H
            have c18b0 : decide (1152921504606846976 < t314) = true := decide_eq_true c18
            clear c18
            (first | rw [c18b0] | (simp only [i64_w, i32_w]; rw [c18b0]) | skip)
            have H' := Aside0.mk H
            clear H
            go_wp2
            go_meet
            case rel => exact ⟨_, (true), (by first | rfl | (simp; done) | (simp [*]; done)), H', ⟨by have := HJ2.out; have := HJ5.out; first | omega | exact Nat.le_refl _⟩, by repeat (first | exact Drawn0.refl _ | apply Drawn0.step)⟩
           ·rw [if_neg c18] at H
            have c18b0 : decide (1152921504606846976 < t314) = false := decide_eq_false c18
            clear c18
            (first | rw [c18b0] | (simp only [i64_w, i32_w]; rw [c18b0]) | skip)
            by_cases c19 : 0 ≤ a1
            ·rw [if_pos c19] at H
             have c19b0 : decide (0 ≤ a1) = true := decide_eq_true c19
             clear c19
             by_cases c20 : a1 < (l0.length : Int)
             ·rw [if_pos c20] at H
              have c20b0 : decide (a1 < (l0.length : Int)) = true := decide_eq_true c20
              clear c20
              by_cases c21 : (rd l0 a1) = 1
              ·rw [if_pos c21] at H
               have c21b0 : ((rd l0 a1) == 1) = true := beq_iff_eq.mpr c21
               have c21b1 : ((rd l0 a1) != 1) = false := bne_eq_false_iff_eq.mpr c21
               clear c21
               have H' := Aside0.mk H
               clear H
               have p315 : 0 ≤ (a1 : Int) := of_decide_eq_true (by first | (with_reducible assumption) | assumption)
               have q315 : a1 < (l0.length : Int) := of_decide_eq_true (by first | (with_reducible assumption) | assumption)
               obtain ⟨ad315, e315, hx315_0⟩ := Kd.at_int HR0.out a1 p315 q315
               cases e315
               replace p315 := eq_true p315
               replace q315 := eq_true q315
               go_wp2
               go_meet
               case rel => exact ⟨_, ((t314 == 0)), (by first | rfl | (simp; done) | (simp [*]; done)), H', ⟨by have := HJ2.out; have := HJ5.out; first | omega | exact Nat.le_refl _⟩, by repeat (first | exact Drawn0.refl _ | apply Drawn0.step)⟩
              ·rw [if_neg c21] at H
               have c21b0 : ((rd l0 a1) == 1) = false := beq_eq_false_iff_ne.mpr c21
               have c21b1 : ((rd l0 a1) != 1) = true := bne_iff_ne.mpr c21
               have H' := Aside0.mk H
               clear H
               have p315 : 0 ≤ (a1 : Int) := of_decide_eq_true (by first | (with_reducible assumption) | assumption)
               have q315 : a1 < (l0.length : Int) := of_decide_eq_true (by first | (with_reducible assumption) | assumption)
               obtain ⟨ad315, e315, hx315_0⟩ := Kd.at_int HR0.out a1 p315 q315
               cases e315
               replace p315 := eq_true p315
               replace q315 := eq_true q315
               go_wp2
               go_meet
               case rel => exact ⟨_, (false), (by first | rfl | (simp; done) | (simp [*]; done)), H', ⟨by have := HJ2.out; have := HJ5.out; first | omega | exact Nat.le_refl _⟩, by repeat (first | exact Drawn0.refl _ | apply Drawn0.step)⟩
             ·rw [if_neg c20] at H
              exact absurd H (by simp)
            ·rw [if_neg c19] at H
             exact absurd H (by simp)
          case rest =>
           clear HC16
           try clear c1
           try clear c2
           try clear p2
           try clear p3
           try clear q3
           try clear hx3
           try clear c4
           try clear c4b0
           try clear c5
           try clear p6
           try clear c7
           try clear c7b0
           try clear c8
           try clear c8b0
           try clear c9
           try clear c9b0
           try clear c10
           try clear c11
           try clear c12
           try clear c12b0
           try clear c12b1
           try clear c13
           try clear c13b0
           try clear c13b1
           try clear c14
           try clear c14b0
           try clear c14b1
           try clear c18
           try clear c18b0
           try clear c19
           try clear c19b0
           try clear c20
           try clear c20b0
           try clear c21
           try clear c21b0
           try clear c21b1
           try clear hx312_0
           try clear hx315_0
           try clear p2
           try clear p3
           try clear p312
           try clear p315
           try clear p6
           try clear q3
           try clear q312
           try clear q315
           obtain ⟨kq, x35_15, rfl, HA, HJ15, ⟨mc15, rfl⟩⟩ := hcut
           cases kq with
           | zero => exact absurd HA.out (by simp [wire_GetInt.j2])
           | succ kj15 =>
            have H := HA.out
            clear HA
            simp only [wire_GetInt.j2] at H
            by_cases c22 : x35_15 = true
            ·subst c22
             rw [if_pos rfl] at H
             simp only [Option.some.injEq, Prod.mk.injEq] at H
             obtain ⟨rfl, rfl, rfl⟩ := H
             go_wp2
             go_ret3
             exact ⟨by first | rfl | (simp; done) | (simp only [← hji11] <;> (first | rfl | simp)) | (simp [*]; done), by repeat (first | exact Drawn0.refl _ | apply Drawn0.step)⟩
            ·replace c22 := Bool.eq_false_iff.mpr c22
             subst c22
             rw [if_neg (show ¬ (false = true) by decide)] at H
             by_cases c23 : 0 ≤ a1
             ·rw [if_pos c23] at H
              have c23b0 : decide (0 ≤ a1) = true := decide_eq_true c23
              clear c23
              by_cases c24 : a1 < (l0.length : Int)
              ·rw [if_pos c24] at H
               have c24b0 : decide (a1 < (l0.length : Int)) = true := decide_eq_true c24
               clear c24
               by_cases c25 : (rd l0 a1) = 1
               ·rw [if_pos c25] at H
                have c25b0 : ((rd l0 a1) == 1) = true := beq_iff_eq.mpr c25
                have c25b1 : ((rd l0 a1) != 1) = false := bne_eq_false_iff_eq.mpr c25
                clear c25
                simp only [Option.some.injEq, Prod.mk.injEq] at H
                obtain ⟨rfl, rfl, rfl⟩ := H
                have p316 : 0 ≤ (a1 : Int) := of_decide_eq_true (by first | (with_reducible assumption) | assumption)
                have q316 : a1 < (l0.length : Int) := of_decide_eq_true (by first | (with_reducible assumption) | assumption)
                obtain ⟨ad316, e316, hx316_0⟩ := Kd.at_int HR0.out a1 p316 q316
                cases e316
                replace p316 := eq_true p316
                replace q316 := eq_true q316
                go_wp2
                go_ret3
                exact ⟨by first | rfl | (simp; done) | (simp only [← hji11] <;> (first | rfl | simp)) | (simp [*]; done), by repeat (first | exact Drawn0.refl _ | apply Drawn0.step)⟩
               ·rw [if_neg c25] at H
                have c25b0 : ((rd l0 a1) == 1) = false := beq_eq_false_iff_ne.mpr c25
                have c25b1 : ((rd l0 a1) != 1) = true := bne_iff_ne.mpr c25
                simp only [Option.some.injEq, Prod.mk.injEq] at H
                obtain ⟨rfl, rfl, rfl⟩ := H
                have p316 : 0 ≤ (a1 : Int) := of_decide_eq_true (by first | (with_reducible assumption) | assumption)
                have q316 : a1 < (l0.length : Int) := of_decide_eq_true (by first | (with_reducible assumption) | assumption)
                obtain ⟨ad316, e316, hx316_0⟩ := Kd.at_int HR0.out a1 p316 q316
                cases e316
                replace p316 := eq_true p316
                replace q316 := eq_true q316
                go_wp2
                go_ret3
                exact ⟨by first | rfl | (simp; done) | (simp only [← hji11] <;> (first | rfl | simp)) | (simp [*]; done), by repeat (first | exact Drawn0.refl _ | apply Drawn0.step)⟩
              ·rw [if_neg c24] at H
               exact absurd H (by simp)
             ·rw [if_neg c23] at H
              exact absurd H (by simp)
         ·rw [if_neg c14] at H
          exact absurd H (by simp)
        ·rw [if_neg c13] at H
         exact absurd H (by simp)
       ·rw [if_neg c12] at H
        exact absurd H (by simp)
def value_Read.f (k : Nat) (l0 : List Int) (a1 : Int) : Option (Int × Int × ByteArray × Int × Int) := (wire_Get.f k l0 a1 1).bind fun bt318 => (if bt318.2.2 = 0 then (if bt318.1 = 2 then ((wire_Get.f k l0 bt318.2.1 1).bind fun bt321 => (if bt321.2.2 = 0 then ((value_Check.f bt318.1 bt321.1 (⟨#[]⟩ : ByteArray)).bind fun t324 => (if t324 = 0 then (some (bt318.1, bt321.1, (⟨#[]⟩ : ByteArray), bt321.2.1, 0)) else (some (0, 0, (⟨#[]⟩ : ByteArray), 0, 3)))) else (some (0, 0, (⟨#[]⟩ : ByteArray), 0, 3)))) else (if bt318.1 = 3 then ((wire_GetInt.f k l0 bt318.2.1).bind fun bt325 => (if bt325.2.2 = 0 then ((value_Check.f bt318.1 bt325.1 (⟨#[]⟩ : ByteArray)).bind fun t328 => (if t328 = 0 then (some (bt318.1, bt325.1, (⟨#[]⟩ : ByteArray), bt325.2.1, 0)) else (some (0, 0, (⟨#[]⟩ : ByteArray), 0, 3)))) else (some (0, 0, (⟨#[]⟩ : ByteArray), 0, 3)))) else (if bt318.1 = 4 then ((wire_GetText.f k l0 bt318.2.1).bind fun bt329 => (if bt329.2.2 = 0 then ((value_Check.f bt318.1 0 bt329.1).bind fun t332 => (if t332 = 0 then (some (bt318.1, 0, bt329.1, bt329.2.1, 0)) else (some (0, 0, (⟨#[]⟩ : ByteArray), 0, 3)))) else (some (0, 0, (⟨#[]⟩ : ByteArray), 0, 3)))) else ((value_Check.f bt318.1 0 (⟨#[]⟩ : ByteArray)).bind fun t333 => (if t333 = 0 then (some (bt318.1, 0, (⟨#[]⟩ : ByteArray), bt318.2.1, 0)) else (some (0, 0, (⟨#[]⟩ : ByteArray), 0, 3))))))) else (some (0, 0, (⟨#[]⟩ : ByteArray), 0, bt318.2.2)))
set_option maxHeartbeats 8000000 in
set_option maxRecDepth 100000 in
theorem value_Read.calls (k : Nat) (A0 : Option Addr) (c0 : Nat) (l0 : List Int) (a1 : Int) (r1 : Int) (r2 : Int) (r3 : ByteArray) (r4 : Int) (r5 : Int) (w : World) (hr0 : Kd.C (Kd.int .u8) w A0 l0.length l0) (hc0 : l0.length ≤ c0) (h : value_Read.f k l0 a1 = some (r1, r2, r3, r4, r5)) :
  Calls Tryz.prog 116 #[.slice A0 l0.length c0, .int .i64 a1] w fun e w' => e = .returned (.tuple #[.agg #[.int .i64 r1, .int .i64 r2, .string r3], .int .i64 r4, .int .i64 r5]) ∧ Below w.heap.size w w' := by
 have hu92 := Tryz.underlying92
 have HR0 := Aside0.mk hr0
 have HC0 := Aside0.mk hc0
 clear hr0 hc0
 have HB := Aside0.mk (Below.refl w.heap.size w)
 have H : ((wire_Get.f k l0 a1 1).bind fun bt318 => (if bt318.2.2 = 0 then (if bt318.1 = 2 then ((wire_Get.f k l0 bt318.2.1 1).bind fun bt321 => (if bt321.2.2 = 0 then ((value_Check.f bt318.1 bt321.1 (⟨#[]⟩ : ByteArray)).bind fun t324 => (if t324 = 0 then (some (bt318.1, bt321.1, (⟨#[]⟩ : ByteArray), bt321.2.1, 0)) else (some (0, 0, (⟨#[]⟩ : ByteArray), 0, 3)))) else (some (0, 0, (⟨#[]⟩ : ByteArray), 0, 3)))) else (if bt318.1 = 3 then ((wire_GetInt.f k l0 bt318.2.1).bind fun bt325 => (if bt325.2.2 = 0 then ((value_Check.f bt318.1 bt325.1 (⟨#[]⟩ : ByteArray)).bind fun t328 => (if t328 = 0 then (some (bt318.1, bt325.1, (⟨#[]⟩ : ByteArray), bt325.2.1, 0)) else (some (0, 0, (⟨#[]⟩ : ByteArray), 0, 3)))) else (some (0, 0, (⟨#[]⟩ : ByteArray), 0, 3)))) else (if bt318.1 = 4 then ((wire_GetText.f k l0 bt318.2.1).bind fun bt329 => (if bt329.2.2 = 0 then ((value_Check.f bt318.1 0 bt329.1).bind fun t332 => (if t332 = 0 then (some (bt318.1, 0, bt329.1, bt329.2.1, 0)) else (some (0, 0, (⟨#[]⟩ : ByteArray), 0, 3)))) else (some (0, 0, (⟨#[]⟩ : ByteArray), 0, 3)))) else ((value_Check.f bt318.1 0 (⟨#[]⟩ : ByteArray)).bind fun t333 => (if t333 = 0 then (some (bt318.1, 0, (⟨#[]⟩ : ByteArray), bt318.2.1, 0)) else (some (0, 0, (⟨#[]⟩ : ByteArray), 0, 3))))))) else (some (0, 0, (⟨#[]⟩ : ByteArray), 0, bt318.2.2)))) = some (r1, r2, r3, r4, r5) := h
 clear h
 replace H := Option.bind_eq_some_iff.mp H
 obtain ⟨⟨t318, t319, t320⟩, A30, H⟩ := H
 try dsimp only at H
 have A3 := Aside0.mk A30
 clear A30
 by_cases c4 : t320 = 0
 ·rw [if_pos c4] at H
  have c4b0 : (t320 == 0) = true := beq_iff_eq.mpr c4
  have c4b1 : (t320 != 0) = false := bne_eq_false_iff_eq.mpr c4
  clear c4
  by_cases c5 : t318 = 2
  ·rw [if_pos c5] at H
   have c5b0 : (t318 == 2) = true := beq_iff_eq.mpr c5
   have c5b1 : (t318 != 2) = false := bne_eq_false_iff_eq.mpr c5
   clear c5
   replace H := Option.bind_eq_some_iff.mp H
   obtain ⟨⟨t321, t322, t323⟩, A60, H⟩ := H
   try dsimp only at H
   have A6 := Aside0.mk A60
   clear A60
   by_cases c7 : t323 = 0
   ·rw [if_pos c7] at H
    have c7b0 : (t323 == 0) = true := beq_iff_eq.mpr c7
    have c7b1 : (t323 != 0) = false := bne_eq_false_iff_eq.mpr c7
    clear c7
    replace H := Option.bind_eq_some_iff.mp H
    obtain ⟨t324, A80, H⟩ := H
    try dsimp only at H
    have A8 := Aside0.mk A80
    clear A80
    by_cases c9 : t324 = 0
    ·rw [if_pos c9] at H
     have c9b0 : (t324 == 0) = true := beq_iff_eq.mpr c9
     have c9b1 : (t324 != 0) = false := bne_eq_false_iff_eq.mpr c9
     clear c9
     simp only [Option.some.injEq, Prod.mk.injEq] at H
     obtain ⟨rfl, rfl, rfl, rfl, rfl⟩ := H
     go_enter Tryz.func116, Tryz.ntmps116
     go_wp2_with (first | ((with_reducible refine gate_dst (N := 4) rfl ?_); refine box_event ?hg (N := 4) ?hd (cs := #[.int .i64 0, .int .i64 0, .string (⟨#[]⟩ : ByteArray)]) (t := 92) ?hr ?_; (case hd => rfl); (case hg => rfl); (case hr => first | (go_simp; done) | (go_simp; rfl)); intro gb317 hg w10 hbox hb; have n0_ := Aside0.mk (below_step (by with_reducible repeat (first | exact HB.out | apply below_alloc | apply pw_below_drewN | apply below_drew1)) hb); have n1_ := Aside0.mk (hbox); have n2_ := Aside0.mk ((by rw [hg]; exact (below_size (by with_reducible repeat (first | exact HB.out | apply below_alloc | apply pw_below_drewN | apply below_drew1))) : w.heap.size ≤ gb317)); have n3_ := Aside0.mk ((by rw [hg]; exact (below_size (by with_reducible repeat (first | exact HB.out | apply below_alloc | apply pw_below_drewN | apply below_drew1))) : w.heap.size ≤ gb317)); clear HB; have HB := n0_; have BK317 := n1_; have GW317 := n2_; have GE317 := n3_; clear n0_ n1_ n2_ n3_; clear hb hbox hg) | ((with_reducible refine gate_callee (f := 84) rfl ?_); refine goesL_ (some 11) rfl rfl Tryz.func84 (by kernel_rfl) rfl #[.slice A0 l0.length c0, .int .i64 a1, .int .i64 1] rfl (by (try simp only [List.map_toArray, List.map_cons, List.map_nil]); first | done | rfl | (simp only [List.length_drop, List.length_take]; rfl)) ?_; (with_reducible refine (wire_Get.calls k _ _ l0 a1 1 t318 t319 t320 _ ?side1 ?side2 A3.out).mono ?_); (case side1 => repeat (first | exact (Kd.C_below HR0.out HB.out) | (with_reducible refine Kd.C_alloc ?_ _) | (with_reducible refine Kd.C_drewN ?_ _) | (with_reducible refine Kd.C_drew ?_))); (case side2 => exact HC0.out); rintro e w' ⟨rfl, ⟨nd, rfl⟩⟩; refine ⟨_, rfl, ?_⟩; (try (rw [drewN_self w10]; generalize hq_ : World.drewN w10 _ = w10; have n0_ : Aside0 (w10.heap[gb317]? = some (.cells #[.int .i64 0, .int .i64 0, .string (⟨#[]⟩ : ByteArray)] 92 (0, 0))) := ⟨by rw [← hq_]; exact (by (with_reducible repeat (first | refine blk_drewN ?_ _ | refine blk_drew ?_ | refine blk_alloc ?_ _)); exact BK317.out)⟩; have n1_ : Aside0 (Below w.heap.size w w10) := ⟨by rw [← hq_]; exact (by with_reducible repeat (first | exact HB.out | apply below_alloc | apply pw_below_drewN | apply below_drew1 | refine below_set ?_ GE317.out))⟩; clear BK317 HB hq_; have BK317 := n0_; have HB := n1_; clear n0_ n1_)); have hcz11 := fun i_ => blk_cell BK317.out i_; have hfz11 := fun i_ => blk_frozen BK317.out i_) | ((with_reducible refine gate_callee (f := 84) rfl ?_); refine goesL_ (some 27) rfl rfl Tryz.func84 (by kernel_rfl) rfl #[.slice A0 l0.length c0, .int .i64 t319, .int .i64 1] rfl (by (try simp only [List.map_toArray, List.map_cons, List.map_nil]); first | done | rfl | (simp only [List.length_drop, List.length_take]; rfl)) ?_; (with_reducible refine (wire_Get.calls k _ _ l0 t319 1 t321 t322 t323 _ ?side1 ?side2 A6.out).mono ?_); (case side1 => exact Kd.C_below HR0.out (by with_reducible repeat (first | exact HB.out | apply below_alloc | apply pw_below_drewN | apply below_drew1 | refine below_set ?_ GE317.out))); (case side2 => exact HC0.out); rintro e w' ⟨rfl, ⟨nd, rfl⟩⟩; refine ⟨_, rfl, ?_⟩) | (go_at_call 121; (with_reducible refine (value_Check.calls t318 t321 (⟨#[]⟩ : ByteArray) t324 _ A8.out).mono ?_); rintro e w12 ⟨rfl, hb⟩; have n0_ := Aside0.mk (blk_below (g := gb317) (o := .cells #[.int .i64 t318, .int .i64 t321, .string (⟨#[]⟩ : ByteArray)] 92 (0, 0)) (by (with_reducible repeat (first | refine blk_drewN ?_ _ | refine blk_drew ?_ | refine blk_alloc ?_ _)); refine blk_put (cs := #[.int .i64 t318, .int .i64 0, .string (⟨#[]⟩ : ByteArray)]) ?_ 1 _ rfl; (with_reducible repeat (first | refine blk_drewN ?_ _ | refine blk_drew ?_ | refine blk_alloc ?_ _)); refine blk_put (cs := #[.int .i64 0, .int .i64 0, .string (⟨#[]⟩ : ByteArray)]) ?_ 0 _ rfl; (with_reducible repeat (first | refine blk_drewN ?_ _ | refine blk_drew ?_ | refine blk_alloc ?_ _)); exact BK317.out) hb); have n1_ := Aside0.mk (below_step (by with_reducible repeat (first | exact HB.out | apply below_alloc | apply pw_below_drewN | apply below_drew1 | refine below_set ?_ GE317.out)) hb); clear BK317; clear HB; have BK317 := n0_; have HB := n1_; clear n0_ n1_; (try clear hb); (try clear hb2); (try clear hk); (try clear hi); have hcz13 := fun i_ => blk_cell BK317.out i_; have hfz13 := fun i_ => blk_frozen BK317.out i_))
     refine bodyPost_ret (results_ctt rfl _ _ gb317 92 #[.int .i64 t318, .int .i64 t321, .string (⟨#[]⟩ : ByteArray)] (0, 0) _ rfl (by (with_reducible repeat (first | refine blk_drewN ?_ _ | refine blk_drew ?_ | refine blk_alloc ?_ _)); refine blk_put (cs := #[.int .i64 t318, .int .i64 t321, .string (⟨#[]⟩ : ByteArray)]) ?_ 2 _ rfl; (with_reducible repeat (first | refine blk_drewN ?_ _ | refine blk_drew ?_ | refine blk_alloc ?_ _)); refine blk_put (cs := #[.int .i64 t318, .int .i64 t321, .string (⟨#[]⟩ : ByteArray)]) ?_ 1 _ rfl; (with_reducible repeat (first | refine blk_drewN ?_ _ | refine blk_drew ?_ | refine blk_alloc ?_ _)); refine blk_put (cs := #[.int .i64 t318, .int .i64 t321, .string (⟨#[]⟩ : ByteArray)]) ?_ 0 _ rfl; (with_reducible repeat (first | refine blk_drewN ?_ _ | refine blk_drew ?_ | refine blk_alloc ?_ _)); exact BK317.out) Tryz.underlying92 rfl (by kernel_rfl)) rfl ?_
     exact ⟨by first | rfl | (simp [errW_none, errW_some] <;> rfl) | (simp [*, errW_none, errW_some] <;> rfl), by with_reducible repeat (first | exact HB.out | apply below_alloc | apply pw_below_drewN | apply below_drew1 | refine below_set ?_ GE317.out)⟩
    ·rw [if_neg c9] at H
     have c9b0 : (t324 == 0) = false := beq_eq_false_iff_ne.mpr c9
     have c9b1 : (t324 != 0) = true := bne_iff_ne.mpr c9
     simp only [Option.some.injEq, Prod.mk.injEq] at H
     obtain ⟨rfl, rfl, rfl, rfl, rfl⟩ := H
     go_enter Tryz.func116, Tryz.ntmps116
     go_wp2_with (first | ((with_reducible refine gate_dst (N := 4) rfl ?_); refine box_event ?hg (N := 4) ?hd (cs := #[.int .i64 0, .int .i64 0, .string (⟨#[]⟩ : ByteArray)]) (t := 92) ?hr ?_; (case hd => rfl); (case hg => rfl); (case hr => first | (go_simp; done) | (go_simp; rfl)); intro gb317 hg w14 hbox hb; have n0_ := Aside0.mk (below_step (by with_reducible repeat (first | exact HB.out | apply below_alloc | apply pw_below_drewN | apply below_drew1)) hb); have n1_ := Aside0.mk (hbox); have n2_ := Aside0.mk ((by rw [hg]; exact (below_size (by with_reducible repeat (first | exact HB.out | apply below_alloc | apply pw_below_drewN | apply below_drew1))) : w.heap.size ≤ gb317)); have n3_ := Aside0.mk ((by rw [hg]; exact (below_size (by with_reducible repeat (first | exact HB.out | apply below_alloc | apply pw_below_drewN | apply below_drew1))) : w.heap.size ≤ gb317)); clear HB; have HB := n0_; have BK317 := n1_; have GW317 := n2_; have GE317 := n3_; clear n0_ n1_ n2_ n3_; clear hb hbox hg) | ((with_reducible refine gate_callee (f := 84) rfl ?_); refine goesL_ (some 11) rfl rfl Tryz.func84 (by kernel_rfl) rfl #[.slice A0 l0.length c0, .int .i64 a1, .int .i64 1] rfl (by (try simp only [List.map_toArray, List.map_cons, List.map_nil]); first | done | rfl | (simp only [List.length_drop, List.length_take]; rfl)) ?_; (with_reducible refine (wire_Get.calls k _ _ l0 a1 1 t318 t319 t320 _ ?side1 ?side2 A3.out).mono ?_); (case side1 => repeat (first | exact (Kd.C_below HR0.out HB.out) | (with_reducible refine Kd.C_alloc ?_ _) | (with_reducible refine Kd.C_drewN ?_ _) | (with_reducible refine Kd.C_drew ?_))); (case side2 => exact HC0.out); rintro e w' ⟨rfl, ⟨nd, rfl⟩⟩; refine ⟨_, rfl, ?_⟩; (try (rw [drewN_self w14]; generalize hq_ : World.drewN w14 _ = w14; have n0_ : Aside0 (w14.heap[gb317]? = some (.cells #[.int .i64 0, .int .i64 0, .string (⟨#[]⟩ : ByteArray)] 92 (0, 0))) := ⟨by rw [← hq_]; exact (by (with_reducible repeat (first | refine blk_drewN ?_ _ | refine blk_drew ?_ | refine blk_alloc ?_ _)); exact BK317.out)⟩; have n1_ : Aside0 (Below w.heap.size w w14) := ⟨by rw [← hq_]; exact (by with_reducible repeat (first | exact HB.out | apply below_alloc | apply pw_below_drewN | apply below_drew1 | refine below_set ?_ GE317.out))⟩; clear BK317 HB hq_; have BK317 := n0_; have HB := n1_; clear n0_ n1_)); have hcz15 := fun i_ => blk_cell BK317.out i_; have hfz15 := fun i_ => blk_frozen BK317.out i_) | ((with_reducible refine gate_callee (f := 84) rfl ?_); refine goesL_ (some 27) rfl rfl Tryz.func84 (by kernel_rfl) rfl #[.slice A0 l0.length c0, .int .i64 t319, .int .i64 1] rfl (by (try simp only [List.map_toArray, List.map_cons, List.map_nil]); first | done | rfl | (simp only [List.length_drop, List.length_take]; rfl)) ?_; (with_reducible refine (wire_Get.calls k _ _ l0 t319 1 t321 t322 t323 _ ?side1 ?side2 A6.out).mono ?_); (case side1 => exact Kd.C_below HR0.out (by with_reducible repeat (first | exact HB.out | apply below_alloc | apply pw_below_drewN | apply below_drew1 | refine below_set ?_ GE317.out))); (case side2 => exact HC0.out); rintro e w' ⟨rfl, ⟨nd, rfl⟩⟩; refine ⟨_, rfl, ?_⟩) | (go_at_call 121; (with_reducible refine (value_Check.calls t318 t321 (⟨#[]⟩ : ByteArray) t324 _ A8.out).mono ?_); rintro e w16 ⟨rfl, hb⟩; have n0_ := Aside0.mk (blk_below (g := gb317) (o := .cells #[.int .i64 t318, .int .i64 t321, .string (⟨#[]⟩ : ByteArray)] 92 (0, 0)) (by (with_reducible repeat (first | refine blk_drewN ?_ _ | refine blk_drew ?_ | refine blk_alloc ?_ _)); refine blk_put (cs := #[.int .i64 t318, .int .i64 0, .string (⟨#[]⟩ : ByteArray)]) ?_ 1 _ rfl; (with_reducible repeat (first | refine blk_drewN ?_ _ | refine blk_drew ?_ | refine blk_alloc ?_ _)); refine blk_put (cs := #[.int .i64 0, .int .i64 0, .string (⟨#[]⟩ : ByteArray)]) ?_ 0 _ rfl; (with_reducible repeat (first | refine blk_drewN ?_ _ | refine blk_drew ?_ | refine blk_alloc ?_ _)); exact BK317.out) hb); have n1_ := Aside0.mk (below_step (by with_reducible repeat (first | exact HB.out | apply below_alloc | apply pw_below_drewN | apply below_drew1 | refine below_set ?_ GE317.out)) hb); clear BK317; clear HB; have BK317 := n0_; have HB := n1_; clear n0_ n1_; (try clear hb); (try clear hb2); (try clear hk); (try clear hi); have hcz17 := fun i_ => blk_cell BK317.out i_; have hfz17 := fun i_ => blk_frozen BK317.out i_))
     refine bodyPost_ret (results_ctt rfl _ _ gb317 92 #[.int .i64 0, .int .i64 0, .string (⟨#[]⟩ : ByteArray)] (0, 0) _ rfl (by (with_reducible repeat (first | refine blk_drewN ?_ _ | refine blk_drew ?_ | refine blk_alloc ?_ _)); refine blk_put (cs := #[.int .i64 0, .int .i64 0, .string (⟨#[]⟩ : ByteArray)]) ?_ 2 _ rfl; (with_reducible repeat (first | refine blk_drewN ?_ _ | refine blk_drew ?_ | refine blk_alloc ?_ _)); refine blk_put (cs := #[.int .i64 0, .int .i64 t321, .string (⟨#[]⟩ : ByteArray)]) ?_ 1 _ rfl; (with_reducible repeat (first | refine blk_drewN ?_ _ | refine blk_drew ?_ | refine blk_alloc ?_ _)); refine blk_put (cs := #[.int .i64 t318, .int .i64 t321, .string (⟨#[]⟩ : ByteArray)]) ?_ 0 _ rfl; (with_reducible repeat (first | refine blk_drewN ?_ _ | refine blk_drew ?_ | refine blk_alloc ?_ _)); exact BK317.out) Tryz.underlying92 rfl (by kernel_rfl)) rfl ?_
     exact ⟨by first | rfl | (simp [errW_none, errW_some] <;> rfl) | (simp [*, errW_none, errW_some] <;> rfl), by with_reducible repeat (first | exact HB.out | apply below_alloc | apply pw_below_drewN | apply below_drew1 | refine below_set ?_ GE317.out)⟩
   ·rw [if_neg c7] at H
    have c7b0 : (t323 == 0) = false := beq_eq_false_iff_ne.mpr c7
    have c7b1 : (t323 != 0) = true := bne_iff_ne.mpr c7
    simp only [Option.some.injEq, Prod.mk.injEq] at H
    obtain ⟨rfl, rfl, rfl, rfl, rfl⟩ := H
    go_enter Tryz.func116, Tryz.ntmps116
    go_wp2_with (first | ((with_reducible refine gate_dst (N := 4) rfl ?_); refine box_event ?hg (N := 4) ?hd (cs := #[.int .i64 0, .int .i64 0, .string (⟨#[]⟩ : ByteArray)]) (t := 92) ?hr ?_; (case hd => rfl); (case hg => rfl); (case hr => first | (go_simp; done) | (go_simp; rfl)); intro gb317 hg w18 hbox hb; have n0_ := Aside0.mk (below_step (by with_reducible repeat (first | exact HB.out | apply below_alloc | apply pw_below_drewN | apply below_drew1)) hb); have n1_ := Aside0.mk (hbox); have n2_ := Aside0.mk ((by rw [hg]; exact (below_size (by with_reducible repeat (first | exact HB.out | apply below_alloc | apply pw_below_drewN | apply below_drew1))) : w.heap.size ≤ gb317)); have n3_ := Aside0.mk ((by rw [hg]; exact (below_size (by with_reducible repeat (first | exact HB.out | apply below_alloc | apply pw_below_drewN | apply below_drew1))) : w.heap.size ≤ gb317)); clear HB; have HB := n0_; have BK317 := n1_; have GW317 := n2_; have GE317 := n3_; clear n0_ n1_ n2_ n3_; clear hb hbox hg) | ((with_reducible refine gate_callee (f := 84) rfl ?_); refine goesL_ (some 11) rfl rfl Tryz.func84 (by kernel_rfl) rfl #[.slice A0 l0.length c0, .int .i64 a1, .int .i64 1] rfl (by (try simp only [List.map_toArray, List.map_cons, List.map_nil]); first | done | rfl | (simp only [List.length_drop, List.length_take]; rfl)) ?_; (with_reducible refine (wire_Get.calls k _ _ l0 a1 1 t318 t319 t320 _ ?side1 ?side2 A3.out).mono ?_); (case side1 => repeat (first | exact (Kd.C_below HR0.out HB.out) | (with_reducible refine Kd.C_alloc ?_ _) | (with_reducible refine Kd.C_drewN ?_ _) | (with_reducible refine Kd.C_drew ?_))); (case side2 => exact HC0.out); rintro e w' ⟨rfl, ⟨nd, rfl⟩⟩; refine ⟨_, rfl, ?_⟩; (try (rw [drewN_self w18]; generalize hq_ : World.drewN w18 _ = w18; have n0_ : Aside0 (w18.heap[gb317]? = some (.cells #[.int .i64 0, .int .i64 0, .string (⟨#[]⟩ : ByteArray)] 92 (0, 0))) := ⟨by rw [← hq_]; exact (by (with_reducible repeat (first | refine blk_drewN ?_ _ | refine blk_drew ?_ | refine blk_alloc ?_ _)); exact BK317.out)⟩; have n1_ : Aside0 (Below w.heap.size w w18) := ⟨by rw [← hq_]; exact (by with_reducible repeat (first | exact HB.out | apply below_alloc | apply pw_below_drewN | apply below_drew1 | refine below_set ?_ GE317.out))⟩; clear BK317 HB hq_; have BK317 := n0_; have HB := n1_; clear n0_ n1_)); have hcz19 := fun i_ => blk_cell BK317.out i_; have hfz19 := fun i_ => blk_frozen BK317.out i_) | ((with_reducible refine gate_callee (f := 84) rfl ?_); refine goesL_ (some 27) rfl rfl Tryz.func84 (by kernel_rfl) rfl #[.slice A0 l0.length c0, .int .i64 t319, .int .i64 1] rfl (by (try simp only [List.map_toArray, List.map_cons, List.map_nil]); first | done | rfl | (simp only [List.length_drop, List.length_take]; rfl)) ?_; (with_reducible refine (wire_Get.calls k _ _ l0 t319 1 t321 t322 t323 _ ?side1 ?side2 A6.out).mono ?_); (case side1 => exact Kd.C_below HR0.out (by with_reducible repeat (first | exact HB.out | apply below_alloc | apply pw_below_drewN | apply below_drew1 | refine below_set ?_ GE317.out))); (case side2 => exact HC0.out); rintro e w' ⟨rfl, ⟨nd, rfl⟩⟩; refine ⟨_, rfl, ?_⟩))
    refine bodyPost_ret (results_ctt rfl _ _ gb317 92 #[.int .i64 0, .int .i64 0, .string (⟨#[]⟩ : ByteArray)] (0, 0) _ rfl (by (with_reducible repeat (first | refine blk_drewN ?_ _ | refine blk_drew ?_ | refine blk_alloc ?_ _)); refine blk_put (cs := #[.int .i64 0, .int .i64 0, .string (⟨#[]⟩ : ByteArray)]) ?_ 2 _ rfl; (with_reducible repeat (first | refine blk_drewN ?_ _ | refine blk_drew ?_ | refine blk_alloc ?_ _)); refine blk_put (cs := #[.int .i64 0, .int .i64 t321, .string (⟨#[]⟩ : ByteArray)]) ?_ 1 _ rfl; (with_reducible repeat (first | refine blk_drewN ?_ _ | refine blk_drew ?_ | refine blk_alloc ?_ _)); refine blk_put (cs := #[.int .i64 t318, .int .i64 t321, .string (⟨#[]⟩ : ByteArray)]) ?_ 0 _ rfl; (with_reducible repeat (first | refine blk_drewN ?_ _ | refine blk_drew ?_ | refine blk_alloc ?_ _)); refine blk_put (cs := #[.int .i64 t318, .int .i64 0, .string (⟨#[]⟩ : ByteArray)]) ?_ 1 _ rfl; (with_reducible repeat (first | refine blk_drewN ?_ _ | refine blk_drew ?_ | refine blk_alloc ?_ _)); refine blk_put (cs := #[.int .i64 0, .int .i64 0, .string (⟨#[]⟩ : ByteArray)]) ?_ 0 _ rfl; (with_reducible repeat (first | refine blk_drewN ?_ _ | refine blk_drew ?_ | refine blk_alloc ?_ _)); exact BK317.out) Tryz.underlying92 rfl (by kernel_rfl)) rfl ?_
    exact ⟨by first | rfl | (simp [errW_none, errW_some] <;> rfl) | (simp [*, errW_none, errW_some] <;> rfl), by with_reducible repeat (first | exact HB.out | apply below_alloc | apply pw_below_drewN | apply below_drew1 | refine below_set ?_ GE317.out)⟩
  ·rw [if_neg c5] at H
   have c5b0 : (t318 == 2) = false := beq_eq_false_iff_ne.mpr c5
   have c5b1 : (t318 != 2) = true := bne_iff_ne.mpr c5
   by_cases c20 : t318 = 3
   ·rw [if_pos c20] at H
    have c20b0 : (t318 == 3) = true := beq_iff_eq.mpr c20
    have c20b1 : (t318 != 3) = false := bne_eq_false_iff_eq.mpr c20
    clear c20
    replace H := Option.bind_eq_some_iff.mp H
    obtain ⟨⟨t325, t326, t327⟩, A210, H⟩ := H
    try dsimp only at H
    have A21 := Aside0.mk A210
    clear A210
    by_cases c22 : t327 = 0
    ·rw [if_pos c22] at H
     have c22b0 : (t327 == 0) = true := beq_iff_eq.mpr c22
     have c22b1 : (t327 != 0) = false := bne_eq_false_iff_eq.mpr c22
     clear c22
     replace H := Option.bind_eq_some_iff.mp H
     obtain ⟨t328, A230, H⟩ := H
     try dsimp only at H
     have A23 := Aside0.mk A230
     clear A230
     by_cases c24 : t328 = 0
     ·rw [if_pos c24] at H
      have c24b0 : (t328 == 0) = true := beq_iff_eq.mpr c24
      have c24b1 : (t328 != 0) = false := bne_eq_false_iff_eq.mpr c24
      clear c24
      simp only [Option.some.injEq, Prod.mk.injEq] at H
      obtain ⟨rfl, rfl, rfl, rfl, rfl⟩ := H
      go_enter Tryz.func116, Tryz.ntmps116
      go_wp2_with (first | ((with_reducible refine gate_dst (N := 4) rfl ?_); refine box_event ?hg (N := 4) ?hd (cs := #[.int .i64 0, .int .i64 0, .string (⟨#[]⟩ : ByteArray)]) (t := 92) ?hr ?_; (case hd => rfl); (case hg => rfl); (case hr => first | (go_simp; done) | (go_simp; rfl)); intro gb317 hg w25 hbox hb; have n0_ := Aside0.mk (below_step (by with_reducible repeat (first | exact HB.out | apply below_alloc | apply pw_below_drewN | apply below_drew1)) hb); have n1_ := Aside0.mk (hbox); have n2_ := Aside0.mk ((by rw [hg]; exact (below_size (by with_reducible repeat (first | exact HB.out | apply below_alloc | apply pw_below_drewN | apply below_drew1))) : w.heap.size ≤ gb317)); have n3_ := Aside0.mk ((by rw [hg]; exact (below_size (by with_reducible repeat (first | exact HB.out | apply below_alloc | apply pw_below_drewN | apply below_drew1))) : w.heap.size ≤ gb317)); clear HB; have HB := n0_; have BK317 := n1_; have GW317 := n2_; have GE317 := n3_; clear n0_ n1_ n2_ n3_; clear hb hbox hg) | ((with_reducible refine gate_callee (f := 84) rfl ?_); refine goesL_ (some 11) rfl rfl Tryz.func84 (by kernel_rfl) rfl #[.slice A0 l0.length c0, .int .i64 a1, .int .i64 1] rfl (by (try simp only [List.map_toArray, List.map_cons, List.map_nil]); first | done | rfl | (simp only [List.length_drop, List.length_take]; rfl)) ?_; (with_reducible refine (wire_Get.calls k _ _ l0 a1 1 t318 t319 t320 _ ?side1 ?side2 A3.out).mono ?_); (case side1 => repeat (first | exact (Kd.C_below HR0.out HB.out) | (with_reducible refine Kd.C_alloc ?_ _) | (with_reducible refine Kd.C_drewN ?_ _) | (with_reducible refine Kd.C_drew ?_))); (case side2 => exact HC0.out); rintro e w' ⟨rfl, ⟨nd, rfl⟩⟩; refine ⟨_, rfl, ?_⟩; (try (rw [drewN_self w25]; generalize hq_ : World.drewN w25 _ = w25; have n0_ : Aside0 (w25.heap[gb317]? = some (.cells #[.int .i64 0, .int .i64 0, .string (⟨#[]⟩ : ByteArray)] 92 (0, 0))) := ⟨by rw [← hq_]; exact (by (with_reducible repeat (first | refine blk_drewN ?_ _ | refine blk_drew ?_ | refine blk_alloc ?_ _)); exact BK317.out)⟩; have n1_ : Aside0 (Below w.heap.size w w25) := ⟨by rw [← hq_]; exact (by with_reducible repeat (first | exact HB.out | apply below_alloc | apply pw_below_drewN | apply below_drew1 | refine below_set ?_ GE317.out))⟩; clear BK317 HB hq_; have BK317 := n0_; have HB := n1_; clear n0_ n1_)); have hcz26 := fun i_ => blk_cell BK317.out i_; have hfz26 := fun i_ => blk_frozen BK317.out i_) | ((with_reducible refine gate_callee (f := 132) rfl ?_); refine goesL_ (some 37) rfl rfl Tryz.func132 (by kernel_rfl) rfl #[.slice A0 l0.length c0, .int .i64 t319] rfl (by (try simp only [List.map_toArray, List.map_cons, List.map_nil]); first | done | rfl | (simp only [List.length_drop, List.length_take]; rfl)) ?_; (with_reducible refine (wire_GetInt.calls k _ _ l0 t319 t325 t326 t327 _ ?side1 ?side2 A21.out).mono ?_); (case side1 => exact Kd.C_below HR0.out (by with_reducible repeat (first | exact HB.out | apply below_alloc | apply pw_below_drewN | apply below_drew1 | refine below_set ?_ GE317.out))); (case side2 => exact HC0.out); rintro e w' ⟨rfl, ⟨nd, rfl⟩⟩; refine ⟨_, rfl, ?_⟩) | (go_at_call 121; (with_reducible refine (value_Check.calls t318 t325 (⟨#[]⟩ : ByteArray) t328 _ A23.out).mono ?_); rintro e w27 ⟨rfl, hb⟩; have n0_ := Aside0.mk (blk_below (g := gb317) (o := .cells #[.int .i64 t318, .int .i64 t325, .string (⟨#[]⟩ : ByteArray)] 92 (0, 0)) (by (with_reducible repeat (first | refine blk_drewN ?_ _ | refine blk_drew ?_ | refine blk_alloc ?_ _)); refine blk_put (cs := #[.int .i64 t318, .int .i64 0, .string (⟨#[]⟩ : ByteArray)]) ?_ 1 _ rfl; (with_reducible repeat (first | refine blk_drewN ?_ _ | refine blk_drew ?_ | refine blk_alloc ?_ _)); refine blk_put (cs := #[.int .i64 0, .int .i64 0, .string (⟨#[]⟩ : ByteArray)]) ?_ 0 _ rfl; (with_reducible repeat (first | refine blk_drewN ?_ _ | refine blk_drew ?_ | refine blk_alloc ?_ _)); exact BK317.out) hb); have n1_ := Aside0.mk (below_step (by with_reducible repeat (first | exact HB.out | apply below_alloc | apply pw_below_drewN | apply below_drew1 | refine below_set ?_ GE317.out)) hb); clear BK317; clear HB; have BK317 := n0_; have HB := n1_; clear n0_ n1_; (try clear hb); (try clear hb2); (try clear hk); (try clear hi); have hcz28 := fun i_ => blk_cell BK317.out i_; have hfz28 := fun i_ => blk_frozen BK317.out i_))
      refine bodyPost_ret (results_ctt rfl _ _ gb317 92 #[.int .i64 t318, .int .i64 t325, .string (⟨#[]⟩ : ByteArray)] (0, 0) _ rfl (by (with_reducible repeat (first | refine blk_drewN ?_ _ | refine blk_drew ?_ | refine blk_alloc ?_ _)); refine blk_put (cs := #[.int .i64 t318, .int .i64 t325, .string (⟨#[]⟩ : ByteArray)]) ?_ 2 _ rfl; (with_reducible repeat (first | refine blk_drewN ?_ _ | refine blk_drew ?_ | refine blk_alloc ?_ _)); refine blk_put (cs := #[.int .i64 t318, .int .i64 t325, .string (⟨#[]⟩ : ByteArray)]) ?_ 1 _ rfl; (with_reducible repeat (first | refine blk_drewN ?_ _ | refine blk_drew ?_ | refine blk_alloc ?_ _)); refine blk_put (cs := #[.int .i64 t318, .int .i64 t325, .string (⟨#[]⟩ : ByteArray)]) ?_ 0 _ rfl; (with_reducible repeat (first | refine blk_drewN ?_ _ | refine blk_drew ?_ | refine blk_alloc ?_ _)); exact BK317.out) Tryz.underlying92 rfl (by kernel_rfl)) rfl ?_
      exact ⟨by first | rfl | (simp [errW_none, errW_some] <;> rfl) | (simp [*, errW_none, errW_some] <;> rfl), by with_reducible repeat (first | exact HB.out | apply below_alloc | apply pw_below_drewN | apply below_drew1 | refine below_set ?_ GE317.out)⟩
     ·rw [if_neg c24] at H
      have c24b0 : (t328 == 0) = false := beq_eq_false_iff_ne.mpr c24
      have c24b1 : (t328 != 0) = true := bne_iff_ne.mpr c24
      simp only [Option.some.injEq, Prod.mk.injEq] at H
      obtain ⟨rfl, rfl, rfl, rfl, rfl⟩ := H
      go_enter Tryz.func116, Tryz.ntmps116
      go_wp2_with (first | ((with_reducible refine gate_dst (N := 4) rfl ?_); refine box_event ?hg (N := 4) ?hd (cs := #[.int .i64 0, .int .i64 0, .string (⟨#[]⟩ : ByteArray)]) (t := 92) ?hr ?_; (case hd => rfl); (case hg => rfl); (case hr => first | (go_simp; done) | (go_simp; rfl)); intro gb317 hg w29 hbox hb; have n0_ := Aside0.mk (below_step (by with_reducible repeat (first | exact HB.out | apply below_alloc | apply pw_below_drewN | apply below_drew1)) hb); have n1_ := Aside0.mk (hbox); have n2_ := Aside0.mk ((by rw [hg]; exact (below_size (by with_reducible repeat (first | exact HB.out | apply below_alloc | apply pw_below_drewN | apply below_drew1))) : w.heap.size ≤ gb317)); have n3_ := Aside0.mk ((by rw [hg]; exact (below_size (by with_reducible repeat (first | exact HB.out | apply below_alloc | apply pw_below_drewN | apply below_drew1))) : w.heap.size ≤ gb317)); clear HB; have HB := n0_; have BK317 := n1_; have GW317 := n2_; have GE317 := n3_; clear n0_ n1_ n2_ n3_; clear hb hbox hg) | ((with_reducible refine gate_callee (f := 84) rfl ?_); refine goesL_ (some 11) rfl rfl Tryz.func84 (by kernel_rfl) rfl #[.slice A0 l0.length c0, .int .i64 a1, .int .i64 1] rfl (by (try simp only [List.map_toArray, List.map_cons, List.map_nil]); first | done | rfl | (simp only [List.length_drop, List.length_take]; rfl)) ?_; (with_reducible refine (wire_Get.calls k _ _ l0 a1 1 t318 t319 t320 _ ?side1 ?side2 A3.out).mono ?_); (case side1 => repeat (first | exact (Kd.C_below HR0.out HB.out) | (with_reducible refine Kd.C_alloc ?_ _) | (with_reducible refine Kd.C_drewN ?_ _) | (with_reducible refine Kd.C_drew ?_))); (case side2 => exact HC0.out); rintro e w' ⟨rfl, ⟨nd, rfl⟩⟩; refine ⟨_, rfl, ?_⟩; (try (rw [drewN_self w29]; generalize hq_ : World.drewN w29 _ = w29; have n0_ : Aside0 (w29.heap[gb317]? = some (.cells #[.int .i64 0, .int .i64 0, .string (⟨#[]⟩ : ByteArray)] 92 (0, 0))) := ⟨by rw [← hq_]; exact (by (with_reducible repeat (first | refine blk_drewN ?_ _ | refine blk_drew ?_ | refine blk_alloc ?_ _)); exact BK317.out)⟩; have n1_ : Aside0 (Below w.heap.size w w29) := ⟨by rw [← hq_]; exact (by with_reducible repeat (first | exact HB.out | apply below_alloc | apply pw_below_drewN | apply below_drew1 | refine below_set ?_ GE317.out))⟩; clear BK317 HB hq_; have BK317 := n0_; have HB := n1_; clear n0_ n1_)); have hcz30 := fun i_ => blk_cell BK317.out i_; have hfz30 := fun i_ => blk_frozen BK317.out i_) | ((with_reducible refine gate_callee (f := 132) rfl ?_); refine goesL_ (some 37) rfl rfl Tryz.func132 (by kernel_rfl) rfl #[.slice A0 l0.length c0, .int .i64 t319] rfl (by (try simp only [List.map_toArray, List.map_cons, List.map_nil]); first | done | rfl | (simp only [List.length_drop, List.length_take]; rfl)) ?_; (with_reducible refine (wire_GetInt.calls k _ _ l0 t319 t325 t326 t327 _ ?side1 ?side2 A21.out).mono ?_); (case side1 => exact Kd.C_below HR0.out (by with_reducible repeat (first | exact HB.out | apply below_alloc | apply pw_below_drewN | apply below_drew1 | refine below_set ?_ GE317.out))); (case side2 => exact HC0.out); rintro e w' ⟨rfl, ⟨nd, rfl⟩⟩; refine ⟨_, rfl, ?_⟩) | (go_at_call 121; (with_reducible refine (value_Check.calls t318 t325 (⟨#[]⟩ : ByteArray) t328 _ A23.out).mono ?_); rintro e w31 ⟨rfl, hb⟩; have n0_ := Aside0.mk (blk_below (g := gb317) (o := .cells #[.int .i64 t318, .int .i64 t325, .string (⟨#[]⟩ : ByteArray)] 92 (0, 0)) (by (with_reducible repeat (first | refine blk_drewN ?_ _ | refine blk_drew ?_ | refine blk_alloc ?_ _)); refine blk_put (cs := #[.int .i64 t318, .int .i64 0, .string (⟨#[]⟩ : ByteArray)]) ?_ 1 _ rfl; (with_reducible repeat (first | refine blk_drewN ?_ _ | refine blk_drew ?_ | refine blk_alloc ?_ _)); refine blk_put (cs := #[.int .i64 0, .int .i64 0, .string (⟨#[]⟩ : ByteArray)]) ?_ 0 _ rfl; (with_reducible repeat (first | refine blk_drewN ?_ _ | refine blk_drew ?_ | refine blk_alloc ?_ _)); exact BK317.out) hb); have n1_ := Aside0.mk (below_step (by with_reducible repeat (first | exact HB.out | apply below_alloc | apply pw_below_drewN | apply below_drew1 | refine below_set ?_ GE317.out)) hb); clear BK317; clear HB; have BK317 := n0_; have HB := n1_; clear n0_ n1_; (try clear hb); (try clear hb2); (try clear hk); (try clear hi); have hcz32 := fun i_ => blk_cell BK317.out i_; have hfz32 := fun i_ => blk_frozen BK317.out i_))
      refine bodyPost_ret (results_ctt rfl _ _ gb317 92 #[.int .i64 0, .int .i64 0, .string (⟨#[]⟩ : ByteArray)] (0, 0) _ rfl (by (with_reducible repeat (first | refine blk_drewN ?_ _ | refine blk_drew ?_ | refine blk_alloc ?_ _)); refine blk_put (cs := #[.int .i64 0, .int .i64 0, .string (⟨#[]⟩ : ByteArray)]) ?_ 2 _ rfl; (with_reducible repeat (first | refine blk_drewN ?_ _ | refine blk_drew ?_ | refine blk_alloc ?_ _)); refine blk_put (cs := #[.int .i64 0, .int .i64 t325, .string (⟨#[]⟩ : ByteArray)]) ?_ 1 _ rfl; (with_reducible repeat (first | refine blk_drewN ?_ _ | refine blk_drew ?_ | refine blk_alloc ?_ _)); refine blk_put (cs := #[.int .i64 t318, .int .i64 t325, .string (⟨#[]⟩ : ByteArray)]) ?_ 0 _ rfl; (with_reducible repeat (first | refine blk_drewN ?_ _ | refine blk_drew ?_ | refine blk_alloc ?_ _)); exact BK317.out) Tryz.underlying92 rfl (by kernel_rfl)) rfl ?_
      exact ⟨by first | rfl | (simp [errW_none, errW_some] <;> rfl) | (simp [*, errW_none, errW_some] <;> rfl), by with_reducible repeat (first | exact HB.out | apply below_alloc | apply pw_below_drewN | apply below_drew1 | refine below_set ?_ GE317.out)⟩
    ·rw [if_neg c22] at H
     have c22b0 : (t327 == 0) = false := beq_eq_false_iff_ne.mpr c22
     have c22b1 : (t327 != 0) = true := bne_iff_ne.mpr c22
     simp only [Option.some.injEq, Prod.mk.injEq] at H
     obtain ⟨rfl, rfl, rfl, rfl, rfl⟩ := H
     go_enter Tryz.func116, Tryz.ntmps116
     go_wp2_with (first | ((with_reducible refine gate_dst (N := 4) rfl ?_); refine box_event ?hg (N := 4) ?hd (cs := #[.int .i64 0, .int .i64 0, .string (⟨#[]⟩ : ByteArray)]) (t := 92) ?hr ?_; (case hd => rfl); (case hg => rfl); (case hr => first | (go_simp; done) | (go_simp; rfl)); intro gb317 hg w33 hbox hb; have n0_ := Aside0.mk (below_step (by with_reducible repeat (first | exact HB.out | apply below_alloc | apply pw_below_drewN | apply below_drew1)) hb); have n1_ := Aside0.mk (hbox); have n2_ := Aside0.mk ((by rw [hg]; exact (below_size (by with_reducible repeat (first | exact HB.out | apply below_alloc | apply pw_below_drewN | apply below_drew1))) : w.heap.size ≤ gb317)); have n3_ := Aside0.mk ((by rw [hg]; exact (below_size (by with_reducible repeat (first | exact HB.out | apply below_alloc | apply pw_below_drewN | apply below_drew1))) : w.heap.size ≤ gb317)); clear HB; have HB := n0_; have BK317 := n1_; have GW317 := n2_; have GE317 := n3_; clear n0_ n1_ n2_ n3_; clear hb hbox hg) | ((with_reducible refine gate_callee (f := 84) rfl ?_); refine goesL_ (some 11) rfl rfl Tryz.func84 (by kernel_rfl) rfl #[.slice A0 l0.length c0, .int .i64 a1, .int .i64 1] rfl (by (try simp only [List.map_toArray, List.map_cons, List.map_nil]); first | done | rfl | (simp only [List.length_drop, List.length_take]; rfl)) ?_; (with_reducible refine (wire_Get.calls k _ _ l0 a1 1 t318 t319 t320 _ ?side1 ?side2 A3.out).mono ?_); (case side1 => repeat (first | exact (Kd.C_below HR0.out HB.out) | (with_reducible refine Kd.C_alloc ?_ _) | (with_reducible refine Kd.C_drewN ?_ _) | (with_reducible refine Kd.C_drew ?_))); (case side2 => exact HC0.out); rintro e w' ⟨rfl, ⟨nd, rfl⟩⟩; refine ⟨_, rfl, ?_⟩; (try (rw [drewN_self w33]; generalize hq_ : World.drewN w33 _ = w33; have n0_ : Aside0 (w33.heap[gb317]? = some (.cells #[.int .i64 0, .int .i64 0, .string (⟨#[]⟩ : ByteArray)] 92 (0, 0))) := ⟨by rw [← hq_]; exact (by (with_reducible repeat (first | refine blk_drewN ?_ _ | refine blk_drew ?_ | refine blk_alloc ?_ _)); exact BK317.out)⟩; have n1_ : Aside0 (Below w.heap.size w w33) := ⟨by rw [← hq_]; exact (by with_reducible repeat (first | exact HB.out | apply below_alloc | apply pw_below_drewN | apply below_drew1 | refine below_set ?_ GE317.out))⟩; clear BK317 HB hq_; have BK317 := n0_; have HB := n1_; clear n0_ n1_)); have hcz34 := fun i_ => blk_cell BK317.out i_; have hfz34 := fun i_ => blk_frozen BK317.out i_) | ((with_reducible refine gate_callee (f := 132) rfl ?_); refine goesL_ (some 37) rfl rfl Tryz.func132 (by kernel_rfl) rfl #[.slice A0 l0.length c0, .int .i64 t319] rfl (by (try simp only [List.map_toArray, List.map_cons, List.map_nil]); first | done | rfl | (simp only [List.length_drop, List.length_take]; rfl)) ?_; (with_reducible refine (wire_GetInt.calls k _ _ l0 t319 t325 t326 t327 _ ?side1 ?side2 A21.out).mono ?_); (case side1 => exact Kd.C_below HR0.out (by with_reducible repeat (first | exact HB.out | apply below_alloc | apply pw_below_drewN | apply below_drew1 | refine below_set ?_ GE317.out))); (case side2 => exact HC0.out); rintro e w' ⟨rfl, ⟨nd, rfl⟩⟩; refine ⟨_, rfl, ?_⟩))
     refine bodyPost_ret (results_ctt rfl _ _ gb317 92 #[.int .i64 0, .int .i64 0, .string (⟨#[]⟩ : ByteArray)] (0, 0) _ rfl (by (with_reducible repeat (first | refine blk_drewN ?_ _ | refine blk_drew ?_ | refine blk_alloc ?_ _)); refine blk_put (cs := #[.int .i64 0, .int .i64 0, .string (⟨#[]⟩ : ByteArray)]) ?_ 2 _ rfl; (with_reducible repeat (first | refine blk_drewN ?_ _ | refine blk_drew ?_ | refine blk_alloc ?_ _)); refine blk_put (cs := #[.int .i64 0, .int .i64 t325, .string (⟨#[]⟩ : ByteArray)]) ?_ 1 _ rfl; (with_reducible repeat (first | refine blk_drewN ?_ _ | refine blk_drew ?_ | refine blk_alloc ?_ _)); refine blk_put (cs := #[.int .i64 t318, .int .i64 t325, .string (⟨#[]⟩ : ByteArray)]) ?_ 0 _ rfl; (with_reducible repeat (first | refine blk_drewN ?_ _ | refine blk_drew ?_ | refine blk_alloc ?_ _)); refine blk_put (cs := #[.int .i64 t318, .int .i64 0, .string (⟨#[]⟩ : ByteArray)]) ?_ 1 _ rfl; (with_reducible repeat (first | refine blk_drewN ?_ _ | refine blk_drew ?_ | refine blk_alloc ?_ _)); refine blk_put (cs := #[.int .i64 0, .int .i64 0, .string (⟨#[]⟩ : ByteArray)]) ?_ 0 _ rfl; (with_reducible repeat (first | refine blk_drewN ?_ _ | refine blk_drew ?_ | refine blk_alloc ?_ _)); exact BK317.out) Tryz.underlying92 rfl (by kernel_rfl)) rfl ?_
     exact ⟨by first | rfl | (simp [errW_none, errW_some] <;> rfl) | (simp [*, errW_none, errW_some] <;> rfl), by with_reducible repeat (first | exact HB.out | apply below_alloc | apply pw_below_drewN | apply below_drew1 | refine below_set ?_ GE317.out)⟩
   ·rw [if_neg c20] at H
    have c20b0 : (t318 == 3) = false := beq_eq_false_iff_ne.mpr c20
    have c20b1 : (t318 != 3) = true := bne_iff_ne.mpr c20
    by_cases c35 : t318 = 4
    ·rw [if_pos c35] at H
     have c35b0 : (t318 == 4) = true := beq_iff_eq.mpr c35
     have c35b1 : (t318 != 4) = false := bne_eq_false_iff_eq.mpr c35
     clear c35
     replace H := Option.bind_eq_some_iff.mp H
     obtain ⟨⟨t329, t330, t331⟩, A360, H⟩ := H
     try dsimp only at H
     have A36 := Aside0.mk A360
     clear A360
     by_cases c37 : t331 = 0
     ·rw [if_pos c37] at H
      have c37b0 : (t331 == 0) = true := beq_iff_eq.mpr c37
      have c37b1 : (t331 != 0) = false := bne_eq_false_iff_eq.mpr c37
      clear c37
      replace H := Option.bind_eq_some_iff.mp H
      obtain ⟨t332, A380, H⟩ := H
      try dsimp only at H
      have A38 := Aside0.mk A380
      clear A380
      by_cases c39 : t332 = 0
      ·rw [if_pos c39] at H
       have c39b0 : (t332 == 0) = true := beq_iff_eq.mpr c39
       have c39b1 : (t332 != 0) = false := bne_eq_false_iff_eq.mpr c39
       clear c39
       simp only [Option.some.injEq, Prod.mk.injEq] at H
       obtain ⟨rfl, rfl, rfl, rfl, rfl⟩ := H
       go_enter Tryz.func116, Tryz.ntmps116
       go_wp2_with (first | ((with_reducible refine gate_dst (N := 4) rfl ?_); refine box_event ?hg (N := 4) ?hd (cs := #[.int .i64 0, .int .i64 0, .string (⟨#[]⟩ : ByteArray)]) (t := 92) ?hr ?_; (case hd => rfl); (case hg => rfl); (case hr => first | (go_simp; done) | (go_simp; rfl)); intro gb317 hg w40 hbox hb; have n0_ := Aside0.mk (below_step (by with_reducible repeat (first | exact HB.out | apply below_alloc | apply pw_below_drewN | apply below_drew1)) hb); have n1_ := Aside0.mk (hbox); have n2_ := Aside0.mk ((by rw [hg]; exact (below_size (by with_reducible repeat (first | exact HB.out | apply below_alloc | apply pw_below_drewN | apply below_drew1))) : w.heap.size ≤ gb317)); have n3_ := Aside0.mk ((by rw [hg]; exact (below_size (by with_reducible repeat (first | exact HB.out | apply below_alloc | apply pw_below_drewN | apply below_drew1))) : w.heap.size ≤ gb317)); clear HB; have HB := n0_; have BK317 := n1_; have GW317 := n2_; have GE317 := n3_; clear n0_ n1_ n2_ n3_; clear hb hbox hg) | ((with_reducible refine gate_callee (f := 84) rfl ?_); refine goesL_ (some 11) rfl rfl Tryz.func84 (by kernel_rfl) rfl #[.slice A0 l0.length c0, .int .i64 a1, .int .i64 1] rfl (by (try simp only [List.map_toArray, List.map_cons, List.map_nil]); first | done | rfl | (simp only [List.length_drop, List.length_take]; rfl)) ?_; (with_reducible refine (wire_Get.calls k _ _ l0 a1 1 t318 t319 t320 _ ?side1 ?side2 A3.out).mono ?_); (case side1 => repeat (first | exact (Kd.C_below HR0.out HB.out) | (with_reducible refine Kd.C_alloc ?_ _) | (with_reducible refine Kd.C_drewN ?_ _) | (with_reducible refine Kd.C_drew ?_))); (case side2 => exact HC0.out); rintro e w' ⟨rfl, ⟨nd, rfl⟩⟩; refine ⟨_, rfl, ?_⟩; (try (rw [drewN_self w40]; generalize hq_ : World.drewN w40 _ = w40; have n0_ : Aside0 (w40.heap[gb317]? = some (.cells #[.int .i64 0, .int .i64 0, .string (⟨#[]⟩ : ByteArray)] 92 (0, 0))) := ⟨by rw [← hq_]; exact (by (with_reducible repeat (first | refine blk_drewN ?_ _ | refine blk_drew ?_ | refine blk_alloc ?_ _)); exact BK317.out)⟩; have n1_ : Aside0 (Below w.heap.size w w40) := ⟨by rw [← hq_]; exact (by with_reducible repeat (first | exact HB.out | apply below_alloc | apply pw_below_drewN | apply below_drew1 | refine below_set ?_ GE317.out))⟩; clear BK317 HB hq_; have BK317 := n0_; have HB := n1_; clear n0_ n1_)); have hcz41 := fun i_ => blk_cell BK317.out i_; have hfz41 := fun i_ => blk_frozen BK317.out i_) | ((with_reducible refine gate_callee (f := 115) rfl ?_); refine goesL_ (some 47) rfl rfl Tryz.func115 (by kernel_rfl) rfl #[.slice A0 l0.length c0, .int .i64 t319] rfl (by (try simp only [List.map_toArray, List.map_cons, List.map_nil]); first | done | rfl | (simp only [List.length_drop, List.length_take]; rfl)) ?_; (with_reducible refine (wire_GetText.calls k _ _ l0 t319 t329 t330 t331 _ ?side1 ?side2 A36.out).mono ?_); (case side1 => exact Kd.C_below HR0.out (by with_reducible repeat (first | exact HB.out | apply below_alloc | apply pw_below_drewN | apply below_drew1 | refine below_set ?_ GE317.out))); (case side2 => exact HC0.out); rintro e w' ⟨rfl, ⟨nd, rfl⟩⟩; refine ⟨_, rfl, ?_⟩) | (go_at_call 121; (with_reducible refine (value_Check.calls t318 0 t329 t332 _ A38.out).mono ?_); rintro e w42 ⟨rfl, hb⟩; have n0_ := Aside0.mk (blk_below (g := gb317) (o := .cells #[.int .i64 t318, .int .i64 0, .string t329] 92 (0, 0)) (by (with_reducible repeat (first | refine blk_drewN ?_ _ | refine blk_drew ?_ | refine blk_alloc ?_ _)); refine blk_put (cs := #[.int .i64 t318, .int .i64 0, .string (⟨#[]⟩ : ByteArray)]) ?_ 2 _ rfl; (with_reducible repeat (first | refine blk_drewN ?_ _ | refine blk_drew ?_ | refine blk_alloc ?_ _)); refine blk_put (cs := #[.int .i64 0, .int .i64 0, .string (⟨#[]⟩ : ByteArray)]) ?_ 0 _ rfl; (with_reducible repeat (first | refine blk_drewN ?_ _ | refine blk_drew ?_ | refine blk_alloc ?_ _)); exact BK317.out) hb); have n1_ := Aside0.mk (below_step (by with_reducible repeat (first | exact HB.out | apply below_alloc | apply pw_below_drewN | apply below_drew1 | refine below_set ?_ GE317.out)) hb); clear BK317; clear HB; have BK317 := n0_; have HB := n1_; clear n0_ n1_; (try clear hb); (try clear hb2); (try clear hk); (try clear hi); have hcz43 := fun i_ => blk_cell BK317.out i_; have hfz43 := fun i_ => blk_frozen BK317.out i_))
       refine bodyPost_ret (results_ctt rfl _ _ gb317 92 #[.int .i64 t318, .int .i64 0, .string t329] (0, 0) _ rfl (by (with_reducible repeat (first | refine blk_drewN ?_ _ | refine blk_drew ?_ | refine blk_alloc ?_ _)); refine blk_put (cs := #[.int .i64 t318, .int .i64 0, .string t329]) ?_ 2 _ rfl; (with_reducible repeat (first | refine blk_drewN ?_ _ | refine blk_drew ?_ | refine blk_alloc ?_ _)); refine blk_put (cs := #[.int .i64 t318, .int .i64 0, .string t329]) ?_ 1 _ rfl; (with_reducible repeat (first | refine blk_drewN ?_ _ | refine blk_drew ?_ | refine blk_alloc ?_ _)); refine blk_put (cs := #[.int .i64 t318, .int .i64 0, .string t329]) ?_ 0 _ rfl; (with_reducible repeat (first | refine blk_drewN ?_ _ | refine blk_drew ?_ | refine blk_alloc ?_ _)); exact BK317.out) Tryz.underlying92 rfl (by kernel_rfl)) rfl ?_
       exact ⟨by first | rfl | (simp [errW_none, errW_some] <;> rfl) | (simp [*, errW_none, errW_some] <;> rfl), by with_reducible repeat (first | exact HB.out | apply below_alloc | apply pw_below_drewN | apply below_drew1 | refine below_set ?_ GE317.out)⟩
      ·rw [if_neg c39] at H
       have c39b0 : (t332 == 0) = false := beq_eq_false_iff_ne.mpr c39
       have c39b1 : (t332 != 0) = true := bne_iff_ne.mpr c39
       simp only [Option.some.injEq, Prod.mk.injEq] at H
       obtain ⟨rfl, rfl, rfl, rfl, rfl⟩ := H
       go_enter Tryz.func116, Tryz.ntmps116
       go_wp2_with (first | ((with_reducible refine gate_dst (N := 4) rfl ?_); refine box_event ?hg (N := 4) ?hd (cs := #[.int .i64 0, .int .i64 0, .string (⟨#[]⟩ : ByteArray)]) (t := 92) ?hr ?_; (case hd => rfl); (case hg => rfl); (case hr => first | (go_simp; done) | (go_simp; rfl)); intro gb317 hg w44 hbox hb; have n0_ := Aside0.mk (below_step (by with_reducible repeat (first | exact HB.out | apply below_alloc | apply pw_below_drewN | apply below_drew1)) hb); have n1_ := Aside0.mk (hbox); have n2_ := Aside0.mk ((by rw [hg]; exact (below_size (by with_reducible repeat (first | exact HB.out | apply below_alloc | apply pw_below_drewN | apply below_drew1))) : w.heap.size ≤ gb317)); have n3_ := Aside0.mk ((by rw [hg]; exact (below_size (by with_reducible repeat (first | exact HB.out | apply below_alloc | apply pw_below_drewN | apply below_drew1))) : w.heap.size ≤ gb317)); clear HB; have HB := n0_; have BK317 := n1_; have GW317 := n2_; have GE317 := n3_; clear n0_ n1_ n2_ n3_; clear hb hbox hg) | ((with_reducible refine gate_callee (f := 84) rfl ?_); refine goesL_ (some 11) rfl rfl Tryz.func84 (by kernel_rfl) rfl #[.slice A0 l0.length c0, .int .i64 a1, .int .i64 1] rfl (by (try simp only [List.map_toArray, List.map_cons, List.map_nil]); first | done | rfl | (simp only [List.length_drop, List.length_take]; rfl)) ?_; (with_reducible refine (wire_Get.calls k _ _ l0 a1 1 t318 t319 t320 _ ?side1 ?side2 A3.out).mono ?_); (case side1 => repeat (first | exact (Kd.C_below HR0.out HB.out) | (with_reducible refine Kd.C_alloc ?_ _) | (with_reducible refine Kd.C_drewN ?_ _) | (with_reducible refine Kd.C_drew ?_))); (case side2 => exact HC0.out); rintro e w' ⟨rfl, ⟨nd, rfl⟩⟩; refine ⟨_, rfl, ?_⟩; (try (rw [drewN_self w44]; generalize hq_ : World.drewN w44 _ = w44; have n0_ : Aside0 (w44.heap[gb317]? = some (.cells #[.int .i64 0, .int .i64 0, .string (⟨#[]⟩ : ByteArray)] 92 (0, 0))) := ⟨by rw [← hq_]; exact (by (with_reducible repeat (first | refine blk_drewN ?_ _ | refine blk_drew ?_ | refine blk_alloc ?_ _)); exact BK317.out)⟩; have n1_ : Aside0 (Below w.heap.size w w44) := ⟨by rw [← hq_]; exact (by with_reducible repeat (first | exact HB.out | apply below_alloc | apply pw_below_drewN | apply below_drew1 | refine below_set ?_ GE317.out))⟩; clear BK317 HB hq_; have BK317 := n0_; have HB := n1_; clear n0_ n1_)); have hcz45 := fun i_ => blk_cell BK317.out i_; have hfz45 := fun i_ => blk_frozen BK317.out i_) | ((with_reducible refine gate_callee (f := 115) rfl ?_); refine goesL_ (some 47) rfl rfl Tryz.func115 (by kernel_rfl) rfl #[.slice A0 l0.length c0, .int .i64 t319] rfl (by (try simp only [List.map_toArray, List.map_cons, List.map_nil]); first | done | rfl | (simp only [List.length_drop, List.length_take]; rfl)) ?_; (with_reducible refine (wire_GetText.calls k _ _ l0 t319 t329 t330 t331 _ ?side1 ?side2 A36.out).mono ?_); (case side1 => exact Kd.C_below HR0.out (by with_reducible repeat (first | exact HB.out | apply below_alloc | apply pw_below_drewN | apply below_drew1 | refine below_set ?_ GE317.out))); (case side2 => exact HC0.out); rintro e w' ⟨rfl, ⟨nd, rfl⟩⟩; refine ⟨_, rfl, ?_⟩) | (go_at_call 121; (with_reducible refine (value_Check.calls t318 0 t329 t332 _ A38.out).mono ?_); rintro e w46 ⟨rfl, hb⟩; have n0_ := Aside0.mk (blk_below (g := gb317) (o := .cells #[.int .i64 t318, .int .i64 0, .string t329] 92 (0, 0)) (by (with_reducible repeat (first | refine blk_drewN ?_ _ | refine blk_drew ?_ | refine blk_alloc ?_ _)); refine blk_put (cs := #[.int .i64 t318, .int .i64 0, .string (⟨#[]⟩ : ByteArray)]) ?_ 2 _ rfl; (with_reducible repeat (first | refine blk_drewN ?_ _ | refine blk_drew ?_ | refine blk_alloc ?_ _)); refine blk_put (cs := #[.int .i64 0, .int .i64 0, .string (⟨#[]⟩ : ByteArray)]) ?_ 0 _ rfl; (with_reducible repeat (first | refine blk_drewN ?_ _ | refine blk_drew ?_ | refine blk_alloc ?_ _)); exact BK317.out) hb); have n1_ := Aside0.mk (below_step (by with_reducible repeat (first | exact HB.out | apply below_alloc | apply pw_below_drewN | apply below_drew1 | refine below_set ?_ GE317.out)) hb); clear BK317; clear HB; have BK317 := n0_; have HB := n1_; clear n0_ n1_; (try clear hb); (try clear hb2); (try clear hk); (try clear hi); have hcz47 := fun i_ => blk_cell BK317.out i_; have hfz47 := fun i_ => blk_frozen BK317.out i_))
       refine bodyPost_ret (results_ctt rfl _ _ gb317 92 #[.int .i64 0, .int .i64 0, .string (⟨#[]⟩ : ByteArray)] (0, 0) _ rfl (by (with_reducible repeat (first | refine blk_drewN ?_ _ | refine blk_drew ?_ | refine blk_alloc ?_ _)); refine blk_put (cs := #[.int .i64 0, .int .i64 0, .string t329]) ?_ 2 _ rfl; (with_reducible repeat (first | refine blk_drewN ?_ _ | refine blk_drew ?_ | refine blk_alloc ?_ _)); refine blk_put (cs := #[.int .i64 0, .int .i64 0, .string t329]) ?_ 1 _ rfl; (with_reducible repeat (first | refine blk_drewN ?_ _ | refine blk_drew ?_ | refine blk_alloc ?_ _)); refine blk_put (cs := #[.int .i64 t318, .int .i64 0, .string t329]) ?_ 0 _ rfl; (with_reducible repeat (first | refine blk_drewN ?_ _ | refine blk_drew ?_ | refine blk_alloc ?_ _)); exact BK317.out) Tryz.underlying92 rfl (by kernel_rfl)) rfl ?_
       exact ⟨by first | rfl | (simp [errW_none, errW_some] <;> rfl) | (simp [*, errW_none, errW_some] <;> rfl), by with_reducible repeat (first | exact HB.out | apply below_alloc | apply pw_below_drewN | apply below_drew1 | refine below_set ?_ GE317.out)⟩
     ·rw [if_neg c37] at H
      have c37b0 : (t331 == 0) = false := beq_eq_false_iff_ne.mpr c37
      have c37b1 : (t331 != 0) = true := bne_iff_ne.mpr c37
      simp only [Option.some.injEq, Prod.mk.injEq] at H
      obtain ⟨rfl, rfl, rfl, rfl, rfl⟩ := H
      go_enter Tryz.func116, Tryz.ntmps116
      go_wp2_with (first | ((with_reducible refine gate_dst (N := 4) rfl ?_); refine box_event ?hg (N := 4) ?hd (cs := #[.int .i64 0, .int .i64 0, .string (⟨#[]⟩ : ByteArray)]) (t := 92) ?hr ?_; (case hd => rfl); (case hg => rfl); (case hr => first | (go_simp; done) | (go_simp; rfl)); intro gb317 hg w48 hbox hb; have n0_ := Aside0.mk (below_step (by with_reducible repeat (first | exact HB.out | apply below_alloc | apply pw_below_drewN | apply below_drew1)) hb); have n1_ := Aside0.mk (hbox); have n2_ := Aside0.mk ((by rw [hg]; exact (below_size (by with_reducible repeat (first | exact HB.out | apply below_alloc | apply pw_below_drewN | apply below_drew1))) : w.heap.size ≤ gb317)); have n3_ := Aside0.mk ((by rw [hg]; exact (below_size (by with_reducible repeat (first | exact HB.out | apply below_alloc | apply pw_below_drewN | apply below_drew1))) : w.heap.size ≤ gb317)); clear HB; have HB := n0_; have BK317 := n1_; have GW317 := n2_; have GE317 := n3_; clear n0_ n1_ n2_ n3_; clear hb hbox hg) | ((with_reducible refine gate_callee (f := 84) rfl ?_); refine goesL_ (some 11) rfl rfl Tryz.func84 (by kernel_rfl) rfl #[.slice A0 l0.length c0, .int .i64 a1, .int .i64 1] rfl (by (try simp only [List.map_toArray, List.map_cons, List.map_nil]); first | done | rfl | (simp only [List.length_drop, List.length_take]; rfl)) ?_; (with_reducible refine (wire_Get.calls k _ _ l0 a1 1 t318 t319 t320 _ ?side1 ?side2 A3.out).mono ?_); (case side1 => repeat (first | exact (Kd.C_below HR0.out HB.out) | (with_reducible refine Kd.C_alloc ?_ _) | (with_reducible refine Kd.C_drewN ?_ _) | (with_reducible refine Kd.C_drew ?_))); (case side2 => exact HC0.out); rintro e w' ⟨rfl, ⟨nd, rfl⟩⟩; refine ⟨_, rfl, ?_⟩; (try (rw [drewN_self w48]; generalize hq_ : World.drewN w48 _ = w48; have n0_ : Aside0 (w48.heap[gb317]? = some (.cells #[.int .i64 0, .int .i64 0, .string (⟨#[]⟩ : ByteArray)] 92 (0, 0))) := ⟨by rw [← hq_]; exact (by (with_reducible repeat (first | refine blk_drewN ?_ _ | refine blk_drew ?_ | refine blk_alloc ?_ _)); exact BK317.out)⟩; have n1_ : Aside0 (Below w.heap.size w w48) := ⟨by rw [← hq_]; exact (by with_reducible repeat (first | exact HB.out | apply below_alloc | apply pw_below_drewN | apply below_drew1 | refine below_set ?_ GE317.out))⟩; clear BK317 HB hq_; have BK317 := n0_; have HB := n1_; clear n0_ n1_)); have hcz49 := fun i_ => blk_cell BK317.out i_; have hfz49 := fun i_ => blk_frozen BK317.out i_) | ((with_reducible refine gate_callee (f := 115) rfl ?_); refine goesL_ (some 47) rfl rfl Tryz.func115 (by kernel_rfl) rfl #[.slice A0 l0.length c0, .int .i64 t319] rfl (by (try simp only [List.map_toArray, List.map_cons, List.map_nil]); first | done | rfl | (simp only [List.length_drop, List.length_take]; rfl)) ?_; (with_reducible refine (wire_GetText.calls k _ _ l0 t319 t329 t330 t331 _ ?side1 ?side2 A36.out).mono ?_); (case side1 => exact Kd.C_below HR0.out (by with_reducible repeat (first | exact HB.out | apply below_alloc | apply pw_below_drewN | apply below_drew1 | refine below_set ?_ GE317.out))); (case side2 => exact HC0.out); rintro e w' ⟨rfl, ⟨nd, rfl⟩⟩; refine ⟨_, rfl, ?_⟩))
      refine bodyPost_ret (results_ctt rfl _ _ gb317 92 #[.int .i64 0, .int .i64 0, .string (⟨#[]⟩ : ByteArray)] (0, 0) _ rfl (by (with_reducible repeat (first | refine blk_drewN ?_ _ | refine blk_drew ?_ | refine blk_alloc ?_ _)); refine blk_put (cs := #[.int .i64 0, .int .i64 0, .string t329]) ?_ 2 _ rfl; (with_reducible repeat (first | refine blk_drewN ?_ _ | refine blk_drew ?_ | refine blk_alloc ?_ _)); refine blk_put (cs := #[.int .i64 0, .int .i64 0, .string t329]) ?_ 1 _ rfl; (with_reducible repeat (first | refine blk_drewN ?_ _ | refine blk_drew ?_ | refine blk_alloc ?_ _)); refine blk_put (cs := #[.int .i64 t318, .int .i64 0, .string t329]) ?_ 0 _ rfl; (with_reducible repeat (first | refine blk_drewN ?_ _ | refine blk_drew ?_ | refine blk_alloc ?_ _)); refine blk_put (cs := #[.int .i64 t318, .int .i64 0, .string (⟨#[]⟩ : ByteArray)]) ?_ 2 _ rfl; (with_reducible repeat (first | refine blk_drewN ?_ _ | refine blk_drew ?_ | refine blk_alloc ?_ _)); refine blk_put (cs := #[.int .i64 0, .int .i64 0, .string (⟨#[]⟩ : ByteArray)]) ?_ 0 _ rfl; (with_reducible repeat (first | refine blk_drewN ?_ _ | refine blk_drew ?_ | refine blk_alloc ?_ _)); exact BK317.out) Tryz.underlying92 rfl (by kernel_rfl)) rfl ?_
      exact ⟨by first | rfl | (simp [errW_none, errW_some] <;> rfl) | (simp [*, errW_none, errW_some] <;> rfl), by with_reducible repeat (first | exact HB.out | apply below_alloc | apply pw_below_drewN | apply below_drew1 | refine below_set ?_ GE317.out)⟩
    ·rw [if_neg c35] at H
     have c35b0 : (t318 == 4) = false := beq_eq_false_iff_ne.mpr c35
     have c35b1 : (t318 != 4) = true := bne_iff_ne.mpr c35
     replace H := Option.bind_eq_some_iff.mp H
     obtain ⟨t333, A500, H⟩ := H
     try dsimp only at H
     have A50 := Aside0.mk A500
     clear A500
     by_cases c51 : t333 = 0
     ·rw [if_pos c51] at H
      have c51b0 : (t333 == 0) = true := beq_iff_eq.mpr c51
      have c51b1 : (t333 != 0) = false := bne_eq_false_iff_eq.mpr c51
      clear c51
      simp only [Option.some.injEq, Prod.mk.injEq] at H
      obtain ⟨rfl, rfl, rfl, rfl, rfl⟩ := H
      go_enter Tryz.func116, Tryz.ntmps116
      go_wp2_with (first | ((with_reducible refine gate_dst (N := 4) rfl ?_); refine box_event ?hg (N := 4) ?hd (cs := #[.int .i64 0, .int .i64 0, .string (⟨#[]⟩ : ByteArray)]) (t := 92) ?hr ?_; (case hd => rfl); (case hg => rfl); (case hr => first | (go_simp; done) | (go_simp; rfl)); intro gb317 hg w52 hbox hb; have n0_ := Aside0.mk (below_step (by with_reducible repeat (first | exact HB.out | apply below_alloc | apply pw_below_drewN | apply below_drew1)) hb); have n1_ := Aside0.mk (hbox); have n2_ := Aside0.mk ((by rw [hg]; exact (below_size (by with_reducible repeat (first | exact HB.out | apply below_alloc | apply pw_below_drewN | apply below_drew1))) : w.heap.size ≤ gb317)); have n3_ := Aside0.mk ((by rw [hg]; exact (below_size (by with_reducible repeat (first | exact HB.out | apply below_alloc | apply pw_below_drewN | apply below_drew1))) : w.heap.size ≤ gb317)); clear HB; have HB := n0_; have BK317 := n1_; have GW317 := n2_; have GE317 := n3_; clear n0_ n1_ n2_ n3_; clear hb hbox hg) | ((with_reducible refine gate_callee (f := 84) rfl ?_); refine goesL_ (some 11) rfl rfl Tryz.func84 (by kernel_rfl) rfl #[.slice A0 l0.length c0, .int .i64 a1, .int .i64 1] rfl (by (try simp only [List.map_toArray, List.map_cons, List.map_nil]); first | done | rfl | (simp only [List.length_drop, List.length_take]; rfl)) ?_; (with_reducible refine (wire_Get.calls k _ _ l0 a1 1 t318 t319 t320 _ ?side1 ?side2 A3.out).mono ?_); (case side1 => repeat (first | exact (Kd.C_below HR0.out HB.out) | (with_reducible refine Kd.C_alloc ?_ _) | (with_reducible refine Kd.C_drewN ?_ _) | (with_reducible refine Kd.C_drew ?_))); (case side2 => exact HC0.out); rintro e w' ⟨rfl, ⟨nd, rfl⟩⟩; refine ⟨_, rfl, ?_⟩; (try (rw [drewN_self w52]; generalize hq_ : World.drewN w52 _ = w52; have n0_ : Aside0 (w52.heap[gb317]? = some (.cells #[.int .i64 0, .int .i64 0, .string (⟨#[]⟩ : ByteArray)] 92 (0, 0))) := ⟨by rw [← hq_]; exact (by (with_reducible repeat (first | refine blk_drewN ?_ _ | refine blk_drew ?_ | refine blk_alloc ?_ _)); exact BK317.out)⟩; have n1_ : Aside0 (Below w.heap.size w w52) := ⟨by rw [← hq_]; exact (by with_reducible repeat (first | exact HB.out | apply below_alloc | apply pw_below_drewN | apply below_drew1 | refine below_set ?_ GE317.out))⟩; clear BK317 HB hq_; have BK317 := n0_; have HB := n1_; clear n0_ n1_)); have hcz53 := fun i_ => blk_cell BK317.out i_; have hfz53 := fun i_ => blk_frozen BK317.out i_) | (go_at_call 121; (with_reducible refine (value_Check.calls t318 0 (⟨#[]⟩ : ByteArray) t333 _ A50.out).mono ?_); rintro e w54 ⟨rfl, hb⟩; have n0_ := Aside0.mk (blk_below (g := gb317) (o := .cells #[.int .i64 t318, .int .i64 0, .string (⟨#[]⟩ : ByteArray)] 92 (0, 0)) (by (with_reducible repeat (first | refine blk_drewN ?_ _ | refine blk_drew ?_ | refine blk_alloc ?_ _)); refine blk_put (cs := #[.int .i64 0, .int .i64 0, .string (⟨#[]⟩ : ByteArray)]) ?_ 0 _ rfl; (with_reducible repeat (first | refine blk_drewN ?_ _ | refine blk_drew ?_ | refine blk_alloc ?_ _)); exact BK317.out) hb); have n1_ := Aside0.mk (below_step (by with_reducible repeat (first | exact HB.out | apply below_alloc | apply pw_below_drewN | apply below_drew1 | refine below_set ?_ GE317.out)) hb); clear BK317; clear HB; have BK317 := n0_; have HB := n1_; clear n0_ n1_; (try clear hb); (try clear hb2); (try clear hk); (try clear hi); have hcz55 := fun i_ => blk_cell BK317.out i_; have hfz55 := fun i_ => blk_frozen BK317.out i_))
      refine bodyPost_ret (results_ctt rfl _ _ gb317 92 #[.int .i64 t318, .int .i64 0, .string (⟨#[]⟩ : ByteArray)] (0, 0) _ rfl (by (with_reducible repeat (first | refine blk_drewN ?_ _ | refine blk_drew ?_ | refine blk_alloc ?_ _)); refine blk_put (cs := #[.int .i64 t318, .int .i64 0, .string (⟨#[]⟩ : ByteArray)]) ?_ 2 _ rfl; (with_reducible repeat (first | refine blk_drewN ?_ _ | refine blk_drew ?_ | refine blk_alloc ?_ _)); refine blk_put (cs := #[.int .i64 t318, .int .i64 0, .string (⟨#[]⟩ : ByteArray)]) ?_ 1 _ rfl; (with_reducible repeat (first | refine blk_drewN ?_ _ | refine blk_drew ?_ | refine blk_alloc ?_ _)); refine blk_put (cs := #[.int .i64 t318, .int .i64 0, .string (⟨#[]⟩ : ByteArray)]) ?_ 0 _ rfl; (with_reducible repeat (first | refine blk_drewN ?_ _ | refine blk_drew ?_ | refine blk_alloc ?_ _)); exact BK317.out) Tryz.underlying92 rfl (by kernel_rfl)) rfl ?_
      exact ⟨by first | rfl | (simp [errW_none, errW_some] <;> rfl) | (simp [*, errW_none, errW_some] <;> rfl), by with_reducible repeat (first | exact HB.out | apply below_alloc | apply pw_below_drewN | apply below_drew1 | refine below_set ?_ GE317.out)⟩
     ·rw [if_neg c51] at H
      have c51b0 : (t333 == 0) = false := beq_eq_false_iff_ne.mpr c51
      have c51b1 : (t333 != 0) = true := bne_iff_ne.mpr c51
      simp only [Option.some.injEq, Prod.mk.injEq] at H
      obtain ⟨rfl, rfl, rfl, rfl, rfl⟩ := H
      go_enter Tryz.func116, Tryz.ntmps116
      go_wp2_with (first | ((with_reducible refine gate_dst (N := 4) rfl ?_); refine box_event ?hg (N := 4) ?hd (cs := #[.int .i64 0, .int .i64 0, .string (⟨#[]⟩ : ByteArray)]) (t := 92) ?hr ?_; (case hd => rfl); (case hg => rfl); (case hr => first | (go_simp; done) | (go_simp; rfl)); intro gb317 hg w56 hbox hb; have n0_ := Aside0.mk (below_step (by with_reducible repeat (first | exact HB.out | apply below_alloc | apply pw_below_drewN | apply below_drew1)) hb); have n1_ := Aside0.mk (hbox); have n2_ := Aside0.mk ((by rw [hg]; exact (below_size (by with_reducible repeat (first | exact HB.out | apply below_alloc | apply pw_below_drewN | apply below_drew1))) : w.heap.size ≤ gb317)); have n3_ := Aside0.mk ((by rw [hg]; exact (below_size (by with_reducible repeat (first | exact HB.out | apply below_alloc | apply pw_below_drewN | apply below_drew1))) : w.heap.size ≤ gb317)); clear HB; have HB := n0_; have BK317 := n1_; have GW317 := n2_; have GE317 := n3_; clear n0_ n1_ n2_ n3_; clear hb hbox hg) | ((with_reducible refine gate_callee (f := 84) rfl ?_); refine goesL_ (some 11) rfl rfl Tryz.func84 (by kernel_rfl) rfl #[.slice A0 l0.length c0, .int .i64 a1, .int .i64 1] rfl (by (try simp only [List.map_toArray, List.map_cons, List.map_nil]); first | done | rfl | (simp only [List.length_drop, List.length_take]; rfl)) ?_; (with_reducible refine (wire_Get.calls k _ _ l0 a1 1 t318 t319 t320 _ ?side1 ?side2 A3.out).mono ?_); (case side1 => repeat (first | exact (Kd.C_below HR0.out HB.out) | (with_reducible refine Kd.C_alloc ?_ _) | (with_reducible refine Kd.C_drewN ?_ _) | (with_reducible refine Kd.C_drew ?_))); (case side2 => exact HC0.out); rintro e w' ⟨rfl, ⟨nd, rfl⟩⟩; refine ⟨_, rfl, ?_⟩; (try (rw [drewN_self w56]; generalize hq_ : World.drewN w56 _ = w56; have n0_ : Aside0 (w56.heap[gb317]? = some (.cells #[.int .i64 0, .int .i64 0, .string (⟨#[]⟩ : ByteArray)] 92 (0, 0))) := ⟨by rw [← hq_]; exact (by (with_reducible repeat (first | refine blk_drewN ?_ _ | refine blk_drew ?_ | refine blk_alloc ?_ _)); exact BK317.out)⟩; have n1_ : Aside0 (Below w.heap.size w w56) := ⟨by rw [← hq_]; exact (by with_reducible repeat (first | exact HB.out | apply below_alloc | apply pw_below_drewN | apply below_drew1 | refine below_set ?_ GE317.out))⟩; clear BK317 HB hq_; have BK317 := n0_; have HB := n1_; clear n0_ n1_)); have hcz57 := fun i_ => blk_cell BK317.out i_; have hfz57 := fun i_ => blk_frozen BK317.out i_) | (go_at_call 121; (with_reducible refine (value_Check.calls t318 0 (⟨#[]⟩ : ByteArray) t333 _ A50.out).mono ?_); rintro e w58 ⟨rfl, hb⟩; have n0_ := Aside0.mk (blk_below (g := gb317) (o := .cells #[.int .i64 t318, .int .i64 0, .string (⟨#[]⟩ : ByteArray)] 92 (0, 0)) (by (with_reducible repeat (first | refine blk_drewN ?_ _ | refine blk_drew ?_ | refine blk_alloc ?_ _)); refine blk_put (cs := #[.int .i64 0, .int .i64 0, .string (⟨#[]⟩ : ByteArray)]) ?_ 0 _ rfl; (with_reducible repeat (first | refine blk_drewN ?_ _ | refine blk_drew ?_ | refine blk_alloc ?_ _)); exact BK317.out) hb); have n1_ := Aside0.mk (below_step (by with_reducible repeat (first | exact HB.out | apply below_alloc | apply pw_below_drewN | apply below_drew1 | refine below_set ?_ GE317.out)) hb); clear BK317; clear HB; have BK317 := n0_; have HB := n1_; clear n0_ n1_; (try clear hb); (try clear hb2); (try clear hk); (try clear hi); have hcz59 := fun i_ => blk_cell BK317.out i_; have hfz59 := fun i_ => blk_frozen BK317.out i_))
      refine bodyPost_ret (results_ctt rfl _ _ gb317 92 #[.int .i64 0, .int .i64 0, .string (⟨#[]⟩ : ByteArray)] (0, 0) _ rfl (by (with_reducible repeat (first | refine blk_drewN ?_ _ | refine blk_drew ?_ | refine blk_alloc ?_ _)); refine blk_put (cs := #[.int .i64 0, .int .i64 0, .string (⟨#[]⟩ : ByteArray)]) ?_ 2 _ rfl; (with_reducible repeat (first | refine blk_drewN ?_ _ | refine blk_drew ?_ | refine blk_alloc ?_ _)); refine blk_put (cs := #[.int .i64 0, .int .i64 0, .string (⟨#[]⟩ : ByteArray)]) ?_ 1 _ rfl; (with_reducible repeat (first | refine blk_drewN ?_ _ | refine blk_drew ?_ | refine blk_alloc ?_ _)); refine blk_put (cs := #[.int .i64 t318, .int .i64 0, .string (⟨#[]⟩ : ByteArray)]) ?_ 0 _ rfl; (with_reducible repeat (first | refine blk_drewN ?_ _ | refine blk_drew ?_ | refine blk_alloc ?_ _)); exact BK317.out) Tryz.underlying92 rfl (by kernel_rfl)) rfl ?_
      exact ⟨by first | rfl | (simp [errW_none, errW_some] <;> rfl) | (simp [*, errW_none, errW_some] <;> rfl), by with_reducible repeat (first | exact HB.out | apply below_alloc | apply pw_below_drewN | apply below_drew1 | refine below_set ?_ GE317.out)⟩
 ·rw [if_neg c4] at H
  have c4b0 : (t320 == 0) = false := beq_eq_false_iff_ne.mpr c4
  have c4b1 : (t320 != 0) = true := bne_iff_ne.mpr c4
  simp only [Option.some.injEq, Prod.mk.injEq] at H
  obtain ⟨rfl, rfl, rfl, rfl, rfl⟩ := H
  go_enter Tryz.func116, Tryz.ntmps116
  go_wp2_with (first | ((with_reducible refine gate_dst (N := 4) rfl ?_); refine box_event ?hg (N := 4) ?hd (cs := #[.int .i64 0, .int .i64 0, .string (⟨#[]⟩ : ByteArray)]) (t := 92) ?hr ?_; (case hd => rfl); (case hg => rfl); (case hr => first | (go_simp; done) | (go_simp; rfl)); intro gb317 hg w60 hbox hb; have n0_ := Aside0.mk (below_step (by with_reducible repeat (first | exact HB.out | apply below_alloc | apply pw_below_drewN | apply below_drew1)) hb); have n1_ := Aside0.mk (hbox); have n2_ := Aside0.mk ((by rw [hg]; exact (below_size (by with_reducible repeat (first | exact HB.out | apply below_alloc | apply pw_below_drewN | apply below_drew1))) : w.heap.size ≤ gb317)); have n3_ := Aside0.mk ((by rw [hg]; exact (below_size (by with_reducible repeat (first | exact HB.out | apply below_alloc | apply pw_below_drewN | apply below_drew1))) : w.heap.size ≤ gb317)); clear HB; have HB := n0_; have BK317 := n1_; have GW317 := n2_; have GE317 := n3_; clear n0_ n1_ n2_ n3_; clear hb hbox hg) | ((with_reducible refine gate_callee (f := 84) rfl ?_); refine goesL_ (some 11) rfl rfl Tryz.func84 (by kernel_rfl) rfl #[.slice A0 l0.length c0, .int .i64 a1, .int .i64 1] rfl (by (try simp only [List.map_toArray, List.map_cons, List.map_nil]); first | done | rfl | (simp only [List.length_drop, List.length_take]; rfl)) ?_; (with_reducible refine (wire_Get.calls k _ _ l0 a1 1 t318 t319 t320 _ ?side1 ?side2 A3.out).mono ?_); (case side1 => repeat (first | exact (Kd.C_below HR0.out HB.out) | (with_reducible refine Kd.C_alloc ?_ _) | (with_reducible refine Kd.C_drewN ?_ _) | (with_reducible refine Kd.C_drew ?_))); (case side2 => exact HC0.out); rintro e w' ⟨rfl, ⟨nd, rfl⟩⟩; refine ⟨_, rfl, ?_⟩; (try (rw [drewN_self w60]; generalize hq_ : World.drewN w60 _ = w60; have n0_ : Aside0 (w60.heap[gb317]? = some (.cells #[.int .i64 0, .int .i64 0, .string (⟨#[]⟩ : ByteArray)] 92 (0, 0))) := ⟨by rw [← hq_]; exact (by (with_reducible repeat (first | refine blk_drewN ?_ _ | refine blk_drew ?_ | refine blk_alloc ?_ _)); exact BK317.out)⟩; have n1_ : Aside0 (Below w.heap.size w w60) := ⟨by rw [← hq_]; exact (by with_reducible repeat (first | exact HB.out | apply below_alloc | apply pw_below_drewN | apply below_drew1 | refine below_set ?_ GE317.out))⟩; clear BK317 HB hq_; have BK317 := n0_; have HB := n1_; clear n0_ n1_)); have hcz61 := fun i_ => blk_cell BK317.out i_; have hfz61 := fun i_ => blk_frozen BK317.out i_))
  refine bodyPost_ret (results_ctt rfl _ _ gb317 92 #[.int .i64 0, .int .i64 0, .string (⟨#[]⟩ : ByteArray)] (0, 0) _ rfl (by (with_reducible repeat (first | refine blk_drewN ?_ _ | refine blk_drew ?_ | refine blk_alloc ?_ _)); refine blk_put (cs := #[.int .i64 0, .int .i64 0, .string (⟨#[]⟩ : ByteArray)]) ?_ 2 _ rfl; (with_reducible repeat (first | refine blk_drewN ?_ _ | refine blk_drew ?_ | refine blk_alloc ?_ _)); refine blk_put (cs := #[.int .i64 0, .int .i64 0, .string (⟨#[]⟩ : ByteArray)]) ?_ 1 _ rfl; (with_reducible repeat (first | refine blk_drewN ?_ _ | refine blk_drew ?_ | refine blk_alloc ?_ _)); refine blk_put (cs := #[.int .i64 0, .int .i64 0, .string (⟨#[]⟩ : ByteArray)]) ?_ 0 _ rfl; (with_reducible repeat (first | refine blk_drewN ?_ _ | refine blk_drew ?_ | refine blk_alloc ?_ _)); exact BK317.out) Tryz.underlying92 rfl (by kernel_rfl)) rfl ?_
  exact ⟨by first | rfl | (simp [errW_none, errW_some] <;> rfl) | (simp [*, errW_none, errW_some] <;> rfl), by with_reducible repeat (first | exact HB.out | apply below_alloc | apply pw_below_drewN | apply below_drew1 | refine below_set ?_ GE317.out)⟩
def row_Read.l0 : Nat → List Int → List (S92) → Int → Int → Int → Option ((List (S92)) × Int × Int)
 | 0, _, _, _, _, _ => none
 | k + 1, x0, x4, x5, x23, x24 => if x24 < x23 then ((value_Read.f k x0 x5).bind fun bt337 => (if bt337.2.2.2.2 = 0 then (if x4.length < 4398046511104 then (row_Read.l0 k x0 (x4 ++ [(⟨bt337.1, bt337.2.1, bt337.2.2.1⟩ : S92)]) bt337.2.2.2.1 x23 (wrap64 (x24 + 1))) else (none)) else (some (([] : List (S92)), 0, 3)))) else (some (x4, x5, 0))
def row_Read.f (k : Nat) (l0 : List Int) (a1 : Int) : Option ((List (S92)) × Int × Int) := (wire_Get.f k l0 a1 1).bind fun bt334 => (if bt334.2.2 = 0 then (if bt334.1 > 12 then (some (([] : List (S92)), 0, 3)) else (row_Read.l0 k l0 ([] : List (S92)) bt334.2.1 bt334.1 0)) else (some (([] : List (S92)), 0, bt334.2.2)))
set_option maxHeartbeats 8000000 in
set_option maxRecDepth 100000 in
theorem row_Read.calls (k : Nat) (A0 : Option Addr) (c0 : Nat) (l0 : List Int) (a1 : Int) (r1 : List (S92)) (r2 : Int) (r3 : Int) (w : World) (hr0 : Kd.C (Kd.int .u8) w A0 l0.length l0) (hc0 : l0.length ≤ c0) (h : row_Read.f k l0 a1 = some (r1, r2, r3)) :
  Calls Tryz.prog 89 #[.slice A0 l0.length c0, .int .i64 a1] w fun e w' => ∃ v0_ : Value, e = .returned (.tuple #[v0_, .int .i64 r2, .int .i64 r3]) ∧ Kd.R k92 92 w' w.heap.size (fun _ => True) v0_ r1 ∧ Below w.heap.size w w' := by
 have hu92 := Tryz.underlying92
 have HR0 := Aside0.mk hr0
 have HC0 := Aside0.mk hc0
 clear hr0 hc0
 have HB := Aside0.mk (Below.refl w.heap.size w)
 have H : ((wire_Get.f k l0 a1 1).bind fun bt334 => (if bt334.2.2 = 0 then (if bt334.1 > 12 then (some (([] : List (S92)), 0, 3)) else (row_Read.l0 k l0 ([] : List (S92)) bt334.2.1 bt334.1 0)) else (some (([] : List (S92)), 0, bt334.2.2)))) = some (r1, r2, r3) := h
 clear h
 replace H := Option.bind_eq_some_iff.mp H
 obtain ⟨⟨t334, t335, t336⟩, A30, H⟩ := H
 try dsimp only at H
 have A3 := Aside0.mk A30
 clear A30
 by_cases c4 : t336 = 0
 ·rw [if_pos c4] at H
  have c4b0 : (t336 == 0) = true := beq_iff_eq.mpr c4
  have c4b1 : (t336 != 0) = false := bne_eq_false_iff_eq.mpr c4
  clear c4
  by_cases c5 : t334 > 12
  ·rw [if_pos c5] at H
   have c5b0 : decide (12 < t334) = true := decide_eq_true c5
   clear c5
   simp only [Option.some.injEq, Prod.mk.injEq] at H
   obtain ⟨rfl, rfl, rfl⟩ := H
   go_enter Tryz.func89, Tryz.ntmps89
   go_wp2_with (first | ((with_reducible refine gate_callee (f := 84) rfl ?_); refine goesL_ (some 14) rfl rfl Tryz.func84 (by kernel_rfl) rfl #[.slice A0 l0.length c0, .int .i64 a1, .int .i64 1] rfl (by (try simp only [List.map_toArray, List.map_cons, List.map_nil]); first | done | rfl | (simp only [List.length_drop, List.length_take]; rfl)) ?_; (with_reducible refine (wire_Get.calls k _ _ l0 a1 1 t334 t335 t336 _ ?side1 ?side2 A3.out).mono ?_); (case side1 => repeat (first | exact HR0.out | (with_reducible refine Kd.C_alloc ?_ _) | (with_reducible refine Kd.C_drewN ?_ _) | (with_reducible refine Kd.C_drew ?_))); (case side2 => exact HC0.out); rintro e w' ⟨rfl, ⟨nd, rfl⟩⟩; refine ⟨_, rfl, ?_⟩))
   go_ret3
   exact ⟨_, by first | rfl | (simp [errW_none, errW_some] <;> rfl) | (simp [*, errW_none, errW_some] <;> rfl), by first | exact Kd.R_nil _ _ _ _ _ | exact Kd.N_nil _ _ _ _ _ | exact Kd.V_nil _ _ _ _ _ | exact Kd.Q_nil _ _ _ _ _ | exact Kd.S_nil _ _ _ _ _, by with_reducible repeat (first | exact HB.out | apply below_alloc | apply pw_below_drewN | apply below_drew1)⟩
  ·rw [if_neg c5] at H
   have c5b0 : decide (12 < t334) = false := decide_eq_false c5
   clear c5
   have H' := Aside0.mk H
   clear H
   go_enter Tryz.func89, Tryz.ntmps89
   go_wp2_with (first | ((with_reducible refine gate_callee (f := 84) rfl ?_); refine goesL_ (some 14) rfl rfl Tryz.func84 (by kernel_rfl) rfl #[.slice A0 l0.length c0, .int .i64 a1, .int .i64 1] rfl (by (try simp only [List.map_toArray, List.map_cons, List.map_nil]); first | done | rfl | (simp only [List.length_drop, List.length_take]; rfl)) ?_; (with_reducible refine (wire_Get.calls k _ _ l0 a1 1 t334 t335 t336 _ ?side1 ?side2 A3.out).mono ?_); (case side1 => repeat (first | exact HR0.out | (with_reducible refine Kd.C_alloc ?_ _) | (with_reducible refine Kd.C_drewN ?_ _) | (with_reducible refine Kd.C_drew ?_))); (case side2 => exact HC0.out); rintro e w' ⟨rfl, ⟨nd, rfl⟩⟩; refine ⟨_, rfl, ?_⟩))
   go_loopg [4, 5, 24] k (fun kq v4 v5 v24 w' => ∃ (x4_1 : List (S92)) (x5_1 : Int) (x24_1 : Int), v5 = .int .i64 x5_1 ∧ v24 = .int .i64 x24_1 ∧ Aside0 (row_Read.l0 kq l0 x4_1 x5_1 t334 x24_1 = some (r1, r2, r3)) ∧ Aside0 (kq ≤ k) ∧ Aside0 (Kd.R k92 92 w' w.heap.size (fun _ => True) v4 x4_1) ∧ Aside0 (Below w.heap.size w w'))
   case atStart => exact ⟨(([] : List (S92))), (t335), (0), (by first | rfl | (simp; done) | (simp [*]; done)), (by first | rfl | (simp; done) | (simp [*]; done)), H', ⟨Nat.le_refl _⟩, ⟨by first | exact Kd.R_nil _ _ _ _ _ | exact Kd.N_nil _ _ _ _ _ | exact Kd.V_nil _ _ _ _ _ | exact Kd.Q_nil _ _ _ _ _ | exact Kd.S_nil _ _ _ _ _⟩, ⟨by with_reducible repeat (first | exact HB.out | apply below_alloc | apply pw_below_drewN | apply below_drew1)⟩⟩
   case round =>
    clear H'
    try clear p2
    try clear c4
    try clear c4b0
    try clear c4b1
    try clear c5
    try clear c5b0
    obtain ⟨x4_1, x5_1, x24_1, rfl, rfl, HA, HK1, HO_4, HB⟩ := hrel
    cases gk with
    | zero => exact absurd HA.out (by simp [row_Read.l0])
    | succ k1 =>
     have H := HA.out
     clear HA
     simp only [row_Read.l0] at H
     by_cases c6 : x24_1 < t334
     ·rw [if_pos c6] at H
      have c6b0 : decide (x24_1 < t334) = true := decide_eq_true c6
      clear c6
      replace H := Option.bind_eq_some_iff.mp H
      obtain ⟨⟨t337, t338, t339, t340, t341⟩, A70, H⟩ := H
      try dsimp only at H
      have A7 := Aside0.mk A70
      clear A70
      by_cases c8 : t341 = 0
      ·rw [if_pos c8] at H
       have c8b0 : (t341 == 0) = true := beq_iff_eq.mpr c8
       have c8b1 : (t341 != 0) = false := bne_eq_false_iff_eq.mpr c8
       clear c8
       by_cases c9 : x4_1.length < 4398046511104
       ·rw [if_pos c9] at H
        have LMc9 := Aside0.mk c9
        clear c9
        obtain ⟨y343, hy343⟩ : ∃ y_ : List (S92), y_ = (x4_1 ++ [(⟨t337, t338, t339⟩ : S92)]) := ⟨_, rfl⟩
        replace H : (row_Read.l0 k1 l0 y343 t340 t334 (wrap64 (x24_1 + 1))) = some (r1, r2, r3) := by first | (rw [hy343]; with_reducible exact H) | (have H2_ := (Option.bind_some _ _).symm.trans H; rw [hy343]; with_reducible exact H2_) | (have H2_ := (Option.bind_some _ _).symm.trans H; with_reducible exact H2_) | with_reducible exact H | (rw [hy343]; exact H) | exact H
        have Ny343 := Aside0.mk hy343
        clear hy343
        have H' := Aside0.mk H
        clear H
        go_wp2_with (first | ((with_reducible refine gate_callee (f := 116) rfl ?_); refine goesL_ (some 29) rfl rfl Tryz.func116 (by kernel_rfl) rfl #[.slice A0 l0.length c0, .int .i64 x5_1] rfl (by (try simp only [List.map_toArray, List.map_cons, List.map_nil]); first | done | rfl | (simp only [List.length_drop, List.length_take]; rfl)) ?_; (with_reducible refine (value_Read.calls k1 _ _ l0 x5_1 t337 t338 t339 t340 t341 _ ?side1 ?side2 A7.out).mono ?_); (case side1 => repeat (first | exact (Kd.C_below HR0.out HB.out) | (with_reducible refine Kd.C_alloc ?_ _) | (with_reducible refine Kd.C_drewN ?_ _) | (with_reducible refine Kd.C_drew ?_))); (case side2 => exact HC0.out); rintro e w10 ⟨rfl, hb⟩; refine ⟨_, rfl, ?_⟩; have n0_ := Aside0.mk (Kd.R_below (by (with_reducible repeat (first | apply Kd.R_alloc | apply Kd.R_drewN | apply Kd.R_drew)); exact HO_4.out) hb); have n1_ := Aside0.mk (below_step (by with_reducible repeat (first | exact HB.out | apply below_alloc | apply pw_below_drewN | apply below_drew1)) hb); clear HO_4; clear HB; have HO_4 := n0_; have HB := n1_; clear n0_ n1_; (try clear hb); (try clear hb2); (try clear hk); (try clear hi)) | ((with_reducible refine gate_dst (N := 8) rfl ?_); refine box_event ?hg (N := 8) ?hd (cs := #[.int .i64 0, .int .i64 0, .string (⟨#[]⟩ : ByteArray)]) (t := 92) ?hr ?_; (case hd => rfl); (case hg => rfl); (case hr => first | (go_simp; done) | (go_simp; rfl)); intro gb342 hg w11 hbox hb; have n0_ := Aside0.mk (Kd.R_below (Kd.R_elderB (by (with_reducible repeat (first | apply Kd.R_alloc | apply Kd.R_drewN | apply Kd.R_drew)); exact HO_4.out) gb342 (Nat.le_of_eq hg.symm)) hb); have n1_ := Aside0.mk (below_step (by with_reducible repeat (first | exact HB.out | apply below_alloc | apply pw_below_drewN | apply below_drew1)) hb); have n2_ := Aside0.mk (hbox); have n3_ := Aside0.mk ((by rw [hg]; exact (below_size (by with_reducible repeat (first | exact HB.out | apply below_alloc | apply pw_below_drewN | apply below_drew1))) : w.heap.size ≤ gb342)); have n4_ := Aside0.mk ((by rw [hg]; exact (below_size (by with_reducible repeat (first | exact HB.out | apply below_alloc | apply pw_below_drewN | apply below_drew1))) : w.heap.size ≤ gb342)); clear HO_4; clear HB; have HO_4 := n0_; have HB := n1_; have BK342 := n2_; have GW342 := n3_; have GE342 := n4_; clear n0_ n1_ n2_ n3_ n4_; clear hb hbox hg; have hcz12 := fun i_ => blk_cell BK342.out i_; have hfz12 := fun i_ => blk_frozen BK342.out i_) | ((with_reducible refine gate_builtin (b := .append) (xs := #[.tmp 35, .tmp 37]) rfl ?_); at_builtin; refine Kd.R_append k92 (w0 := w) w.heap.size rfl (.tmp 35) (.tmp 37) 49 92 (.agg #[(.int .i64 0), (.int .i64 0), (.string ⟨#[]⟩)]) 32 rfl Tryz.underlying49 info92 rfl (by decide) (by omega) u4 x4_1 (⟨t337, t338, t339⟩ : S92) [.int .i64 t337, .int .i64 t338, .string t339] (fun k_ => k_ ≠ gb342) (fun _ => False) rfl (by first | (go_simp; done) | (go_simp; rfl)) ?aP (fun _ hk => hk.elim) ?aF ?aO ?aB ?aS ?aL ?_; (case aP => exact k92_mkM _ _ _ (⟨t337, t338, t339⟩ : S92)); (case aB => exact (by with_reducible repeat (first | exact HB.out | apply below_alloc | apply pw_below_drewN | apply below_drew1 | refine below_set ?_ GE342.out))); (case aF => exact (fun k_ hk => Kd.freshB (g := gb342) (o := .cells #[.int .i64 t337, .int .i64 t338, .string t339] 92 (0, 0)) (by (with_reducible repeat (first | refine blk_drewN ?_ _ | refine blk_drew ?_ | refine blk_alloc ?_ _)); refine blk_put (cs := #[.int .i64 t337, .int .i64 t338, .string (⟨#[]⟩ : ByteArray)]) ?_ 2 _ rfl; (with_reducible repeat (first | refine blk_drewN ?_ _ | refine blk_drew ?_ | refine blk_alloc ?_ _)); refine blk_put (cs := #[.int .i64 t337, .int .i64 0, .string (⟨#[]⟩ : ByteArray)]) ?_ 1 _ rfl; (with_reducible repeat (first | refine blk_drewN ?_ _ | refine blk_drew ?_ | refine blk_alloc ?_ _)); refine blk_put (cs := #[.int .i64 0, .int .i64 0, .string (⟨#[]⟩ : ByteArray)]) ?_ 0 _ rfl; (with_reducible repeat (first | refine blk_drewN ?_ _ | refine blk_drew ?_ | refine blk_alloc ?_ _)); exact BK342.out) k_ hk)); (case aO => exact (by (with_reducible repeat (first | apply Kd.R_alloc | apply Kd.R_drewN | apply Kd.R_drew)); exact Kd.R_mono (Kd.R_far (p := ⟨gb342, 2, none⟩) (Kd.R_far (p := ⟨gb342, 1, none⟩) (Kd.R_far (p := ⟨gb342, 0, none⟩) (Kd.R_mono HO_4.out (fun k_ hk => (⟨hk, hk.2⟩ : _ ∧ k_ ≠ gb342))) (fun _ hk => hk.2) (.int .i64 t337)) (fun _ hk => hk.2) (.int .i64 t338)) (fun _ hk => hk.2) (.string t339)) (fun _ hk => hk.1.2))); (case aS => exact (below_size (by with_reducible repeat (first | exact HB.out | apply below_alloc | apply pw_below_drewN | apply below_drew1 | refine below_set ?_ GE342.out)))); (case aL => have := LMc9.out; omega); intro v344 w13 ho hb hg hat; rw [← Ny343.out] at ho; have n0_ := Aside0.mk (blk_grown (g := gb342) (o := .cells #[.int .i64 t337, .int .i64 t338, .string t339] 92 (0, 0)) (by (with_reducible repeat (first | refine blk_drewN ?_ _ | refine blk_drew ?_ | refine blk_alloc ?_ _)); refine blk_put (cs := #[.int .i64 t337, .int .i64 t338, .string (⟨#[]⟩ : ByteArray)]) ?_ 2 _ rfl; (with_reducible repeat (first | refine blk_drewN ?_ _ | refine blk_drew ?_ | refine blk_alloc ?_ _)); refine blk_put (cs := #[.int .i64 t337, .int .i64 0, .string (⟨#[]⟩ : ByteArray)]) ?_ 1 _ rfl; (with_reducible repeat (first | refine blk_drewN ?_ _ | refine blk_drew ?_ | refine blk_alloc ?_ _)); refine blk_put (cs := #[.int .i64 0, .int .i64 0, .string (⟨#[]⟩ : ByteArray)]) ?_ 0 _ rfl; (with_reducible repeat (first | refine blk_drewN ?_ _ | refine blk_drew ?_ | refine blk_alloc ?_ _)); exact BK342.out) hg (Kd.R_away HO_4.out (fun _ hk => hk.2))); have n1_ := Aside0.mk (hb); have n2_ := Aside0.mk (ho); clear BK342; clear HB; clear HO_4; have BK342 := n0_; have HB := n1_; have HO345 := n2_; clear n0_ n1_ n2_; clear ho hb hg hat))
        go_roundg k1
        case measure => have := HK1.out; omega
        case rel => exact ⟨(y343), (t340), (wrap64 (x24_1 + 1)), (by first | rfl | (simp; done) | (simp [*]; done)), (by first | rfl | (simp; done) | (simp [*]; done)), H', ⟨by have := HK1.out; omega⟩, ⟨by (with_reducible repeat (first | apply Kd.R_alloc | apply Kd.R_drewN | apply Kd.R_drew)); exact Kd.R_mono HO345.out (fun _ hk => trivial)⟩, ⟨by with_reducible repeat (first | exact HB.out | apply below_alloc | apply pw_below_drewN | apply below_drew1 | refine below_set ?_ GE342.out)⟩⟩
       ·rw [if_neg c9] at H
        exact absurd H (by simp)
      ·rw [if_neg c8] at H
       have c8b0 : (t341 == 0) = false := beq_eq_false_iff_ne.mpr c8
       have c8b1 : (t341 != 0) = true := bne_iff_ne.mpr c8
       simp only [Option.some.injEq, Prod.mk.injEq] at H
       obtain ⟨rfl, rfl, rfl⟩ := H
       go_wp2_with (first | ((with_reducible refine gate_callee (f := 116) rfl ?_); refine goesL_ (some 29) rfl rfl Tryz.func116 (by kernel_rfl) rfl #[.slice A0 l0.length c0, .int .i64 x5_1] rfl (by (try simp only [List.map_toArray, List.map_cons, List.map_nil]); first | done | rfl | (simp only [List.length_drop, List.length_take]; rfl)) ?_; (with_reducible refine (value_Read.calls k1 _ _ l0 x5_1 t337 t338 t339 t340 t341 _ ?side1 ?side2 A7.out).mono ?_); (case side1 => repeat (first | exact (Kd.C_below HR0.out HB.out) | (with_reducible refine Kd.C_alloc ?_ _) | (with_reducible refine Kd.C_drewN ?_ _) | (with_reducible refine Kd.C_drew ?_))); (case side2 => exact HC0.out); rintro e w14 ⟨rfl, hb⟩; refine ⟨_, rfl, ?_⟩; have n0_ := Aside0.mk (Kd.R_below (by (with_reducible repeat (first | apply Kd.R_alloc | apply Kd.R_drewN | apply Kd.R_drew)); exact HO_4.out) hb); have n1_ := Aside0.mk (below_step (by with_reducible repeat (first | exact HB.out | apply below_alloc | apply pw_below_drewN | apply below_drew1)) hb); clear HO_4; clear HB; have HO_4 := n0_; have HB := n1_; clear n0_ n1_; (try clear hb); (try clear hb2); (try clear hk); (try clear hi)) | ((with_reducible refine gate_dst (N := 8) rfl ?_); refine box_event ?hg (N := 8) ?hd (cs := #[.int .i64 0, .int .i64 0, .string (⟨#[]⟩ : ByteArray)]) (t := 92) ?hr ?_; (case hd => rfl); (case hg => rfl); (case hr => first | (go_simp; done) | (go_simp; rfl)); intro gb342 hg w15 hbox hb; have n0_ := Aside0.mk (Kd.R_below (Kd.R_elderB (by (with_reducible repeat (first | apply Kd.R_alloc | apply Kd.R_drewN | apply Kd.R_drew)); exact HO_4.out) gb342 (Nat.le_of_eq hg.symm)) hb); have n1_ := Aside0.mk (below_step (by with_reducible repeat (first | exact HB.out | apply below_alloc | apply pw_below_drewN | apply below_drew1)) hb); have n2_ := Aside0.mk (hbox); have n3_ := Aside0.mk ((by rw [hg]; exact (below_size (by with_reducible repeat (first | exact HB.out | apply below_alloc | apply pw_below_drewN | apply below_drew1))) : w.heap.size ≤ gb342)); have n4_ := Aside0.mk ((by rw [hg]; exact (below_size (by with_reducible repeat (first | exact HB.out | apply below_alloc | apply pw_below_drewN | apply below_drew1))) : w.heap.size ≤ gb342)); clear HO_4; clear HB; have HO_4 := n0_; have HB := n1_; have BK342 := n2_; have GW342 := n3_; have GE342 := n4_; clear n0_ n1_ n2_ n3_ n4_; clear hb hbox hg; have hcz16 := fun i_ => blk_cell BK342.out i_; have hfz16 := fun i_ => blk_frozen BK342.out i_))
       go_ret3
       exact ⟨_, by first | rfl | (simp [errW_none, errW_some] <;> rfl) | (simp [*, errW_none, errW_some] <;> rfl), by first | exact Kd.R_nil _ _ _ _ _ | exact Kd.N_nil _ _ _ _ _ | exact Kd.V_nil _ _ _ _ _ | exact Kd.Q_nil _ _ _ _ _ | exact Kd.S_nil _ _ _ _ _, by with_reducible repeat (first | exact HB.out | apply below_alloc | apply pw_below_drewN | apply below_drew1 | refine below_set ?_ GE342.out)⟩
     ·rw [if_neg c6] at H
      have c6b0 : decide (x24_1 < t334) = false := decide_eq_false c6
      clear c6
      simp only [Option.some.injEq, Prod.mk.injEq] at H
      obtain ⟨rfl, rfl, rfl⟩ := H
      go_wp2
      go_ret3
      exact ⟨_, by first | rfl | (simp [errW_none, errW_some] <;> rfl) | (simp [*, errW_none, errW_some] <;> rfl), by (with_reducible repeat (first | apply Kd.R_alloc | apply Kd.R_drewN | apply Kd.R_drew)); exact HO_4.out, by with_reducible repeat (first | exact HB.out | apply below_alloc | apply pw_below_drewN | apply below_drew1)⟩
 ·rw [if_neg c4] at H
  have c4b0 : (t336 == 0) = false := beq_eq_false_iff_ne.mpr c4
  have c4b1 : (t336 != 0) = true := bne_iff_ne.mpr c4
  simp only [Option.some.injEq, Prod.mk.injEq] at H
  obtain ⟨rfl, rfl, rfl⟩ := H
  go_enter Tryz.func89, Tryz.ntmps89
  go_wp2_with (first | ((with_reducible refine gate_callee (f := 84) rfl ?_); refine goesL_ (some 14) rfl rfl Tryz.func84 (by kernel_rfl) rfl #[.slice A0 l0.length c0, .int .i64 a1, .int .i64 1] rfl (by (try simp only [List.map_toArray, List.map_cons, List.map_nil]); first | done | rfl | (simp only [List.length_drop, List.length_take]; rfl)) ?_; (with_reducible refine (wire_Get.calls k _ _ l0 a1 1 t334 t335 t336 _ ?side1 ?side2 A3.out).mono ?_); (case side1 => repeat (first | exact HR0.out | (with_reducible refine Kd.C_alloc ?_ _) | (with_reducible refine Kd.C_drewN ?_ _) | (with_reducible refine Kd.C_drew ?_))); (case side2 => exact HC0.out); rintro e w' ⟨rfl, ⟨nd, rfl⟩⟩; refine ⟨_, rfl, ?_⟩))
  go_ret3
  exact ⟨_, by first | rfl | (simp [errW_none, errW_some] <;> rfl) | (simp [*, errW_none, errW_some] <;> rfl), by first | exact Kd.R_nil _ _ _ _ _ | exact Kd.N_nil _ _ _ _ _ | exact Kd.V_nil _ _ _ _ _ | exact Kd.Q_nil _ _ _ _ _ | exact Kd.S_nil _ _ _ _ _, by with_reducible repeat (first | exact HB.out | apply below_alloc | apply pw_below_drewN | apply below_drew1)⟩
end Go.Proofs.YtnbjflcfdncocaaGreat.M
namespace Go.Proofs.YtnbjflcfdncocaaGreat.M
open Go.RowKit Go.Proofs.YtnbjflcfdncocaaGreatW.PrintWords Go.Proofs.YtnbjflcfdncocaaGreatW.PrintLast Go.Proofs.YtnbjflcfdncocaaGreatW.PrintMore
theorem Get1_nil (B : List Int) (at_ : Nat) (hb : Bytes_ B) (hl : B.length ≤ 65536) (ha : at_ ≤ B.length) (hd : B.drop at_ = []) (k : Nat) (hk : 10 < k) : wire_Get.f k B (at_ : Int) 1 = some (0, 0, 3) := by
  have := Get_eq B [] at_ 1 hb hl ha hd (by omega) (by omega) k hk
  simpa using this
theorem Get1_cons (B : List Int) (at_ : Nat) (c : Int) (tl : List Int) (hb : Bytes_ B) (hl : B.length ≤ 65536) (ha : at_ ≤ B.length) (hd : B.drop at_ = c :: tl) (k : Nat) (hk : 10 < k) : wire_Get.f k B (at_ : Int) 1 = some (c, ((at_ + 1 : Nat) : Int), 0) := by
  have := Get_eq B (c :: tl) at_ 1 hb hl ha hd (by omega) (by omega) k hk
  have e : numL [c] = c := by simp [numL]
  simp only [List.length_cons, List.take_succ_cons, List.take_zero, e] at this
  rw [if_neg (by omega)] at this
  exact this
theorem at_cons {B : List Int} {at_ : Nat} {c : Int} {tl : List Int} (hd : B.drop at_ = c :: tl) : at_ < B.length ∧ B.drop (at_ + 1) = tl ∧ tl.length + 1 = B.length - at_ ∧ rd B (at_ : Int) = c := by
  have h := congrArg List.length hd
  simp only [List.length_drop, List.length_cons] at h
  have hlt : at_ < B.length := by omega
  have h2 := drop_cons B at_ hlt
  rw [hd] at h2
  refine ⟨hlt, (List.cons.inj h2).2.symm, by omega, ?_⟩
  rw [rd_nat]; exact (List.cons.inj h2).1.symm
def gint (l : List Int) : Option (Int × List Int) :=
  if l.length < 9 ∨ l.getD 0 0 > 1 then none
  else if numL ((l.drop 1).take 8) > 1152921504606846976 ∨ (l.getD 0 0 = 1 ∧ numL ((l.drop 1).take 8) = 0) then none
  else some (if l.getD 0 0 = 1 then -numL ((l.drop 1).take 8) else numL ((l.drop 1).take 8), l.drop 9)
theorem GetInt_eq (B rest : List Int) (at_ : Nat) (hb : Bytes_ B) (hl : B.length ≤ 65536) (ha : at_ ≤ B.length) (hd : B.drop at_ = rest) (k : Nat) (hk : 20 < k) :
    wire_GetInt.f k B (at_ : Int) = some (match gint rest with | none => (0, 0, 3) | some (n, _) => (n, ((at_ + 9 : Nat) : Int), 0)) := by
  obtain ⟨k, rfl⟩ : ∃ m, k = m + 3 := ⟨k - 3, by omega⟩
  have hr : rest.length = B.length - at_ := by rw [← hd]; simp
  unfold wire_GetInt.f
  rw [if_neg (by omega), decide_eq_false (by omega)]
  simp only [wire_GetInt.j0]
  rw [if_neg (by decide), wrap_in _ (by omega) (by omega)]
  unfold gint
  by_cases h9 : rest.length < 9
  · rw [if_pos (by omega), if_pos (.inl h9)]
    simp only [wire_GetInt.j1]; rfl
  · obtain ⟨c, tl, rfl⟩ : ∃ c tl, rest = c :: tl := by
      rcases rest with _ | ⟨c, tl⟩
      · simp at h9
      · exact ⟨c, tl, rfl⟩
    obtain ⟨a1, a2, a3, a4⟩ := at_cons hd
    have hc : (c :: tl).getD 0 0 = c := rfl
    have ht : (c :: tl).drop 1 = tl := rfl
    have h8 : 8 ≤ tl.length := by simp only [List.length_cons] at h9; omega
    rw [if_neg (by omega), if_pos (by omega), if_pos (by omega), a4, hc, ht]
    by_cases h1 : c > 1
    · rw [if_pos (.inr h1), decide_eq_true h1]
      simp only [wire_GetInt.j1]; rfl
    · rw [if_neg (by rintro (h | h); exact h9 h; exact h1 h), decide_eq_false h1]
      simp only [wire_GetInt.j1]
      have hbt : Bytes_ (tl.take 8) := Bytes_take (by rw [← a2]; exact Bytes_drop hb _) 8
      have hlt : (tl.take 8).length = 8 := by simp; omega
      have hn := numL_bound 8 (tl.take 8) hlt hbt
      have e : (B.take ((at_ : Int) + 9).toNat).drop ((at_ : Int) + 1).toNat = tl.take 8 := by
        rw [show ((at_ : Int) + 9).toNat = at_ + 9 from by omega, show ((at_ : Int) + 1).toNat = at_ + 1 from by omega, List.drop_take, a2]
        congr 1; omega
      rw [if_neg (by decide), wrap_in ((at_ : Int) + 1) (by omega) (by omega), wrap_in ((at_ : Int) + 9) (by omega) (by omega), if_pos (by omega), if_pos (by omega), if_pos (by omega), e, num_eq _ hbt (by omega) (k + 1) (by omega), Option.bind_some]
      obtain ⟨z, hz⟩ : ∃ z, z = numL (tl.take 8) := ⟨_, rfl⟩
      rw [← hz] at hn ⊢
      by_cases h2 : z > 1152921504606846976
      · rw [if_pos h2, if_pos (.inl h2)]
        simp only [wire_GetInt.j2]; rfl
      · rw [if_neg h2, if_pos (by omega), if_pos (by omega), a4]
        by_cases h3 : c = 1
        · rw [if_pos h3]
          by_cases h4 : z = 0
          · rw [if_pos (.inr ⟨h3, h4⟩), show (z == 0) = true from by rw [h4]; rfl]
            simp only [wire_GetInt.j2]; rfl
          · rw [if_neg (by rintro (h | h); exact h2 h; exact h4 h.2), show (z == 0) = false from by simpa using h4]
            simp only [wire_GetInt.j2]
            rw [if_neg (by decide), if_pos (by omega), if_pos (by omega), a4, if_pos h3, if_pos h3, wrap_in z (by omega) (by omega), wrap_in (-z) (by omega) (by omega), wrap_in ((at_ : Int) + 9) (by omega) (by omega)]
            rfl
        · rw [if_neg h3, if_neg (by rintro (h | h); exact h2 h; exact h3 h.1)]
          simp only [wire_GetInt.j2]
          rw [if_neg (by decide), if_pos (by omega), if_pos (by omega), a4, if_neg h3, if_neg h3, wrap_in z (by omega) (by omega), wrap_in ((at_ : Int) + 9) (by omega) (by omega)]
          rfl
def ok (v : Val) (tl : List Int) : Option (Val × List Int) := if goodV v then some (v, tl) else none
theorem ok_pos {v : Val} (h : goodV v) (tl : List Int) : ok v tl = some (v, tl) := if_pos h
theorem ok_neg {v : Val} (h : ¬ goodV v) (tl : List Int) : ok v tl = none := if_neg h
def rval2 : List Int → Option (Val × List Int)
  | [] => none
  | b :: t => ok ⟨2, b, ⟨#[]⟩⟩ t
def rval3 (l : List Int) : Option (Val × List Int) := (gint l).bind fun p => ok ⟨3, p.1, ⟨#[]⟩⟩ p.2
def rval4 : List Int → Option (Val × List Int)
  | [] => none
  | b :: t => if b > 24 ∨ (t.length : Int) < b then none else ok ⟨4, 0, strOfNums (t.take b.toNat)⟩ (t.drop b.toNat)
def rval : List Int → Option (Val × List Int)
  | [] => none
  | c :: tl => if c = 2 then rval2 tl else if c = 3 then rval3 tl else if c = 4 then rval4 tl else ok ⟨c, 0, ⟨#[]⟩⟩ tl
def ValIs (B rest : List Int) (at_ k : Nat) : Prop :=
  (rval rest = none ∧ ∃ e, e ≠ 0 ∧ value_Read.f k B (at_ : Int) = some (0, 0, ⟨#[]⟩, 0, e)) ∨
  (∃ (v : Val) (tl : List Int) (at1 : Nat), rval rest = some (v, tl) ∧ at_ < at1 ∧ at1 ≤ B.length ∧ B.drop at1 = tl ∧ value_Read.f k B (at_ : Int) = some (v.f0, v.f1, v.f2, (at1 : Int), 0))
theorem Check3 (a b : Int) (s : ByteArray) : value_Check.f a b s = some (if goodV ⟨a, b, s⟩ then 0 else 1) := Check_eq ⟨a, b, s⟩
theorem gint_some {l : List Int} {p : Int × List Int} (h : gint l = some p) : 9 ≤ l.length ∧ l.drop 9 = p.2 := by
  unfold gint at h
  split at h
  · cases h
  · rename_i h1
    split at h
    · cases h
    · have := Option.some.inj h
      rw [← this]
      exact ⟨by omega, rfl⟩
theorem valRead_eq (B rest : List Int) (at_ : Nat) (hb : Bytes_ B) (hl : B.length ≤ 65536) (ha : at_ ≤ B.length) (hd : B.drop at_ = rest) (k : Nat) (hk : 20 < k) : ValIs B rest at_ k := by
  unfold ValIs value_Read.f
  rcases rest with _ | ⟨c, tl⟩
  · rw [Get1_nil B at_ hb hl ha hd k (by omega), Option.bind_some]
    exact .inl ⟨rfl, 3, by decide, by rw [if_neg (by decide)]⟩
  · obtain ⟨a1, a2, a3, a4⟩ := at_cons hd
    rw [Get1_cons B at_ c tl hb hl ha hd k (by omega), Option.bind_some, if_pos rfl]
    by_cases h2 : c = 2
    · subst h2
      have e0 : rval (2 :: tl) = rval2 tl := rfl
      rw [if_pos rfl, e0]
      rcases tl with _ | ⟨b, t⟩
      · rw [Get1_nil B (at_ + 1) hb hl (by omega) a2 k (by omega), Option.bind_some]
        exact .inl ⟨rfl, 3, by decide, by rw [if_neg (by decide)]⟩
      · obtain ⟨b1, b2, b3, b4⟩ := at_cons a2
        have e1 : rval2 (b :: t) = ok ⟨2, b, ⟨#[]⟩⟩ t := rfl
        rw [Get1_cons B (at_ + 1) b t hb hl (by omega) a2 k (by omega), Option.bind_some, if_pos rfl, Check3, Option.bind_some, e1]
        by_cases hg : goodV ⟨2, b, ⟨#[]⟩⟩
        · rw [if_pos hg, ok_pos hg, if_pos rfl]
          exact .inr ⟨_, _, at_ + 1 + 1, rfl, by omega, by omega, b2, rfl⟩
        · rw [if_neg hg, ok_neg hg, if_neg (by decide)]
          exact .inl ⟨rfl, 3, by decide, rfl⟩
    · rw [if_neg h2]
      by_cases h3 : c = 3
      · subst h3
        have e0 : rval (3 :: tl) = rval3 tl := rfl
        rw [if_pos rfl, e0, GetInt_eq B tl (at_ + 1) hb hl (by omega) a2 k hk, Option.bind_some]
        rcases hg : gint tl with _ | ⟨n, t⟩
        · exact .inl ⟨by unfold rval3; rw [hg]; rfl, 3, by decide, rfl⟩
        · have e1 : rval3 tl = ok ⟨3, n, ⟨#[]⟩⟩ t := by unfold rval3; rw [hg]; rfl
          have h9 := gint_some hg
          simp only
          rw [if_pos trivial, Check3, Option.bind_some, e1]
          by_cases hq : goodV ⟨3, n, ⟨#[]⟩⟩
          · rw [if_pos hq, ok_pos hq, if_pos rfl]
            exact .inr ⟨_, _, at_ + 1 + 9, rfl, by omega, by omega, by rw [← List.drop_drop, a2]; exact h9.2, rfl⟩
          · rw [if_neg hq, ok_neg hq, if_neg (by decide)]
            exact .inl ⟨rfl, 3, by decide, rfl⟩
      · rw [if_neg h3]
        by_cases h4 : c = 4
        · subst h4
          have e0 : rval (4 :: tl) = rval4 tl := rfl
          rw [if_pos rfl, e0, GetText_eq B tl (at_ + 1) hb hl (by omega) a2 k (by omega), Option.bind_some]
          rcases tl with _ | ⟨b, t⟩
          · exact .inl ⟨rfl, 3, by decide, rfl⟩
          · obtain ⟨b1, b2, b3, b4⟩ := at_cons a2
            have hbb : Byte b := hb b (by have : b ∈ B.drop (at_ + 1) := by { rw [a2]; simp }; exact List.mem_of_mem_drop this)
            unfold Byte at hbb
            simp only
            by_cases h5 : b > 24 ∨ (t.length : Int) < b
            · rw [if_pos h5]
              exact .inl ⟨if_pos h5, 3, by decide, rfl⟩
            · have e1 : rval4 (b :: t) = ok ⟨4, 0, strOfNums (t.take b.toNat)⟩ (t.drop b.toNat) := if_neg h5
              rw [if_neg h5]
              simp only
              rw [if_pos trivial, Check3, Option.bind_some, e1]
              by_cases hq : goodV ⟨4, 0, strOfNums (t.take b.toNat)⟩
              · rw [if_pos hq, ok_pos hq, if_pos rfl]
                refine .inr ⟨_, _, at_ + 1 + 1 + b.toNat, rfl, by omega, by omega, by rw [← List.drop_drop, b2], ?_⟩
                rw [show ((at_ + 1 : Nat) : Int) + 1 + b = ((at_ + 1 + 1 + b.toNat : Nat) : Int) from by omega]
              · rw [if_neg hq, ok_neg hq, if_neg (by decide)]
                exact .inl ⟨rfl, 3, by decide, rfl⟩
        · have e0 : rval (c :: tl) = ok ⟨c, 0, ⟨#[]⟩⟩ tl := (if_neg h2).trans ((if_neg h3).trans (if_neg h4))
          rw [if_neg h4, Check3, Option.bind_some, e0]
          by_cases hq : goodV ⟨c, 0, ⟨#[]⟩⟩
          · rw [if_pos hq, ok_pos hq, if_pos rfl]
            exact .inr ⟨_, _, at_ + 1, rfl, by omega, by omega, a2, rfl⟩
          · rw [if_neg hq, ok_neg hq, if_neg (by decide)]
            exact .inl ⟨rfl, 3, by decide, rfl⟩
def rvals : Nat → List Int → Option (List Val × List Int)
  | 0, l => some ([], l)
  | n + 1, l => (rval l).bind fun p => (rvals n p.2).bind fun q => some (p.1 :: q.1, q.2)
def rrow : List Int → Option (List Val × List Int)
  | [] => none
  | c :: tl => if c > 12 then none else rvals c.toNat tl
theorem rvals_l0 (B : List Int) (hb : Bytes_ B) (hl : B.length ≤ 65536) (m : Nat) (hm : m ≤ 12) : ∀ (d i k at_ : Nat) (acc : List Val) (rest : List Int), i + d = m → acc.length = i → at_ ≤ B.length → B.drop at_ = rest → d + 21 < k →
    (rvals d rest = none ∧ ∃ e, e ≠ 0 ∧ row_Read.l0 k B acc (at_ : Int) (m : Int) (i : Int) = some ([], 0, e)) ∨
    (∃ (vs : List Val) (tl : List Int) (at1 : Nat), rvals d rest = some (vs, tl) ∧ at1 ≤ B.length ∧ B.drop at1 = tl ∧ row_Read.l0 k B acc (at_ : Int) (m : Int) (i : Int) = some (acc ++ vs, (at1 : Int), 0)) := by
  intro d
  induction d with
  | zero =>
    intro i k at_ acc rest h1 h2 h3 h4 hk
    obtain ⟨k, rfl⟩ : ∃ m, k = m + 1 := ⟨k - 1, by omega⟩
    simp only [row_Read.l0]
    refine .inr ⟨[], rest, at_, rfl, h3, h4, ?_⟩
    rw [if_neg (by omega), List.append_nil]
  | succ d ih =>
    intro i k at_ acc rest h1 h2 h3 h4 hk
    obtain ⟨k, rfl⟩ : ∃ m, k = m + 1 := ⟨k - 1, by omega⟩
    have hv := valRead_eq B rest at_ hb hl h3 h4 k (by omega)
    have e0 : rvals (d + 1) rest = (rval rest).bind fun p => (rvals d p.2).bind fun q => some (p.1 :: q.1, q.2) := rfl
    simp only [row_Read.l0]
    rw [if_pos (by omega), e0]
    rcases hv with ⟨hr, e, he, hv⟩ | ⟨v, t, at1, hr, hlt, hle, hd1, hv⟩
    · rw [hr, hv, Option.bind_some, if_neg he]
      exact .inl ⟨rfl, 3, by decide, rfl⟩
    · have := ih (i + 1) k at1 (acc ++ [v]) t (by omega) (by simp [h2]) hle hd1 (by omega)
      rw [hr, hv, Option.bind_some, Option.bind_some, if_pos rfl, if_pos (by omega), wrap_in _ (by omega) (by omega), show (i : Int) + 1 = ((i + 1 : Nat) : Int) from by omega]
      rcases this with ⟨g0, e, he, g1⟩ | ⟨vs, tl, at2, g0, g1, g2, g3⟩
      · rw [g0]
        exact .inl ⟨rfl, e, he, g1⟩
      · rw [g0]
        refine .inr ⟨v :: vs, tl, at2, rfl, g1, g2, ?_⟩
        rw [List.append_assoc] at g3
        exact g3
theorem rowRead_eq (B rest : List Int) (at_ : Nat) (hb : Bytes_ B) (hl : B.length ≤ 65536) (ha : at_ ≤ B.length) (hd : B.drop at_ = rest) (k : Nat) (hk : 40 < k) :
    (rrow rest = none ∧ ∃ e, e ≠ 0 ∧ row_Read.f k B (at_ : Int) = some ([], 0, e)) ∨
    (∃ (vs : List Val) (tl : List Int) (at1 : Nat), rrow rest = some (vs, tl) ∧ at1 ≤ B.length ∧ B.drop at1 = tl ∧ row_Read.f k B (at_ : Int) = some (vs, (at1 : Int), 0)) := by
  unfold row_Read.f
  rcases rest with _ | ⟨c, tl⟩
  · rw [Get1_nil B at_ hb hl ha hd k (by omega), Option.bind_some]
    exact .inl ⟨rfl, 3, by decide, by rw [if_neg (by decide)]⟩
  · obtain ⟨a1, a2, a3, a4⟩ := at_cons hd
    have hbb : Byte c := hb c (by have : c ∈ B.drop at_ := by { rw [hd]; simp }; exact List.mem_of_mem_drop this)
    unfold Byte at hbb
    rw [Get1_cons B at_ c tl hb hl ha hd k (by omega), Option.bind_some, if_pos rfl]
    by_cases h : c > 12
    · rw [if_pos h, show rrow (c :: tl) = none from if_pos h]
      exact .inl ⟨rfl, 3, by decide, rfl⟩
    · rw [if_neg h, show rrow (c :: tl) = rvals c.toNat tl from if_neg h]
      have := rvals_l0 B hb hl c.toNat (by omega) c.toNat 0 k (at_ + 1) [] tl (by omega) rfl (by omega) a2 (by omega)
      rw [show ((c.toNat : Nat) : Int) = c from by omega, show ((0 : Nat) : Int) = 0 from rfl] at this
      exact this
theorem and1_mod (x : Int) (h0 : 0 ≤ x) (h1 : x < 4294967296) : bits .and .u32 x 1 = x % 2 :=
  bits_mask .u32 32 (by decide) (fun n h0 h1 => by rw [IntKind.wrap_u32]; omega) 1 (by decide) x h0 h1
theorem shr_u8 (c : Int) (i : Nat) (hc : Byte c) (hi : i < 8) : shr .u8 c (i : Int) = ((c.toNat / 2 ^ i : Nat) : Int) := by
  obtain ⟨c0, c1⟩ := hc
  unfold shr
  have : min ((i : Int)).toNat IntKind.u8.bits = i := by
    have : IntKind.u8.bits = 8 := rfl
    omega
  rw [this]
  obtain ⟨m, rfl⟩ := Int.eq_ofNat_of_zero_le c0
  rw [Int.toNat_natCast]
  simp
theorem ref_bit (r : BitVec 32) (c : Int) (i : Nat) (hc : Byte c) (hi : i < 8) :
    (if bits .and .u32 (I r) 1 = bits .and .u32 (shr .u8 c (i : Int) % 4294967296) 1 then I r / 2 else bits .xor .u32 (I r / 2) 2197175160) = I (stp r (c.toNat.testBit i)) := by
  have hs : (c.toNat / 2 ^ i : Nat) < 4294967296 := Nat.lt_of_le_of_lt (Nat.div_le_self _ _) (by have := hc.2; omega)
  have hn := Int.natCast_nonneg (c.toNat / 2 ^ i)
  have hs' : ((c.toNat / 2 ^ i : Nat) : Int) < (4294967296 : Int) := Int.lt_of_lt_of_le (Int.ofNat_lt.2 hs) (Int.le_of_eq rfl)
  rw [shr_u8 c i hc hi, Int.emod_eq_of_lt hn hs', and1_mod _ (I_nonneg r) (I_lt r), and1_mod _ hn hs']
  clear hn hs hs'
  have hr : (I r % 2 = 1) ↔ r.getLsbD 0 = true := by rw [← and1_I, and1_mod _ (I_nonneg r) (I_lt r)]
  have hr2 : I r % 2 = 0 ∨ I r % 2 = 1 := by omega
  have hb : (((c.toNat / 2 ^ i : Nat) : Int) % 2 = 1) ↔ c.toNat.testBit i = true := by
    rw [Nat.testBit_eq_decide_div_mod_eq, decide_eq_true_eq]; omega
  have hb2 : ((c.toNat / 2 ^ i : Nat) : Int) % 2 = 0 ∨ ((c.toNat / 2 ^ i : Nat) : Int) % 2 = 1 := by omega
  generalize ((c.toNat / 2 ^ i : Nat) : Int) = v at *
  generalize c.toNat.testBit i = b at *
  unfold stp T
  rw [half_I, show (2197175160 : Int) = I P32 from by decide, xor_I]
  have sh : ∀ b : Bool, (r ^^^ (BitVec.ofBool b).setWidth 32) >>> 1 = r >>> 1 := fun b => by
    rw [BitVec.ushiftRight_xor_distrib]
    cases b <;> simp
  rw [sh]
  have lb : (r ^^^ (BitVec.ofBool b).setWidth 32).getLsbD 0 = (r.getLsbD 0 ^^ b) := by
    rw [BitVec.getLsbD_xor]; cases b <;> simp
  rw [lb]
  by_cases h : I r % 2 = v % 2
  · rw [if_pos h]
    have : (r.getLsbD 0 ^^ b) = false := by
      cases hx : r.getLsbD 0 <;> cases b <;> simp_all
    rw [this, if_neg (by decide)]
  · rw [if_neg h]
    have : (r.getLsbD 0 ^^ b) = true := by
      cases hx : r.getLsbD 0 <;> cases b <;> simp_all
    rw [this, if_pos rfl]
theorem bits8_drop (c : Int) (i : Nat) (hi : i < 8) : (bits8 c).drop i = c.toNat.testBit i :: (bits8 c).drop (i + 1) := by
  rw [List.drop_eq_getElem_cons (by rw [bits8_length]; exact hi)]
  simp [bits8]
theorem refCrc_l1 (l : List Int) (j : Nat) (hj : j < l.length) (hm : l.length ≤ 140737488355328) (hb : Bytes_ l) : ∀ (d i k : Nat) (r : BitVec 32), i + d = 8 → d < k →
    raddleref01_Crc.l1 k l (I r) (j : Int) (i : Int) = raddleref01_Crc.l0 (k - 1 - d) l (I (((bits8 (l.getD j 0)).drop i).foldl stp r)) ((j + 1 : Nat) : Int) := by
  intro d
  induction d with
  | zero =>
    intro i k r hi hk
    obtain ⟨k, rfl⟩ : ∃ m, k = m + 1 := ⟨k - 1, by omega⟩
    simp only [raddleref01_Crc.l1]
    rw [if_neg (by omega), wrap_in _ (by omega) (by omega), List.drop_of_length_le (by rw [bits8_length]; omega)]
    rfl
  | succ d ih =>
    intro i k r hi hk
    obtain ⟨k, rfl⟩ : ∃ m, k = m + 1 := ⟨k - 1, by omega⟩
    have hc : Byte (l.getD j 0) := byte_getD hb j
    simp only [raddleref01_Crc.l1]
    rw [if_pos (by omega), if_pos (by omega), if_pos (by omega), wrap_u64 _ (by omega) (by omega), if_pos (by omega), rd_nat, wrap_in ((i : Int) + 1) (by omega) (by omega), show (i : Int) + 1 = ((i + 1 : Nat) : Int) from by omega]
    have hr := ref_bit r (l.getD j 0) i hc (by omega)
    have e : k + 1 - 1 - (d + 1) = k - 1 - d := by omega
    rw [e, bits8_drop _ i (by omega), List.foldl_cons, ← ih (i + 1) k (stp r ((l.getD j 0).toNat.testBit i)) (by omega) (by omega)]
    by_cases h : bits .and .u32 (I r) 1 = bits .and .u32 (shr .u8 (l.getD j 0) (i : Int) % 4294967296) 1
    · rw [if_pos h] at hr ⊢
      rw [hr]
    · rw [if_neg h] at hr ⊢
      rw [hr]
theorem refCrc_l0 (l : List Int) (hm : l.length ≤ 140737488355328) (hb : Bytes_ l) : ∀ (d j k : Nat) (r : BitVec 32), j + d = l.length → 10 * d < k →
    raddleref01_Crc.l0 k l (I r) (j : Int) = some (I ((bitsOf (l.drop j)).foldl stp r ^^^ ones)) := by
  intro d
  induction d with
  | zero =>
    intro j k r hj hk
    obtain ⟨k, rfl⟩ : ∃ m, k = m + 1 := ⟨k - 1, by omega⟩
    simp only [raddleref01_Crc.l0]
    rw [if_neg (by omega), List.drop_of_length_le (by omega), show (4294967295 : Int) = I ones from by decide, xor_I]
    rfl
  | succ d ih =>
    intro j k r hj hk
    obtain ⟨k, rfl⟩ : ∃ m, k = m + 1 := ⟨k - 1, by omega⟩
    simp only [raddleref01_Crc.l0]
    rw [if_pos (by omega)]
    have h1 := refCrc_l1 l j (by omega) hm hb 8 0 k r (by omega) (by omega)
    rw [show ((0 : Nat) : Int) = 0 from rfl] at h1
    rw [h1, List.drop_zero, ih (j + 1) _ _ (by omega) (by omega), drop_cons l j (by omega)]
    simp [bitsOf]
theorem refCrc_eq (l : List Int) (hm : l.length ≤ 140737488355328) (hb : Bytes_ l) (k : Nat) (hk : 10 * l.length < k) : raddleref01_Crc.f k l = some (crcI l) := by
  unfold raddleref01_Crc.f
  have := refCrc_l0 l hm hb l.length 0 k ones (by omega) hk
  rw [show I ones = (4294967295 : Int) from by decide, show ((0 : Nat) : Int) = 0 from rfl, List.drop_zero] at this
  rw [this, crcI_reg l hb]
  rfl
theorem refSeal_eq (l : List Int) (hm : l.length ≤ 65532) (hb : Bytes_ l) (k : Nat) (hk : 10 * l.length < k) : raddleref01_Seal.f k l = some (sealL l, 0) := by
  unfold raddleref01_Seal.f
  rw [if_neg (by omega), refCrc_eq l (by omega) hb k hk, Option.bind_some, Twin_eq l (by omega), Option.bind_some, Option.bind_some, if_pos (by simp; omega)]
  rfl
theorem in_eq (a b c : Int) : raddleref01_in.f a b c = some (decide (b ≤ a ∧ a ≤ c)) := by
  unfold raddleref01_in.f
  by_cases h : a ≥ b
  · rw [if_pos h]; congr 1
    rw [Bool.eq_iff_iff, decide_eq_true_eq, decide_eq_true_eq]; omega
  · rw [if_neg h, decide_eq_false (by omega)]
theorem refOpen_eq (l : List Int) (hm : l.length < 140737488355328) (hb : Bytes_ l) (k : Nat) (hk : 10 * l.length + 10 < k) : raddleref01_Open.f k l = some (openL l) := by
  unfold raddleref01_Open.f openL
  rw [in_eq, Option.bind_some]
  by_cases h : l.length < 4 ∨ 65536 < l.length
  · rw [if_neg (by rw [decide_eq_true_eq]; omega), if_pos h]
  · rw [if_pos (by rw [decide_eq_true_eq]; omega), if_neg h, wrap_in _ (by omega) (by omega), if_pos (by omega), if_pos (by omega), show ((l.length : Int) - 4).toNat = l.length - 4 from by omega]
    have hl : (l.take (l.length - 4)).length = l.length - 4 := by rw [List.length_take]; omega
    rw [refSeal_eq _ (by omega) (fun c hc => hb c (List.mem_of_mem_take hc)) k (by omega), Option.bind_some, Bytes_eq (sealL (l.take (l.length - 4))) l (by rw [sealL_length]; omega) k (by rw [sealL_length]; omega), Option.bind_some, Twin_eq _ (by omega)]
    by_cases e : sealL (l.take (l.length - 4)) = l
    · rw [if_pos e, if_pos (decide_eq_true e)]; rfl
    · rw [if_neg e, if_neg (by simpa using e)]
theorem numL_cons (c : Int) : ∀ t : List Int, numL (c :: t) = c * 256 ^ t.length + numL t := by
  have h : ∀ (t : List Int) (a : Int), t.foldl (fun n c => n * 256 + c) a = a * 256 ^ t.length + numL t := by
    intro t
    induction t with
    | nil => intro a; simp [numL]
    | cons d t ih =>
      intro a
      have e : numL (d :: t) = t.foldl (fun n c => n * 256 + c) d := by simp [numL]
      rw [List.foldl_cons, ih, e, ih, List.length_cons, Int.pow_succ, Int.add_mul, Int.mul_assoc, Int.mul_comm 256]
      omega
  intro t
  have e : numL (c :: t) = t.foldl (fun n c => n * 256 + c) c := by simp [numL]
  rw [e, h]
theorem or_i64 (a c : Int) (h0 : 0 ≤ a) (h1 : a < 36028797018963968) (hc0 : 0 ≤ c) (hc1 : c < 256) : Go.bits .or .i64 (wrap64 (a * 256)) (wrap64 c) = a * 256 + c := by
  rw [wrap_in (a * 256) (by omega) (by omega), wrap_in c (by omega) (by omega)]
  exact bits_join .i64 63 (by decide) (fun n h0 h1 => (i64_w n).trans (wrap_in n (by omega) (by omega))) 8 (a * 256) c (by omega) (by omega) (by omega) hc0 (by omega) (by omega)
theorem refnum_l0 (l : List Int) (hb : Bytes_ l) (hl : l.length ≤ 8) (hx : ∀ i, i < l.length → numL (l.take i) < 36028797018963968) : ∀ (d k i : Nat), i + d = l.length → d < k → raddleref01_num.l0 k l (numL (l.take i)) (i : Int) = some (numL l) := by
  intro d
  induction d with
  | zero =>
    intro k i h1 hk
    obtain ⟨k, rfl⟩ : ∃ m, k = m + 1 := ⟨k - 1, by omega⟩
    simp only [raddleref01_num.l0]
    rw [if_neg (by omega), show i = l.length by omega, List.take_length]
  | succ d ih =>
    intro k i h1 hk
    obtain ⟨k, rfl⟩ : ∃ m, k = m + 1 := ⟨k - 1, by omega⟩
    have hi : i < l.length := by omega
    have hb1 := numL_bound i (l.take i) (by simp; omega) (Bytes_take hb i)
    have hb2 := hx i hi
    have hb3 : Byte (l.getD i 0) := byte_getD hb i
    unfold Byte at hb3
    have e := numL_snoc (l.take i) (l.getD i 0)
    rw [← take_succ_getD l i hi] at e
    simp only [raddleref01_num.l0]
    rw [if_pos (by omega), if_pos (by omega), rd_nat, or_i64 _ _ hb1.1 hb2 (by omega) (by omega), wrap_in _ (by omega) (by omega), ← e, show (i : Int) + 1 = ((i + 1 : Nat) : Int) from by omega]
    exact ih k (i + 1) (by omega) (by omega)
theorem refnum_eq (l : List Int) (hb : Bytes_ l) (hl : l.length ≤ 7) (k : Nat) (hk : 8 < k) : raddleref01_num.f k l = some (numL l) := by
  refine refnum_l0 l hb (by omega) (fun i hi => ?_) l.length k 0 (by omega) (by omega)
  have h1 := numL_bound i (l.take i) (by simp; omega) (Bytes_take hb i)
  have h2 : (256 : Int) ^ i ≤ 281474976710656 := by
    rcases i with _ | _ | _ | _ | _ | _ | _ | i <;> first | omega | decide
  omega
theorem refnum_eq8 (c : Int) (t : List Int) (hb : Bytes_ (c :: t)) (hl : t.length = 7) (hc : c ≤ 127) (k : Nat) (hk : 9 < k) : raddleref01_num.f k (c :: t) = some (numL (c :: t)) := by
  refine refnum_l0 (c :: t) hb (by simp; omega) (fun i hi => ?_) (c :: t).length k 0 (by omega) (by simp; omega)
  rcases i with _ | i
  · simp [numL]
  · rw [List.take_succ_cons, numL_cons]
    have hi2 : i < 7 := by simp at hi; omega
    have hb2 : Bytes_ (t.take i) := fun x hx => hb x (by simp [List.mem_of_mem_take hx])
    have h1 := numL_bound i (t.take i) (by simp; omega) hb2
    have hc0 := hb c (by simp)
    unfold Byte at hc0
    have hli : (t.take i).length = i := by simp; omega
    rw [hli]
    rcases i with _ | _ | _ | _ | _ | _ | _ | i
    all_goals first | (simp only [Nat.zero_add, Int.pow_zero] at h1 ⊢; omega) | (simp only [Nat.zero_add, Nat.reduceAdd] at h1 ⊢; omega) | omega
theorem refGet1_nil (B : List Int) (at_ : Nat) (_hb : Bytes_ B) (hl : B.length ≤ 65536) (ha : at_ ≤ B.length) (hd : B.drop at_ = []) (k : Nat) (hk : 10 < k) : raddleref01_Get.f k B (at_ : Int) 1 = some (0, 0, 3) := by
  obtain ⟨k, rfl⟩ : ∃ m, k = m + 1 := ⟨k - 1, by omega⟩
  have hr : ([] : List Int).length = B.length - at_ := by rw [← hd]; simp
  simp only [List.length_nil] at hr
  unfold raddleref01_Get.f
  rw [in_eq, Option.bind_some, if_pos (by decide), in_eq, Option.bind_some, decide_eq_true (by omega)]
  simp only [raddleref01_Get.j0]
  rw [if_neg (by decide), wrap_in _ (by omega) (by omega), if_pos (by omega)]
theorem refGet1_cons (B : List Int) (at_ : Nat) (c : Int) (tl : List Int) (hb : Bytes_ B) (hl : B.length ≤ 65536) (_ha : at_ ≤ B.length) (hd : B.drop at_ = c :: tl) (k : Nat) (hk : 10 < k) : raddleref01_Get.f k B (at_ : Int) 1 = some (c, ((at_ + 1 : Nat) : Int), 0) := by
  obtain ⟨k, rfl⟩ : ∃ m, k = m + 1 := ⟨k - 1, by omega⟩
  obtain ⟨a1, a2, a3, a4⟩ := at_cons hd
  unfold raddleref01_Get.f
  rw [in_eq, Option.bind_some, if_pos (by decide), in_eq, Option.bind_some, decide_eq_true (by omega)]
  simp only [raddleref01_Get.j0]
  rw [if_neg (by decide), wrap_in _ (by omega) (by omega), if_neg (by omega), wrap_in ((at_ : Int) + 1) (by omega) (by omega), if_pos (by omega), if_pos (by omega), if_pos (by omega)]
  have e : (B.take ((at_ : Int) + 1).toNat).drop (at_ : Int).toNat = [c] := by
    rw [show ((at_ : Int) + 1).toNat = at_ + 1 from by omega, Int.toNat_natCast, List.drop_take, hd, show at_ + 1 - at_ = 1 from by omega]; rfl
  have hb1 : Bytes_ [c] := by rw [← e]; exact Bytes_drop (Bytes_take hb _) _
  rw [e, refnum_eq [c] hb1 (by simp) k (by omega), Option.bind_some, show numL [c] = c from by simp [numL]]
  rfl
theorem refGetInt_eq (B rest : List Int) (at_ : Nat) (hb : Bytes_ B) (hl : B.length ≤ 65536) (ha : at_ ≤ B.length) (hd : B.drop at_ = rest) (k : Nat) (hk : 20 < k) :
    raddleref01_GetInt.f k B (at_ : Int) = some (match gint rest with | none => (0, 0, 3) | some (n, _) => (n, ((at_ + 9 : Nat) : Int), 0)) := by
  obtain ⟨k, rfl⟩ : ∃ m, k = m + 3 := ⟨k - 3, by omega⟩
  have hr : rest.length = B.length - at_ := by rw [← hd]; simp
  have bad : raddleref01_GetInt.j0 (k + 3) B (at_ : Int) true = some (0, 0, 3) := by
    simp only [raddleref01_GetInt.j0]; rfl
  unfold raddleref01_GetInt.f gint
  rw [in_eq, Option.bind_some, if_pos (decide_eq_true (by omega)), wrap_in ((B.length : Int) - at_) (by omega) (by omega)]
  by_cases h9 : rest.length < 9
  · rw [if_pos (by omega), if_pos (.inl h9), bad]
  · obtain ⟨c, tl, rfl⟩ : ∃ c tl, rest = c :: tl := by
      rcases rest with _ | ⟨c, tl⟩
      · simp at h9
      · exact ⟨c, tl, rfl⟩
    obtain ⟨a1, a2, a3, a4⟩ := at_cons hd
    have hc : (c :: tl).getD 0 0 = c := rfl
    have ht : (c :: tl).drop 1 = tl := rfl
    have h8 : 8 ≤ tl.length := by simp only [List.length_cons] at h9; omega
    rw [if_neg (by omega), if_pos (by omega), if_pos (by omega), a4, hc, ht]
    by_cases h1 : c > 1
    · rw [if_pos h1, if_pos (.inr h1), bad]
    rw [if_neg h1, if_neg (show ¬ ((c :: tl).length < 9 ∨ c > 1) from by rintro (h | h); exact h9 h; exact h1 h)]
    obtain ⟨d, tm, rfl⟩ : ∃ d tm, tl = d :: tm := by
      rcases tl with _ | ⟨d, tm⟩
      · simp at h8
      · exact ⟨d, tm, rfl⟩
    obtain ⟨b1, b2, b3, b4⟩ := at_cons a2
    have b4' : rd B ((at_ : Int) + 1) = d := by rw [show (at_ : Int) + 1 = ((at_ + 1 : Nat) : Int) from by omega]; exact b4
    rw [wrap_in ((at_ : Int) + 1) (by omega) (by omega), if_pos (by omega), if_pos (by omega), b4']
    have hbt : Bytes_ ((d :: tm).take 8) := Bytes_take (by rw [← a2]; exact Bytes_drop hb _) 8
    have hlt : ((d :: tm).take 8).length = 8 := by simp only [List.length_take]; omega
    have hn := numL_bound 8 ((d :: tm).take 8) hlt hbt
    have htk : (d :: tm).take 8 = d :: tm.take 7 := rfl
    have hl7 : (tm.take 7).length = 7 := by have := hlt; rw [htk] at this; simpa using this
    have hd0 : Byte d := hbt d (by rw [htk]; simp)
    unfold Byte at hd0
    by_cases h127 : d > 127
    · have hbig : numL ((d :: tm).take 8) > 1152921504606846976 := by
        rw [htk, numL_cons, hl7]
        have h7 := numL_bound 7 (tm.take 7) hl7 (fun x hx => hbt x (by rw [htk]; simp [hx]))
        have : (256 : Int) ^ 7 = 72057594037927936 := by decide
        omega
      rw [decide_eq_true h127, bad, if_pos (.inl hbig)]
    rw [decide_eq_false h127]
    simp only [raddleref01_GetInt.j0]
    have e : (B.take ((at_ : Int) + 9).toNat).drop ((at_ : Int) + 1).toNat = (d :: tm).take 8 := by
      rw [show ((at_ : Int) + 9).toNat = at_ + 9 from by omega, show ((at_ : Int) + 1).toNat = at_ + 1 from by omega, List.drop_take, a2]
      congr 1; omega
    have hnum : raddleref01_num.f (k + 2) ((d :: tm).take 8) = some (numL ((d :: tm).take 8)) := by
      rw [htk]
      exact refnum_eq8 d (tm.take 7) (by rw [← htk]; exact hbt) hl7 (by omega) (k + 2) (by omega)
    rw [if_neg (by decide), wrap_in ((at_ : Int) + 1) (by omega) (by omega), wrap_in ((at_ : Int) + 9) (by omega) (by omega), if_pos (by omega), if_pos (by omega), if_pos (by omega), e, hnum, Option.bind_some]
    obtain ⟨z, hz⟩ : ∃ z, z = numL ((d :: tm).take 8) := ⟨_, rfl⟩
    rw [← hz] at hn ⊢
    by_cases h2 : z > 1152921504606846976
    · rw [if_pos h2, if_pos (.inl h2)]
      simp only [raddleref01_GetInt.j1]; rfl
    · rw [if_neg h2, if_pos (by omega), if_pos (by omega), a4]
      by_cases h3 : c = 1
      · rw [if_pos h3]
        by_cases h4 : z = 0
        · rw [if_pos (.inr ⟨h3, h4⟩), show (z == 0) = true from by rw [h4]; rfl]
          simp only [raddleref01_GetInt.j1]; rfl
        · rw [if_neg (by rintro (h | h); exact h2 h; exact h4 h.2), show (z == 0) = false from by simpa using h4]
          simp only [raddleref01_GetInt.j1]
          rw [if_neg (by decide), if_pos (by omega), if_pos (by omega), a4, if_pos h3, if_pos h3, wrap_in (-z) (by omega) (by omega), wrap_in ((at_ : Int) + 9) (by omega) (by omega)]
          rfl
      · rw [if_neg h3, if_neg (by rintro (h | h); exact h2 h; exact h3 h.1)]
        simp only [raddleref01_GetInt.j1]
        rw [if_neg (by decide), if_pos (by omega), if_pos (by omega), a4, if_neg h3, if_neg h3, wrap_in ((at_ : Int) + 9) (by omega) (by omega)]
        rfl
theorem refGetText_eq (B rest : List Int) (at_ : Nat) (hb : Bytes_ B) (hl : B.length ≤ 65536) (ha : at_ ≤ B.length) (hd : B.drop at_ = rest) :
    raddleref01_GetText.f B (at_ : Int) = some (match rest with
      | [] => (⟨#[]⟩, 0, 3)
      | c :: tl => if c > 24 ∨ (tl.length : Int) < c then (⟨#[]⟩, 0, 3) else (strOfNums (tl.take c.toNat), (at_ : Int) + 1 + c, 0)) := by
  have hr : rest.length = B.length - at_ := by rw [← hd]; simp
  unfold raddleref01_GetText.f
  rw [in_eq, Option.bind_some, if_pos (decide_eq_true (by omega))]
  rcases rest with _ | ⟨c, tl⟩
  · rw [if_pos (by simp at hr; omega)]
  · obtain ⟨a1, a2, a3, a4⟩ := at_cons hd
    have hcb : Byte c := hb c (by have : c ∈ B.drop at_ := by rw [hd]; simp
                                  exact List.mem_of_mem_drop this)
    unfold Byte at hcb
    rw [if_neg (by omega), if_pos (by omega), if_pos (by omega), a4, wrap_in c (by omega) (by omega), wrap_in ((B.length : Int) - at_) (by omega) (by omega), wrap_in ((B.length : Int) - at_ - 1) (by omega) (by omega)]
    by_cases h1 : c > 24
    · rw [if_pos h1]; simp only [h1, true_or, if_true]
    · rw [if_neg h1]
      by_cases h2 : (tl.length : Int) < c
      · rw [if_pos (by omega)]; simp only [h2, or_true, if_true]
      · rw [if_neg (by omega), wrap_in ((at_ : Int) + 1) (by omega) (by omega), wrap_in ((at_ : Int) + 1 + c) (by omega) (by omega), if_pos (by omega), if_pos (by omega), if_pos (by omega)]
        simp only [h1, h2, or_self, if_false]
        have e : (B.take ((at_ : Int) + 1 + c).toNat).drop ((at_ : Int) + 1).toNat = tl.take c.toNat := by
          rw [show ((at_ : Int) + 1 + c).toNat = at_ + 1 + c.toNat from by omega, show ((at_ : Int) + 1).toNat = at_ + 1 from by omega, List.drop_take, a2]
          congr 1; omega
        rw [e]
theorem refValue_eq (v : Val) : raddleref01_Value.f v.f0 v.f1 v.f2 = some (decide (goodV v)) := by
  obtain ⟨a, b, s⟩ := v
  unfold raddleref01_Value.f goodV
  simp only [in_eq, Option.bind_some]
  by_cases h1 : a = 1
  · subst h1
    by_cases h2 : b = 0 <;> by_cases h3 : s.toList = [] <;> simp [h2, h3]
  · by_cases h2 : a = 2
    · subst h2
      by_cases h4 : 0 ≤ b ∧ b ≤ 1
      · have h5 : b = 0 ∨ b = 1 := by omega
        by_cases h3 : s.toList = [] <;> simp [h4, h5, h3]
      · have h5 : ¬ (b = 0 ∨ b = 1) := by omega
        simp [h4, h5]
    · by_cases h3 : a = 3
      · subst h3
        by_cases h4 : -1152921504606846976 ≤ b ∧ b ≤ 1152921504606846976
        · by_cases h6 : s.toList = [] <;> simp [h4, h6]
        · by_cases h6 : s.toList = [] <;> simp [h4, h6]
          all_goals (intro h7 h8; exact absurd ⟨h7, h8⟩ h4)
      · by_cases h4 : a = 4
        · subst h4
          by_cases h5 : b = 0 <;> by_cases h6 : (s.size : Int) ≤ 24 <;> simp [h5, h6]
        · simp [h1, h2, h3, h4]
theorem refV3 (a b : Int) (s : ByteArray) : raddleref01_Value.f a b s = some (decide (goodV ⟨a, b, s⟩)) := refValue_eq ⟨a, b, s⟩
def IsW (w0 W : World) (g : Nat) (B : List Int) (bad : Bool) : Prop :=
  Below w0.heap.size w0 W ∧ w0.heap.size ≤ g ∧ ∃ v, W.heap[g]? = some (.cells #[v, .bool bad] 66 (0, 0)) ∧ Kd.R (Kd.int .u8) 5 W w0.heap.size (fun k => k ≠ g) v B
theorem R_set_far {w : World} {base g : Nat} {v : Value} {B : List Int} (h : Kd.R (Kd.int .u8) 5 w base (fun k => k ≠ g) v B) (i : Nat) (u : Value) : Kd.R (Kd.int .u8) 5 (w.setCell ⟨g, i, none⟩ u) base (fun k => k ≠ g) v B := by
  obtain ⟨hok, inner, hown, hr⟩ := h
  exact ⟨hok, inner, own_move hown (fun k hk => Below.heap_setCell w ⟨g, i, none⟩ u k (hok k hk)), hr⟩
theorem IsW.below {w0 W W1 : World} {g : Nat} {B : List Int} {bad : Bool} (h : IsW w0 W g B bad) (hb : Below W.heap.size W W1) : IsW w0 W1 g B bad := by
  obtain ⟨h0, hg, v, hv, hR⟩ := h
  exact ⟨below_step h0 hb, hg, v, blk_below hv hb, Kd.R_below hR hb⟩
theorem IsW.alloc {w0 W : World} {g : Nat} {B : List Int} {bad : Bool} (h : IsW w0 W g B bad) (o : Obj) : IsW w0 (W.alloc o) g B bad := h.below (below_alloc (Below.refl _ _) o)
theorem IsW.mk2 {w0 W : World} {g : Nat} {B : List Int} {bad : Bool} {v : Value} (h0 : Below w0.heap.size w0 W) (hg : w0.heap.size ≤ g) (hv : W.heap[g]? = some (.cells #[v, .bool bad] 66 (0, 0))) (hR : Kd.R (Kd.int .u8) 5 W w0.heap.size (fun k => k ≠ g) v B) : IsW w0 W g B bad := ⟨h0, hg, v, hv, hR⟩
theorem C_set {w : World} {k : IntKind} {A : Option Addr} {n : Nat} {xs : List Int} (h : Kd.C (Kd.int k) w A n xs) {p : Addr} {u0 : Value} (hp : w.cell? p = some u0) (hne : ∀ x, u0 ≠ .int k x) (u : Value) : Kd.C (Kd.int k) (w.setCell p u) A n xs := by
  refine Kd.C_of_reads (d := (0 : Int)) (h1 := fun _ => rfl) ?_
  have hr := Kd.reads_of_C (enc := Value.int k) (d := (0 : Int)) (h1 := fun _ => rfl) h
  refine ⟨hr.1, hr.2.1, fun hn => ?_⟩
  obtain ⟨ad, e, hc⟩ := hr.2.2 hn
  refine ⟨ad, e, fun j hj => ?_⟩
  have hj2 := hc j hj
  rw [World.cell?_setCell_other]
  · exact hj2
  · intro e2
    first | rw [e2, hp] at hj2 | rw [← e2, hp] at hj2
    exact hne _ (Option.some.inj hj2)
def KeepW (w w' : World) : Prop := ∀ (k : Nat) (cs : Array Value) (t : TypeId) (fr : Nat × Nat), w.heap[k]? = some (Obj.cells cs t fr) → t ≠ 5 → t ≠ 66 → w'.heap[k]? = some (Obj.cells cs t fr)
theorem KeepW.trans {w w1 w2 : World} (h : KeepW w w1) (h2 : KeepW w1 w2) : KeepW w w2 := fun k cs t fr e a b => h2 k cs t fr (h k cs t fr e a b) a b
theorem KeepW.below {w w1 : World} (h : Below w.heap.size w w1) : KeepW w w1 := fun _ _ _ _ e _ _ => blk_below e h
theorem KeepW.set {w : World} {g : Nat} {cs : Array Value} (hg : w.heap[g]? = some (.cells cs 66 (0, 0))) (i : Nat) (u : Value) : KeepW w (w.setCell ⟨g, i, none⟩ u) := fun k cs2 t fr e _ b => by
  have hk : k ≠ g := by
    rintro rfl
    rw [hg] at e
    injection e with e
    injection e with _ e2
    exact b e2.symm
  exact (Below.heap_setCell w ⟨g, i, none⟩ u k hk).trans e
theorem KeepW.grown {w w1 : World} {base : Nat} {ok : Nat → Prop} {v : Value} {xs : List Int} (h : Kd.R (Kd.int .u8) 5 w base ok v xs) (hg : w.grownBy w1 v.ownBlock) : KeepW w w1 := fun k cs t fr e a _ => by
  refine (hg.block k (blk_lt e) (fun e2 => ?_)).trans e
  obtain ⟨cells, hc⟩ := Kd.R_typed h k e2.symm
  rw [hc] at e
  injection e with e
  injection e with _ e2
  exact a e2.symm
theorem winfo5 : (Tryz.prog.info? 5).map (fun i => (i.zero, i.size, i.bytes)) = some (some (.int .u8 0), 1, 1) := by kernel_rfl
set_option maxHeartbeats 1000000 in
set_option maxRecDepth 100000 in
theorem W_add (w0 w : World) (g : Nat) (B : List Int) (bad : Bool) (h : IsW w0 w g B bad) (A0 : Option Addr) (c0 : Nat) (l0 : List Int) (hr : Kd.C (Kd.int .u8) w A0 l0.length l0) (e : Int) (hl : B.length + l0.length < 140737488355328) :
    Calls Tryz.prog 60 #[.pointer (some ⟨g, 0, none⟩), .slice A0 l0.length c0, .int .i64 e] w fun en w' => en = .returned (.tuple #[]) ∧ IsW w0 w' g (B ++ l0) (bad || e != 0) ∧ KeepW w w' := by
  obtain ⟨h0, hg, v, hv, hR⟩ := h
  obtain ⟨Av, cv, rfl⟩ := Kd.R_slice hR
  have hc0 : w.cell? ⟨g, 0, none⟩ = some (.slice Av B.length cv) := (blk_cell hv 0).trans rfl
  have hc1 : w.cell? ⟨g, 1, none⟩ = some (.bool bad) := (blk_cell hv 1).trans rfl
  have hf0 := blk_frozen hv 0
  have hf1 := blk_frozen hv 1
  obtain ⟨b1, hb1⟩ : ∃ b1, b1 = (bad || e != 0) := ⟨_, rfl⟩
  have HL := Aside0.mk hl
  have HB := Aside0.mk (below_set h0 hg : Below w0.heap.size w0 (w.setCell ⟨g, 1, none⟩ (.bool b1)))
  have HR := Aside0.mk (C_set hr hc1 (fun x => by simp) (.bool b1))
  have HV := Aside0.mk (blk_set hv 1 (.bool b1))
  have HO := Aside0.mk (R_set_far hR 1 (.bool b1))
  have HG := Aside0.mk hg
  have HS := Aside0.mk (below_size HB.out)
  have HF := Aside0.mk (blk_lt HV.out)
  have HK := Aside0.mk (KeepW.set hv 1 (.bool b1))
  clear hl h0 hr hv hR hg
  have fin : ∀ (v1 : Value) (w3 : World), Kd.R (Kd.int .u8) 5 w3 w0.heap.size (fun k => k ≠ g) v1 (B ++ l0) → Below w0.heap.size w0 w3 → w3.heap[g]? = some (.cells #[.slice Av B.length cv, .bool b1] 66 (0, 0)) →
      IsW w0 (w3.setCell ⟨g, 0, none⟩ v1) g (B ++ l0) b1 := fun v1 w3 ho hb hv3 =>
    IsW.mk2 (v := v1) (below_set hb HG.out) HG.out (blk_put hv3 0 v1 rfl) (R_set_far ho 0 v1)
  have FIN := Aside0.mk fin
  clear fin
  cases bad
  · by_cases he : e = 0
    · subst he
      obtain rfl : b1 = false := hb1
      go_enter Tryz.func60, Tryz.ntmps60
      go_wp2_with (first | ((with_reducible refine gate_builtin (b := .append) (xs := #[.tmp 21, .tmp 22]) rfl ?_); at_builtin; refine Kd.R_append_rows (Kd.int .u8) (w0 := w0) w0.heap.size rfl (.tmp 21) (.tmp 22) 33 5 (.int .u8 0) 1 rfl Tryz.underlying33 winfo5 rfl (by decide) (by omega) (.slice Av B.length cv) B l0 _ _ _ (fun k => k ≠ g) (fun _ => False) rfl rfl HO.out HR.out (fun _ _ h => h) (fun _ h => h.elim) (fun k hk e_ => by have := HF.out; omega) HB.out HS.out (by have := HL.out; omega) ?_; intro v1 w3 ho hb hgw hat; obtain ⟨A1, c1, rfl⟩ := Kd.R_slice ho; have hv3 := blk_grown HV.out hgw (fun e_ => HO.out.1 g e_.symm rfl); have hd0 : w3.cell? ⟨g, 0, none⟩ = some (.slice Av B.length cv) := (blk_cell hv3 0).trans rfl; have hd1 := blk_frozen hv3 0; have FN := Aside0.mk (FIN.out _ _ ho hb hv3); have FK := Aside0.mk ((HK.out.trans (KeepW.grown HO.out hgw)).trans (KeepW.set hv3 0 (.slice A1 (B ++ l0).length c1))); rw [List.length_append] at FN FK; clear ho hb hgw hat hv3))
      go_end0
      exact ⟨rfl, FN.out, FK.out⟩
    · have he2 : (e != 0) = true := bne_iff_ne.2 he
      obtain rfl : b1 = true := by rw [hb1, he2]; rfl
      clear he hb1
      go_enter Tryz.func60, Tryz.ntmps60
      go_wp2_with (first | ((with_reducible refine gate_builtin (b := .append) (xs := #[.tmp 21, .tmp 22]) rfl ?_); at_builtin; refine Kd.R_append_rows (Kd.int .u8) (w0 := w0) w0.heap.size rfl (.tmp 21) (.tmp 22) 33 5 (.int .u8 0) 1 rfl Tryz.underlying33 winfo5 rfl (by decide) (by omega) (.slice Av B.length cv) B l0 _ _ _ (fun k => k ≠ g) (fun _ => False) rfl rfl HO.out HR.out (fun _ _ h => h) (fun _ h => h.elim) (fun k hk e_ => by have := HF.out; omega) HB.out HS.out (by have := HL.out; omega) ?_; intro v1 w3 ho hb hgw hat; obtain ⟨A1, c1, rfl⟩ := Kd.R_slice ho; have hv3 := blk_grown HV.out hgw (fun e_ => HO.out.1 g e_.symm rfl); have hd0 : w3.cell? ⟨g, 0, none⟩ = some (.slice Av B.length cv) := (blk_cell hv3 0).trans rfl; have hd1 := blk_frozen hv3 0; have FN := Aside0.mk (FIN.out _ _ ho hb hv3); have FK := Aside0.mk ((HK.out.trans (KeepW.grown HO.out hgw)).trans (KeepW.set hv3 0 (.slice A1 (B ++ l0).length c1))); rw [List.length_append] at FN FK; clear ho hb hgw hat hv3))
      go_end0
      exact ⟨rfl, by show IsW _ _ _ _ (false || e != 0); rw [he2]; exact FN.out, FK.out⟩
  · obtain rfl : b1 = true := hb1
    go_enter Tryz.func60, Tryz.ntmps60
    go_wp2_with (first | ((with_reducible refine gate_builtin (b := .append) (xs := #[.tmp 21, .tmp 22]) rfl ?_); at_builtin; refine Kd.R_append_rows (Kd.int .u8) (w0 := w0) w0.heap.size rfl (.tmp 21) (.tmp 22) 33 5 (.int .u8 0) 1 rfl Tryz.underlying33 winfo5 rfl (by decide) (by omega) (.slice Av B.length cv) B l0 _ _ _ (fun k => k ≠ g) (fun _ => False) rfl rfl HO.out HR.out (fun _ _ h => h) (fun _ h => h.elim) (fun k hk e_ => by have := HF.out; omega) HB.out HS.out (by have := HL.out; omega) ?_; intro v1 w3 ho hb hgw hat; obtain ⟨A1, c1, rfl⟩ := Kd.R_slice ho; have hv3 := blk_grown HV.out hgw (fun e_ => HO.out.1 g e_.symm rfl); have hd0 : w3.cell? ⟨g, 0, none⟩ = some (.slice Av B.length cv) := (blk_cell hv3 0).trans rfl; have hd1 := blk_frozen hv3 0; have FN := Aside0.mk (FIN.out _ _ ho hb hv3); have FK := Aside0.mk ((HK.out.trans (KeepW.grown HO.out hgw)).trans (KeepW.set hv3 0 (.slice A1 (B ++ l0).length c1))); rw [List.length_append] at FN FK; clear ho hb hgw hat hv3))
    go_end0
    exact ⟨rfl, FN.out, FK.out⟩
def wadd (b : List Int × Int) (st : List Int × Bool) : List Int × Bool := (st.1 ++ b.1, st.2 || b.2 != 0)
def wnum (s : Nat) (n : Int) (st : List Int × Bool) : List Int × Bool := wadd (putL s n) st
def wtext (t : ByteArray) (st : List Int × Bool) : List Int × Bool := wadd (putT t) st
def wbad (b : Bool) (st : List Int × Bool) : List Int × Bool := (st.1, st.2 || b)
def wdot (a b : Int) (st : List Int × Bool) : List Int × Bool := wnum 4 b (wnum 1 a st)
def wstamp (a b c : Int) (st : List Int × Bool) : List Int × Bool := wnum 1 c (wnum 3 b (wnum 6 a st))
def wints (l : List Int) (st : List Int × Bool) : List Int × Bool := l.foldl (fun s n => wnum 4 n s) st
def wnums (l : List Int) (st : List Int × Bool) : List Int × Bool := wints l (wnum 1 (l.length : Int) (wbad (decide ((l.length : Int) > 5)) st))
theorem wnum_len (s : Nat) (n : Int) (st : List Int × Bool) : (wnum s n st).1.length ≤ st.1.length + s := by
  have := putL_length s n
  simp only [wnum, wadd, List.length_append]; omega
theorem wtext_len (t : ByteArray) (st : List Int × Bool) : (wtext t st).1.length ≤ st.1.length + 25 := by
  have := putT_length t
  simp only [wtext, wadd, List.length_append]; omega
theorem wdot_len (a b : Int) (st : List Int × Bool) : (wdot a b st).1.length ≤ st.1.length + 5 := by
  have h1 := wnum_len 4 b (wnum 1 a st)
  have h2 := wnum_len 1 a st
  unfold wdot; omega
theorem wstamp_len (a b c : Int) (st : List Int × Bool) : (wstamp a b c st).1.length ≤ st.1.length + 10 := by
  have h1 := wnum_len 1 c (wnum 3 b (wnum 6 a st))
  have h2 := wnum_len 3 b (wnum 6 a st)
  have h3 := wnum_len 6 a st
  unfold wstamp; omega
theorem wints_len : ∀ (l : List Int) (st : List Int × Bool), (wints l st).1.length ≤ st.1.length + 4 * l.length
  | [], st => by simp [wints]
  | n :: l, st => by
    have h1 := wints_len l (wnum 4 n st)
    have h2 := wnum_len 4 n st
    simp only [wints, List.foldl_cons, List.length_cons] at h1 ⊢; omega
theorem wnums_len (l : List Int) (st : List Int × Bool) : (wnums l st).1.length ≤ st.1.length + 1 + 4 * l.length := by
  have h1 := wints_len l (wnum 1 (l.length : Int) (wbad (decide ((l.length : Int) > 5)) st))
  have h2 := wnum_len 1 (l.length : Int) (wbad (decide ((l.length : Int) > 5)) st)
  have h3 : (wbad (decide ((l.length : Int) > 5)) st).1 = st.1 := rfl
  rw [h3] at h2
  unfold wnums; omega
theorem wints_take (l : List Int) (k : Nat) (h : k < l.length) (st : List Int × Bool) : wints (l.take (k + 1)) st = wnum 4 (l.getD k 0) (wints (l.take k) st) := by
  unfold wints
  rw [List.take_succ_eq_append_getElem h, List.foldl_append]
  simp [List.getD_eq_getElem?_getD, h]
set_option maxHeartbeats 1000000 in
set_option maxRecDepth 100000 in
theorem W_num (w0 w : World) (g : Nat) (st : List Int × Bool) (h : IsW w0 w g st.1 st.2) (n z : Int) (s : Nat) (hz : z = (s : Int)) (h1 : 1 ≤ s) (h7 : s ≤ 7) (hl : st.1.length < 1000000000) :
    Calls Tryz.prog 28 #[.pointer (some ⟨g, 0, none⟩), .int .i64 n, .int .i64 z] w fun en w' => en = .returned (.tuple #[]) ∧ IsW w0 w' g (wnum s n st).1 (wnum s n st).2 ∧ KeepW w w' := by
  subst hz
  have H := Aside0.mk h
  have HL := Aside0.mk hl
  have hP := Put_eq n s h1 h7 100 (by omega)
  have HP := Aside0.mk hP
  have HQ := Aside0.mk (putL_length s n)
  have H7 := Aside0.mk h7
  clear h hl hP h1 h7
  go_enter Tryz.func28, Tryz.ntmps28
  go_wp2_with (first
    | (go_at_call 59; refine (wire_Put.calls 100 none 0 [] n (s : Int) (putL s n).1 (putL s n).2 _ (Kd.C_nil _ _) (Nat.le_refl _) HP.out).mono ?_; rintro e w1 ⟨v, rfl, ho, hb⟩; obtain ⟨A1, c1, rfl⟩ := Kd.R_slice ho; have HC := Aside0.mk (Kd.R_reads' ho).2.2; have H1 := Aside0.mk (H.out.below hb); have K1 := Aside0.mk (KeepW.below hb); clear ho hb)
    | (go_at_call 60; refine (W_add w0 _ g st.1 st.2 H1.out A1 c1 (putL s n).1 HC.out (putL s n).2 (by have := HL.out; have := HQ.out; have := H7.out; omega)).mono ?_; rintro e w2 ⟨rfl, hi, hk⟩; have H2 := Aside0.mk hi; have K2 := Aside0.mk (K1.out.trans hk); clear hi hk))
  go_end0
  exact ⟨rfl, H2.out, K2.out⟩
set_option maxHeartbeats 1000000 in
set_option maxRecDepth 100000 in
theorem W_text (w0 w : World) (g : Nat) (st : List Int × Bool) (h : IsW w0 w g st.1 st.2) (t : ByteArray) (hl : st.1.length < 1000000000) :
    Calls Tryz.prog 63 #[.pointer (some ⟨g, 0, none⟩), .string t] w fun en w' => en = .returned (.tuple #[]) ∧ IsW w0 w' g (wtext t st).1 (wtext t st).2 ∧ KeepW w w' := by
  have H := Aside0.mk h
  have HL := Aside0.mk hl
  have HP := Aside0.mk (PutText_eq t)
  have HQ := Aside0.mk (putT_length t)
  clear h hl
  go_enter Tryz.func63, Tryz.ntmps63
  go_wp2_with (first
    | (go_at_call 99; refine (wire_PutText.calls none 0 [] t (putT t).1 (putT t).2 _ (Kd.C_nil _ _) (Nat.le_refl _) HP.out).mono ?_; rintro e w1 ⟨v, rfl, ho, hb⟩; obtain ⟨A1, c1, rfl⟩ := Kd.R_slice ho; have HC := Aside0.mk (Kd.R_reads' ho).2.2; have H1 := Aside0.mk (H.out.below hb); have K1 := Aside0.mk (KeepW.below hb); clear ho hb)
    | (go_at_call 60; refine (W_add w0 _ g st.1 st.2 H1.out A1 c1 (putT t).1 HC.out (putT t).2 (by have := HL.out; have := HQ.out; omega)).mono ?_; rintro e w2 ⟨rfl, hi, hk⟩; have H2 := Aside0.mk hi; have K2 := Aside0.mk (K1.out.trans hk); clear hi hk))
  go_end0
  exact ⟨rfl, H2.out, K2.out⟩
set_option maxHeartbeats 1000000 in
set_option maxRecDepth 100000 in
theorem W_dot (w0 w : World) (g : Nat) (st : List Int × Bool) (h : IsW w0 w g st.1 st.2) (a b : Int) (hl : st.1.length < 900000000) :
    Calls Tryz.prog 61 #[.pointer (some ⟨g, 0, none⟩), .agg #[.int .i64 a, .int .i64 b]] w fun en w' => en = .returned (.tuple #[]) ∧ IsW w0 w' g (wdot a b st).1 (wdot a b st).2 ∧ KeepW w w' := by
  have H := Aside0.mk (h.alloc (.cells #[.int .i64 a, .int .i64 b] 46))
  have HL := Aside0.mk hl
  have HQ := Aside0.mk (wnum_len 1 a st)
  have K0 := Aside0.mk (KeepW.below (below_alloc (Below.refl _ w) (.cells #[.int .i64 a, .int .i64 b] 46)))
  have HD := Aside0.mk (heap_alloc_new w (.cells #[.int .i64 a, .int .i64 b] 46))
  clear h hl
  go_enter Tryz.func61, Tryz.ntmps61
  go_wp2_with fail
  refine (W_num w0 _ g st H.out a 1 1 rfl (by omega) (by omega) (by have := HL.out; omega)).mono ?_
  rintro e w1 ⟨rfl, hi, hk⟩
  have H1 := Aside0.mk hi
  have D1 := hk _ _ _ _ HD.out (by decide) (by decide)
  have K1 := Aside0.mk (K0.out.trans hk)
  have hd : w1.cell? ⟨w.heap.size, 1, none⟩ = some (.int .i64 b) := (blk_cell D1 1).trans rfl
  clear hi hk D1
  go_wp2_with fail
  refine (W_num w0 _ g (wnum 1 a st) H1.out b 4 4 rfl (by omega) (by omega) (by have := HL.out; have := HQ.out; omega)).mono ?_
  rintro e w2 ⟨rfl, hi, hk⟩
  have H2 := Aside0.mk hi
  have K2 := Aside0.mk (K1.out.trans hk)
  clear hi hk
  go_wp2
  go_end0
  exact ⟨rfl, H2.out, K2.out⟩
set_option maxHeartbeats 2000000 in
set_option maxRecDepth 100000 in
theorem W_stamp (w0 w : World) (g : Nat) (st : List Int × Bool) (h : IsW w0 w g st.1 st.2) (a b c : Int) (hl : st.1.length < 900000000) :
    Calls Tryz.prog 62 #[.pointer (some ⟨g, 0, none⟩), .agg #[.int .i64 a, .int .i64 b, .int .i64 c]] w fun en w' => en = .returned (.tuple #[]) ∧ IsW w0 w' g (wstamp a b c st).1 (wstamp a b c st).2 ∧ KeepW w w' := by
  have H := Aside0.mk (h.alloc (.cells #[.int .i64 a, .int .i64 b, .int .i64 c] 48))
  have HL := Aside0.mk hl
  have HQ1 := Aside0.mk (wnum_len 6 a st)
  have HQ2 := Aside0.mk (wnum_len 3 b (wnum 6 a st))
  have K0 := Aside0.mk (KeepW.below (below_alloc (Below.refl _ w) (.cells #[.int .i64 a, .int .i64 b, .int .i64 c] 48)))
  have HD := Aside0.mk (heap_alloc_new w (.cells #[.int .i64 a, .int .i64 b, .int .i64 c] 48))
  clear h hl
  go_enter Tryz.func62, Tryz.ntmps62
  go_wp2_with fail
  refine (W_num w0 _ g st H.out a 6 6 rfl (by omega) (by omega) (by have := HL.out; omega)).mono ?_
  rintro e w1 ⟨rfl, hi, hk⟩
  have H1 := Aside0.mk hi
  have K1 := Aside0.mk (K0.out.trans hk)
  have D1 := Aside0.mk (hk _ _ _ _ HD.out (by decide) (by decide))
  have hc1 := fun i => blk_cell D1.out i
  have hf1 := fun i => blk_frozen D1.out i
  clear hi hk
  go_wp2_with fail
  refine (W_num w0 _ g (wnum 6 a st) H1.out b 3 3 rfl (by omega) (by omega) (by have := HL.out; have := HQ1.out; omega)).mono ?_
  rintro e w2 ⟨rfl, hi, hk⟩
  have H2 := Aside0.mk hi
  have K2 := Aside0.mk (K1.out.trans hk)
  have D2 := Aside0.mk (hk _ _ _ _ D1.out (by decide) (by decide))
  have hc2 := fun i => blk_cell D2.out i
  have hf2 := fun i => blk_frozen D2.out i
  clear hi hk
  go_wp2_with fail
  refine (W_num w0 _ g (wnum 3 b (wnum 6 a st)) H2.out c 1 1 rfl (by omega) (by omega) (by have := HL.out; have := HQ1.out; have := HQ2.out; omega)).mono ?_
  rintro e w3 ⟨rfl, hi, hk⟩
  have H3 := Aside0.mk hi
  have K3 := Aside0.mk (K2.out.trans hk)
  have D3 := Aside0.mk (hk _ _ _ _ D2.out (by decide) (by decide))
  have hc3 := fun i => blk_cell D3.out i
  have hf3 := fun i => blk_frozen D3.out i
  clear hi hk
  go_wp2
  go_end0
  exact ⟨rfl, H3.out, K3.out⟩
set_option maxHeartbeats 2000000 in
set_option maxRecDepth 100000 in
theorem W_nums (w0 w : World) (g : Nat) (st : List Int × Bool) (h : IsW w0 w g st.1 st.2) (A0 : Option Addr) (c0 : Nat) (l0 : List Int) (hr : Kd.C (Kd.int .i64) w0 A0 l0.length l0) (hl : st.1.length < 500000000) (hn : l0.length < 10000000) :
    Calls Tryz.prog 29 #[.pointer (some ⟨g, 0, none⟩), .slice A0 l0.length c0] w fun en w' => en = .returned (.tuple #[]) ∧ IsW w0 w' g (wnums l0 st).1 (wnums l0 st).2 ∧ KeepW w w' := by
  obtain ⟨B, bad⟩ := st
  obtain ⟨h0, hg, v, hv, hR⟩ := h
  have hc1 : w.cell? ⟨g, 1, none⟩ = some (.bool bad) := (blk_cell hv 1).trans rfl
  have hf1 := blk_frozen hv 1
  obtain ⟨b1, hb1⟩ : ∃ b1, b1 = (bad || decide ((l0.length : Int) > 5)) := ⟨_, rfl⟩
  have H := Aside0.mk (show IsW w0 (w.setCell ⟨g, 1, none⟩ (.bool b1)) g B b1 from IsW.mk2 (v := v) (below_set h0 hg) hg (blk_set hv 1 (.bool b1)) (R_set_far hR 1 (.bool b1)))
  have K0 := Aside0.mk (KeepW.set hv 1 (.bool b1))
  have HL := Aside0.mk (show B.length < 500000000 from hl)
  have HN := Aside0.mk hn
  have HR := Aside0.mk hr
  obtain ⟨ST, hST⟩ : ∃ ST, ST = wnum 1 (l0.length : Int) (wbad (decide ((l0.length : Int) > 5)) (B, bad)) := ⟨_, rfl⟩
  have HS := Aside0.mk (show wnum 1 (l0.length : Int) (B, b1) = ST from by rw [hST, hb1]; rfl)
  have HM := Aside0.mk (show ST.1.length < 600000000 from by
    have := wnum_len 1 (l0.length : Int) (B, b1)
    rw [HS.out] at this
    have := HL.out
    simp only at *
    omega)
  have HF := Aside0.mk (show wints l0 ST = wnums l0 (B, bad) from by rw [hST]; rfl)
  clear hST
  clear h0 hg hv hR hl hr
  go_enter Tryz.func29, Tryz.ntmps29
  have hb2 : bad = true ∨ (bad = false ∧ l0.length > 5) ∨ (bad = false ∧ ¬ l0.length > 5) := by cases bad <;> by_cases h : l0.length > 5 <;> simp_all
  rcases hb2 with rfl | ⟨rfl, h5⟩ | ⟨rfl, h5⟩
  · obtain rfl : b1 = true := by rw [hb1]; rfl
    clear hb1
    go_wp2_with fail
    refine (W_num w0 _ g (B, true) H.out (l0.length : Int) 1 1 rfl (by omega) (by omega) (by have := HL.out; simp only; omega)).mono ?_
    rintro e w1 ⟨rfl, hi, hk⟩
    rw [HS.out] at hi
    have H1 := Aside0.mk hi
    have K1 := Aside0.mk (K0.out.trans hk)
    clear hi hk
    go_wp2
    go_loopw [24] (fun v wr => ∃ k : Nat, k ≤ l0.length ∧ v = .int .i64 k ∧ Aside0 (IsW w0 wr g (wints (l0.take k) ST).1 (wints (l0.take k) ST).2) ∧ Aside0 (KeepW w wr)) (fun v _ => l0.length - (intOf v).toNat)
    case atStart => exact ⟨0, by omega, rfl, H1, K1⟩
    case round =>
      obtain ⟨k, hk, rfl, HI, HK⟩ := hrel
      by_cases hlt : k < l0.length
      · obtain ⟨ad, e, hc0⟩ := Kd.at_int (Kd.C_below HR.out HI.out.1) (k : Int) (by omega) (by omega)
        subst e
        rw [Int.toNat_natCast, show rd l0 (k : Int) = l0.getD k 0 from by simp [rd]] at hc0
        have HT := Aside0.mk (wints_take l0 k hlt ST)
        have HZ := Aside0.mk (wints_len (l0.take k) ST)
        have HTk := Aside0.mk (List.length_take_le k l0)
        obtain ⟨x, hx⟩ : ∃ x, x = l0.getD k 0 := ⟨_, rfl⟩
        rw [← hx] at hc0 HT
        clear hx
        go_wp2_with fail
        refine (W_num w0 _ g (wints (l0.take k) ST) HI.out x 4 4 rfl (by omega) (by omega) (by have := HZ.out; have := HTk.out; have := HN.out; have := HM.out; omega)).mono ?_
        rintro e w2 ⟨rfl, hi, hk2⟩
        rw [← HT.out] at hi
        have H2 := Aside0.mk hi
        have K2 := Aside0.mk (HK.out.trans hk2)
        clear hi hk2
        go_wp2
        go_roundw
        case rel => exact ⟨k + 1, by omega, by go_num, H2, K2⟩
        case measure => simp [intOf]; omega
      · obtain rfl : k = l0.length := by omega
        have HE := Aside0.mk (show wints (l0.take l0.length) ST = wnums l0 (B, true) from by rw [List.take_length]; exact HF.out)
        rw [HE.out] at HI
        go_wp2
        go_end0
        exact ⟨rfl, HI.out, HK.out⟩
  · have h6 : ((l0.length : Int) > 5) := by omega
    obtain rfl : b1 = true := by rw [hb1, decide_eq_true h6]; rfl
    clear hb1
    go_wp2_with fail
    refine (W_num w0 _ g (B, true) H.out (l0.length : Int) 1 1 rfl (by omega) (by omega) (by have := HL.out; simp only; omega)).mono ?_
    rintro e w1 ⟨rfl, hi, hk⟩
    rw [HS.out] at hi
    have H1 := Aside0.mk hi
    have K1 := Aside0.mk (K0.out.trans hk)
    clear hi hk
    go_wp2
    go_loopw [24] (fun v wr => ∃ k : Nat, k ≤ l0.length ∧ v = .int .i64 k ∧ Aside0 (IsW w0 wr g (wints (l0.take k) ST).1 (wints (l0.take k) ST).2) ∧ Aside0 (KeepW w wr)) (fun v _ => l0.length - (intOf v).toNat)
    case atStart => exact ⟨0, by omega, rfl, H1, K1⟩
    case round =>
      obtain ⟨k, hk, rfl, HI, HK⟩ := hrel
      by_cases hlt : k < l0.length
      · obtain ⟨ad, e, hc0⟩ := Kd.at_int (Kd.C_below HR.out HI.out.1) (k : Int) (by omega) (by omega)
        subst e
        rw [Int.toNat_natCast, show rd l0 (k : Int) = l0.getD k 0 from by simp [rd]] at hc0
        have HT := Aside0.mk (wints_take l0 k hlt ST)
        have HZ := Aside0.mk (wints_len (l0.take k) ST)
        have HTk := Aside0.mk (List.length_take_le k l0)
        obtain ⟨x, hx⟩ : ∃ x, x = l0.getD k 0 := ⟨_, rfl⟩
        rw [← hx] at hc0 HT
        clear hx
        go_wp2_with fail
        refine (W_num w0 _ g (wints (l0.take k) ST) HI.out x 4 4 rfl (by omega) (by omega) (by have := HZ.out; have := HTk.out; have := HN.out; have := HM.out; omega)).mono ?_
        rintro e w2 ⟨rfl, hi, hk2⟩
        rw [← HT.out] at hi
        have H2 := Aside0.mk hi
        have K2 := Aside0.mk (HK.out.trans hk2)
        clear hi hk2
        go_wp2
        go_roundw
        case rel => exact ⟨k + 1, by omega, by go_num, H2, K2⟩
        case measure => simp [intOf]; omega
      · obtain rfl : k = l0.length := by omega
        have HE := Aside0.mk (show wints (l0.take l0.length) ST = wnums l0 (B, false) from by rw [List.take_length]; exact HF.out)
        rw [HE.out] at HI
        go_wp2
        go_end0
        exact ⟨rfl, HI.out, HK.out⟩
  · have h6 : ¬ ((l0.length : Int) > 5) := by omega
    obtain rfl : b1 = false := by rw [hb1, decide_eq_false h6]; rfl
    clear hb1
    go_wp2_with fail
    refine (W_num w0 _ g (B, false) H.out (l0.length : Int) 1 1 rfl (by omega) (by omega) (by have := HL.out; simp only; omega)).mono ?_
    rintro e w1 ⟨rfl, hi, hk⟩
    rw [HS.out] at hi
    have H1 := Aside0.mk hi
    have K1 := Aside0.mk (K0.out.trans hk)
    clear hi hk
    go_wp2
    go_loopw [24] (fun v wr => ∃ k : Nat, k ≤ l0.length ∧ v = .int .i64 k ∧ Aside0 (IsW w0 wr g (wints (l0.take k) ST).1 (wints (l0.take k) ST).2) ∧ Aside0 (KeepW w wr)) (fun v _ => l0.length - (intOf v).toNat)
    case atStart => exact ⟨0, by omega, rfl, H1, K1⟩
    case round =>
      obtain ⟨k, hk, rfl, HI, HK⟩ := hrel
      by_cases hlt : k < l0.length
      · obtain ⟨ad, e, hc0⟩ := Kd.at_int (Kd.C_below HR.out HI.out.1) (k : Int) (by omega) (by omega)
        subst e
        rw [Int.toNat_natCast, show rd l0 (k : Int) = l0.getD k 0 from by simp [rd]] at hc0
        have HT := Aside0.mk (wints_take l0 k hlt ST)
        have HZ := Aside0.mk (wints_len (l0.take k) ST)
        have HTk := Aside0.mk (List.length_take_le k l0)
        obtain ⟨x, hx⟩ : ∃ x, x = l0.getD k 0 := ⟨_, rfl⟩
        rw [← hx] at hc0 HT
        clear hx
        go_wp2_with fail
        refine (W_num w0 _ g (wints (l0.take k) ST) HI.out x 4 4 rfl (by omega) (by omega) (by have := HZ.out; have := HTk.out; have := HN.out; have := HM.out; omega)).mono ?_
        rintro e w2 ⟨rfl, hi, hk2⟩
        rw [← HT.out] at hi
        have H2 := Aside0.mk hi
        have K2 := Aside0.mk (HK.out.trans hk2)
        clear hi hk2
        go_wp2
        go_roundw
        case rel => exact ⟨k + 1, by omega, by go_num, H2, K2⟩
        case measure => simp [intOf]; omega
      · obtain rfl : k = l0.length := by omega
        have HE := Aside0.mk (show wints (l0.take l0.length) ST = wnums l0 (B, false) from by rw [List.take_length]; exact HF.out)
        rw [HE.out] at HI
        go_wp2
        go_end0
        exact ⟨rfl, HI.out, HK.out⟩
abbrev Opr := S52
abbrev Dt := S46
def wdots (l : List Dt) (st : List Int × Bool) : List Int × Bool := l.foldl (fun s d => wdot d.f0 d.f1 s) st
theorem wdots_len : ∀ (l : List Dt) (st : List Int × Bool), (wdots l st).1.length ≤ st.1.length + 5 * l.length
  | [], st => by simp [wdots]
  | d :: l, st => by
    have h1 := wdots_len l (wdot d.f0 d.f1 st)
    have h2 := wdot_len d.f0 d.f1 st
    simp only [wdots, List.foldl_cons, List.length_cons] at h1 ⊢; omega
theorem wdots_take (l : List Dt) (k : Nat) (h : k < l.length) (st : List Int × Bool) : wdots (l.take (k + 1)) st = wdot (l.getD k z46).f0 (l.getD k z46).f1 (wdots (l.take k) st) := by
  unfold wdots
  rw [List.take_succ_eq_append_getElem h, List.foldl_append]
  simp [List.getD_eq_getElem?_getD, h]
def wrow (l : List Val) (st : List Int × Bool) : List Int × Bool := wadd (rowB l) st
theorem wrow_len (l : List Val) (st : List Int × Bool) : (wrow l st).1.length ≤ st.1.length + 320 := by
  have := rowB_length l
  simp only [wrow, wadd, List.length_append]; omega
def wop1 (x : Opr) (st : List Int × Bool) : List Int × Bool := wrow x.f7 (wnum 1 x.f6 (wtext x.f5 (wnum 1 x.f4 (wstamp x.f2.f0 x.f2.f1 x.f2.f2 (wnums x.f1 (wdot x.f0.f0 x.f0.f1 (wnum 1 x.f3 st)))))))
def wop2 (x : Opr) (st : List Int × Bool) : List Int × Bool := wnum 1 (x.f8.length : Int) (wbad (decide ((x.f8.length : Int) > 64)) (wop1 x st))
def wop (x : Opr) (st : List Int × Bool) : List Int × Bool := wdots x.f8 (wop2 x st)
theorem wop1_len (x : Opr) (st : List Int × Bool) : (wop1 x st).1.length ≤ st.1.length + 364 + 4 * x.f1.length := by
  have h1 := wrow_len x.f7 (wnum 1 x.f6 (wtext x.f5 (wnum 1 x.f4 (wstamp x.f2.f0 x.f2.f1 x.f2.f2 (wnums x.f1 (wdot x.f0.f0 x.f0.f1 (wnum 1 x.f3 st)))))))
  have h2 := wnum_len 1 x.f6 (wtext x.f5 (wnum 1 x.f4 (wstamp x.f2.f0 x.f2.f1 x.f2.f2 (wnums x.f1 (wdot x.f0.f0 x.f0.f1 (wnum 1 x.f3 st))))))
  have h3 := wtext_len x.f5 (wnum 1 x.f4 (wstamp x.f2.f0 x.f2.f1 x.f2.f2 (wnums x.f1 (wdot x.f0.f0 x.f0.f1 (wnum 1 x.f3 st)))))
  have h4 := wnum_len 1 x.f4 (wstamp x.f2.f0 x.f2.f1 x.f2.f2 (wnums x.f1 (wdot x.f0.f0 x.f0.f1 (wnum 1 x.f3 st))))
  have h5 := wstamp_len x.f2.f0 x.f2.f1 x.f2.f2 (wnums x.f1 (wdot x.f0.f0 x.f0.f1 (wnum 1 x.f3 st)))
  have h6 := wnums_len x.f1 (wdot x.f0.f0 x.f0.f1 (wnum 1 x.f3 st))
  have h7 := wdot_len x.f0.f0 x.f0.f1 (wnum 1 x.f3 st)
  have h8 := wnum_len 1 x.f3 st
  unfold wop1; omega
theorem wop2_len (x : Opr) (st : List Int × Bool) : (wop2 x st).1.length ≤ st.1.length + 365 + 4 * x.f1.length := by
  have h1 := wnum_len 1 (x.f8.length : Int) (wbad (decide ((x.f8.length : Int) > 64)) (wop1 x st))
  have h2 := wop1_len x st
  have h3 : (wbad (decide ((x.f8.length : Int) > 64)) (wop1 x st)).1 = (wop1 x st).1 := rfl
  rw [h3] at h1
  unfold wop2; omega
theorem wop_len (x : Opr) (st : List Int × Bool) : (wop x st).1.length ≤ st.1.length + 365 + 4 * x.f1.length + 5 * x.f8.length := by
  have h1 := wdots_len x.f8 (wop2 x st)
  have h2 := wop2_len x st
  unfold wop; omega
set_option maxHeartbeats 4000000 in
set_option maxRecDepth 100000 in
theorem W_op (w0 w : World) (g : Nat) (st : List Int × Bool) (h : IsW w0 w g st.1 st.2) (x : Opr) (A2 : Option Addr) (c2 : Nat) (A10 : Option Addr) (c10 : Nat) (A11 : Option Addr) (c11 : Nat)
    (h1 : Kd.C (Kd.int .i64) w0 A2 x.f1.length x.f1) (h2 : Kd.C k92 w0 A10 x.f7.length x.f7) (hc2 : x.f7.length ≤ c10) (h3 : Kd.C k46 w0 A11 x.f8.length x.f8) (hl : st.1.length < 400000000) (hn : x.f1.length < 10000000) (hm : x.f8.length < 10000000) :
    Calls Tryz.prog 30 #[.pointer (some ⟨g, 0, none⟩), .agg #[.int .i64 x.f0.f0, .int .i64 x.f0.f1, .slice A2 x.f1.length c2, .int .i64 x.f2.f0, .int .i64 x.f2.f1, .int .i64 x.f2.f2, .int .i64 x.f3, .int .i64 x.f4, .string x.f5, .int .i64 x.f6, .slice A10 x.f7.length c10, .slice A11 x.f8.length c11]] w fun en w' => en = .returned (.tuple #[]) ∧ IsW w0 w' g (wop x st).1 (wop x st).2 ∧ KeepW w w' := by
  have H := Aside0.mk (h.alloc (.cells #[.int .i64 x.f0.f0, .int .i64 x.f0.f1, .slice A2 x.f1.length c2, .int .i64 x.f2.f0, .int .i64 x.f2.f1, .int .i64 x.f2.f2, .int .i64 x.f3, .int .i64 x.f4, .string x.f5, .int .i64 x.f6, .slice A10 x.f7.length c10, .slice A11 x.f8.length c11] 52))
  have HL := Aside0.mk hl
  have HN := Aside0.mk hn
  have HM := Aside0.mk hm
  have R1 := Aside0.mk h1
  have R2 := Aside0.mk h2
  have R3 := Aside0.mk h3
  have RC2 := Aside0.mk hc2
  have L1 := Aside0.mk (wnum_len 1 x.f3 st)
  have L2 := Aside0.mk (wdot_len x.f0.f0 x.f0.f1 (wnum 1 x.f3 st))
  have L3 := Aside0.mk (wnums_len x.f1 (wdot x.f0.f0 x.f0.f1 (wnum 1 x.f3 st)))
  have L4 := Aside0.mk (wstamp_len x.f2.f0 x.f2.f1 x.f2.f2 (wnums x.f1 (wdot x.f0.f0 x.f0.f1 (wnum 1 x.f3 st))))
  have L5 := Aside0.mk (wnum_len 1 x.f4 (wstamp x.f2.f0 x.f2.f1 x.f2.f2 (wnums x.f1 (wdot x.f0.f0 x.f0.f1 (wnum 1 x.f3 st)))))
  have L6 := Aside0.mk (wtext_len x.f5 (wnum 1 x.f4 (wstamp x.f2.f0 x.f2.f1 x.f2.f2 (wnums x.f1 (wdot x.f0.f0 x.f0.f1 (wnum 1 x.f3 st))))))
  have L7 := Aside0.mk (wnum_len 1 x.f6 (wtext x.f5 (wnum 1 x.f4 (wstamp x.f2.f0 x.f2.f1 x.f2.f2 (wnums x.f1 (wdot x.f0.f0 x.f0.f1 (wnum 1 x.f3 st)))))))
  have K0 := Aside0.mk (KeepW.below (below_alloc (Below.refl _ w) (.cells #[.int .i64 x.f0.f0, .int .i64 x.f0.f1, .slice A2 x.f1.length c2, .int .i64 x.f2.f0, .int .i64 x.f2.f1, .int .i64 x.f2.f2, .int .i64 x.f3, .int .i64 x.f4, .string x.f5, .int .i64 x.f6, .slice A10 x.f7.length c10, .slice A11 x.f8.length c11] 52)))
  have HD := Aside0.mk (heap_alloc_new w (.cells #[.int .i64 x.f0.f0, .int .i64 x.f0.f1, .slice A2 x.f1.length c2, .int .i64 x.f2.f0, .int .i64 x.f2.f1, .int .i64 x.f2.f2, .int .i64 x.f3, .int .i64 x.f4, .string x.f5, .int .i64 x.f6, .slice A10 x.f7.length c10, .slice A11 x.f8.length c11] 52))
  clear h hl hn hm h1 h2 h3 hc2
  go_enter Tryz.func30, Tryz.ntmps30
  go_wp2_with fail
  refine (W_num w0 _ g st H.out x.f3 1 1 rfl (by omega) (by omega) (by have := HL.out; have := HN.out; omega)).mono ?_
  rintro e w1 ⟨rfl, hi, hk⟩
  have H1 := Aside0.mk hi
  have K1 := Aside0.mk (K0.out.trans hk)
  have D1 := Aside0.mk (hk _ _ _ _ HD.out (by decide) (by decide))
  have hc1 := fun i => blk_cell D1.out i
  have hf1 := fun i => blk_frozen D1.out i
  clear hi hk
  go_wp2_with fail
  refine (W_dot w0 _ g (wnum 1 x.f3 st) H1.out x.f0.f0 x.f0.f1 (by have := HL.out; have := HN.out; have := L1.out; omega)).mono ?_
  rintro e w2 ⟨rfl, hi, hk⟩
  have H2 := Aside0.mk hi
  have K2 := Aside0.mk (K1.out.trans hk)
  have D2 := Aside0.mk (hk _ _ _ _ D1.out (by decide) (by decide))
  have hc2 := fun i => blk_cell D2.out i
  have hf2 := fun i => blk_frozen D2.out i
  clear hi hk
  go_wp2_with fail
  refine (W_nums w0 _ g (wdot x.f0.f0 x.f0.f1 (wnum 1 x.f3 st)) H2.out A2 c2 x.f1 R1.out (by have := HL.out; have := HN.out; have := L1.out; have := L2.out; omega) HN.out).mono ?_
  rintro e w3 ⟨rfl, hi, hk⟩
  have H3 := Aside0.mk hi
  have K3 := Aside0.mk (K2.out.trans hk)
  have D3 := Aside0.mk (hk _ _ _ _ D2.out (by decide) (by decide))
  have hc3 := fun i => blk_cell D3.out i
  have hf3 := fun i => blk_frozen D3.out i
  clear hi hk
  go_wp2_with fail
  refine (W_stamp w0 _ g (wnums x.f1 (wdot x.f0.f0 x.f0.f1 (wnum 1 x.f3 st))) H3.out x.f2.f0 x.f2.f1 x.f2.f2 (by have := HL.out; have := HN.out; have := L1.out; have := L2.out; have := L3.out; omega)).mono ?_
  rintro e w4 ⟨rfl, hi, hk⟩
  have H4 := Aside0.mk hi
  have K4 := Aside0.mk (K3.out.trans hk)
  have D4 := Aside0.mk (hk _ _ _ _ D3.out (by decide) (by decide))
  have hc4 := fun i => blk_cell D4.out i
  have hf4 := fun i => blk_frozen D4.out i
  clear hi hk
  go_wp2_with fail
  refine (W_num w0 _ g (wstamp x.f2.f0 x.f2.f1 x.f2.f2 (wnums x.f1 (wdot x.f0.f0 x.f0.f1 (wnum 1 x.f3 st)))) H4.out x.f4 1 1 rfl (by omega) (by omega) (by have := HL.out; have := HN.out; have := L1.out; have := L2.out; have := L3.out; have := L4.out; omega)).mono ?_
  rintro e w5 ⟨rfl, hi, hk⟩
  have H5 := Aside0.mk hi
  have K5 := Aside0.mk (K4.out.trans hk)
  have D5 := Aside0.mk (hk _ _ _ _ D4.out (by decide) (by decide))
  have hc5 := fun i => blk_cell D5.out i
  have hf5 := fun i => blk_frozen D5.out i
  clear hi hk
  go_wp2_with fail
  refine (W_text w0 _ g (wnum 1 x.f4 (wstamp x.f2.f0 x.f2.f1 x.f2.f2 (wnums x.f1 (wdot x.f0.f0 x.f0.f1 (wnum 1 x.f3 st))))) H5.out x.f5 (by have := HL.out; have := HN.out; have := L1.out; have := L2.out; have := L3.out; have := L4.out; have := L5.out; omega)).mono ?_
  rintro e w6 ⟨rfl, hi, hk⟩
  have H6 := Aside0.mk hi
  have K6 := Aside0.mk (K5.out.trans hk)
  have D6 := Aside0.mk (hk _ _ _ _ D5.out (by decide) (by decide))
  have hc6 := fun i => blk_cell D6.out i
  have hf6 := fun i => blk_frozen D6.out i
  clear hi hk
  go_wp2_with fail
  refine (W_num w0 _ g (wtext x.f5 (wnum 1 x.f4 (wstamp x.f2.f0 x.f2.f1 x.f2.f2 (wnums x.f1 (wdot x.f0.f0 x.f0.f1 (wnum 1 x.f3 st)))))) H6.out x.f6 1 1 rfl (by omega) (by omega) (by have := HL.out; have := HN.out; have := L1.out; have := L2.out; have := L3.out; have := L4.out; have := L5.out; have := L6.out; omega)).mono ?_
  rintro e w7 ⟨rfl, hi, hk⟩
  have H7 := Aside0.mk hi
  have K7 := Aside0.mk (K6.out.trans hk)
  have D7 := Aside0.mk (hk _ _ _ _ D6.out (by decide) (by decide))
  have hc7 := fun i => blk_cell D7.out i
  have hf7 := fun i => blk_frozen D7.out i
  clear hi hk
  go_wp2_with fail
  refine (row_Bytes.calls 100 A10 c10 x.f7 (rowB x.f7).1 (rowB x.f7).2 _ (Kd.C_below R2.out H7.out.1) RC2.out (rowBytes_eq x.f7 100 (by omega))).mono ?_
  rintro e w8 ⟨v8, rfl, ho, hb⟩
  obtain ⟨A8, c8, rfl⟩ := Kd.R_slice ho
  have C8 := Aside0.mk (Kd.R_reads' ho).2.2
  have H8 := Aside0.mk (H7.out.below hb)
  have K8 := Aside0.mk (K7.out.trans (KeepW.below hb))
  have D8 := Aside0.mk (KeepW.below hb _ _ _ _ D7.out (by decide) (by decide))
  clear ho hb
  go_wp2_with fail
  refine (W_add w0 _ g (wnum 1 x.f6 (wtext x.f5 (wnum 1 x.f4 (wstamp x.f2.f0 x.f2.f1 x.f2.f2 (wnums x.f1 (wdot x.f0.f0 x.f0.f1 (wnum 1 x.f3 st))))))).1 (wnum 1 x.f6 (wtext x.f5 (wnum 1 x.f4 (wstamp x.f2.f0 x.f2.f1 x.f2.f2 (wnums x.f1 (wdot x.f0.f0 x.f0.f1 (wnum 1 x.f3 st))))))).2 H8.out A8 c8 (rowB x.f7).1 C8.out (rowB x.f7).2 (by have := HL.out; have := HN.out; have := rowB_length x.f7; have := L1.out; have := L2.out; have := L3.out; have := L4.out; have := L5.out; have := L6.out; have := L7.out; omega)).mono ?_
  rintro e w9 ⟨rfl, hi, hk⟩
  have H9 := Aside0.mk (show IsW w0 w9 g (wop1 x st).1 (wop1 x st).2 from hi)
  have K9 := Aside0.mk (K8.out.trans hk)
  have D9 := Aside0.mk (hk _ _ _ _ D8.out (by decide) (by decide))
  clear hi hk
  have LW := Aside0.mk (wop1_len x st)
  have LV := Aside0.mk (wop2_len x st)
  obtain ⟨ST, hST⟩ : ∃ ST, ST = wop1 x st := ⟨_, rfl⟩
  obtain ⟨SU, hSU⟩ : ∃ SU, SU = wop2 x st := ⟨_, rfl⟩
  have E2 := Aside0.mk (show wnum 1 (x.f8.length : Int) (wbad (decide ((x.f8.length : Int) > 64)) ST) = SU from by rw [hST, hSU]; rfl)
  have E3 := Aside0.mk (show wdots x.f8 SU = wop x st from by rw [hSU]; rfl)
  rw [← hST] at H9 LW
  rw [← hSU] at LV
  clear hST hSU
  obtain ⟨B, bad⟩ := ST
  obtain ⟨h0, hg, v, hv, hR⟩ := H9.out
  have hgc : w9.cell? ⟨g, 1, none⟩ = some (.bool bad) := (blk_cell hv 1).trans rfl
  have hgf := blk_frozen hv 1
  obtain ⟨b1, hb1⟩ : ∃ b1, b1 = (bad || decide ((x.f8.length : Int) > 64)) := ⟨_, rfl⟩
  have HX := Aside0.mk (show IsW w0 (w9.setCell ⟨g, 1, none⟩ (.bool b1)) g B b1 from IsW.mk2 (v := v) (below_set h0 hg) hg (blk_set hv 1 (.bool b1)) (R_set_far hR 1 (.bool b1)))
  have KX0 := KeepW.set hv 1 (.bool b1)
  have DX := Aside0.mk (KX0 _ _ _ _ D9.out (by decide) (by decide))
  have KX := Aside0.mk (K9.out.trans KX0)
  have hc9 := fun i => blk_cell D9.out i
  have hcx := fun i => blk_cell DX.out i
  have EX := Aside0.mk (show wnum 1 (x.f8.length : Int) (B, b1) = SU from by rw [← E2.out, hb1]; rfl)
  clear h0 hg hv hR KX0
  have hb2 : bad = true ∨ (bad = false ∧ x.f8.length > 64) ∨ (bad = false ∧ ¬ x.f8.length > 64) := by cases bad <;> by_cases h : x.f8.length > 64 <;> simp_all
  rcases hb2 with rfl | ⟨rfl, h5⟩ | ⟨rfl, h5⟩
  · obtain rfl : b1 = true := by rw [hb1]; rfl
    clear hb1
    go_wp2_with fail
    refine (W_num w0 _ g (B, true) HX.out (x.f8.length : Int) 1 1 rfl (by omega) (by omega) (by have := LW.out; have := HL.out; have := HN.out; simp only at *; omega)).mono ?_
    rintro e wa ⟨rfl, hi, hk⟩
    rw [EX.out] at hi
    have H1 := Aside0.mk hi
    have K1 := Aside0.mk (KX.out.trans hk)
    have DA := Aside0.mk (hk _ _ _ _ DX.out (by decide) (by decide))
    have hca := fun i => blk_cell DA.out i
    clear hi hk
    go_wp2
    go_loopw [62] (fun v wr => ∃ k : Nat, k ≤ x.f8.length ∧ v = .int .i64 k ∧ Aside0 (IsW w0 wr g (wdots (x.f8.take k) SU).1 (wdots (x.f8.take k) SU).2) ∧ Aside0 (KeepW w wr)) (fun v _ => x.f8.length - (intOf v).toNat)
    case atStart => exact ⟨0, by omega, rfl, H1, K1⟩
    case round =>
      obtain ⟨k, hk, rfl, HI, HK⟩ := hrel
      by_cases hlt : k < x.f8.length
      · obtain ⟨ad, e, hd0, hd1⟩ := at_T46 (Kd.C_below R3.out HI.out.1) (k : Int) (by omega) (by omega)
        subst e
        have hrd : rd_T46 x.f8 (k : Int) = x.f8.getD k z46 := by simp [rd_T46]
        rw [Int.toNat_natCast, hrd] at hd0 hd1
        clear hrd
        have HT := Aside0.mk (wdots_take x.f8 k hlt SU)
        have HZ := Aside0.mk (wdots_len (x.f8.take k) SU)
        have HTk := Aside0.mk (List.length_take_le k x.f8)
        obtain ⟨y, hy⟩ : ∃ y, y = x.f8.getD k z46 := ⟨_, rfl⟩
        rw [← hy] at hd0 hd1 HT
        clear hy
        have hkb : x.f8.length < 10000000 := HM.out
        have HI2 := Aside0.mk (HI.out.alloc (.cells #[.int .i64 y.f0, .int .i64 y.f1] 46))
        have KI2 := Aside0.mk (KeepW.below (below_alloc (Below.refl _ wr) (.cells #[.int .i64 y.f0, .int .i64 y.f1] 46)))
        go_wp2_with fail
        refine (W_dot w0 _ g (wdots (x.f8.take k) SU) HI2.out y.f0 y.f1 (by have := HZ.out; have := HTk.out; have := HM.out; have := LV.out; have := HL.out; have := HN.out; omega)).mono ?_
        rintro e w2 ⟨rfl, hi, hk2⟩
        rw [← HT.out] at hi
        have H2 := Aside0.mk hi
        have K2 := Aside0.mk ((HK.out.trans KI2.out).trans hk2)
        clear hi hk2
        go_wp2
        go_roundw
        case rel => exact ⟨k + 1, by omega, by go_num, H2, K2⟩
        case measure => simp [intOf]; omega
      · obtain rfl : k = x.f8.length := by omega
        have HE := Aside0.mk (show wdots (x.f8.take x.f8.length) SU = wop x st from by rw [List.take_length]; exact E3.out)
        rw [HE.out] at HI
        go_wp2
        go_end0
        exact ⟨rfl, HI.out, HK.out⟩
  · have h6 : ((x.f8.length : Int) > 64) := by omega
    obtain rfl : b1 = true := by rw [hb1, decide_eq_true h6]; rfl
    clear hb1
    go_wp2_with fail
    refine (W_num w0 _ g (B, true) HX.out (x.f8.length : Int) 1 1 rfl (by omega) (by omega) (by have := LW.out; have := HL.out; have := HN.out; simp only at *; omega)).mono ?_
    rintro e wa ⟨rfl, hi, hk⟩
    rw [EX.out] at hi
    have H1 := Aside0.mk hi
    have K1 := Aside0.mk (KX.out.trans hk)
    have DA := Aside0.mk (hk _ _ _ _ DX.out (by decide) (by decide))
    have hca := fun i => blk_cell DA.out i
    clear hi hk
    go_wp2
    go_loopw [62] (fun v wr => ∃ k : Nat, k ≤ x.f8.length ∧ v = .int .i64 k ∧ Aside0 (IsW w0 wr g (wdots (x.f8.take k) SU).1 (wdots (x.f8.take k) SU).2) ∧ Aside0 (KeepW w wr)) (fun v _ => x.f8.length - (intOf v).toNat)
    case atStart => exact ⟨0, by omega, rfl, H1, K1⟩
    case round =>
      obtain ⟨k, hk, rfl, HI, HK⟩ := hrel
      by_cases hlt : k < x.f8.length
      · obtain ⟨ad, e, hd0, hd1⟩ := at_T46 (Kd.C_below R3.out HI.out.1) (k : Int) (by omega) (by omega)
        subst e
        have hrd : rd_T46 x.f8 (k : Int) = x.f8.getD k z46 := by simp [rd_T46]
        rw [Int.toNat_natCast, hrd] at hd0 hd1
        clear hrd
        have HT := Aside0.mk (wdots_take x.f8 k hlt SU)
        have HZ := Aside0.mk (wdots_len (x.f8.take k) SU)
        have HTk := Aside0.mk (List.length_take_le k x.f8)
        obtain ⟨y, hy⟩ : ∃ y, y = x.f8.getD k z46 := ⟨_, rfl⟩
        rw [← hy] at hd0 hd1 HT
        clear hy
        have hkb : x.f8.length < 10000000 := HM.out
        have HI2 := Aside0.mk (HI.out.alloc (.cells #[.int .i64 y.f0, .int .i64 y.f1] 46))
        have KI2 := Aside0.mk (KeepW.below (below_alloc (Below.refl _ wr) (.cells #[.int .i64 y.f0, .int .i64 y.f1] 46)))
        go_wp2_with fail
        refine (W_dot w0 _ g (wdots (x.f8.take k) SU) HI2.out y.f0 y.f1 (by have := HZ.out; have := HTk.out; have := HM.out; have := LV.out; have := HL.out; have := HN.out; omega)).mono ?_
        rintro e w2 ⟨rfl, hi, hk2⟩
        rw [← HT.out] at hi
        have H2 := Aside0.mk hi
        have K2 := Aside0.mk ((HK.out.trans KI2.out).trans hk2)
        clear hi hk2
        go_wp2
        go_roundw
        case rel => exact ⟨k + 1, by omega, by go_num, H2, K2⟩
        case measure => simp [intOf]; omega
      · obtain rfl : k = x.f8.length := by omega
        have HE := Aside0.mk (show wdots (x.f8.take x.f8.length) SU = wop x st from by rw [List.take_length]; exact E3.out)
        rw [HE.out] at HI
        go_wp2
        go_end0
        exact ⟨rfl, HI.out, HK.out⟩
  · have h6 : ¬ ((x.f8.length : Int) > 64) := by omega
    obtain rfl : b1 = false := by rw [hb1, decide_eq_false h6]; rfl
    have h7 := decide_eq_false (show ¬ (64 : Int) < (x.f8.length : Int) by omega)
    have h8 := decide_eq_false (show ¬ 64 < x.f8.length by omega)
    clear hb1
    go_wp2_with fail
    refine (W_num w0 _ g (B, false) HX.out (x.f8.length : Int) 1 1 rfl (by omega) (by omega) (by have := LW.out; have := HL.out; have := HN.out; simp only at *; omega)).mono ?_
    rintro e wa ⟨rfl, hi, hk⟩
    rw [EX.out] at hi
    have H1 := Aside0.mk hi
    have K1 := Aside0.mk (KX.out.trans hk)
    have DA := Aside0.mk (hk _ _ _ _ DX.out (by decide) (by decide))
    have hca := fun i => blk_cell DA.out i
    clear hi hk
    go_wp2
    go_loopw [62] (fun v wr => ∃ k : Nat, k ≤ x.f8.length ∧ v = .int .i64 k ∧ Aside0 (IsW w0 wr g (wdots (x.f8.take k) SU).1 (wdots (x.f8.take k) SU).2) ∧ Aside0 (KeepW w wr)) (fun v _ => x.f8.length - (intOf v).toNat)
    case atStart => exact ⟨0, by omega, rfl, H1, K1⟩
    case round =>
      obtain ⟨k, hk, rfl, HI, HK⟩ := hrel
      by_cases hlt : k < x.f8.length
      · obtain ⟨ad, e, hd0, hd1⟩ := at_T46 (Kd.C_below R3.out HI.out.1) (k : Int) (by omega) (by omega)
        subst e
        have hrd : rd_T46 x.f8 (k : Int) = x.f8.getD k z46 := by simp [rd_T46]
        rw [Int.toNat_natCast, hrd] at hd0 hd1
        clear hrd
        have HT := Aside0.mk (wdots_take x.f8 k hlt SU)
        have HZ := Aside0.mk (wdots_len (x.f8.take k) SU)
        have HTk := Aside0.mk (List.length_take_le k x.f8)
        obtain ⟨y, hy⟩ : ∃ y, y = x.f8.getD k z46 := ⟨_, rfl⟩
        rw [← hy] at hd0 hd1 HT
        clear hy
        have hkb : x.f8.length < 10000000 := HM.out
        have HI2 := Aside0.mk (HI.out.alloc (.cells #[.int .i64 y.f0, .int .i64 y.f1] 46))
        have KI2 := Aside0.mk (KeepW.below (below_alloc (Below.refl _ wr) (.cells #[.int .i64 y.f0, .int .i64 y.f1] 46)))
        go_wp2_with fail
        refine (W_dot w0 _ g (wdots (x.f8.take k) SU) HI2.out y.f0 y.f1 (by have := HZ.out; have := HTk.out; have := HM.out; have := LV.out; have := HL.out; have := HN.out; omega)).mono ?_
        rintro e w2 ⟨rfl, hi, hk2⟩
        rw [← HT.out] at hi
        have H2 := Aside0.mk hi
        have K2 := Aside0.mk ((HK.out.trans KI2.out).trans hk2)
        clear hi hk2
        go_wp2
        go_roundw
        case rel => exact ⟨k + 1, by omega, by go_num, H2, K2⟩
        case measure => simp [intOf]; omega
      · obtain rfl : k = x.f8.length := by omega
        have HE := Aside0.mk (show wdots (x.f8.take x.f8.length) SU = wop x st from by rw [List.take_length]; exact E3.out)
        rw [HE.out] at HI
        go_wp2
        go_end0
        exact ⟨rfl, HI.out, HK.out⟩
end Go.Proofs.YtnbjflcfdncocaaGreat.M
