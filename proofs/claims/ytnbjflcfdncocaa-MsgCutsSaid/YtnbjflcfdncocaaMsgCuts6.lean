/- The law MsgCuts of the program's messages holds for every input (its row stands in the last of these texts): part 6 of 6. -/
import Derived.Test.YtnbjflcfdncocaaMsgCuts2
import Derived.Test.YtnbjflcfdncocaaMsgCuts5
import Derived.Test.YtnbjflcfdncocaaMsgCuts3
import Derived.Deep.Slices
import Derived.WalkKit
import Derived.ProofKit
import Derived.SizedLaws
import Derived.ChangeSlices
import Derived.Test.YtnbjflcfdncocaaRows
import Derived.OpenShut
import Derived.ShutString
import Derived.ChangeOld
import Derived.Below
namespace Go.Proofs.Ytnbjflcfdncocaa.M
open Go.RowKit Go.Proofs.YtnbjflcfdncocaaW.PrintWords Go.Proofs.YtnbjflcfdncocaaW.PrintLast Go.Proofs.YtnbjflcfdncocaaW.PrintMore
attribute [local go_sem] max2_int min2_int max_two min_two max_three min_three max_four min_four   -- for this text's walks alone
set_option linter.unusedVariables false
set_option linter.unusedSimpArgs false

/-! ### raddlelaw08_MsgCuts: function 9 -/
mutual
def raddlelaw08_MsgCuts.j0 : Nat → Int → Int → Int → Bool → Int → Int → Int → List Int → List Int → List (S55) → Int → Int → Int → List Int → List Int → List (S55) → Option (Bool)
 | 0, _, _, _, _, _, _, _, _, _, _, _, _, _, _, _, _ => none
 | k + 1, x2, x3, x4, x28, x371000, x371001, x371002, x371003, x371004, x371005, x372000, x372001, x372002, x372003, x372004, x372005 => if x28 = true then (some true) else ((msg_Bytes.f x371000 x371001 x371002 x371003 x371004 x371005).bind fun bt374 => ((msg_Bytes.f x372000 x372001 x372002 x372003 x372004 x372005).bind fun bt378 => (if bt374.2 = 0 then (raddlelaw08_MsgCuts.j1 k x2 x3 x4 bt374.1 bt374.2 bt378.1 bt378.2 (bt378.2 != 0) x371000 x371001 x371002 x371003 x371004 x371005 x372000 x372001 x372002 x372003 x372004 x372005) else (raddlelaw08_MsgCuts.j1 k x2 x3 x4 bt374.1 bt374.2 bt378.1 bt378.2 true x371000 x371001 x371002 x371003 x371004 x371005 x372000 x372001 x372002 x372003 x372004 x372005))))
def raddlelaw08_MsgCuts.j1 : Nat → Int → Int → Int → List Int → Int → List Int → Int → Bool → Int → Int → Int → List Int → List Int → List (S55) → Int → Int → Int → List Int → List Int → List (S55) → Option (Bool)
 | 0, _, _, _, _, _, _, _, _, _, _, _, _, _, _, _, _, _, _, _, _ => none
 | k + 1, x2, x3, x4, x11, x12, x13, x14, x44, x371000, x371001, x371002, x371003, x371004, x371005, x372000, x372001, x372002, x372003, x372004, x372005 => if x44 = true then (if x12 = 0 then (if x14 = 0 then ((raddlelaw08_wakes.f).bind fun t382 => (some t382)) else (if (x13.length : Int) = 0 then ((raddlelaw08_wakes.f).bind fun t383 => (some t383)) else (some false))) else (if (x11.length : Int) = 0 then (if x14 = 0 then ((raddlelaw08_wakes.f).bind fun t384 => (some t384)) else (if (x13.length : Int) = 0 then ((raddlelaw08_wakes.f).bind fun t385 => (some t385)) else (some false))) else (some false))) else (if (x11.length : Int) < 4 then (raddlelaw08_MsgCuts.j2 k x2 x3 x4 x11 true x371000 x371001 x371002 x371003 x371004 x371005) else ((raddlekeep_Bytes.f k x11 x13).bind fun t386 => ((raddlekeep_Msg.f k x371000 x371001 x371002 x371003 x371004 x371005 x372000 x372001 x372002 x372003 x372004 x372005).bind fun t387 => (raddlelaw08_MsgCuts.j2 k x2 x3 x4 x11 (t386 != t387) x371000 x371001 x371002 x371003 x371004 x371005))))
def raddlelaw08_MsgCuts.j2 : Nat → Int → Int → Int → List Int → Bool → Int → Int → Int → List Int → List Int → List (S55) → Option (Bool)
 | 0, _, _, _, _, _, _, _, _, _, _, _ => none
 | k + 1, x2, x3, x4, x11, x75, x371000, x371001, x371002, x371003, x371004, x371005 => if x75 = true then (some false) else ((raddlekeep_Twin.f x11).bind fun t388 => (if (IntKind.u64.wrap (wrap64 (8 * (t388.length : Int)))) = 0 then (none) else (raddlelaw08_MsgCuts.l0 k x2 (wrap64 (Int.tmod (IntKind.u64.wrap (x3)) (IntKind.u64.wrap (wrap64 (8 * (t388.length : Int)))))) x4 x11 t388 false 0 x371000 x371001 x371002 x371003 x371004 x371005)))
def raddlelaw08_MsgCuts.l0 : Nat → Int → Int → Int → List Int → List Int → Bool → Int → Int → Int → Int → List Int → List Int → List (S55) → Option (Bool)
 | 0, _, _, _, _, _, _, _, _, _, _, _, _, _ => none
 | k + 1, x2, x3, x4, x11, x15, x16, x17, x371000, x371001, x371002, x371003, x371004, x371005 => if x17 < 32 then (raddlelaw08_MsgCuts.j4 k x2 x3 x4 x11 x15 x16 x17 (decide ((wrap64 (x3 + x17)) < (wrap64 (8 * (x15.length : Int))))) x371000 x371001 x371002 x371003 x371004 x371005) else (raddlelaw08_MsgCuts.j4 k x2 x3 x4 x11 x15 x16 x17 false x371000 x371001 x371002 x371003 x371004 x371005)
def raddlelaw08_MsgCuts.j4 : Nat → Int → Int → Int → List Int → List Int → Bool → Int → Bool → Int → Int → Int → List Int → List Int → List (S55) → Option (Bool)
 | 0, _, _, _, _, _, _, _, _, _, _, _, _, _, _ => none
 | k + 1, x2, x3, x4, x11, x15, x16, x17, x96, x371000, x371001, x371002, x371003, x371004, x371005 => if x96 = true then (if 0 ≤ (IntKind.u64.wrap (x17)) then (if (Go.bits .and .u32 (shr .u32 x4 (IntKind.u64.wrap (x17))) 1) = 1 then (if 0 ≤ (wrap64 (Int.tdiv (wrap64 (x3 + x17)) 8)) then (if (wrap64 (Int.tdiv (wrap64 (x3 + x17)) 8)) < (x15.length : Int) then (if 0 ≤ (IntKind.u64.wrap (Int.tmod (wrap64 (x3 + x17)) 8)) then (raddlelaw08_MsgCuts.l0 k x2 x3 x4 x11 (x15.set ((wrap64 (Int.tdiv (wrap64 (x3 + x17)) 8)) : Int).toNat (Go.bits .xor .u8 (rd x15 (wrap64 (Int.tdiv (wrap64 (x3 + x17)) 8))) (shl .u8 1 (IntKind.u64.wrap (Int.tmod (wrap64 (x3 + x17)) 8))))) true (wrap64 (x17 + 1)) x371000 x371001 x371002 x371003 x371004 x371005) else (none)) else (none)) else (none)) else (raddlelaw08_MsgCuts.l0 k x2 x3 x4 x11 x15 x16 (wrap64 (x17 + 1)) x371000 x371001 x371002 x371003 x371004 x371005)) else (none)) else ((msg_Read.f x15).bind fun bt393 => (if (x16 != (bt393.2.2.2.2.2.2 == 4)) = true then (raddlelaw08_MsgCuts.j5 k x2 x11 true) else (if x16 = true then (raddlelaw08_MsgCuts.j5 k x2 x11 false) else (if bt393.2.2.2.2.2.2 = 0 then ((raddlekeep_Msg.f k bt393.1 bt393.2.1 bt393.2.2.1 bt393.2.2.2.1 bt393.2.2.2.2.1 bt393.2.2.2.2.2.1 x371000 x371001 x371002 x371003 x371004 x371005).bind fun t407 => (raddlelaw08_MsgCuts.j5 k x2 x11 (!t407))) else (raddlelaw08_MsgCuts.j5 k x2 x11 true)))))
def raddlelaw08_MsgCuts.j5 : Nat → Int → List Int → Bool → Option (Bool)
 | 0, _, _, _ => none
 | k + 1, x2, x11, x142 => if x142 = true then (some false) else (if 0 ≤ (mn (wrap64 ((x11.length : Int) - 1)) (wrap64 (Int.tmod (IntKind.u64.wrap (x2)) 4))) then (if (mn (wrap64 ((x11.length : Int) - 1)) (wrap64 (Int.tmod (IntKind.u64.wrap (x2)) 4))) ≤ (x11.length : Int) then ((msg_Read.f (x11.take ((mn (wrap64 ((x11.length : Int) - 1)) (wrap64 (Int.tmod (IntKind.u64.wrap (x2)) 4))) : Int).toNat)).bind fun bt412 => (if bt412.2.2.2.2.2.2 = 2 then ((raddlelaw08_wakes.f).bind fun t425 => (some t425)) else (some false))) else (none)) else (none))
end
def raddlelaw08_MsgCuts.f (k : Nat) (a0_0 : Int) (a0_1 : Int) (a0_2 : Int) (l0_3 : List Int) (l0_4 : List Int) (l0_5 : List (S55)) (a1_0 : Int) (a1_1 : Int) (a1_2 : Int) (l1_3 : List Int) (l1_4 : List Int) (l1_5 : List (S55)) (a2 : Int) (a3 : Int) (a4 : Int) : Option (Bool) := (raddlelaw08_Heavy.f k a0_0 a0_1 a0_2 l0_3 l0_4 l0_5).bind fun t372 => (if t372 = true then (raddlelaw08_MsgCuts.j0 k a2 a3 a4 true a0_0 a0_1 a0_2 l0_3 l0_4 l0_5 a1_0 a1_1 a1_2 l1_3 l1_4 l1_5) else ((raddlelaw08_Heavy.f k a1_0 a1_1 a1_2 l1_3 l1_4 l1_5).bind fun t373 => (if t373 = true then (raddlelaw08_MsgCuts.j0 k a2 a3 a4 true a0_0 a0_1 a0_2 l0_3 l0_4 l0_5 a1_0 a1_1 a1_2 l1_3 l1_4 l1_5) else (raddlelaw08_MsgCuts.j0 k a2 a3 a4 (a4 == 0) a0_0 a0_1 a0_2 l0_3 l0_4 l0_5 a1_0 a1_1 a1_2 l1_3 l1_4 l1_5))))
def raddlelaw08_MsgCuts.T7 : Bool × List (List Nat × List Nat) := (true, [([], []), ([0], [0]), ([1], [1]), ([2], [2]), ([3], [3]), ([3], [3]), ([4, 5, 3, 3], [3, 4, 5]), ([3], [3]), ([3], [3]), ([7, 8, 6, 3], [3, 7, 8]), ([6, 9, 3], [3, 6, 9]), ([3, 10], [3, 10])])
def raddlelaw08_MsgCuts.B7 : List Nat := [0, 1, 3, 7, 15, 15, 63, 15, 15, 511, 1023, 2047]
theorem raddlelaw08_MsgCuts.tab7 : rtab .any (opsOf Try.f9 7) = raddlelaw08_MsgCuts.T7 := by kernel_rfl
theorem raddlelaw08_MsgCuts.bits7 : waitsOk raddlelaw08_MsgCuts.T7.2 raddlelaw08_MsgCuts.B7 = true := by kernel_rfl
set_option maxHeartbeats 8000000 in
set_option maxRecDepth 100000 in
theorem raddlelaw08_MsgCuts.calls (k : Nat) (a0_0 : Int) (a0_1 : Int) (a0_2 : Int) (A0_3 : Option Addr) (c0_3 : Nat) (l0_3 : List Int) (A0_4 : Option Addr) (c0_4 : Nat) (l0_4 : List Int) (A0_5 : Option Addr) (c0_5 : Nat) (l0_5 : List (S55)) (a1_0 : Int) (a1_1 : Int) (a1_2 : Int) (A1_3 : Option Addr) (c1_3 : Nat) (l1_3 : List Int) (A1_4 : Option Addr) (c1_4 : Nat) (l1_4 : List Int) (A1_5 : Option Addr) (c1_5 : Nat) (l1_5 : List (S55)) (a2 : Int) (a3 : Int) (a4 : Int) (r : Bool) (w : World) (hr0_3 : Kd.C (Kd.int .i64) w A0_3 l0_3.length l0_3) (hc0_3 : l0_3.length ≤ c0_3) (hr0_4 : Kd.C (Kd.int .i64) w A0_4 l0_4.length l0_4) (hc0_4 : l0_4.length ≤ c0_4) (hr0_5 : Kd.C k55 w A0_5 l0_5.length l0_5) (hc0_5 : l0_5.length ≤ c0_5) (hr1_3 : Kd.C (Kd.int .i64) w A1_3 l1_3.length l1_3) (hc1_3 : l1_3.length ≤ c1_3) (hr1_4 : Kd.C (Kd.int .i64) w A1_4 l1_4.length l1_4) (hc1_4 : l1_4.length ≤ c1_4) (hr1_5 : Kd.C k55 w A1_5 l1_5.length l1_5) (hc1_5 : l1_5.length ≤ c1_5) (h : raddlelaw08_MsgCuts.f k a0_0 a0_1 a0_2 l0_3 l0_4 l0_5 a1_0 a1_1 a1_2 l1_3 l1_4 l1_5 a2 a3 a4 = some r) :
  Calls Try.prog 9 #[.agg #[.int .i64 a0_0, .int .i64 a0_1, .int .i64 a0_2, .slice A0_3 l0_3.length c0_3, .slice A0_4 l0_4.length c0_4, .slice A0_5 l0_5.length c0_5], .agg #[.int .i64 a1_0, .int .i64 a1_1, .int .i64 a1_2, .slice A1_3 l1_3.length c1_3, .slice A1_4 l1_4.length c1_4, .slice A1_5 l1_5.length c1_5], .int .i64 a2, .int .i64 a3, .int .u32 a4] w fun e w' => e = .returned (.bool r) ∧ Below w.heap.size w w' := by
 have hu40 := Try.underlying40
 have HR0_3 := Aside0.mk hr0_3
 have HC0_3 := Aside0.mk hc0_3
 clear hr0_3 hc0_3
 have HR0_4 := Aside0.mk hr0_4
 have HC0_4 := Aside0.mk hc0_4
 clear hr0_4 hc0_4
 have HR0_5 := Aside0.mk hr0_5
 have HC0_5 := Aside0.mk hc0_5
 clear hr0_5 hc0_5
 have HR1_3 := Aside0.mk hr1_3
 have HC1_3 := Aside0.mk hc1_3
 clear hr1_3 hc1_3
 have HR1_4 := Aside0.mk hr1_4
 have HC1_4 := Aside0.mk hc1_4
 clear hr1_4 hc1_4
 have HR1_5 := Aside0.mk hr1_5
 have HC1_5 := Aside0.mk hc1_5
 clear hr1_5 hc1_5
 have HB := Aside0.mk (Below.refl w.heap.size w)
 have H : ((raddlelaw08_Heavy.f k a0_0 a0_1 a0_2 l0_3 l0_4 l0_5).bind fun t372 => (if t372 = true then (raddlelaw08_MsgCuts.j0 k a2 a3 a4 true a0_0 a0_1 a0_2 l0_3 l0_4 l0_5 a1_0 a1_1 a1_2 l1_3 l1_4 l1_5) else ((raddlelaw08_Heavy.f k a1_0 a1_1 a1_2 l1_3 l1_4 l1_5).bind fun t373 => (if t373 = true then (raddlelaw08_MsgCuts.j0 k a2 a3 a4 true a0_0 a0_1 a0_2 l0_3 l0_4 l0_5 a1_0 a1_1 a1_2 l1_3 l1_4 l1_5) else (raddlelaw08_MsgCuts.j0 k a2 a3 a4 (a4 == 0) a0_0 a0_1 a0_2 l0_3 l0_4 l0_5 a1_0 a1_1 a1_2 l1_3 l1_4 l1_5))))) = some r := h
 clear h
 have HC6 := Aside0.mk H
 clear H
 go_enter Try.func9, Try.ntmps9
 go_upto_region 1 with (first | ((with_reducible refine gate_dst (N := 5) rfl ?_); (try (refine gate_guard (by rfl) ?_; dsimp only)); refine box_event ?hg (N := 5) ?hd (cs := #[.int .i64 a0_0, .int .i64 a0_1, .int .i64 a0_2, .slice A0_3 l0_3.length c0_3, .slice A0_4 l0_4.length c0_4, .slice A0_5 l0_5.length c0_5]) (t := 40) ?hr ?_; (case hd => rfl); (case hg => rfl); (case hr => first | (go_simp; done) | (go_simp; rfl)); intro gb370 hg w7 hbox hb; have n0_ := Aside0.mk (below_step (by repeat (first | (with_reducible first | exact HB.out | apply below_alloc | apply pw_below_drewN | apply below_drew1) | exact HB.out)) hb); have n1_ := Aside0.mk (hbox); have n2_ := Aside0.mk ((by rw [hg]; exact (below_size (by repeat (first | (with_reducible first | exact HB.out | apply below_alloc | apply pw_below_drewN | apply below_drew1) | exact HB.out))) : w.heap.size ≤ gb370)); have n3_ := Aside0.mk ((by rw [hg]; exact (below_size (by repeat (first | (with_reducible first | exact HB.out | apply below_alloc | apply pw_below_drewN | apply below_drew1) | exact HB.out))) : w.heap.size ≤ gb370)); clear HB; have HB := n0_; have BK370 := n1_; have GW370 := n2_; have GE370 := n3_; clear n0_ n1_ n2_ n3_; clear hb hbox hg) | ((with_reducible refine gate_dst (N := 6) rfl ?_); (try (refine gate_guard (by rfl) ?_; dsimp only)); refine box_event ?hg (N := 6) ?hd (cs := #[.int .i64 a1_0, .int .i64 a1_1, .int .i64 a1_2, .slice A1_3 l1_3.length c1_3, .slice A1_4 l1_4.length c1_4, .slice A1_5 l1_5.length c1_5]) (t := 40) ?hr ?_; (case hd => rfl); (case hg => rfl); (case hr => first | (go_simp; done) | (go_simp; rfl)); intro gb371 hg w8 hbox hb; have n0_ := Aside0.mk (blk_below (g := gb370) (o := .cells #[.int .i64 a0_0, .int .i64 a0_1, .int .i64 a0_2, .slice A0_3 l0_3.length c0_3, .slice A0_4 l0_4.length c0_4, .slice A0_5 l0_5.length c0_5] 40 (0, 0)) (by (with_reducible repeat (first | refine blk_drewN ?_ _ | refine blk_drew ?_ | refine blk_alloc ?_ _)); exact BK370.out) hb); have n1_ := Aside0.mk (below_step (by repeat (first | (with_reducible first | exact HB.out | apply below_alloc | apply pw_below_drewN | apply below_drew1 | refine below_set ?_ GE370.out) | exact HB.out)) hb); have n2_ := Aside0.mk (hbox); have n3_ := Aside0.mk ((by rw [hg]; exact (below_size (by repeat (first | (with_reducible first | exact HB.out | apply below_alloc | apply pw_below_drewN | apply below_drew1 | refine below_set ?_ GE370.out) | exact HB.out))) : w.heap.size ≤ gb371)); have n4_ := Aside0.mk ((by rw [hg]; exact (below_size (by repeat (first | (with_reducible first | exact HB.out | apply below_alloc | apply pw_below_drewN | apply below_drew1 | refine below_set ?_ GE370.out) | exact HB.out))) : w.heap.size ≤ gb371)); have n5_ := Aside0.mk ((by rw [hg]; exact Nat.ne_of_lt (blk_lt (g := gb370) (o := .cells #[.int .i64 a0_0, .int .i64 a0_1, .int .i64 a0_2, .slice A0_3 l0_3.length c0_3, .slice A0_4 l0_4.length c0_4, .slice A0_5 l0_5.length c0_5] 40 (0, 0)) (by (with_reducible repeat (first | refine blk_drewN ?_ _ | refine blk_drew ?_ | refine blk_alloc ?_ _)); exact BK370.out)) : gb370 ≠ gb371)); have n6_ := Aside0.mk ((by rw [hg]; exact Nat.ne_of_gt (blk_lt (g := gb370) (o := .cells #[.int .i64 a0_0, .int .i64 a0_1, .int .i64 a0_2, .slice A0_3 l0_3.length c0_3, .slice A0_4 l0_4.length c0_4, .slice A0_5 l0_5.length c0_5] 40 (0, 0)) (by (with_reducible repeat (first | refine blk_drewN ?_ _ | refine blk_drew ?_ | refine blk_alloc ?_ _)); exact BK370.out)) : gb371 ≠ gb370)); clear BK370; clear HB; have BK370 := n0_; have HB := n1_; have BK371 := n2_; have GW371 := n3_; have GE371 := n4_; have NB370_371 := n5_; have NB371_370 := n6_; clear n0_ n1_ n2_ n3_ n4_ n5_ n6_; clear hb hbox hg))
 (try simp only [Act.put, List.setIfInBounds_toArray, List.set_cons_zero, List.set_cons_succ])
 go_cut [28] (fun v28 wc => ∃ (kq : Nat) (x28_5 : Bool), v28 = .bool x28_5 ∧ Aside0 (raddlelaw08_MsgCuts.j0 kq a2 a3 a4 x28_5 a0_0 a0_1 a0_2 l0_3 l0_4 l0_5 a1_0 a1_1 a1_2 l1_3 l1_4 l1_5 = some r) ∧ Aside0 (kq ≤ k) ∧ Aside0 (wc.heap[gb370]? = some (.cells #[.int .i64 a0_0, .int .i64 a0_1, .int .i64 a0_2, (.slice A0_3 l0_3.length c0_3), (.slice A0_4 l0_4.length c0_4), (.slice A0_5 l0_5.length c0_5)] 40 (0, 0))) ∧ Aside0 (wc.heap[gb371]? = some (.cells #[.int .i64 a1_0, .int .i64 a1_1, .int .i64 a1_2, (.slice A1_3 l1_3.length c1_3), (.slice A1_4 l1_4.length c1_4), (.slice A1_5 l1_5.length c1_5)] 40 (0, 0))) ∧ Aside0 (Below w.heap.size w wc))
 case first =>
  have H := HC6.out
  clear HC6
  replace H := Option.bind_eq_some_iff.mp H
  obtain ⟨t372, A90, H⟩ := H
  replace H : (if t372 = true then (raddlelaw08_MsgCuts.j0 k a2 a3 a4 true a0_0 a0_1 a0_2 l0_3 l0_4 l0_5 a1_0 a1_1 a1_2 l1_3 l1_4 l1_5) else ((raddlelaw08_Heavy.f k a1_0 a1_1 a1_2 l1_3 l1_4 l1_5).bind fun t373 => (if t373 = true then (raddlelaw08_MsgCuts.j0 k a2 a3 a4 true a0_0 a0_1 a0_2 l0_3 l0_4 l0_5 a1_0 a1_1 a1_2 l1_3 l1_4 l1_5) else (raddlelaw08_MsgCuts.j0 k a2 a3 a4 (a4 == 0) a0_0 a0_1 a0_2 l0_3 l0_4 l0_5 a1_0 a1_1 a1_2 l1_3 l1_4 l1_5)))) = some r := H
  have A9 := Aside0.mk A90
  clear A90
  by_cases c10 : t372 = true
  ·subst c10
   have H1 : (raddlelaw08_MsgCuts.j0 k a2 a3 a4 true a0_0 a0_1 a0_2 l0_3 l0_4 l0_5 a1_0 a1_1 a1_2 l1_3 l1_4 l1_5) = some r := by rw [if_pos rfl] at H; exact H
   clear H
   have H := H1
   clear H1
   have H' := Aside0.mk H
   clear H
   have hnb11 := NB370_371.out
   have hnc11 := NB371_370.out
   have hcz12 := fun i_ => blk_cell BK370.out i_
   have hfz12 := fun i_ => blk_frozen BK370.out i_
   go_wp2_with (first | ((with_reducible refine gate_callee (f := 21) rfl ?_); refine goesL_ (some 20) rfl rfl Try.func21 (by kernel_rfl) rfl #[.agg #[.int .i64 a0_0, .int .i64 a0_1, .int .i64 a0_2, .slice A0_3 l0_3.length c0_3, .slice A0_4 l0_4.length c0_4, .slice A0_5 l0_5.length c0_5]] rfl (by (try simp only [List.map_toArray, List.map_cons, List.map_nil]); first | done | rfl | (simp only [List.length_drop, List.length_take]; rfl)) ?_; (with_reducible refine (raddlelaw08_Heavy.calls k a0_0 a0_1 a0_2 _ _ l0_3 _ _ l0_4 _ _ l0_5 true _ ?side1 ?side2 ?side3 ?side4 ?side5 ?side6 A9.out).mono ?_); (case side1 => repeat (first | exact (Kd.C_below HR0_3.out HB.out) | (with_reducible refine Kd.C_alloc ?_ _) | (with_reducible refine Kd.C_drewN ?_ _) | (with_reducible refine Kd.C_drew ?_))); (case side2 => exact HC0_3.out); (case side3 => repeat (first | exact (Kd.C_below HR0_4.out HB.out) | (with_reducible refine Kd.C_alloc ?_ _) | (with_reducible refine Kd.C_drewN ?_ _) | (with_reducible refine Kd.C_drew ?_))); (case side4 => exact HC0_4.out); (case side5 => repeat (first | exact (Kd.C_below HR0_5.out HB.out) | (with_reducible refine Kd.C_alloc ?_ _) | (with_reducible refine Kd.C_drewN ?_ _) | (with_reducible refine Kd.C_drew ?_))); (case side6 => exact HC0_5.out); rintro e w13 ⟨rfl, hb⟩; refine ⟨_, rfl, ?_⟩; have n0_ := Aside0.mk (blk_below (g := gb370) (o := .cells #[.int .i64 a0_0, .int .i64 a0_1, .int .i64 a0_2, .slice A0_3 l0_3.length c0_3, .slice A0_4 l0_4.length c0_4, .slice A0_5 l0_5.length c0_5] 40 (0, 0)) (by (with_reducible repeat (first | refine blk_drewN ?_ _ | refine blk_drew ?_ | refine blk_alloc ?_ _)); exact BK370.out) hb); have n1_ := Aside0.mk (blk_below (g := gb371) (o := .cells #[.int .i64 a1_0, .int .i64 a1_1, .int .i64 a1_2, .slice A1_3 l1_3.length c1_3, .slice A1_4 l1_4.length c1_4, .slice A1_5 l1_5.length c1_5] 40 (0, 0)) (by (with_reducible repeat (first | refine blk_drewN ?_ _ | refine blk_drew ?_ | refine blk_alloc ?_ _)); exact BK371.out) hb); have n2_ := Aside0.mk (below_step (by repeat (first | (with_reducible first | exact HB.out | apply below_alloc | apply pw_below_drewN | apply below_drew1 | refine below_set ?_ GE370.out | refine below_set ?_ GE371.out) | exact HB.out)) hb); clear BK370; clear BK371; clear HB; have BK370 := n0_; have BK371 := n1_; have HB := n2_; clear n0_ n1_ n2_; (try clear hb); (try clear hb2); (try clear hk); (try clear hi)))
   go_meet
   case rel => exact ⟨_, (true), (by first | rfl | (simp; done) | (simp [*]; done)), H', ⟨by first | omega | exact Nat.le_refl _⟩, ⟨by (with_reducible repeat (first | refine blk_drewN ?_ _ | refine blk_drew ?_ | refine blk_alloc ?_ _)); exact BK370.out⟩, ⟨by (with_reducible repeat (first | refine blk_drewN ?_ _ | refine blk_drew ?_ | refine blk_alloc ?_ _)); exact BK371.out⟩, ⟨by repeat (first | (with_reducible first | exact HB.out | apply below_alloc | apply pw_below_drewN | apply below_drew1 | refine below_set ?_ GE370.out | refine below_set ?_ GE371.out) | exact HB.out)⟩⟩
  ·replace c10 := Bool.eq_false_iff.mpr c10
   subst c10
   have H1 : ((raddlelaw08_Heavy.f k a1_0 a1_1 a1_2 l1_3 l1_4 l1_5).bind fun t373 => (if t373 = true then (raddlelaw08_MsgCuts.j0 k a2 a3 a4 true a0_0 a0_1 a0_2 l0_3 l0_4 l0_5 a1_0 a1_1 a1_2 l1_3 l1_4 l1_5) else (raddlelaw08_MsgCuts.j0 k a2 a3 a4 (a4 == 0) a0_0 a0_1 a0_2 l0_3 l0_4 l0_5 a1_0 a1_1 a1_2 l1_3 l1_4 l1_5))) = some r := by rw [if_neg (show ¬ (false = true) by decide)] at H; exact H
   clear H
   have H := H1
   clear H1
   replace H := Option.bind_eq_some_iff.mp H
   obtain ⟨t373, A140, H⟩ := H
   replace H : (if t373 = true then (raddlelaw08_MsgCuts.j0 k a2 a3 a4 true a0_0 a0_1 a0_2 l0_3 l0_4 l0_5 a1_0 a1_1 a1_2 l1_3 l1_4 l1_5) else (raddlelaw08_MsgCuts.j0 k a2 a3 a4 (a4 == 0) a0_0 a0_1 a0_2 l0_3 l0_4 l0_5 a1_0 a1_1 a1_2 l1_3 l1_4 l1_5)) = some r := H
   have A14 := Aside0.mk A140
   clear A140
   by_cases c15 : t373 = true
   ·subst c15
    have H1 : (raddlelaw08_MsgCuts.j0 k a2 a3 a4 true a0_0 a0_1 a0_2 l0_3 l0_4 l0_5 a1_0 a1_1 a1_2 l1_3 l1_4 l1_5) = some r := by rw [if_pos rfl] at H; exact H
    clear H
    have H := H1
    clear H1
    have H' := Aside0.mk H
    clear H
    have hnb16 := NB370_371.out
    have hnc16 := NB371_370.out
    have hcz17 := fun i_ => blk_cell BK370.out i_
    have hfz17 := fun i_ => blk_frozen BK370.out i_
    go_wp2_with (first | ((with_reducible refine gate_callee (f := 21) rfl ?_); refine goesL_ (some 20) rfl rfl Try.func21 (by kernel_rfl) rfl #[.agg #[.int .i64 a0_0, .int .i64 a0_1, .int .i64 a0_2, .slice A0_3 l0_3.length c0_3, .slice A0_4 l0_4.length c0_4, .slice A0_5 l0_5.length c0_5]] rfl (by (try simp only [List.map_toArray, List.map_cons, List.map_nil]); first | done | rfl | (simp only [List.length_drop, List.length_take]; rfl)) ?_; (with_reducible refine (raddlelaw08_Heavy.calls k a0_0 a0_1 a0_2 _ _ l0_3 _ _ l0_4 _ _ l0_5 false _ ?side1 ?side2 ?side3 ?side4 ?side5 ?side6 A9.out).mono ?_); (case side1 => repeat (first | exact (Kd.C_below HR0_3.out HB.out) | (with_reducible refine Kd.C_alloc ?_ _) | (with_reducible refine Kd.C_drewN ?_ _) | (with_reducible refine Kd.C_drew ?_))); (case side2 => exact HC0_3.out); (case side3 => repeat (first | exact (Kd.C_below HR0_4.out HB.out) | (with_reducible refine Kd.C_alloc ?_ _) | (with_reducible refine Kd.C_drewN ?_ _) | (with_reducible refine Kd.C_drew ?_))); (case side4 => exact HC0_4.out); (case side5 => repeat (first | exact (Kd.C_below HR0_5.out HB.out) | (with_reducible refine Kd.C_alloc ?_ _) | (with_reducible refine Kd.C_drewN ?_ _) | (with_reducible refine Kd.C_drew ?_))); (case side6 => exact HC0_5.out); rintro e w18 ⟨rfl, hb⟩; refine ⟨_, rfl, ?_⟩; have n0_ := Aside0.mk (blk_below (g := gb370) (o := .cells #[.int .i64 a0_0, .int .i64 a0_1, .int .i64 a0_2, .slice A0_3 l0_3.length c0_3, .slice A0_4 l0_4.length c0_4, .slice A0_5 l0_5.length c0_5] 40 (0, 0)) (by (with_reducible repeat (first | refine blk_drewN ?_ _ | refine blk_drew ?_ | refine blk_alloc ?_ _)); exact BK370.out) hb); have n1_ := Aside0.mk (blk_below (g := gb371) (o := .cells #[.int .i64 a1_0, .int .i64 a1_1, .int .i64 a1_2, .slice A1_3 l1_3.length c1_3, .slice A1_4 l1_4.length c1_4, .slice A1_5 l1_5.length c1_5] 40 (0, 0)) (by (with_reducible repeat (first | refine blk_drewN ?_ _ | refine blk_drew ?_ | refine blk_alloc ?_ _)); exact BK371.out) hb); have n2_ := Aside0.mk (below_step (by repeat (first | (with_reducible first | exact HB.out | apply below_alloc | apply pw_below_drewN | apply below_drew1 | refine below_set ?_ GE370.out | refine below_set ?_ GE371.out) | exact HB.out)) hb); clear BK370; clear BK371; clear HB; have BK370 := n0_; have BK371 := n1_; have HB := n2_; clear n0_ n1_ n2_; (try clear hb); (try clear hb2); (try clear hk); (try clear hi); have hcz19 := fun i_ => blk_cell BK371.out i_; have hfz19 := fun i_ => blk_frozen BK371.out i_) | (go_at_call 21; (with_reducible refine (raddlelaw08_Heavy.calls k a1_0 a1_1 a1_2 _ _ l1_3 _ _ l1_4 _ _ l1_5 true _ ?side1 ?side2 ?side3 ?side4 ?side5 ?side6 A14.out).mono ?_); (case side1 => repeat (first | exact (Kd.C_below HR1_3.out HB.out) | (with_reducible refine Kd.C_alloc ?_ _) | (with_reducible refine Kd.C_drewN ?_ _) | (with_reducible refine Kd.C_drew ?_))); (case side2 => exact HC1_3.out); (case side3 => repeat (first | exact (Kd.C_below HR1_4.out HB.out) | (with_reducible refine Kd.C_alloc ?_ _) | (with_reducible refine Kd.C_drewN ?_ _) | (with_reducible refine Kd.C_drew ?_))); (case side4 => exact HC1_4.out); (case side5 => repeat (first | exact (Kd.C_below HR1_5.out HB.out) | (with_reducible refine Kd.C_alloc ?_ _) | (with_reducible refine Kd.C_drewN ?_ _) | (with_reducible refine Kd.C_drew ?_))); (case side6 => exact HC1_5.out); rintro e w20 ⟨rfl, hb⟩; have n0_ := Aside0.mk (blk_below (g := gb370) (o := .cells #[.int .i64 a0_0, .int .i64 a0_1, .int .i64 a0_2, .slice A0_3 l0_3.length c0_3, .slice A0_4 l0_4.length c0_4, .slice A0_5 l0_5.length c0_5] 40 (0, 0)) (by (with_reducible repeat (first | refine blk_drewN ?_ _ | refine blk_drew ?_ | refine blk_alloc ?_ _)); exact BK370.out) hb); have n1_ := Aside0.mk (blk_below (g := gb371) (o := .cells #[.int .i64 a1_0, .int .i64 a1_1, .int .i64 a1_2, .slice A1_3 l1_3.length c1_3, .slice A1_4 l1_4.length c1_4, .slice A1_5 l1_5.length c1_5] 40 (0, 0)) (by (with_reducible repeat (first | refine blk_drewN ?_ _ | refine blk_drew ?_ | refine blk_alloc ?_ _)); exact BK371.out) hb); have n2_ := Aside0.mk (below_step (by repeat (first | (with_reducible first | exact HB.out | apply below_alloc | apply pw_below_drewN | apply below_drew1 | refine below_set ?_ GE370.out | refine below_set ?_ GE371.out) | exact HB.out)) hb); clear BK370; clear BK371; clear HB; have BK370 := n0_; have BK371 := n1_; have HB := n2_; clear n0_ n1_ n2_; (try clear hb); (try clear hb2); (try clear hk); (try clear hi)))
    go_meet
    case rel => exact ⟨_, (true), (by first | rfl | (simp; done) | (simp [*]; done)), H', ⟨by first | omega | exact Nat.le_refl _⟩, ⟨by (with_reducible repeat (first | refine blk_drewN ?_ _ | refine blk_drew ?_ | refine blk_alloc ?_ _)); exact BK370.out⟩, ⟨by (with_reducible repeat (first | refine blk_drewN ?_ _ | refine blk_drew ?_ | refine blk_alloc ?_ _)); exact BK371.out⟩, ⟨by repeat (first | (with_reducible first | exact HB.out | apply below_alloc | apply pw_below_drewN | apply below_drew1 | refine below_set ?_ GE370.out | refine below_set ?_ GE371.out) | exact HB.out)⟩⟩
   ·replace c15 := Bool.eq_false_iff.mpr c15
    subst c15
    have H1 : (raddlelaw08_MsgCuts.j0 k a2 a3 a4 (a4 == 0) a0_0 a0_1 a0_2 l0_3 l0_4 l0_5 a1_0 a1_1 a1_2 l1_3 l1_4 l1_5) = some r := by rw [if_neg (show ¬ (false = true) by decide)] at H; exact H
    clear H
    have H := H1
    clear H1
    have H' := Aside0.mk H
    clear H
    have hnb21 := NB370_371.out
    have hnc21 := NB371_370.out
    have hcz22 := fun i_ => blk_cell BK370.out i_
    have hfz22 := fun i_ => blk_frozen BK370.out i_
    go_wp2_with (first | ((with_reducible refine gate_callee (f := 21) rfl ?_); refine goesL_ (some 20) rfl rfl Try.func21 (by kernel_rfl) rfl #[.agg #[.int .i64 a0_0, .int .i64 a0_1, .int .i64 a0_2, .slice A0_3 l0_3.length c0_3, .slice A0_4 l0_4.length c0_4, .slice A0_5 l0_5.length c0_5]] rfl (by (try simp only [List.map_toArray, List.map_cons, List.map_nil]); first | done | rfl | (simp only [List.length_drop, List.length_take]; rfl)) ?_; (with_reducible refine (raddlelaw08_Heavy.calls k a0_0 a0_1 a0_2 _ _ l0_3 _ _ l0_4 _ _ l0_5 false _ ?side1 ?side2 ?side3 ?side4 ?side5 ?side6 A9.out).mono ?_); (case side1 => repeat (first | exact (Kd.C_below HR0_3.out HB.out) | (with_reducible refine Kd.C_alloc ?_ _) | (with_reducible refine Kd.C_drewN ?_ _) | (with_reducible refine Kd.C_drew ?_))); (case side2 => exact HC0_3.out); (case side3 => repeat (first | exact (Kd.C_below HR0_4.out HB.out) | (with_reducible refine Kd.C_alloc ?_ _) | (with_reducible refine Kd.C_drewN ?_ _) | (with_reducible refine Kd.C_drew ?_))); (case side4 => exact HC0_4.out); (case side5 => repeat (first | exact (Kd.C_below HR0_5.out HB.out) | (with_reducible refine Kd.C_alloc ?_ _) | (with_reducible refine Kd.C_drewN ?_ _) | (with_reducible refine Kd.C_drew ?_))); (case side6 => exact HC0_5.out); rintro e w23 ⟨rfl, hb⟩; refine ⟨_, rfl, ?_⟩; have n0_ := Aside0.mk (blk_below (g := gb370) (o := .cells #[.int .i64 a0_0, .int .i64 a0_1, .int .i64 a0_2, .slice A0_3 l0_3.length c0_3, .slice A0_4 l0_4.length c0_4, .slice A0_5 l0_5.length c0_5] 40 (0, 0)) (by (with_reducible repeat (first | refine blk_drewN ?_ _ | refine blk_drew ?_ | refine blk_alloc ?_ _)); exact BK370.out) hb); have n1_ := Aside0.mk (blk_below (g := gb371) (o := .cells #[.int .i64 a1_0, .int .i64 a1_1, .int .i64 a1_2, .slice A1_3 l1_3.length c1_3, .slice A1_4 l1_4.length c1_4, .slice A1_5 l1_5.length c1_5] 40 (0, 0)) (by (with_reducible repeat (first | refine blk_drewN ?_ _ | refine blk_drew ?_ | refine blk_alloc ?_ _)); exact BK371.out) hb); have n2_ := Aside0.mk (below_step (by repeat (first | (with_reducible first | exact HB.out | apply below_alloc | apply pw_below_drewN | apply below_drew1 | refine below_set ?_ GE370.out | refine below_set ?_ GE371.out) | exact HB.out)) hb); clear BK370; clear BK371; clear HB; have BK370 := n0_; have BK371 := n1_; have HB := n2_; clear n0_ n1_ n2_; (try clear hb); (try clear hb2); (try clear hk); (try clear hi); have hcz24 := fun i_ => blk_cell BK371.out i_; have hfz24 := fun i_ => blk_frozen BK371.out i_) | (go_at_call 21; (with_reducible refine (raddlelaw08_Heavy.calls k a1_0 a1_1 a1_2 _ _ l1_3 _ _ l1_4 _ _ l1_5 false _ ?side1 ?side2 ?side3 ?side4 ?side5 ?side6 A14.out).mono ?_); (case side1 => repeat (first | exact (Kd.C_below HR1_3.out HB.out) | (with_reducible refine Kd.C_alloc ?_ _) | (with_reducible refine Kd.C_drewN ?_ _) | (with_reducible refine Kd.C_drew ?_))); (case side2 => exact HC1_3.out); (case side3 => repeat (first | exact (Kd.C_below HR1_4.out HB.out) | (with_reducible refine Kd.C_alloc ?_ _) | (with_reducible refine Kd.C_drewN ?_ _) | (with_reducible refine Kd.C_drew ?_))); (case side4 => exact HC1_4.out); (case side5 => repeat (first | exact (Kd.C_below HR1_5.out HB.out) | (with_reducible refine Kd.C_alloc ?_ _) | (with_reducible refine Kd.C_drewN ?_ _) | (with_reducible refine Kd.C_drew ?_))); (case side6 => exact HC1_5.out); rintro e w25 ⟨rfl, hb⟩; have n0_ := Aside0.mk (blk_below (g := gb370) (o := .cells #[.int .i64 a0_0, .int .i64 a0_1, .int .i64 a0_2, .slice A0_3 l0_3.length c0_3, .slice A0_4 l0_4.length c0_4, .slice A0_5 l0_5.length c0_5] 40 (0, 0)) (by (with_reducible repeat (first | refine blk_drewN ?_ _ | refine blk_drew ?_ | refine blk_alloc ?_ _)); exact BK370.out) hb); have n1_ := Aside0.mk (blk_below (g := gb371) (o := .cells #[.int .i64 a1_0, .int .i64 a1_1, .int .i64 a1_2, .slice A1_3 l1_3.length c1_3, .slice A1_4 l1_4.length c1_4, .slice A1_5 l1_5.length c1_5] 40 (0, 0)) (by (with_reducible repeat (first | refine blk_drewN ?_ _ | refine blk_drew ?_ | refine blk_alloc ?_ _)); exact BK371.out) hb); have n2_ := Aside0.mk (below_step (by repeat (first | (with_reducible first | exact HB.out | apply below_alloc | apply pw_below_drewN | apply below_drew1 | refine below_set ?_ GE370.out | refine below_set ?_ GE371.out) | exact HB.out)) hb); clear BK370; clear BK371; clear HB; have BK370 := n0_; have BK371 := n1_; have HB := n2_; clear n0_ n1_ n2_; (try clear hb); (try clear hb2); (try clear hk); (try clear hi)))
    go_meet
    case rel => exact ⟨_, ((a4 == 0)), (by first | rfl | (simp; done) | (simp [*]; done)), H', ⟨by first | omega | exact Nat.le_refl _⟩, ⟨by (with_reducible repeat (first | refine blk_drewN ?_ _ | refine blk_drew ?_ | refine blk_alloc ?_ _)); exact BK370.out⟩, ⟨by (with_reducible repeat (first | refine blk_drewN ?_ _ | refine blk_drew ?_ | refine blk_alloc ?_ _)); exact BK371.out⟩, ⟨by repeat (first | (with_reducible first | exact HB.out | apply below_alloc | apply pw_below_drewN | apply below_drew1 | refine below_set ?_ GE370.out | refine below_set ?_ GE371.out) | exact HB.out)⟩⟩
 case rest =>
  clear HC6
  try clear c1
  try clear c2
  try clear p2
  try clear c9
  try clear c10
  try clear c11
  try clear c15
  try clear c16
  try clear c21
  try clear hcz12_0
  try clear hcz12_1
  try clear hcz12_2
  try clear hcz12_3
  try clear hcz12_4
  try clear hcz12_5
  try clear hcz17_0
  try clear hcz17_1
  try clear hcz17_2
  try clear hcz17_3
  try clear hcz17_4
  try clear hcz17_5
  try clear hcz19_0
  try clear hcz19_1
  try clear hcz19_2
  try clear hcz19_3
  try clear hcz19_4
  try clear hcz19_5
  try clear hcz22_0
  try clear hcz22_1
  try clear hcz22_2
  try clear hcz22_3
  try clear hcz22_4
  try clear hcz22_5
  try clear hcz24_0
  try clear hcz24_1
  try clear hcz24_2
  try clear hcz24_3
  try clear hcz24_4
  try clear hcz24_5
  try clear hfz12_0
  try clear hfz12_1
  try clear hfz12_2
  try clear hfz12_3
  try clear hfz12_4
  try clear hfz12_5
  try clear hfz17_0
  try clear hfz17_1
  try clear hfz17_2
  try clear hfz17_3
  try clear hfz17_4
  try clear hfz17_5
  try clear hfz19_0
  try clear hfz19_1
  try clear hfz19_2
  try clear hfz19_3
  try clear hfz19_4
  try clear hfz19_5
  try clear hfz22_0
  try clear hfz22_1
  try clear hfz22_2
  try clear hfz22_3
  try clear hfz22_4
  try clear hfz22_5
  try clear hfz24_0
  try clear hfz24_1
  try clear hfz24_2
  try clear hfz24_3
  try clear hfz24_4
  try clear hfz24_5
  obtain ⟨kq, x28_5, rfl, HA, HJ5, BK370, BK371, HB⟩ := hcut
  cases kq with
  | zero => exact absurd HA.out (by simp [raddlelaw08_MsgCuts.j0])
  | succ kj5 =>
   have H := HA.out
   clear HA
   simp only [raddlelaw08_MsgCuts.j0] at H
   by_cases c26 : x28_5 = true
   ·subst c26
    have H1 : (some true) = some r := by rw [if_pos rfl] at H; exact H
    clear H
    have H := H1
    clear H1
    obtain rfl := Option.some.inj H
    go_wp2
    go_ret
    exact ⟨by first | rfl | (simp [errW_none, errW_some] <;> rfl) | (simp [*, errW_none, errW_some] <;> rfl), by repeat (first | (with_reducible first | exact HB.out | apply below_alloc | apply pw_below_drewN | apply below_drew1 | refine below_set ?_ GE370.out | refine below_set ?_ GE371.out) | exact HB.out)⟩
   ·replace c26 := Bool.eq_false_iff.mpr c26
    subst c26
    have H1 : ((msg_Bytes.f a0_0 a0_1 a0_2 l0_3 l0_4 l0_5).bind fun bt374 => ((msg_Bytes.f a1_0 a1_1 a1_2 l1_3 l1_4 l1_5).bind fun bt378 => (if bt374.2 = 0 then (raddlelaw08_MsgCuts.j1 kj5 a2 a3 a4 bt374.1 bt374.2 bt378.1 bt378.2 (bt378.2 != 0) a0_0 a0_1 a0_2 l0_3 l0_4 l0_5 a1_0 a1_1 a1_2 l1_3 l1_4 l1_5) else (raddlelaw08_MsgCuts.j1 kj5 a2 a3 a4 bt374.1 bt374.2 bt378.1 bt378.2 true a0_0 a0_1 a0_2 l0_3 l0_4 l0_5 a1_0 a1_1 a1_2 l1_3 l1_4 l1_5)))) = some r := by rw [if_neg (show ¬ (false = true) by decide)] at H; exact H
    clear H
    have H := H1
    clear H1
    replace H := Option.bind_eq_some_iff.mp H
    obtain ⟨⟨t374, t377⟩, A270, H⟩ := H
    replace H : ((msg_Bytes.f a1_0 a1_1 a1_2 l1_3 l1_4 l1_5).bind fun bt378 => (if t377 = 0 then (raddlelaw08_MsgCuts.j1 kj5 a2 a3 a4 t374 t377 bt378.1 bt378.2 (bt378.2 != 0) a0_0 a0_1 a0_2 l0_3 l0_4 l0_5 a1_0 a1_1 a1_2 l1_3 l1_4 l1_5) else (raddlelaw08_MsgCuts.j1 kj5 a2 a3 a4 t374 t377 bt378.1 bt378.2 true a0_0 a0_1 a0_2 l0_3 l0_4 l0_5 a1_0 a1_1 a1_2 l1_3 l1_4 l1_5))) = some r := H
    have A27 := Aside0.mk A270
    clear A270
    replace H := Option.bind_eq_some_iff.mp H
    obtain ⟨⟨t378, t381⟩, A280, H⟩ := H
    replace H : (if t377 = 0 then (raddlelaw08_MsgCuts.j1 kj5 a2 a3 a4 t374 t377 t378 t381 (t381 != 0) a0_0 a0_1 a0_2 l0_3 l0_4 l0_5 a1_0 a1_1 a1_2 l1_3 l1_4 l1_5) else (raddlelaw08_MsgCuts.j1 kj5 a2 a3 a4 t374 t377 t378 t381 true a0_0 a0_1 a0_2 l0_3 l0_4 l0_5 a1_0 a1_1 a1_2 l1_3 l1_4 l1_5)) = some r := H
    have A28 := Aside0.mk A280
    clear A280
    have HC29 := Aside0.mk H
    clear H
    have hnb30 := NB370_371.out
    have hnc30 := NB371_370.out
    have hcz31 := fun i_ => blk_cell BK370.out i_
    have hfz31 := fun i_ => blk_frozen BK370.out i_
    go_upto_region 5 with (first | ((with_reducible refine gate_callee (f := 22) rfl ?_); refine goesL_ (some 31) rfl rfl Try.func22 (by kernel_rfl) rfl #[.agg #[.int .i64 a0_0, .int .i64 a0_1, .int .i64 a0_2, .slice A0_3 l0_3.length c0_3, .slice A0_4 l0_4.length c0_4, .slice A0_5 l0_5.length c0_5]] rfl (by (try simp only [List.map_toArray, List.map_cons, List.map_nil]); first | done | rfl | (simp only [List.length_drop, List.length_take]; rfl)) ?_; (with_reducible refine (msg_Bytes.calls a0_0 a0_1 a0_2 _ _ l0_3 _ _ l0_4 _ _ l0_5 t374 t377 _ ?side1 ?side2 ?side3 ?side4 ?side5 ?side6 A27.out).mono ?_); (case side1 => repeat (first | exact (Kd.C_below HR0_3.out HB.out) | (with_reducible refine Kd.C_alloc ?_ _) | (with_reducible refine Kd.C_drewN ?_ _) | (with_reducible refine Kd.C_drew ?_))); (case side2 => exact HC0_3.out); (case side3 => repeat (first | exact (Kd.C_below HR0_4.out HB.out) | (with_reducible refine Kd.C_alloc ?_ _) | (with_reducible refine Kd.C_drewN ?_ _) | (with_reducible refine Kd.C_drew ?_))); (case side4 => exact HC0_4.out); (case side5 => repeat (first | exact (Kd.C_below HR0_5.out HB.out) | (with_reducible refine Kd.C_alloc ?_ _) | (with_reducible refine Kd.C_drewN ?_ _) | (with_reducible refine Kd.C_drew ?_))); (case side6 => exact HC0_5.out); rintro e w32 ⟨v375, rfl, ho0, hb⟩; refine ⟨_, rfl, ?_⟩; have n0_ := Aside0.mk (Kd.R_lower ho0 (below_size (by repeat (first | (with_reducible first | exact HB.out | apply below_alloc | apply pw_below_drewN | apply below_drew1 | refine below_set ?_ GE370.out | refine below_set ?_ GE371.out) | exact HB.out)))); have n1_ := Aside0.mk (blk_below (g := gb370) (o := .cells #[.int .i64 a0_0, .int .i64 a0_1, .int .i64 a0_2, .slice A0_3 l0_3.length c0_3, .slice A0_4 l0_4.length c0_4, .slice A0_5 l0_5.length c0_5] 40 (0, 0)) (by (with_reducible repeat (first | refine blk_drewN ?_ _ | refine blk_drew ?_ | refine blk_alloc ?_ _)); exact BK370.out) hb); have n2_ := Aside0.mk (blk_below (g := gb371) (o := .cells #[.int .i64 a1_0, .int .i64 a1_1, .int .i64 a1_2, .slice A1_3 l1_3.length c1_3, .slice A1_4 l1_4.length c1_4, .slice A1_5 l1_5.length c1_5] 40 (0, 0)) (by (with_reducible repeat (first | refine blk_drewN ?_ _ | refine blk_drew ?_ | refine blk_alloc ?_ _)); exact BK371.out) hb); have n3_ := Aside0.mk (below_step (by repeat (first | (with_reducible first | exact HB.out | apply below_alloc | apply pw_below_drewN | apply below_drew1 | refine below_set ?_ GE370.out | refine below_set ?_ GE371.out) | exact HB.out)) hb); clear BK370; clear BK371; clear HB; have HO376 := n0_; have BK370 := n1_; have BK371 := n2_; have HB := n3_; clear n0_ n1_ n2_ n3_; (try clear hb); (try clear hb2); (try clear hk); (try clear hi); (try clear ho0); have hcz33 := fun i_ => blk_cell BK371.out i_; have hfz33 := fun i_ => blk_frozen BK371.out i_) | ((with_reducible refine gate_callee (f := 22) rfl ?_); refine goesL_ (some 36) rfl rfl Try.func22 (by kernel_rfl) rfl #[.agg #[.int .i64 a1_0, .int .i64 a1_1, .int .i64 a1_2, .slice A1_3 l1_3.length c1_3, .slice A1_4 l1_4.length c1_4, .slice A1_5 l1_5.length c1_5]] rfl (by (try simp only [List.map_toArray, List.map_cons, List.map_nil]); first | done | rfl | (simp only [List.length_drop, List.length_take]; rfl)) ?_; (with_reducible refine (msg_Bytes.calls a1_0 a1_1 a1_2 _ _ l1_3 _ _ l1_4 _ _ l1_5 t378 t381 _ ?side1 ?side2 ?side3 ?side4 ?side5 ?side6 A28.out).mono ?_); (case side1 => repeat (first | exact (Kd.C_below HR1_3.out HB.out) | (with_reducible refine Kd.C_alloc ?_ _) | (with_reducible refine Kd.C_drewN ?_ _) | (with_reducible refine Kd.C_drew ?_))); (case side2 => exact HC1_3.out); (case side3 => repeat (first | exact (Kd.C_below HR1_4.out HB.out) | (with_reducible refine Kd.C_alloc ?_ _) | (with_reducible refine Kd.C_drewN ?_ _) | (with_reducible refine Kd.C_drew ?_))); (case side4 => exact HC1_4.out); (case side5 => repeat (first | exact (Kd.C_below HR1_5.out HB.out) | (with_reducible refine Kd.C_alloc ?_ _) | (with_reducible refine Kd.C_drewN ?_ _) | (with_reducible refine Kd.C_drew ?_))); (case side6 => exact HC1_5.out); rintro e w34 ⟨v379, rfl, ho0, hb⟩; refine ⟨_, rfl, ?_⟩; have n0_ := Aside0.mk (Kd.R_elder' (by (with_reducible repeat (first | apply Kd.R_alloc | apply Kd.R_drewN | apply Kd.R_drew)); exact HO376.out) (Kd.R_base ho0) hb); have n1_ := Aside0.mk (Kd.R_lower (Kd.R_new' ho0 (Kd.R_lt (by (with_reducible repeat (first | apply Kd.R_alloc | apply Kd.R_drewN | apply Kd.R_drew)); exact HO376.out))) (below_size (by repeat (first | (with_reducible first | exact HB.out | apply below_alloc | apply pw_below_drewN | apply below_drew1 | refine below_set ?_ GE370.out | refine below_set ?_ GE371.out) | exact HB.out)))); have n2_ := Aside0.mk (blk_below (g := gb370) (o := .cells #[.int .i64 a0_0, .int .i64 a0_1, .int .i64 a0_2, .slice A0_3 l0_3.length c0_3, .slice A0_4 l0_4.length c0_4, .slice A0_5 l0_5.length c0_5] 40 (0, 0)) (by (with_reducible repeat (first | refine blk_drewN ?_ _ | refine blk_drew ?_ | refine blk_alloc ?_ _)); exact BK370.out) hb); have n3_ := Aside0.mk (blk_below (g := gb371) (o := .cells #[.int .i64 a1_0, .int .i64 a1_1, .int .i64 a1_2, .slice A1_3 l1_3.length c1_3, .slice A1_4 l1_4.length c1_4, .slice A1_5 l1_5.length c1_5] 40 (0, 0)) (by (with_reducible repeat (first | refine blk_drewN ?_ _ | refine blk_drew ?_ | refine blk_alloc ?_ _)); exact BK371.out) hb); have n4_ := Aside0.mk (below_step (by repeat (first | (with_reducible first | exact HB.out | apply below_alloc | apply pw_below_drewN | apply below_drew1 | refine below_set ?_ GE370.out | refine below_set ?_ GE371.out) | exact HB.out)) hb); clear HO376; clear BK370; clear BK371; clear HB; have HO376 := n0_; have HO380 := n1_; have BK370 := n2_; have BK371 := n3_; have HB := n4_; clear n0_ n1_ n2_ n3_ n4_; (try clear hb); (try clear hb2); (try clear hk); (try clear hi); (try clear ho0)))
    (try simp only [Act.put, List.setIfInBounds_toArray, List.set_cons_zero, List.set_cons_succ])
    go_cut [44] (fun v44 wc => ∃ (kq : Nat) (x44_28 : Bool), v44 = .bool x44_28 ∧ Aside0 (raddlelaw08_MsgCuts.j1 kq a2 a3 a4 t374 t377 t378 t381 x44_28 a0_0 a0_1 a0_2 l0_3 l0_4 l0_5 a1_0 a1_1 a1_2 l1_3 l1_4 l1_5 = some r) ∧ Aside0 (kq ≤ kj5) ∧ Aside0 (Kd.R (Kd.int .u8) 5 wc w.heap.size (fun k_ => some k_ ≠ (v379 : Value).ownBlock) v375 t374) ∧ Aside0 (Kd.R (Kd.int .u8) 5 wc w.heap.size (fun k_ => some k_ ≠ (v375 : Value).ownBlock) v379 t378) ∧ Aside0 (wc.heap[gb370]? = some (.cells #[.int .i64 a0_0, .int .i64 a0_1, .int .i64 a0_2, (.slice A0_3 l0_3.length c0_3), (.slice A0_4 l0_4.length c0_4), (.slice A0_5 l0_5.length c0_5)] 40 (0, 0))) ∧ Aside0 (wc.heap[gb371]? = some (.cells #[.int .i64 a1_0, .int .i64 a1_1, .int .i64 a1_2, (.slice A1_3 l1_3.length c1_3), (.slice A1_4 l1_4.length c1_4), (.slice A1_5 l1_5.length c1_5)] 40 (0, 0))) ∧ Aside0 (Below w.heap.size w wc))
    case first =>
     have H := HC29.out
     clear HC29
     by_cases c35 : t377 = 0
     ·rw [if_pos c35] at H
      have c35b0 : (t377 == 0) = true := beq_iff_eq.mpr c35
      have c35b1 : (t377 != 0) = false := bne_eq_false_iff_eq.mpr c35
      clear c35
      (first | rw [c35b0] | (simp only [i64_w, i32_w]; rw [c35b0]) | skip)
      have H' := Aside0.mk H
      clear H
      go_wp2
      go_meet
      case rel => exact ⟨_, ((t381 != 0)), (by first | rfl | (simp; done) | (simp [*]; done)), H', ⟨by have := HJ5.out; first | omega | exact Nat.le_refl _⟩, ⟨by (with_reducible repeat (first | apply Kd.R_alloc | apply Kd.R_drewN | apply Kd.R_drew)); exact Kd.R_mono HO376.out (fun _ hk => hk.2)⟩, ⟨by (with_reducible repeat (first | apply Kd.R_alloc | apply Kd.R_drewN | apply Kd.R_drew)); exact Kd.R_mono HO380.out (fun _ hk => hk.2)⟩, ⟨by (with_reducible repeat (first | refine blk_drewN ?_ _ | refine blk_drew ?_ | refine blk_alloc ?_ _)); exact BK370.out⟩, ⟨by (with_reducible repeat (first | refine blk_drewN ?_ _ | refine blk_drew ?_ | refine blk_alloc ?_ _)); exact BK371.out⟩, ⟨by repeat (first | (with_reducible first | exact HB.out | apply below_alloc | apply pw_below_drewN | apply below_drew1 | refine below_set ?_ GE370.out | refine below_set ?_ GE371.out) | exact HB.out)⟩⟩
     ·rw [if_neg c35] at H
      have c35b0 : (t377 == 0) = false := beq_eq_false_iff_ne.mpr c35
      have c35b1 : (t377 != 0) = true := bne_iff_ne.mpr c35
      (first | rw [c35b0] | (simp only [i64_w, i32_w]; rw [c35b0]) | skip)
      have H' := Aside0.mk H
      clear H
      go_wp2
      go_meet
      case rel => exact ⟨_, (true), (by first | rfl | (simp; done) | (simp [*]; done)), H', ⟨by have := HJ5.out; first | omega | exact Nat.le_refl _⟩, ⟨by (with_reducible repeat (first | apply Kd.R_alloc | apply Kd.R_drewN | apply Kd.R_drew)); exact Kd.R_mono HO376.out (fun _ hk => hk.2)⟩, ⟨by (with_reducible repeat (first | apply Kd.R_alloc | apply Kd.R_drewN | apply Kd.R_drew)); exact Kd.R_mono HO380.out (fun _ hk => hk.2)⟩, ⟨by (with_reducible repeat (first | refine blk_drewN ?_ _ | refine blk_drew ?_ | refine blk_alloc ?_ _)); exact BK370.out⟩, ⟨by (with_reducible repeat (first | refine blk_drewN ?_ _ | refine blk_drew ?_ | refine blk_alloc ?_ _)); exact BK371.out⟩, ⟨by repeat (first | (with_reducible first | exact HB.out | apply below_alloc | apply pw_below_drewN | apply below_drew1 | refine below_set ?_ GE370.out | refine below_set ?_ GE371.out) | exact HB.out)⟩⟩
    case rest =>
     clear HC29
     try clear c1
     try clear c2
     try clear p2
     try clear c3
     try clear c9
     try clear c10
     try clear c11
     try clear c15
     try clear c16
     try clear c21
     try clear c22
     try clear c26
     try clear c30
     try clear c35
     try clear c35b0
     try clear c35b1
     try clear hcz12_0
     try clear hcz12_1
     try clear hcz12_2
     try clear hcz12_3
     try clear hcz12_4
     try clear hcz12_5
     try clear hcz17_0
     try clear hcz17_1
     try clear hcz17_2
     try clear hcz17_3
     try clear hcz17_4
     try clear hcz17_5
     try clear hcz19_0
     try clear hcz19_1
     try clear hcz19_2
     try clear hcz19_3
     try clear hcz19_4
     try clear hcz19_5
     try clear hcz22_0
     try clear hcz22_1
     try clear hcz22_2
     try clear hcz22_3
     try clear hcz22_4
     try clear hcz22_5
     try clear hcz24_0
     try clear hcz24_1
     try clear hcz24_2
     try clear hcz24_3
     try clear hcz24_4
     try clear hcz24_5
     try clear hcz31_0
     try clear hcz31_1
     try clear hcz31_2
     try clear hcz31_3
     try clear hcz31_4
     try clear hcz31_5
     try clear hcz33_0
     try clear hcz33_1
     try clear hcz33_2
     try clear hcz33_3
     try clear hcz33_4
     try clear hcz33_5
     try clear hfz12_0
     try clear hfz12_1
     try clear hfz12_2
     try clear hfz12_3
     try clear hfz12_4
     try clear hfz12_5
     try clear hfz17_0
     try clear hfz17_1
     try clear hfz17_2
     try clear hfz17_3
     try clear hfz17_4
     try clear hfz17_5
     try clear hfz19_0
     try clear hfz19_1
     try clear hfz19_2
     try clear hfz19_3
     try clear hfz19_4
     try clear hfz19_5
     try clear hfz22_0
     try clear hfz22_1
     try clear hfz22_2
     try clear hfz22_3
     try clear hfz22_4
     try clear hfz22_5
     try clear hfz24_0
     try clear hfz24_1
     try clear hfz24_2
     try clear hfz24_3
     try clear hfz24_4
     try clear hfz24_5
     try clear hfz31_0
     try clear hfz31_1
     try clear hfz31_2
     try clear hfz31_3
     try clear hfz31_4
     try clear hfz31_5
     try clear hfz33_0
     try clear hfz33_1
     try clear hfz33_2
     try clear hfz33_3
     try clear hfz33_4
     try clear hfz33_5
     try clear p2
     obtain ⟨kq, x44_28, rfl, HA, HJ28, HO_11, HO_13, BK370, BK371, HB⟩ := hcut
     cases kq with
     | zero => exact absurd HA.out (by simp [raddlelaw08_MsgCuts.j1])
     | succ kj28 =>
      have H := HA.out
      clear HA
      simp only [raddlelaw08_MsgCuts.j1] at H
      by_cases c36 : x44_28 = true
      ·subst c36
       have H1 : (if t377 = 0 then (if t381 = 0 then ((raddlelaw08_wakes.f).bind fun t382 => (some t382)) else (if (t378.length : Int) = 0 then ((raddlelaw08_wakes.f).bind fun t383 => (some t383)) else (some false))) else (if (t374.length : Int) = 0 then (if t381 = 0 then ((raddlelaw08_wakes.f).bind fun t384 => (some t384)) else (if (t378.length : Int) = 0 then ((raddlelaw08_wakes.f).bind fun t385 => (some t385)) else (some false))) else (some false))) = some r := by rw [if_pos rfl] at H; exact H
       clear H
       have H := H1
       clear H1
       by_cases c37 : t377 = 0
       ·rw [if_pos c37] at H
        have c37b0 : (t377 == 0) = true := beq_iff_eq.mpr c37
        have c37b1 : (t377 != 0) = false := bne_eq_false_iff_eq.mpr c37
        clear c37
        by_cases c38 : t381 = 0
        ·rw [if_pos c38] at H
         have c38b0 : (t381 == 0) = true := beq_iff_eq.mpr c38
         have c38b1 : (t381 != 0) = false := bne_eq_false_iff_eq.mpr c38
         clear c38
         replace H := Option.bind_eq_some_iff.mp H
         obtain ⟨t382, A390, H⟩ := H
         replace H : (some t382) = some r := H
         have A39 := Aside0.mk A390
         clear A390
         obtain rfl := Option.some.inj H
         go_wp2_with (first | (go_at_call 23; (with_reducible refine (raddlelaw08_wakes.calls  t382 _ A39.out).mono ?_); rintro e w40 ⟨rfl, hb⟩; have n0_ := Aside0.mk (Kd.R_below (by (with_reducible repeat (first | apply Kd.R_alloc | apply Kd.R_drewN | apply Kd.R_drew)); exact HO_11.out) hb); have n1_ := Aside0.mk (Kd.R_below (by (with_reducible repeat (first | apply Kd.R_alloc | apply Kd.R_drewN | apply Kd.R_drew)); exact HO_13.out) hb); have n2_ := Aside0.mk (blk_below (g := gb370) (o := .cells #[.int .i64 a0_0, .int .i64 a0_1, .int .i64 a0_2, .slice A0_3 l0_3.length c0_3, .slice A0_4 l0_4.length c0_4, .slice A0_5 l0_5.length c0_5] 40 (0, 0)) (by (with_reducible repeat (first | refine blk_drewN ?_ _ | refine blk_drew ?_ | refine blk_alloc ?_ _)); exact BK370.out) hb); have n3_ := Aside0.mk (blk_below (g := gb371) (o := .cells #[.int .i64 a1_0, .int .i64 a1_1, .int .i64 a1_2, .slice A1_3 l1_3.length c1_3, .slice A1_4 l1_4.length c1_4, .slice A1_5 l1_5.length c1_5] 40 (0, 0)) (by (with_reducible repeat (first | refine blk_drewN ?_ _ | refine blk_drew ?_ | refine blk_alloc ?_ _)); exact BK371.out) hb); have n4_ := Aside0.mk (below_step (by repeat (first | (with_reducible first | exact HB.out | apply below_alloc | apply pw_below_drewN | apply below_drew1 | refine below_set ?_ GE370.out | refine below_set ?_ GE371.out) | exact HB.out)) hb); clear HO_11; clear HO_13; clear BK370; clear BK371; clear HB; have HO_11 := n0_; have HO_13 := n1_; have BK370 := n2_; have BK371 := n3_; have HB := n4_; clear n0_ n1_ n2_ n3_ n4_; (try clear hb); (try clear hb2); (try clear hk); (try clear hi)))
         go_ret
         exact ⟨by first | rfl | (simp [errW_none, errW_some] <;> rfl) | (simp [*, errW_none, errW_some] <;> rfl), by repeat (first | (with_reducible first | exact HB.out | apply below_alloc | apply pw_below_drewN | apply below_drew1 | refine below_set ?_ GE370.out | refine below_set ?_ GE371.out) | exact HB.out)⟩
        ·rw [if_neg c38] at H
         have c38b0 : (t381 == 0) = false := beq_eq_false_iff_ne.mpr c38
         have c38b1 : (t381 != 0) = true := bne_iff_ne.mpr c38
         by_cases c41 : (t378.length : Int) = 0
         ·rw [if_pos c41] at H
          have c41b0 : ((t378.length : Int) == 0) = true := beq_iff_eq.mpr c41
          have c41b1 : ((t378.length : Int) != 0) = false := bne_eq_false_iff_eq.mpr c41
          clear c41
          replace H := Option.bind_eq_some_iff.mp H
          obtain ⟨t383, A420, H⟩ := H
          replace H : (some t383) = some r := H
          have A42 := Aside0.mk A420
          clear A420
          obtain rfl := Option.some.inj H
          obtain ⟨Ao43, co43, eo43⟩ := Kd.R_slice HO_13.out
          subst eo43
          go_wp2_with (first | (go_at_call 23; (with_reducible refine (raddlelaw08_wakes.calls  t383 _ A42.out).mono ?_); rintro e w44 ⟨rfl, hb⟩; have n0_ := Aside0.mk (Kd.R_below (by (with_reducible repeat (first | apply Kd.R_alloc | apply Kd.R_drewN | apply Kd.R_drew)); exact HO_11.out) hb); have n1_ := Aside0.mk (Kd.R_below (by (with_reducible repeat (first | apply Kd.R_alloc | apply Kd.R_drewN | apply Kd.R_drew)); exact HO_13.out) hb); have n2_ := Aside0.mk (blk_below (g := gb370) (o := .cells #[.int .i64 a0_0, .int .i64 a0_1, .int .i64 a0_2, .slice A0_3 l0_3.length c0_3, .slice A0_4 l0_4.length c0_4, .slice A0_5 l0_5.length c0_5] 40 (0, 0)) (by (with_reducible repeat (first | refine blk_drewN ?_ _ | refine blk_drew ?_ | refine blk_alloc ?_ _)); exact BK370.out) hb); have n3_ := Aside0.mk (blk_below (g := gb371) (o := .cells #[.int .i64 a1_0, .int .i64 a1_1, .int .i64 a1_2, .slice A1_3 l1_3.length c1_3, .slice A1_4 l1_4.length c1_4, .slice A1_5 l1_5.length c1_5] 40 (0, 0)) (by (with_reducible repeat (first | refine blk_drewN ?_ _ | refine blk_drew ?_ | refine blk_alloc ?_ _)); exact BK371.out) hb); have n4_ := Aside0.mk (below_step (by repeat (first | (with_reducible first | exact HB.out | apply below_alloc | apply pw_below_drewN | apply below_drew1 | refine below_set ?_ GE370.out | refine below_set ?_ GE371.out) | exact HB.out)) hb); clear HO_11; clear HO_13; clear BK370; clear BK371; clear HB; have HO_11 := n0_; have HO_13 := n1_; have BK370 := n2_; have BK371 := n3_; have HB := n4_; clear n0_ n1_ n2_ n3_ n4_; (try clear hb); (try clear hb2); (try clear hk); (try clear hi)))
          go_ret
          exact ⟨by first | rfl | (simp [errW_none, errW_some] <;> rfl) | (simp [*, errW_none, errW_some] <;> rfl), by repeat (first | (with_reducible first | exact HB.out | apply below_alloc | apply pw_below_drewN | apply below_drew1 | refine below_set ?_ GE370.out | refine below_set ?_ GE371.out) | exact HB.out)⟩
         ·rw [if_neg c41] at H
          have c41b0 : ((t378.length : Int) == 0) = false := beq_eq_false_iff_ne.mpr c41
          have c41b1 : ((t378.length : Int) != 0) = true := bne_iff_ne.mpr c41
          have c41b2 : ¬ (t378 = []) := fun h_ => c41 (by rw [h_]; rfl)
          obtain rfl := Option.some.inj H
          obtain ⟨Ao45, co45, eo45⟩ := Kd.R_slice HO_13.out
          subst eo45
          go_wp2
          go_ret
          exact ⟨by first | rfl | (simp [errW_none, errW_some] <;> rfl) | (simp [*, errW_none, errW_some] <;> rfl), by repeat (first | (with_reducible first | exact HB.out | apply below_alloc | apply pw_below_drewN | apply below_drew1 | refine below_set ?_ GE370.out | refine below_set ?_ GE371.out) | exact HB.out)⟩
       ·rw [if_neg c37] at H
        have c37b0 : (t377 == 0) = false := beq_eq_false_iff_ne.mpr c37
        have c37b1 : (t377 != 0) = true := bne_iff_ne.mpr c37
        by_cases c46 : (t374.length : Int) = 0
        ·rw [if_pos c46] at H
         have c46b0 : ((t374.length : Int) == 0) = true := beq_iff_eq.mpr c46
         have c46b1 : ((t374.length : Int) != 0) = false := bne_eq_false_iff_eq.mpr c46
         clear c46
         by_cases c47 : t381 = 0
         ·rw [if_pos c47] at H
          have c47b0 : (t381 == 0) = true := beq_iff_eq.mpr c47
          have c47b1 : (t381 != 0) = false := bne_eq_false_iff_eq.mpr c47
          clear c47
          replace H := Option.bind_eq_some_iff.mp H
          obtain ⟨t384, A480, H⟩ := H
          replace H : (some t384) = some r := H
          have A48 := Aside0.mk A480
          clear A480
          obtain rfl := Option.some.inj H
          obtain ⟨Ao49, co49, eo49⟩ := Kd.R_slice HO_11.out
          subst eo49
          go_wp2_with (first | (go_at_call 23; (with_reducible refine (raddlelaw08_wakes.calls  t384 _ A48.out).mono ?_); rintro e w50 ⟨rfl, hb⟩; have n0_ := Aside0.mk (Kd.R_below (by (with_reducible repeat (first | apply Kd.R_alloc | apply Kd.R_drewN | apply Kd.R_drew)); exact HO_11.out) hb); have n1_ := Aside0.mk (Kd.R_below (by (with_reducible repeat (first | apply Kd.R_alloc | apply Kd.R_drewN | apply Kd.R_drew)); exact HO_13.out) hb); have n2_ := Aside0.mk (blk_below (g := gb370) (o := .cells #[.int .i64 a0_0, .int .i64 a0_1, .int .i64 a0_2, .slice A0_3 l0_3.length c0_3, .slice A0_4 l0_4.length c0_4, .slice A0_5 l0_5.length c0_5] 40 (0, 0)) (by (with_reducible repeat (first | refine blk_drewN ?_ _ | refine blk_drew ?_ | refine blk_alloc ?_ _)); exact BK370.out) hb); have n3_ := Aside0.mk (blk_below (g := gb371) (o := .cells #[.int .i64 a1_0, .int .i64 a1_1, .int .i64 a1_2, .slice A1_3 l1_3.length c1_3, .slice A1_4 l1_4.length c1_4, .slice A1_5 l1_5.length c1_5] 40 (0, 0)) (by (with_reducible repeat (first | refine blk_drewN ?_ _ | refine blk_drew ?_ | refine blk_alloc ?_ _)); exact BK371.out) hb); have n4_ := Aside0.mk (below_step (by repeat (first | (with_reducible first | exact HB.out | apply below_alloc | apply pw_below_drewN | apply below_drew1 | refine below_set ?_ GE370.out | refine below_set ?_ GE371.out) | exact HB.out)) hb); clear HO_11; clear HO_13; clear BK370; clear BK371; clear HB; have HO_11 := n0_; have HO_13 := n1_; have BK370 := n2_; have BK371 := n3_; have HB := n4_; clear n0_ n1_ n2_ n3_ n4_; (try clear hb); (try clear hb2); (try clear hk); (try clear hi)))
          go_ret
          exact ⟨by first | rfl | (simp [errW_none, errW_some] <;> rfl) | (simp [*, errW_none, errW_some] <;> rfl), by repeat (first | (with_reducible first | exact HB.out | apply below_alloc | apply pw_below_drewN | apply below_drew1 | refine below_set ?_ GE370.out | refine below_set ?_ GE371.out) | exact HB.out)⟩
         ·rw [if_neg c47] at H
          have c47b0 : (t381 == 0) = false := beq_eq_false_iff_ne.mpr c47
          have c47b1 : (t381 != 0) = true := bne_iff_ne.mpr c47
          by_cases c51 : (t378.length : Int) = 0
          ·rw [if_pos c51] at H
           have c51b0 : ((t378.length : Int) == 0) = true := beq_iff_eq.mpr c51
           have c51b1 : ((t378.length : Int) != 0) = false := bne_eq_false_iff_eq.mpr c51
           clear c51
           replace H := Option.bind_eq_some_iff.mp H
           obtain ⟨t385, A520, H⟩ := H
           replace H : (some t385) = some r := H
           have A52 := Aside0.mk A520
           clear A520
           obtain rfl := Option.some.inj H
           obtain ⟨Ao53, co53, eo53⟩ := Kd.R_slice HO_11.out
           subst eo53
           obtain ⟨Ao54, co54, eo54⟩ := Kd.R_slice HO_13.out
           subst eo54
           go_wp2_with (first | (go_at_call 23; (with_reducible refine (raddlelaw08_wakes.calls  t385 _ A52.out).mono ?_); rintro e w55 ⟨rfl, hb⟩; have n0_ := Aside0.mk (Kd.R_below (by (with_reducible repeat (first | apply Kd.R_alloc | apply Kd.R_drewN | apply Kd.R_drew)); exact HO_11.out) hb); have n1_ := Aside0.mk (Kd.R_below (by (with_reducible repeat (first | apply Kd.R_alloc | apply Kd.R_drewN | apply Kd.R_drew)); exact HO_13.out) hb); have n2_ := Aside0.mk (blk_below (g := gb370) (o := .cells #[.int .i64 a0_0, .int .i64 a0_1, .int .i64 a0_2, .slice A0_3 l0_3.length c0_3, .slice A0_4 l0_4.length c0_4, .slice A0_5 l0_5.length c0_5] 40 (0, 0)) (by (with_reducible repeat (first | refine blk_drewN ?_ _ | refine blk_drew ?_ | refine blk_alloc ?_ _)); exact BK370.out) hb); have n3_ := Aside0.mk (blk_below (g := gb371) (o := .cells #[.int .i64 a1_0, .int .i64 a1_1, .int .i64 a1_2, .slice A1_3 l1_3.length c1_3, .slice A1_4 l1_4.length c1_4, .slice A1_5 l1_5.length c1_5] 40 (0, 0)) (by (with_reducible repeat (first | refine blk_drewN ?_ _ | refine blk_drew ?_ | refine blk_alloc ?_ _)); exact BK371.out) hb); have n4_ := Aside0.mk (below_step (by repeat (first | (with_reducible first | exact HB.out | apply below_alloc | apply pw_below_drewN | apply below_drew1 | refine below_set ?_ GE370.out | refine below_set ?_ GE371.out) | exact HB.out)) hb); clear HO_11; clear HO_13; clear BK370; clear BK371; clear HB; have HO_11 := n0_; have HO_13 := n1_; have BK370 := n2_; have BK371 := n3_; have HB := n4_; clear n0_ n1_ n2_ n3_ n4_; (try clear hb); (try clear hb2); (try clear hk); (try clear hi)))
           go_ret
           exact ⟨by first | rfl | (simp [errW_none, errW_some] <;> rfl) | (simp [*, errW_none, errW_some] <;> rfl), by repeat (first | (with_reducible first | exact HB.out | apply below_alloc | apply pw_below_drewN | apply below_drew1 | refine below_set ?_ GE370.out | refine below_set ?_ GE371.out) | exact HB.out)⟩
          ·rw [if_neg c51] at H
           have c51b0 : ((t378.length : Int) == 0) = false := beq_eq_false_iff_ne.mpr c51
           have c51b1 : ((t378.length : Int) != 0) = true := bne_iff_ne.mpr c51
           have c51b2 : ¬ (t378 = []) := fun h_ => c51 (by rw [h_]; rfl)
           obtain rfl := Option.some.inj H
           obtain ⟨Ao56, co56, eo56⟩ := Kd.R_slice HO_11.out
           subst eo56
           obtain ⟨Ao57, co57, eo57⟩ := Kd.R_slice HO_13.out
           subst eo57
           go_wp2
           go_ret
           exact ⟨by first | rfl | (simp [errW_none, errW_some] <;> rfl) | (simp [*, errW_none, errW_some] <;> rfl), by repeat (first | (with_reducible first | exact HB.out | apply below_alloc | apply pw_below_drewN | apply below_drew1 | refine below_set ?_ GE370.out | refine below_set ?_ GE371.out) | exact HB.out)⟩
        ·rw [if_neg c46] at H
         have c46b0 : ((t374.length : Int) == 0) = false := beq_eq_false_iff_ne.mpr c46
         have c46b1 : ((t374.length : Int) != 0) = true := bne_iff_ne.mpr c46
         have c46b2 : ¬ (t374 = []) := fun h_ => c46 (by rw [h_]; rfl)
         obtain rfl := Option.some.inj H
         obtain ⟨Ao58, co58, eo58⟩ := Kd.R_slice HO_11.out
         subst eo58
         go_wp2
         go_ret
         exact ⟨by first | rfl | (simp [errW_none, errW_some] <;> rfl) | (simp [*, errW_none, errW_some] <;> rfl), by repeat (first | (with_reducible first | exact HB.out | apply below_alloc | apply pw_below_drewN | apply below_drew1 | refine below_set ?_ GE370.out | refine below_set ?_ GE371.out) | exact HB.out)⟩
      ·replace c36 := Bool.eq_false_iff.mpr c36
       subst c36
       have H1 : (if (t374.length : Int) < 4 then (raddlelaw08_MsgCuts.j2 kj28 a2 a3 a4 t374 true a0_0 a0_1 a0_2 l0_3 l0_4 l0_5) else ((raddlekeep_Bytes.f kj28 t374 t378).bind fun t386 => ((raddlekeep_Msg.f kj28 a0_0 a0_1 a0_2 l0_3 l0_4 l0_5 a1_0 a1_1 a1_2 l1_3 l1_4 l1_5).bind fun t387 => (raddlelaw08_MsgCuts.j2 kj28 a2 a3 a4 t374 (t386 != t387) a0_0 a0_1 a0_2 l0_3 l0_4 l0_5)))) = some r := by rw [if_neg (show ¬ (false = true) by decide)] at H; exact H
       clear H
       have H := H1
       clear H1
       have HC59 := Aside0.mk H
       clear H
       go_upto_region 7 with (fail)
       go_cut [75] (fun v75 wc => ∃ (kq : Nat) (x75_58 : Bool), v75 = .bool x75_58 ∧ Aside0 (raddlelaw08_MsgCuts.j2 kq a2 a3 a4 t374 x75_58 a0_0 a0_1 a0_2 l0_3 l0_4 l0_5 = some r) ∧ Aside0 (kq ≤ kj28) ∧ Aside0 (Kd.R (Kd.int .u8) 5 wc w.heap.size (fun _ => True) v375 t374) ∧ Aside0 (wc.heap[gb370]? = some (.cells #[.int .i64 a0_0, .int .i64 a0_1, .int .i64 a0_2, (.slice A0_3 l0_3.length c0_3), (.slice A0_4 l0_4.length c0_4), (.slice A0_5 l0_5.length c0_5)] 40 (0, 0))) ∧ Aside0 (wc.heap[gb371]? = some (.cells #[.int .i64 a1_0, .int .i64 a1_1, .int .i64 a1_2, (.slice A1_3 l1_3.length c1_3), (.slice A1_4 l1_4.length c1_4), (.slice A1_5 l1_5.length c1_5)] 40 (0, 0))) ∧ Aside0 (Below w.heap.size w wc))
       case first =>
        have H := HC59.out
        clear HC59
        by_cases c60 : (t374.length : Int) < 4
        ·rw [if_pos c60] at H
         have c60b0 : decide ((t374.length : Int) < 4) = true := decide_eq_true c60
         have c60b1 : decide (t374.length < 4) = true := decide_eq_true (by omega)
         clear c60
         (first | rw [c60b0] | (simp only [i64_w, i32_w]; rw [c60b0]) | skip)
         have H' := Aside0.mk H
         clear H
         try go_wp2
         have n0_ := Aside0.mk (Kd.R_drew HO_11.out)
         have n1_ := Aside0.mk (Kd.R_drew HO_13.out)
         have n2_ := Aside0.mk (blk_drew BK370.out)
         have n3_ := Aside0.mk (blk_drew BK371.out)
         have n4_ := Aside0.mk (below_drew1 HB.out)
         clear HO_11
         clear HO_13
         clear BK370
         clear BK371
         clear HB
         have HO_11 := n0_
         have HO_13 := n1_
         have BK370 := n2_
         have BK371 := n3_
         have HB := n4_
         clear n0_ n1_ n2_ n3_ n4_
         obtain ⟨Ao62, co62, eo62⟩ := Kd.R_slice HO_11.out
         (first | subst eo62 | (injection eo62 with f1_ f2_ f3_; have f4_ := f1_.symm; have f5_ := f3_.symm; clear f1_ f2_ f3_; subst f4_; subst f5_))
         refine start_ (n := 12) (S := fun w' => True) (ds := []) #[false, false, false, false, false, false, false, false, false, false, false, false] (by kernel_rfl) rfl rfl trivial (fun hHeld => ?_); refine with_tabW raddlelaw08_MsgCuts.tab7 raddlelaw08_MsgCuts.bits7 (fun HT_ HW_ => ?_)
         generalize wc.drew = w61 at HO_11 HO_13 BK370 BK371 HB hHeld ⊢
         refine pure_ (i := 0) (N := some 64) (v := ?_) (a' := ?_) #[true, false, false, false, false, false, false, false, false, false, false, false] rfl rfl (any_of HT_.out (by kernel_rfl)) (fun _ _ _ h => h) (Or.inl ⟨by rfl, ?_⟩) ?_ ?_
         rotate_left
         ·intro w'
          go_simp
          with_reducible rfl
         rotate_left
         ·simp only [Act.put, List.setIfInBounds_toArray, List.set_cons_zero, List.set_cons_succ, i64_w, i32_w]
          rfl
         refine pure_ (i := 1) (N := some 65) (v := ?_) (a' := ?_) #[true, true, false, false, false, false, false, false, false, false, false, false] rfl rfl (any_of HT_.out (by kernel_rfl)) (fun _ _ _ h => h) (Or.inl ⟨by rfl, ?_⟩) ?_ ?_
         rotate_left
         ·intro w'
          go_simp
          with_reducible rfl
         rotate_left
         ·simp only [Act.put, List.setIfInBounds_toArray, List.set_cons_zero, List.set_cons_succ, i64_w, i32_w]
          rfl
         refine pure_ (i := 2) (N := some 66) (v := ?_) (a' := ?_) #[true, true, true, false, false, false, false, false, false, false, false, false] rfl rfl (any_of HT_.out (by kernel_rfl)) (fun _ _ _ h => h) (Or.inl ⟨by rfl, ?_⟩) ?_ ?_
         rotate_left
         ·intro w'
          go_simp
          with_reducible rfl
         rotate_left
         ·simp only [Act.put, List.setIfInBounds_toArray, List.set_cons_zero, List.set_cons_succ, i64_w, i32_w]
          rfl
         refine pure_ (i := 3) (N := some 67) (v := ?_) (a' := ?_) #[true, true, true, true, false, false, false, false, false, false, false, false] rfl rfl (any_of HT_.out (by kernel_rfl)) (fun _ _ _ h => h) (Or.inl ⟨by rfl, ?_⟩) ?_ ?_
         rotate_left
         ·intro w'
          go_simp
          with_reducible rfl
         rotate_left
         ·simp only [Act.put, List.setIfInBounds_toArray, List.set_cons_zero, List.set_cons_succ, i64_w, i32_w]
          rfl
         refine pure_ (i := 4) (N := some 68) (v := undef) (a' := ?_) #[true, true, true, true, true, false, false, false, false, false, false, false] rfl rfl (any_of HT_.out (by kernel_rfl)) (fun _ _ _ h => h) (Or.inr ⟨by rfl, rfl⟩) ?_ ?_
         rotate_left
         ·simp only [Act.put, List.setIfInBounds_toArray, List.set_cons_zero, List.set_cons_succ, i64_w, i32_w]
          rfl
         refine pure_ (i := 5) (N := some 69) (v := undef) (a' := ?_) #[true, true, true, true, true, true, false, false, false, false, false, false] rfl rfl (any_of HT_.out (by kernel_rfl)) (fun _ _ _ h => h) (Or.inr ⟨by rfl, rfl⟩) ?_ ?_
         rotate_left
         ·simp only [Act.put, List.setIfInBounds_toArray, List.set_cons_zero, List.set_cons_succ, i64_w, i32_w]
          rfl
         refine pure_ (i := 6) (N := some 70) (v := undef) (a' := ?_) #[true, true, true, true, true, true, true, false, false, false, false, false] rfl rfl (any_of HT_.out (by kernel_rfl)) (fun _ _ _ h => h) (Or.inr ⟨by rfl, rfl⟩) ?_ ?_
         rotate_left
         ·simp only [Act.put, List.setIfInBounds_toArray, List.set_cons_zero, List.set_cons_succ, i64_w, i32_w]
          rfl
         refine pure_ (i := 7) (N := some 71) (v := undef) (a' := ?_) #[true, true, true, true, true, true, true, true, false, false, false, false] rfl rfl (any_of HT_.out (by kernel_rfl)) (fun _ _ _ h => h) (Or.inr ⟨by rfl, rfl⟩) ?_ ?_
         rotate_left
         ·simp only [Act.put, List.setIfInBounds_toArray, List.set_cons_zero, List.set_cons_succ, i64_w, i32_w]
          rfl
         refine pure_ (i := 8) (N := some 72) (v := undef) (a' := ?_) #[true, true, true, true, true, true, true, true, true, false, false, false] rfl rfl (any_of HT_.out (by kernel_rfl)) (fun _ _ _ h => h) (Or.inr ⟨by rfl, rfl⟩) ?_ ?_
         rotate_left
         ·simp only [Act.put, List.setIfInBounds_toArray, List.set_cons_zero, List.set_cons_succ, i64_w, i32_w]
          rfl
         refine pure_ (i := 9) (N := some 73) (v := undef) (a' := ?_) #[true, true, true, true, true, true, true, true, true, true, false, false] rfl rfl (any_of HT_.out (by kernel_rfl)) (fun _ _ _ h => h) (Or.inr ⟨by rfl, rfl⟩) ?_ ?_
         rotate_left
         ·simp only [Act.put, List.setIfInBounds_toArray, List.set_cons_zero, List.set_cons_succ, i64_w, i32_w]
          rfl
         refine pure_ (i := 10) (N := some 74) (v := undef) (a' := ?_) #[true, true, true, true, true, true, true, true, true, true, true, false] rfl rfl (any_of HT_.out (by kernel_rfl)) (fun _ _ _ h => h) (Or.inr ⟨by rfl, rfl⟩) ?_ ?_
         rotate_left
         ·simp only [Act.put, List.setIfInBounds_toArray, List.set_cons_zero, List.set_cons_succ, i64_w, i32_w]
          rfl
         refine pure_ (i := 11) (N := some 75) (v := ?_) (a' := ?_) #[true, true, true, true, true, true, true, true, true, true, true, true] rfl rfl (any_of HT_.out (by kernel_rfl)) (fun _ _ _ h => h) (Or.inl ⟨by rfl, ?_⟩) ?_ ?_
         rotate_left
         ·intro w'
          go_simp
          with_reducible rfl
         rotate_left
         ·simp only [Act.put, List.setIfInBounds_toArray, List.set_cons_zero, List.set_cons_succ, i64_w, i32_w]
          rfl
         refine done_ (done_of HT_.out (by kernel_rfl)) ?_
         try go_wp2
         go_meet
         case rel => exact ⟨_, (true), (by first | rfl | (simp; done) | (simp [*]; done)), H', ⟨by have := HJ5.out; have := HJ28.out; first | omega | exact Nat.le_refl _⟩, ⟨by (with_reducible repeat (first | apply Kd.R_alloc | apply Kd.R_drewN | apply Kd.R_drew)); exact Kd.R_mono HO_11.out (fun _ hk => trivial)⟩, ⟨by (with_reducible repeat (first | refine blk_drewN ?_ _ | refine blk_drew ?_ | refine blk_alloc ?_ _)); exact BK370.out⟩, ⟨by (with_reducible repeat (first | refine blk_drewN ?_ _ | refine blk_drew ?_ | refine blk_alloc ?_ _)); exact BK371.out⟩, ⟨by repeat (first | (with_reducible first | exact HB.out | apply below_alloc | apply pw_below_drewN | apply below_drew1 | refine below_set ?_ GE370.out | refine below_set ?_ GE371.out) | exact HB.out)⟩⟩
        ·rw [if_neg c60] at H
         have c60b0 : decide ((t374.length : Int) < 4) = false := decide_eq_false c60
         have c60b1 : decide (t374.length < 4) = false := decide_eq_false (by omega)
         clear c60
         (first | rw [c60b0] | (simp only [i64_w, i32_w]; rw [c60b0]) | skip)
         replace H := Option.bind_eq_some_iff.mp H
         obtain ⟨t386, A630, H⟩ := H
         replace H : ((raddlekeep_Msg.f kj28 a0_0 a0_1 a0_2 l0_3 l0_4 l0_5 a1_0 a1_1 a1_2 l1_3 l1_4 l1_5).bind fun t387 => (raddlelaw08_MsgCuts.j2 kj28 a2 a3 a4 t374 (t386 != t387) a0_0 a0_1 a0_2 l0_3 l0_4 l0_5)) = some r := H
         have A63 := Aside0.mk A630
         clear A630
         replace H := Option.bind_eq_some_iff.mp H
         obtain ⟨t387, A640, H⟩ := H
         replace H : (raddlelaw08_MsgCuts.j2 kj28 a2 a3 a4 t374 (t386 != t387) a0_0 a0_1 a0_2 l0_3 l0_4 l0_5) = some r := H
         have A64 := Aside0.mk A640
         clear A640
         have H' := Aside0.mk H
         clear H
         try go_wp2
         have n0_ := Aside0.mk (Kd.R_drew HO_11.out)
         have n1_ := Aside0.mk (Kd.R_drew HO_13.out)
         have n2_ := Aside0.mk (blk_drew BK370.out)
         have n3_ := Aside0.mk (blk_drew BK371.out)
         have n4_ := Aside0.mk (below_drew1 HB.out)
         clear HO_11
         clear HO_13
         clear BK370
         clear BK371
         clear HB
         have HO_11 := n0_
         have HO_13 := n1_
         have BK370 := n2_
         have BK371 := n3_
         have HB := n4_
         clear n0_ n1_ n2_ n3_ n4_
         obtain ⟨Ao66, co66, eo66⟩ := Kd.R_slice HO_11.out
         (first | subst eo66 | (injection eo66 with f1_ f2_ f3_; have f4_ := f1_.symm; have f5_ := f3_.symm; clear f1_ f2_ f3_; subst f4_; subst f5_))
         obtain ⟨Ao67, co67, eo67⟩ := Kd.R_slice HO_13.out
         (first | subst eo67 | (injection eo67 with f1_ f2_ f3_; have f4_ := f1_.symm; have f5_ := f3_.symm; clear f1_ f2_ f3_; subst f4_; subst f5_))
         refine start_ (n := 12) (S := fun w' => w'.cell? ⟨gb370, 0, none⟩ = some (.int .i64 a0_0) ∧ w'.cell? ⟨gb370, 1, none⟩ = some (.int .i64 a0_1) ∧ w'.cell? ⟨gb370, 2, none⟩ = some (.int .i64 a0_2) ∧ w'.cell? ⟨gb370, 3, none⟩ = some (.slice A0_3 l0_3.length c0_3) ∧ w'.cell? ⟨gb370, 4, none⟩ = some (.slice A0_4 l0_4.length c0_4) ∧ w'.cell? ⟨gb370, 5, none⟩ = some (.slice A0_5 l0_5.length c0_5) ∧ w'.cell? ⟨gb371, 0, none⟩ = some (.int .i64 a1_0) ∧ w'.cell? ⟨gb371, 1, none⟩ = some (.int .i64 a1_1) ∧ w'.cell? ⟨gb371, 2, none⟩ = some (.int .i64 a1_2) ∧ w'.cell? ⟨gb371, 3, none⟩ = some (.slice A1_3 l1_3.length c1_3) ∧ w'.cell? ⟨gb371, 4, none⟩ = some (.slice A1_4 l1_4.length c1_4) ∧ w'.cell? ⟨gb371, 5, none⟩ = some (.slice A1_5 l1_5.length c1_5)) (ds := []) #[false, false, false, false, false, false, false, false, false, false, false, false] (by kernel_rfl) rfl rfl ⟨(blk_cell BK370.out 0).trans rfl, (blk_cell BK370.out 1).trans rfl, (blk_cell BK370.out 2).trans rfl, (blk_cell BK370.out 3).trans rfl, (blk_cell BK370.out 4).trans rfl, (blk_cell BK370.out 5).trans rfl, (blk_cell BK371.out 0).trans rfl, (blk_cell BK371.out 1).trans rfl, (blk_cell BK371.out 2).trans rfl, (blk_cell BK371.out 3).trans rfl, (blk_cell BK371.out 4).trans rfl, (blk_cell BK371.out 5).trans rfl⟩ (fun hHeld => ?_); refine with_tabW raddlelaw08_MsgCuts.tab7 raddlelaw08_MsgCuts.bits7 (fun HT_ HW_ => ?_)
         generalize wc.drew = w65 at HO_11 HO_13 BK370 BK371 HB hHeld ⊢
         refine pure_ (i := 0) (N := some 64) (v := ?_) (a' := ?_) #[true, false, false, false, false, false, false, false, false, false, false, false] rfl rfl (any_of HT_.out (by kernel_rfl)) (fun _ _ _ h => h) (Or.inl ⟨by rfl, ?_⟩) ?_ ?_
         rotate_left
         ·intro w'
          go_simp
          with_reducible rfl
         rotate_left
         ·simp only [Act.put, List.setIfInBounds_toArray, List.set_cons_zero, List.set_cons_succ, i64_w, i32_w]
          rfl
         refine pure_ (i := 1) (N := some 65) (v := ?_) (a' := ?_) #[true, true, false, false, false, false, false, false, false, false, false, false] rfl rfl (any_of HT_.out (by kernel_rfl)) (fun _ _ _ h => h) (Or.inl ⟨by rfl, ?_⟩) ?_ ?_
         rotate_left
         ·intro w'
          go_simp
          with_reducible rfl
         rotate_left
         ·simp only [Act.put, List.setIfInBounds_toArray, List.set_cons_zero, List.set_cons_succ, i64_w, i32_w]
          rfl
         refine pure_ (i := 2) (N := some 66) (v := ?_) (a' := ?_) #[true, true, true, false, false, false, false, false, false, false, false, false] rfl rfl (any_of HT_.out (by kernel_rfl)) (fun _ _ _ h => h) (Or.inl ⟨by rfl, ?_⟩) ?_ ?_
         rotate_left
         ·intro w'
          go_simp
          with_reducible rfl
         rotate_left
         ·simp only [Act.put, List.setIfInBounds_toArray, List.set_cons_zero, List.set_cons_succ, i64_w, i32_w]
          rfl
         refine pure_ (i := 3) (N := some 67) (v := ?_) (a' := ?_) #[true, true, true, true, false, false, false, false, false, false, false, false] rfl rfl (any_of HT_.out (by kernel_rfl)) (fun _ _ _ h => h) (Or.inl ⟨by rfl, ?_⟩) ?_ ?_
         rotate_left
         ·intro w'
          go_simp
          with_reducible rfl
         rotate_left
         ·simp only [Act.put, List.setIfInBounds_toArray, List.set_cons_zero, List.set_cons_succ, i64_w, i32_w]
          rfl
         refine pure_ (i := 4) (N := some 68) (v := ?_) (a' := ?_) #[true, true, true, true, true, false, false, false, false, false, false, false] rfl rfl (any_of HT_.out (by kernel_rfl)) (fun _ _ _ h => h) (Or.inl ⟨by rfl, ?_⟩) ?_ ?_
         rotate_left
         ·intro w'
          go_simp
          with_reducible rfl
         rotate_left
         ·simp only [Act.put, List.setIfInBounds_toArray, List.set_cons_zero, List.set_cons_succ, i64_w, i32_w]
          rfl
         refine pure_ (i := 5) (N := some 69) (v := ?_) (a' := ?_) #[true, true, true, true, true, true, false, false, false, false, false, false] rfl rfl (any_of HT_.out (by kernel_rfl)) (fun _ _ _ h => h) (Or.inl ⟨by rfl, ?_⟩) ?_ ?_
         rotate_left
         ·intro w'
          go_simp
          with_reducible rfl
         rotate_left
         ·simp only [Act.put, List.setIfInBounds_toArray, List.set_cons_zero, List.set_cons_succ, i64_w, i32_w]
          rfl
         refine take_ (i := 7) (N := some 71) (v := ?_) (a' := ?_) #[true, true, true, true, true, true, false, true, false, false, false, false] rfl rfl (take_ofW HT_.out HW_.out (by kernel_rfl)) (fun _ _ _ h => h) (Or.inl ⟨by rfl, ?_⟩) hHeld ?_ ?_
         rotate_left
         ·rintro w' ⟨s0, s1, s2, s3, s4, s5, s6, s7, s8, s9, s10, s11⟩
          go_simp
          with_reducible rfl
         rotate_left
         ·simp only [Act.put, List.setIfInBounds_toArray, List.set_cons_zero, List.set_cons_succ, i64_w, i32_w]
          rfl
         refine take_ (i := 8) (N := some 72) (v := ?_) (a' := ?_) #[true, true, true, true, true, true, false, true, true, false, false, false] rfl rfl (take_ofW HT_.out HW_.out (by kernel_rfl)) (fun _ _ _ h => h) (Or.inl ⟨by rfl, ?_⟩) hHeld ?_ ?_
         rotate_left
         ·rintro w' ⟨s0, s1, s2, s3, s4, s5, s6, s7, s8, s9, s10, s11⟩
          go_simp
          with_reducible rfl
         rotate_left
         ·simp only [Act.put, List.setIfInBounds_toArray, List.set_cons_zero, List.set_cons_succ, i64_w, i32_w]
          rfl
         refine one_ (i := 6) (N := some 70) #[true, true, true, true, true, true, true, true, true, false, false, false] rfl rfl (one_of HT_.out (by kernel_rfl)) (by decide) (fun K hK => ?_)
         refine goes_ Try.func14 (by kernel_rfl) rfl #[.slice Ao66 t374.length co66, .slice Ao67 t378.length co67] (by rfl) rfl rfl (by (try simp only [List.map_toArray, List.map_cons, List.map_nil]); first | done | rfl | (simp only [List.length_drop, List.length_take]; rfl)) ?_
         with_reducible refine (raddlekeep_Bytes.calls kj28 _ _ t374 _ _ t378 t386 _ ?side1 ?side2 ?side3 ?side4 A63.out).mono ?_
         (case side1 => repeat (first | exact (Kd.R_reads' HO_11.out).2.2 | (with_reducible refine Kd.C_alloc ?_ _) | (with_reducible refine Kd.C_drewN ?_ _) | (with_reducible refine Kd.C_drew ?_)))
         (case side2 => exact (Kd.R_reads' HO_11.out).2.1)
         (case side3 => repeat (first | exact (Kd.R_reads' HO_13.out).2.2 | (with_reducible refine Kd.C_alloc ?_ _) | (with_reducible refine Kd.C_drewN ?_ _) | (with_reducible refine Kd.C_drew ?_)))
         (case side4 => exact (Kd.R_reads' HO_13.out).2.1)
         rintro e w' ⟨rfl, ⟨nd, rfl⟩⟩
         refine ⟨_, rfl, ?_⟩
         refine hK.out _ _ ⟨(blk_cell BK370.out 0).trans rfl, (blk_cell BK370.out 1).trans rfl, (blk_cell BK370.out 2).trans rfl, (blk_cell BK370.out 3).trans rfl, (blk_cell BK370.out 4).trans rfl, (blk_cell BK370.out 5).trans rfl, (blk_cell BK371.out 0).trans rfl, (blk_cell BK371.out 1).trans rfl, (blk_cell BK371.out 2).trans rfl, (blk_cell BK371.out 3).trans rfl, (blk_cell BK371.out 4).trans rfl, (blk_cell BK371.out 5).trans rfl⟩ (fun hHeld => ?_)
         clear hK K
         refine norm_ (a' := ?_) ?_ ?_
         rotate_left
         ·show Act.put _ (some 70) _ = _
          simp only [Act.put, List.setIfInBounds_toArray, List.set_cons_zero, List.set_cons_succ, i64_w, i32_w]
          rfl
         refine one_ (i := 9) (N := some 73) #[true, true, true, true, true, true, true, true, true, true, false, false] rfl rfl (one_of HT_.out (by kernel_rfl)) (by decide) (fun K hK => ?_)
         refine goes_ Try.func24 (by kernel_rfl) rfl #[.agg #[.int .i64 a0_0, .int .i64 a0_1, .int .i64 a0_2, .slice A0_3 l0_3.length c0_3, .slice A0_4 l0_4.length c0_4, .slice A0_5 l0_5.length c0_5], .agg #[.int .i64 a1_0, .int .i64 a1_1, .int .i64 a1_2, .slice A1_3 l1_3.length c1_3, .slice A1_4 l1_4.length c1_4, .slice A1_5 l1_5.length c1_5]] (by rfl) rfl rfl (by (try simp only [List.map_toArray, List.map_cons, List.map_nil]); first | done | rfl | (simp only [List.length_drop, List.length_take]; rfl)) ?_
         with_reducible refine (raddlekeep_Msg.calls kj28 a0_0 a0_1 a0_2 _ _ l0_3 _ _ l0_4 _ _ l0_5 a1_0 a1_1 a1_2 _ _ l1_3 _ _ l1_4 _ _ l1_5 t387 _ ?side1 ?side2 ?side3 ?side4 ?side5 ?side6 ?side7 ?side8 ?side9 ?side10 ?side11 ?side12 A64.out).mono ?_
         (case side1 => repeat (first | exact (Kd.C_below HR0_3.out (by repeat (first | (with_reducible first | exact HB.out | apply below_alloc | apply pw_below_drewN | apply below_drew1 | refine below_set ?_ GE370.out | refine below_set ?_ GE371.out) | exact HB.out))) | (with_reducible refine Kd.C_alloc ?_ _) | (with_reducible refine Kd.C_drewN ?_ _) | (with_reducible refine Kd.C_drew ?_)))
         (case side2 => exact HC0_3.out)
         (case side3 => repeat (first | exact (Kd.C_below HR0_4.out (by repeat (first | (with_reducible first | exact HB.out | apply below_alloc | apply pw_below_drewN | apply below_drew1 | refine below_set ?_ GE370.out | refine below_set ?_ GE371.out) | exact HB.out))) | (with_reducible refine Kd.C_alloc ?_ _) | (with_reducible refine Kd.C_drewN ?_ _) | (with_reducible refine Kd.C_drew ?_)))
         (case side4 => exact HC0_4.out)
         (case side5 => repeat (first | exact (Kd.C_below HR0_5.out (by repeat (first | (with_reducible first | exact HB.out | apply below_alloc | apply pw_below_drewN | apply below_drew1 | refine below_set ?_ GE370.out | refine below_set ?_ GE371.out) | exact HB.out))) | (with_reducible refine Kd.C_alloc ?_ _) | (with_reducible refine Kd.C_drewN ?_ _) | (with_reducible refine Kd.C_drew ?_)))
         (case side6 => exact HC0_5.out)
         (case side7 => repeat (first | exact (Kd.C_below HR1_3.out (by repeat (first | (with_reducible first | exact HB.out | apply below_alloc | apply pw_below_drewN | apply below_drew1 | refine below_set ?_ GE370.out | refine below_set ?_ GE371.out) | exact HB.out))) | (with_reducible refine Kd.C_alloc ?_ _) | (with_reducible refine Kd.C_drewN ?_ _) | (with_reducible refine Kd.C_drew ?_)))
         (case side8 => exact HC1_3.out)
         (case side9 => repeat (first | exact (Kd.C_below HR1_4.out (by repeat (first | (with_reducible first | exact HB.out | apply below_alloc | apply pw_below_drewN | apply below_drew1 | refine below_set ?_ GE370.out | refine below_set ?_ GE371.out) | exact HB.out))) | (with_reducible refine Kd.C_alloc ?_ _) | (with_reducible refine Kd.C_drewN ?_ _) | (with_reducible refine Kd.C_drew ?_)))
         (case side10 => exact HC1_4.out)
         (case side11 => repeat (first | exact (Kd.C_below HR1_5.out (by repeat (first | (with_reducible first | exact HB.out | apply below_alloc | apply pw_below_drewN | apply below_drew1 | refine below_set ?_ GE370.out | refine below_set ?_ GE371.out) | exact HB.out))) | (with_reducible refine Kd.C_alloc ?_ _) | (with_reducible refine Kd.C_drewN ?_ _) | (with_reducible refine Kd.C_drew ?_)))
         (case side12 => exact HC1_5.out)
         rintro e w68 ⟨rfl, hb⟩
         refine ⟨_, rfl, ?_⟩
         have n0_ := Aside0.mk (Kd.R_below (by (with_reducible repeat (first | apply Kd.R_alloc | apply Kd.R_drewN | apply Kd.R_drew)); exact HO_11.out) hb)
         have n1_ := Aside0.mk (Kd.R_below (by (with_reducible repeat (first | apply Kd.R_alloc | apply Kd.R_drewN | apply Kd.R_drew)); exact HO_13.out) hb)
         have n2_ := Aside0.mk (blk_below (g := gb370) (o := .cells #[.int .i64 a0_0, .int .i64 a0_1, .int .i64 a0_2, .slice A0_3 l0_3.length c0_3, .slice A0_4 l0_4.length c0_4, .slice A0_5 l0_5.length c0_5] 40 (0, 0)) (by (with_reducible repeat (first | refine blk_drewN ?_ _ | refine blk_drew ?_ | refine blk_alloc ?_ _)); exact BK370.out) hb)
         have n3_ := Aside0.mk (blk_below (g := gb371) (o := .cells #[.int .i64 a1_0, .int .i64 a1_1, .int .i64 a1_2, .slice A1_3 l1_3.length c1_3, .slice A1_4 l1_4.length c1_4, .slice A1_5 l1_5.length c1_5] 40 (0, 0)) (by (with_reducible repeat (first | refine blk_drewN ?_ _ | refine blk_drew ?_ | refine blk_alloc ?_ _)); exact BK371.out) hb)
         have n4_ := Aside0.mk (below_step (by repeat (first | (with_reducible first | exact HB.out | apply below_alloc | apply pw_below_drewN | apply below_drew1 | refine below_set ?_ GE370.out | refine below_set ?_ GE371.out) | exact HB.out)) hb)
         clear HO_11
         clear HO_13
         clear BK370
         clear BK371
         clear HB
         have HO_11 := n0_
         have HO_13 := n1_
         have BK370 := n2_
         have BK371 := n3_
         have HB := n4_
         clear n0_ n1_ n2_ n3_ n4_
         (try clear hb)
         (try clear hb2)
         (try clear hk)
         (try clear hi)
         refine hK.out _ _ ⟨(blk_cell BK370.out 0).trans rfl, (blk_cell BK370.out 1).trans rfl, (blk_cell BK370.out 2).trans rfl, (blk_cell BK370.out 3).trans rfl, (blk_cell BK370.out 4).trans rfl, (blk_cell BK370.out 5).trans rfl, (blk_cell BK371.out 0).trans rfl, (blk_cell BK371.out 1).trans rfl, (blk_cell BK371.out 2).trans rfl, (blk_cell BK371.out 3).trans rfl, (blk_cell BK371.out 4).trans rfl, (blk_cell BK371.out 5).trans rfl⟩ (fun hHeld => ?_)
         clear hK K
         refine norm_ (a' := ?_) ?_ ?_
         rotate_left
         ·show Act.put _ (some 73) _ = _
          simp only [Act.put, List.setIfInBounds_toArray, List.set_cons_zero, List.set_cons_succ, i64_w, i32_w]
          rfl
         refine pure_ (i := 10) (N := some 74) (v := ?_) (a' := ?_) #[true, true, true, true, true, true, true, true, true, true, true, false] rfl rfl (any_of HT_.out (by kernel_rfl)) (fun _ _ _ h => h) (Or.inl ⟨by rfl, ?_⟩) ?_ ?_
         rotate_left
         ·intro w'
          go_simp
          with_reducible rfl
         rotate_left
         ·simp only [Act.put, List.setIfInBounds_toArray, List.set_cons_zero, List.set_cons_succ, i64_w, i32_w]
          rfl
         refine pure_ (i := 11) (N := some 75) (v := ?_) (a' := ?_) #[true, true, true, true, true, true, true, true, true, true, true, true] rfl rfl (any_of HT_.out (by kernel_rfl)) (fun _ _ _ h => h) (Or.inl ⟨by rfl, ?_⟩) ?_ ?_
         rotate_left
         ·intro w'
          go_simp
          with_reducible rfl
         rotate_left
         ·simp only [Act.put, List.setIfInBounds_toArray, List.set_cons_zero, List.set_cons_succ, i64_w, i32_w]
          rfl
         refine done_ (done_of HT_.out (by kernel_rfl)) ?_
         try go_wp2
         go_meet
         case rel => exact ⟨_, ((t386 != t387)), (by first | rfl | (simp; done) | (simp [*]; done)), H', ⟨by have := HJ5.out; have := HJ28.out; first | omega | exact Nat.le_refl _⟩, ⟨by (with_reducible repeat (first | apply Kd.R_alloc | apply Kd.R_drewN | apply Kd.R_drew)); exact Kd.R_mono HO_11.out (fun _ hk => trivial)⟩, ⟨by (with_reducible repeat (first | refine blk_drewN ?_ _ | refine blk_drew ?_ | refine blk_alloc ?_ _)); exact BK370.out⟩, ⟨by (with_reducible repeat (first | refine blk_drewN ?_ _ | refine blk_drew ?_ | refine blk_alloc ?_ _)); exact BK371.out⟩, ⟨by repeat (first | (with_reducible first | exact HB.out | apply below_alloc | apply pw_below_drewN | apply below_drew1 | refine below_set ?_ GE370.out | refine below_set ?_ GE371.out) | exact HB.out)⟩⟩
       case rest =>
        clear HC59
        try clear c1
        try clear c2
        try clear p2
        try clear c3
        try clear c4
        try clear c5
        try clear c6
        try clear c9
        try clear c10
        try clear c11
        try clear c14
        try clear c15
        try clear c16
        try clear c21
        try clear c22
        try clear c24
        try clear c26
        try clear c30
        try clear c35
        try clear c35b0
        try clear c35b1
        try clear c36
        try clear c37
        try clear c37b0
        try clear c37b1
        try clear c38
        try clear c38b0
        try clear c38b1
        try clear c41
        try clear c41b0
        try clear c41b1
        try clear c41b2
        try clear c46
        try clear c46b0
        try clear c46b1
        try clear c46b2
        try clear c47
        try clear c47b0
        try clear c47b1
        try clear c51
        try clear c51b0
        try clear c51b1
        try clear c51b2
        try clear c60
        try clear c60b0
        try clear c60b1
        try clear hcz12_0
        try clear hcz12_1
        try clear hcz12_2
        try clear hcz12_3
        try clear hcz12_4
        try clear hcz12_5
        try clear hcz17_0
        try clear hcz17_1
        try clear hcz17_2
        try clear hcz17_3
        try clear hcz17_4
        try clear hcz17_5
        try clear hcz19_0
        try clear hcz19_1
        try clear hcz19_2
        try clear hcz19_3
        try clear hcz19_4
        try clear hcz19_5
        try clear hcz22_0
        try clear hcz22_1
        try clear hcz22_2
        try clear hcz22_3
        try clear hcz22_4
        try clear hcz22_5
        try clear hcz24_0
        try clear hcz24_1
        try clear hcz24_2
        try clear hcz24_3
        try clear hcz24_4
        try clear hcz24_5
        try clear hcz31_0
        try clear hcz31_1
        try clear hcz31_2
        try clear hcz31_3
        try clear hcz31_4
        try clear hcz31_5
        try clear hcz33_0
        try clear hcz33_1
        try clear hcz33_2
        try clear hcz33_3
        try clear hcz33_4
        try clear hcz33_5
        try clear hfz12_0
        try clear hfz12_1
        try clear hfz12_2
        try clear hfz12_3
        try clear hfz12_4
        try clear hfz12_5
        try clear hfz17_0
        try clear hfz17_1
        try clear hfz17_2
        try clear hfz17_3
        try clear hfz17_4
        try clear hfz17_5
        try clear hfz19_0
        try clear hfz19_1
        try clear hfz19_2
        try clear hfz19_3
        try clear hfz19_4
        try clear hfz19_5
        try clear hfz22_0
        try clear hfz22_1
        try clear hfz22_2
        try clear hfz22_3
        try clear hfz22_4
        try clear hfz22_5
        try clear hfz24_0
        try clear hfz24_1
        try clear hfz24_2
        try clear hfz24_3
        try clear hfz24_4
        try clear hfz24_5
        try clear hfz31_0
        try clear hfz31_1
        try clear hfz31_2
        try clear hfz31_3
        try clear hfz31_4
        try clear hfz31_5
        try clear hfz33_0
        try clear hfz33_1
        try clear hfz33_2
        try clear hfz33_3
        try clear hfz33_4
        try clear hfz33_5
        try clear p2
        obtain ⟨kq, x75_58, rfl, HA, HJ58, HO_11, BK370, BK371, HB⟩ := hcut
        cases kq with
        | zero => exact absurd HA.out (by simp [raddlelaw08_MsgCuts.j2])
        | succ kj58 =>
         have H := HA.out
         clear HA
         simp only [raddlelaw08_MsgCuts.j2] at H
         by_cases c69 : x75_58 = true
         ·subst c69
          have H1 : (some false) = some r := by rw [if_pos rfl] at H; exact H
          clear H
          have H := H1
          clear H1
          obtain rfl := Option.some.inj H
          go_wp2
          go_ret
          exact ⟨by first | rfl | (simp [errW_none, errW_some] <;> rfl) | (simp [*, errW_none, errW_some] <;> rfl), by repeat (first | (with_reducible first | exact HB.out | apply below_alloc | apply pw_below_drewN | apply below_drew1 | refine below_set ?_ GE370.out | refine below_set ?_ GE371.out) | exact HB.out)⟩
         ·replace c69 := Bool.eq_false_iff.mpr c69
          subst c69
          have H1 : ((raddlekeep_Twin.f t374).bind fun t388 => (if (IntKind.u64.wrap (wrap64 (8 * (t388.length : Int)))) = 0 then (none) else (raddlelaw08_MsgCuts.l0 kj58 a2 (wrap64 (Int.tmod (IntKind.u64.wrap (a3)) (IntKind.u64.wrap (wrap64 (8 * (t388.length : Int)))))) a4 t374 t388 false 0 a0_0 a0_1 a0_2 l0_3 l0_4 l0_5))) = some r := by rw [if_neg (show ¬ (false = true) by decide)] at H; exact H
          clear H
          have H := H1
          clear H1
          replace H := Option.bind_eq_some_iff.mp H
          obtain ⟨t388, A700, H⟩ := H
          replace H : (if (IntKind.u64.wrap (wrap64 (8 * (t388.length : Int)))) = 0 then (none) else (raddlelaw08_MsgCuts.l0 kj58 a2 (wrap64 (Int.tmod (IntKind.u64.wrap (a3)) (IntKind.u64.wrap (wrap64 (8 * (t388.length : Int)))))) a4 t374 t388 false 0 a0_0 a0_1 a0_2 l0_3 l0_4 l0_5)) = some r := H
          have A70 := Aside0.mk A700
          clear A700
          by_cases c71 : (IntKind.u64.wrap (wrap64 (8 * (t388.length : Int)))) = 0
          ·rw [if_pos c71] at H
           exact absurd H (by simp)
          ·rw [if_neg c71] at H
           have c71b0 : ((IntKind.u64.wrap (wrap64 (8 * (t388.length : Int)))) == 0) = false := beq_eq_false_iff_ne.mpr c71
           have c71b1 : ((IntKind.u64.wrap (wrap64 (8 * (t388.length : Int)))) != 0) = true := bne_iff_ne.mpr c71
           have H' := Aside0.mk H
           clear H
           obtain ⟨Ao72, co72, eo72⟩ := Kd.R_slice HO_11.out
           subst eo72
           go_wp2_with (first | ((with_reducible refine gate_callee (f := 13) rfl ?_); refine goesL_ (some 77) rfl rfl Try.func13 (by kernel_rfl) rfl #[.slice Ao72 t374.length co72] rfl (by (try simp only [List.map_toArray, List.map_cons, List.map_nil]); first | done | rfl | (simp only [List.length_drop, List.length_take]; rfl)) ?_; (with_reducible refine (raddlekeep_Twin.calls _ _ t374 t388 _ ?side1 ?side2 A70.out).mono ?_); (case side1 => repeat (first | exact (Kd.R_reads' HO_11.out).2.2 | (with_reducible refine Kd.C_alloc ?_ _) | (with_reducible refine Kd.C_drewN ?_ _) | (with_reducible refine Kd.C_drew ?_))); (case side2 => exact (Kd.R_reads' HO_11.out).2.1); rintro e w73 ⟨v389, rfl, ho0, hb⟩; refine ⟨_, rfl, ?_⟩; have n0_ := Aside0.mk (Kd.R_elder' (by (with_reducible repeat (first | apply Kd.R_alloc | apply Kd.R_drewN | apply Kd.R_drew)); exact HO_11.out) (Kd.R_base ho0) hb); have n1_ := Aside0.mk (Kd.R_lower (Kd.R_new' ho0 (Kd.R_lt (by (with_reducible repeat (first | apply Kd.R_alloc | apply Kd.R_drewN | apply Kd.R_drew)); exact HO_11.out))) (below_size (by repeat (first | (with_reducible first | exact HB.out | apply below_alloc | apply pw_below_drewN | apply below_drew1 | refine below_set ?_ GE370.out | refine below_set ?_ GE371.out) | exact HB.out)))); have n2_ := Aside0.mk (blk_below (g := gb370) (o := .cells #[.int .i64 a0_0, .int .i64 a0_1, .int .i64 a0_2, .slice A0_3 l0_3.length c0_3, .slice A0_4 l0_4.length c0_4, .slice A0_5 l0_5.length c0_5] 40 (0, 0)) (by (with_reducible repeat (first | refine blk_drewN ?_ _ | refine blk_drew ?_ | refine blk_alloc ?_ _)); exact BK370.out) hb); have n3_ := Aside0.mk (blk_below (g := gb371) (o := .cells #[.int .i64 a1_0, .int .i64 a1_1, .int .i64 a1_2, .slice A1_3 l1_3.length c1_3, .slice A1_4 l1_4.length c1_4, .slice A1_5 l1_5.length c1_5] 40 (0, 0)) (by (with_reducible repeat (first | refine blk_drewN ?_ _ | refine blk_drew ?_ | refine blk_alloc ?_ _)); exact BK371.out) hb); have n4_ := Aside0.mk (below_step (by repeat (first | (with_reducible first | exact HB.out | apply below_alloc | apply pw_below_drewN | apply below_drew1 | refine below_set ?_ GE370.out | refine below_set ?_ GE371.out) | exact HB.out)) hb); clear HO_11; clear BK370; clear BK371; clear HB; have HO_11 := n0_; have HO390 := n1_; have BK370 := n2_; have BK371 := n3_; have HB := n4_; clear n0_ n1_ n2_ n3_ n4_; (try clear hb); (try clear hb2); (try clear hk); (try clear hi); (try clear ho0); obtain ⟨Ao74, co74, eo74⟩ := Kd.R_slice HO390.out; subst eo74))
           obtain ⟨aN_, haN_⟩ : ∃ a_ : Int, (wrap64 (8 * (t388.length : Int))) = a_ := ⟨_, rfl⟩
           obtain ⟨aT_, haT_⟩ : ∃ a_ : Int, (wrap64 (Int.tmod (IntKind.u64.wrap (a3)) (IntKind.u64.wrap aN_))) = a_ := ⟨_, rfl⟩
           rw [haN_, haT_] at H'
           simp only [haN_, haT_]
           clear haN_ haT_
           (try clear c71b0)
           (try clear c71b1)
           go_loopg [16, 17] kj58 (fun kq v16 v17 w' => ∃ (x15_4 : List Int) (x16_4 : Bool) (x17_4 : Int), v16 = .bool x16_4 ∧ v17 = .int .i64 x17_4 ∧ Aside0 (raddlelaw08_MsgCuts.l0 kq a2 aT_ a4 t374 x15_4 x16_4 x17_4 a0_0 a0_1 a0_2 l0_3 l0_4 l0_5 = some r) ∧ Aside0 (kq ≤ kj58) ∧ Aside0 (Kd.R (Kd.int .u8) 5 w' w.heap.size (fun k_ => some k_ ≠ ((.slice Ao74 t388.length co74) : Value).ownBlock) (.slice Ao72 t374.length co72) t374) ∧ Aside0 (Kd.R (Kd.int .u8) 5 w' w.heap.size (fun k_ => some k_ ≠ ((.slice Ao72 t374.length co72) : Value).ownBlock) (.slice Ao74 t388.length co74) x15_4) ∧ Aside0 (w'.heap[gb370]? = some (.cells #[.int .i64 a0_0, .int .i64 a0_1, .int .i64 a0_2, (.slice A0_3 l0_3.length c0_3), (.slice A0_4 l0_4.length c0_4), (.slice A0_5 l0_5.length c0_5)] 40 (0, 0))) ∧ Aside0 (w'.heap[gb371]? = some (.cells #[.int .i64 a1_0, .int .i64 a1_1, .int .i64 a1_2, (.slice A1_3 l1_3.length c1_3), (.slice A1_4 l1_4.length c1_4), (.slice A1_5 l1_5.length c1_5)] 40 (0, 0))) ∧ Aside0 (Below w.heap.size w w'))
           case atStart => exact ⟨(t388), (false), (0), (by first | rfl | (simp; done) | (simp [*]; done)), (by first | rfl | (simp; done) | (simp [*]; done)), H', ⟨Nat.le_refl _⟩, ⟨by (with_reducible repeat (first | apply Kd.R_alloc | apply Kd.R_drewN | apply Kd.R_drew)); exact Kd.R_mono HO_11.out (fun _ hk => hk.2)⟩, ⟨by (with_reducible repeat (first | apply Kd.R_alloc | apply Kd.R_drewN | apply Kd.R_drew)); exact Kd.R_mono HO390.out (fun _ hk => hk.2)⟩, ⟨by (with_reducible repeat (first | refine blk_drewN ?_ _ | refine blk_drew ?_ | refine blk_alloc ?_ _)); exact BK370.out⟩, ⟨by (with_reducible repeat (first | refine blk_drewN ?_ _ | refine blk_drew ?_ | refine blk_alloc ?_ _)); exact BK371.out⟩, ⟨by repeat (first | (with_reducible first | exact HB.out | apply below_alloc | apply pw_below_drewN | apply below_drew1 | refine below_set ?_ GE370.out | refine below_set ?_ GE371.out) | exact HB.out)⟩⟩
           case round =>
            clear H'
            try clear c1
            try clear c2
            try clear p2
            try clear c3
            try clear c4
            try clear c5
            try clear c6
            try clear p6
            try clear c7
            try clear c9
            try clear c10
            try clear c11
            try clear c13
            try clear c14
            try clear c15
            try clear c16
            try clear c21
            try clear c22
            try clear c24
            try clear c26
            try clear c30
            try clear c35
            try clear c35b0
            try clear c35b1
            try clear c36
            try clear c37
            try clear c37b0
            try clear c37b1
            try clear c38
            try clear c38b0
            try clear c38b1
            try clear c41
            try clear c41b0
            try clear c41b1
            try clear c41b2
            try clear c46
            try clear c46b0
            try clear c46b1
            try clear c46b2
            try clear c47
            try clear c47b0
            try clear c47b1
            try clear c51
            try clear c51b0
            try clear c51b1
            try clear c51b2
            try clear c60
            try clear c60b0
            try clear c60b1
            try clear p64
            try clear c69
            try clear c71
            try clear c71b0
            try clear c71b1
            try clear hcz12_0
            try clear hcz12_1
            try clear hcz12_2
            try clear hcz12_3
            try clear hcz12_4
            try clear hcz12_5
            try clear hcz17_0
            try clear hcz17_1
            try clear hcz17_2
            try clear hcz17_3
            try clear hcz17_4
            try clear hcz17_5
            try clear hcz19_0
            try clear hcz19_1
            try clear hcz19_2
            try clear hcz19_3
            try clear hcz19_4
            try clear hcz19_5
            try clear hcz22_0
            try clear hcz22_1
            try clear hcz22_2
            try clear hcz22_3
            try clear hcz22_4
            try clear hcz22_5
            try clear hcz24_0
            try clear hcz24_1
            try clear hcz24_2
            try clear hcz24_3
            try clear hcz24_4
            try clear hcz24_5
            try clear hcz31_0
            try clear hcz31_1
            try clear hcz31_2
            try clear hcz31_3
            try clear hcz31_4
            try clear hcz31_5
            try clear hcz33_0
            try clear hcz33_1
            try clear hcz33_2
            try clear hcz33_3
            try clear hcz33_4
            try clear hcz33_5
            try clear hfz12_0
            try clear hfz12_1
            try clear hfz12_2
            try clear hfz12_3
            try clear hfz12_4
            try clear hfz12_5
            try clear hfz17_0
            try clear hfz17_1
            try clear hfz17_2
            try clear hfz17_3
            try clear hfz17_4
            try clear hfz17_5
            try clear hfz19_0
            try clear hfz19_1
            try clear hfz19_2
            try clear hfz19_3
            try clear hfz19_4
            try clear hfz19_5
            try clear hfz22_0
            try clear hfz22_1
            try clear hfz22_2
            try clear hfz22_3
            try clear hfz22_4
            try clear hfz22_5
            try clear hfz24_0
            try clear hfz24_1
            try clear hfz24_2
            try clear hfz24_3
            try clear hfz24_4
            try clear hfz24_5
            try clear hfz31_0
            try clear hfz31_1
            try clear hfz31_2
            try clear hfz31_3
            try clear hfz31_4
            try clear hfz31_5
            try clear hfz33_0
            try clear hfz33_1
            try clear hfz33_2
            try clear hfz33_3
            try clear hfz33_4
            try clear hfz33_5
            try clear p2
            obtain ⟨x15_4, x16_4, x17_4, rfl, rfl, HA, HK4, HO_11, HO_15, BK370, BK371, HB⟩ := hrel
            have hl15_4 := (Kd.R_reads' HO_15.out).1
            rw [hl15_4] at HO_15
            (try simp only [hl15_4])
            (try simp only [hl15_4] at BK370)
            (try simp only [hl15_4] at BK371)
            (try simp only [hl15_4] at HO_11)
            cases gk with
            | zero => exact absurd HA.out (by simp [raddlelaw08_MsgCuts.l0])
            | succ k4 =>
             have H := HA.out
             clear HA
             simp only [raddlelaw08_MsgCuts.l0] at H
             have HC75 := Aside0.mk H
             clear H
             go_upto_region 13 with (fail)
             go_cut [96] (fun v96 wc => ∃ (kq : Nat) (x96_74 : Bool), v96 = .bool x96_74 ∧ Aside0 (raddlelaw08_MsgCuts.j4 kq a2 aT_ a4 t374 x15_4 x16_4 x17_4 x96_74 a0_0 a0_1 a0_2 l0_3 l0_4 l0_5 = some r) ∧ Aside0 (kq ≤ k4) ∧ Aside0 (Kd.R (Kd.int .u8) 5 wc w.heap.size (fun k_ => some k_ ≠ ((.slice Ao74 x15_4.length co74) : Value).ownBlock) (.slice Ao72 t374.length co72) t374) ∧ Aside0 (Kd.R (Kd.int .u8) 5 wc w.heap.size (fun k_ => some k_ ≠ ((.slice Ao72 t374.length co72) : Value).ownBlock) (.slice Ao74 x15_4.length co74) x15_4) ∧ Aside0 (wc.heap[gb370]? = some (.cells #[.int .i64 a0_0, .int .i64 a0_1, .int .i64 a0_2, (.slice A0_3 l0_3.length c0_3), (.slice A0_4 l0_4.length c0_4), (.slice A0_5 l0_5.length c0_5)] 40 (0, 0))) ∧ Aside0 (wc.heap[gb371]? = some (.cells #[.int .i64 a1_0, .int .i64 a1_1, .int .i64 a1_2, (.slice A1_3 l1_3.length c1_3), (.slice A1_4 l1_4.length c1_4), (.slice A1_5 l1_5.length c1_5)] 40 (0, 0))) ∧ Aside0 (Below w.heap.size w wc))
             case first =>
              have H := HC75.out
              clear HC75
              by_cases c76 : x17_4 < 32
              ·rw [if_pos c76] at H
               have c76b0 : decide (x17_4 < 32) = true := decide_eq_true c76
               clear c76
               (first | rw [c76b0] | (simp only [i64_w, i32_w]; rw [c76b0]) | skip)
               have H' := Aside0.mk H
               clear H
               go_wp2
               go_meet
               case rel => exact ⟨_, (decide ((wrap64 (aT_ + x17_4)) < (wrap64 (8 * (x15_4.length : Int))))), (by first | rfl | (simp; done) | (simp [*]; done)), H', ⟨by have := HJ5.out; have := HJ28.out; have := HJ58.out; have := HK4.out; first | omega | exact Nat.le_refl _⟩, ⟨by (try simp only [hl15_4]); (with_reducible repeat (first | apply Kd.R_alloc | apply Kd.R_drewN | apply Kd.R_drew)); exact HO_11.out⟩, ⟨by (try simp only [hl15_4]); (with_reducible repeat (first | apply Kd.R_alloc | apply Kd.R_drewN | apply Kd.R_drew)); exact HO_15.out⟩, ⟨by (try simp only [hl15_4]); (with_reducible repeat (first | refine blk_drewN ?_ _ | refine blk_drew ?_ | refine blk_alloc ?_ _)); exact BK370.out⟩, ⟨by (try simp only [hl15_4]); (with_reducible repeat (first | refine blk_drewN ?_ _ | refine blk_drew ?_ | refine blk_alloc ?_ _)); exact BK371.out⟩, ⟨by repeat (first | (with_reducible first | exact HB.out | apply below_alloc | apply pw_below_drewN | apply below_drew1 | refine below_set ?_ GE370.out | refine below_set ?_ GE371.out) | exact HB.out)⟩⟩
              ·rw [if_neg c76] at H
               have c76b0 : decide (x17_4 < 32) = false := decide_eq_false c76
               clear c76
               (first | rw [c76b0] | (simp only [i64_w, i32_w]; rw [c76b0]) | skip)
               have H' := Aside0.mk H
               clear H
               go_wp2
               go_meet
               case rel => exact ⟨_, (false), (by first | rfl | (simp; done) | (simp [*]; done)), H', ⟨by have := HJ5.out; have := HJ28.out; have := HJ58.out; have := HK4.out; first | omega | exact Nat.le_refl _⟩, ⟨by (try simp only [hl15_4]); (with_reducible repeat (first | apply Kd.R_alloc | apply Kd.R_drewN | apply Kd.R_drew)); exact HO_11.out⟩, ⟨by (try simp only [hl15_4]); (with_reducible repeat (first | apply Kd.R_alloc | apply Kd.R_drewN | apply Kd.R_drew)); exact HO_15.out⟩, ⟨by (try simp only [hl15_4]); (with_reducible repeat (first | refine blk_drewN ?_ _ | refine blk_drew ?_ | refine blk_alloc ?_ _)); exact BK370.out⟩, ⟨by (try simp only [hl15_4]); (with_reducible repeat (first | refine blk_drewN ?_ _ | refine blk_drew ?_ | refine blk_alloc ?_ _)); exact BK371.out⟩, ⟨by repeat (first | (with_reducible first | exact HB.out | apply below_alloc | apply pw_below_drewN | apply below_drew1 | refine below_set ?_ GE370.out | refine below_set ?_ GE371.out) | exact HB.out)⟩⟩
             case rest =>
              clear HC75
              try clear c1
              try clear c2
              try clear p2
              try clear c3
              try clear c4
              try clear c5
              try clear c6
              try clear p6
              try clear c7
              try clear c9
              try clear c10
              try clear c11
              try clear c13
              try clear c14
              try clear c15
              try clear c16
              try clear c21
              try clear c22
              try clear c24
              try clear c26
              try clear c30
              try clear c35
              try clear c35b0
              try clear c35b1
              try clear c36
              try clear c37
              try clear c37b0
              try clear c37b1
              try clear c38
              try clear c38b0
              try clear c38b1
              try clear c41
              try clear c41b0
              try clear c41b1
              try clear c41b2
              try clear c46
              try clear c46b0
              try clear c46b1
              try clear c46b2
              try clear c47
              try clear c47b0
              try clear c47b1
              try clear c51
              try clear c51b0
              try clear c51b1
              try clear c51b2
              try clear c60
              try clear c60b0
              try clear c60b1
              try clear p64
              try clear c69
              try clear c71
              try clear c71b0
              try clear c71b1
              try clear c76
              try clear c76b0
              try clear hcz12_0
              try clear hcz12_1
              try clear hcz12_2
              try clear hcz12_3
              try clear hcz12_4
              try clear hcz12_5
              try clear hcz17_0
              try clear hcz17_1
              try clear hcz17_2
              try clear hcz17_3
              try clear hcz17_4
              try clear hcz17_5
              try clear hcz19_0
              try clear hcz19_1
              try clear hcz19_2
              try clear hcz19_3
              try clear hcz19_4
              try clear hcz19_5
              try clear hcz22_0
              try clear hcz22_1
              try clear hcz22_2
              try clear hcz22_3
              try clear hcz22_4
              try clear hcz22_5
              try clear hcz24_0
              try clear hcz24_1
              try clear hcz24_2
              try clear hcz24_3
              try clear hcz24_4
              try clear hcz24_5
              try clear hcz31_0
              try clear hcz31_1
              try clear hcz31_2
              try clear hcz31_3
              try clear hcz31_4
              try clear hcz31_5
              try clear hcz33_0
              try clear hcz33_1
              try clear hcz33_2
              try clear hcz33_3
              try clear hcz33_4
              try clear hcz33_5
              try clear hfz12_0
              try clear hfz12_1
              try clear hfz12_2
              try clear hfz12_3
              try clear hfz12_4
              try clear hfz12_5
              try clear hfz17_0
              try clear hfz17_1
              try clear hfz17_2
              try clear hfz17_3
              try clear hfz17_4
              try clear hfz17_5
              try clear hfz19_0
              try clear hfz19_1
              try clear hfz19_2
              try clear hfz19_3
              try clear hfz19_4
              try clear hfz19_5
              try clear hfz22_0
              try clear hfz22_1
              try clear hfz22_2
              try clear hfz22_3
              try clear hfz22_4
              try clear hfz22_5
              try clear hfz24_0
              try clear hfz24_1
              try clear hfz24_2
              try clear hfz24_3
              try clear hfz24_4
              try clear hfz24_5
              try clear hfz31_0
              try clear hfz31_1
              try clear hfz31_2
              try clear hfz31_3
              try clear hfz31_4
              try clear hfz31_5
              try clear hfz33_0
              try clear hfz33_1
              try clear hfz33_2
              try clear hfz33_3
              try clear hfz33_4
              try clear hfz33_5
              try clear p2
              try clear p6
              try clear p64
              obtain ⟨kq, x96_74, rfl, HA, HJ74, HO_11, HO_15, BK370, BK371, HB⟩ := hcut
              cases kq with
              | zero => exact absurd HA.out (by simp [raddlelaw08_MsgCuts.j4])
              | succ kj74 =>
               have H := HA.out
               clear HA
               simp only [raddlelaw08_MsgCuts.j4] at H
               by_cases c77 : x96_74 = true
               ·subst c77
                have H1 : (if 0 ≤ (IntKind.u64.wrap (x17_4)) then (if (Go.bits .and .u32 (shr .u32 a4 (IntKind.u64.wrap (x17_4))) 1) = 1 then (if 0 ≤ (wrap64 (Int.tdiv (wrap64 (aT_ + x17_4)) 8)) then (if (wrap64 (Int.tdiv (wrap64 (aT_ + x17_4)) 8)) < (x15_4.length : Int) then (if 0 ≤ (IntKind.u64.wrap (Int.tmod (wrap64 (aT_ + x17_4)) 8)) then (raddlelaw08_MsgCuts.l0 kj74 a2 aT_ a4 t374 (x15_4.set ((wrap64 (Int.tdiv (wrap64 (aT_ + x17_4)) 8)) : Int).toNat (Go.bits .xor .u8 (rd x15_4 (wrap64 (Int.tdiv (wrap64 (aT_ + x17_4)) 8))) (shl .u8 1 (IntKind.u64.wrap (Int.tmod (wrap64 (aT_ + x17_4)) 8))))) true (wrap64 (x17_4 + 1)) a0_0 a0_1 a0_2 l0_3 l0_4 l0_5) else (none)) else (none)) else (none)) else (raddlelaw08_MsgCuts.l0 kj74 a2 aT_ a4 t374 x15_4 x16_4 (wrap64 (x17_4 + 1)) a0_0 a0_1 a0_2 l0_3 l0_4 l0_5)) else (none)) = some r := by rw [if_pos rfl] at H; exact H
                clear H
                have H := H1
                clear H1
                obtain ⟨ji78, hji78⟩ : ∃ j_ : Int, (IntKind.u64.wrap (x17_4)) = j_ := ⟨_, rfl⟩
                replace H : (if 0 ≤ (ji78) then (if (Go.bits .and .u32 (shr .u32 a4 (ji78)) 1) = 1 then (if 0 ≤ (wrap64 (Int.tdiv (wrap64 (aT_ + x17_4)) 8)) then (if (wrap64 (Int.tdiv (wrap64 (aT_ + x17_4)) 8)) < (x15_4.length : Int) then (if 0 ≤ (IntKind.u64.wrap (Int.tmod (wrap64 (aT_ + x17_4)) 8)) then (raddlelaw08_MsgCuts.l0 kj74 a2 aT_ a4 t374 (x15_4.set ((wrap64 (Int.tdiv (wrap64 (aT_ + x17_4)) 8)) : Int).toNat (Go.bits .xor .u8 (rd x15_4 (wrap64 (Int.tdiv (wrap64 (aT_ + x17_4)) 8))) (shl .u8 1 (IntKind.u64.wrap (Int.tmod (wrap64 (aT_ + x17_4)) 8))))) true (wrap64 (x17_4 + 1)) a0_0 a0_1 a0_2 l0_3 l0_4 l0_5) else (none)) else (none)) else (none)) else (raddlelaw08_MsgCuts.l0 kj74 a2 aT_ a4 t374 x15_4 x16_4 (wrap64 (x17_4 + 1)) a0_0 a0_1 a0_2 l0_3 l0_4 l0_5)) else (none)) = some r := by first | (rw [hji78] at H; exact H) | (simp only [hji78] at H ⊢; exact H)
                by_cases c79 : 0 ≤ (ji78)
                ·rw [if_pos c79] at H
                 have c79b0 := eq_true c79
                 have c79b1 : decide (0 ≤ (ji78)) = true := decide_eq_true c79
                 clear c79
                 obtain ⟨ji80, hji80⟩ : ∃ j_ : Int, (shr .u32 a4 (ji78)) = j_ := ⟨_, rfl⟩
                 replace H : (if (Go.bits .and .u32 (ji80) 1) = 1 then (if 0 ≤ (wrap64 (Int.tdiv (wrap64 (aT_ + x17_4)) 8)) then (if (wrap64 (Int.tdiv (wrap64 (aT_ + x17_4)) 8)) < (x15_4.length : Int) then (if 0 ≤ (IntKind.u64.wrap (Int.tmod (wrap64 (aT_ + x17_4)) 8)) then (raddlelaw08_MsgCuts.l0 kj74 a2 aT_ a4 t374 (x15_4.set ((wrap64 (Int.tdiv (wrap64 (aT_ + x17_4)) 8)) : Int).toNat (Go.bits .xor .u8 (rd x15_4 (wrap64 (Int.tdiv (wrap64 (aT_ + x17_4)) 8))) (shl .u8 1 (IntKind.u64.wrap (Int.tmod (wrap64 (aT_ + x17_4)) 8))))) true (wrap64 (x17_4 + 1)) a0_0 a0_1 a0_2 l0_3 l0_4 l0_5) else (none)) else (none)) else (none)) else (raddlelaw08_MsgCuts.l0 kj74 a2 aT_ a4 t374 x15_4 x16_4 (wrap64 (x17_4 + 1)) a0_0 a0_1 a0_2 l0_3 l0_4 l0_5)) = some r := by first | (rw [hji80] at H; exact H) | (simp only [hji80] at H ⊢; exact H)
                 have hji80_ : (a4 / 2 ^ min (ji78).toNat 32) = ji80 := hji80
                 have hji80z : (ji78) ≤ 32 → (a4 / 2 ^ (ji78).toNat) = ji80 := shr_small hji80
                 by_cases c81 : (Go.bits .and .u32 (ji80) 1) = 1
                 ·rw [if_pos c81] at H
                  have c81b0 : ((Go.bits .and .u32 (ji80) 1) == 1) = true := beq_iff_eq.mpr c81
                  have c81b1 : ((Go.bits .and .u32 (ji80) 1) != 1) = false := bne_eq_false_iff_eq.mpr c81
                  clear c81
                  obtain ⟨ji82, hji82⟩ : ∃ j_ : Int, (wrap64 (Int.tdiv (wrap64 (aT_ + x17_4)) 8)) = j_ := ⟨_, rfl⟩
                  replace H : (if 0 ≤ (ji82) then (if (ji82) < (x15_4.length : Int) then (if 0 ≤ (IntKind.u64.wrap (Int.tmod (wrap64 (aT_ + x17_4)) 8)) then (raddlelaw08_MsgCuts.l0 kj74 a2 aT_ a4 t374 (x15_4.set ((ji82) : Int).toNat (Go.bits .xor .u8 (rd x15_4 (ji82)) (shl .u8 1 (IntKind.u64.wrap (Int.tmod (wrap64 (aT_ + x17_4)) 8))))) true (wrap64 (x17_4 + 1)) a0_0 a0_1 a0_2 l0_3 l0_4 l0_5) else (none)) else (none)) else (none)) = some r := by first | (rw [hji82] at H; exact H) | (simp only [hji82] at H ⊢; exact H)
                  have hji82w : (IntKind.i64.wrap (Int.tdiv (wrap64 (aT_ + x17_4)) 8)) = ji82 := (i64_w _).trans hji82
                  by_cases c83 : 0 ≤ (ji82)
                  ·rw [if_pos c83] at H
                   have c83b0 : decide (0 ≤ (ji82)) = true := decide_eq_true c83
                   clear c83
                   by_cases c84 : (ji82) < (x15_4.length : Int)
                   ·rw [if_pos c84] at H
                    have c84b0 : decide ((ji82) < (x15_4.length : Int)) = true := decide_eq_true c84
                    clear c84
                    obtain ⟨ji85, hji85⟩ : ∃ j_ : Int, (IntKind.u64.wrap (Int.tmod (wrap64 (aT_ + x17_4)) 8)) = j_ := ⟨_, rfl⟩
                    replace H : (if 0 ≤ (ji85) then (raddlelaw08_MsgCuts.l0 kj74 a2 aT_ a4 t374 (x15_4.set ((ji82) : Int).toNat (Go.bits .xor .u8 (rd x15_4 (ji82)) (shl .u8 1 (ji85)))) true (wrap64 (x17_4 + 1)) a0_0 a0_1 a0_2 l0_3 l0_4 l0_5) else (none)) = some r := by first | (rw [hji85] at H; exact H) | (simp only [hji85] at H ⊢; exact H)
                    by_cases c86 : 0 ≤ (ji85)
                    ·rw [if_pos c86] at H
                     have c86b0 := eq_true c86
                     have c86b1 : decide (0 ≤ (ji85)) = true := decide_eq_true c86
                     clear c86
                     obtain ⟨ji87, hji87⟩ : ∃ j_ : Int, (shl .u8 1 (ji85)) = j_ := ⟨_, rfl⟩
                     replace H : (raddlelaw08_MsgCuts.l0 kj74 a2 aT_ a4 t374 (x15_4.set ((ji82) : Int).toNat (Go.bits .xor .u8 (rd x15_4 (ji82)) (ji87))) true (wrap64 (x17_4 + 1)) a0_0 a0_1 a0_2 l0_3 l0_4 l0_5) = some r := by first | (rw [hji87] at H; exact H) | (simp only [hji87] at H ⊢; exact H)
                     have hji87_ : (IntKind.u8.wrap (1 * 2 ^ min (ji85).toNat 8)) = ji87 := hji87
                     have hji87z : (ji85) ≤ 8 → (IntKind.u8.wrap (1 * 2 ^ (ji85).toNat)) = ji87 := shl_small hji87
                     have hji87u : (IntKind.u8.wrap (2 ^ min (ji85).toNat 8)) = ji87 := by have h_ := hji87_; rw [Int.one_mul] at h_; exact h_
                     have hji87v : (ji85) ≤ 8 → (IntKind.u8.wrap (2 ^ (ji85).toNat)) = ji87 := fun hle_ => by have h_ := hji87z hle_; rw [Int.one_mul] at h_; exact h_
                     obtain ⟨y392, hy392⟩ : ∃ y_ : List Int, y_ = (x15_4.set ((ji82) : Int).toNat (Go.bits .xor .u8 (rd x15_4 (ji82)) (ji87))) := ⟨_, rfl⟩
                     replace H : (raddlelaw08_MsgCuts.l0 kj74 a2 aT_ a4 t374 y392 true (wrap64 (x17_4 + 1)) a0_0 a0_1 a0_2 l0_3 l0_4 l0_5) = some r := by first | (rw [hy392]; with_reducible exact H) | (have H2_ := (Option.bind_some _ _).symm.trans H; rw [hy392]; with_reducible exact H2_) | (have H2_ := (Option.bind_some _ _).symm.trans H; with_reducible exact H2_) | with_reducible exact H | (rw [hy392]; exact H) | exact H
                     have Ny392 := Aside0.mk hy392
                     clear hy392
                     have H' := Aside0.mk H
                     clear H
                     have p391 : 0 ≤ ((ji82) : Int) := of_decide_eq_true (by first | (with_reducible assumption) | assumption)
                     have q391 : (ji82) < (x15_4.length : Int) := of_decide_eq_true (by first | (with_reducible assumption) | assumption)
                     obtain ⟨ad391, e391, hx391_0⟩ := Kd.at_int (Kd.R_reads' HO_15.out).2.2 (ji82) p391 q391
                     cases e391
                     replace p391 := eq_true p391
                     replace q391 := eq_true q391
                     have p88 : 0 ≤ ((ji82) : Int) := of_decide_eq_true (by first | (with_reducible assumption) | assumption)
                     have q88 : ((ji82) : Int) < ((x15_4.length : Int) : Int) := of_decide_eq_true (by first | (with_reducible assumption) | assumption)
                     obtain ⟨go88, co88, eo88, gb88, gl88, cl88, HG88⟩ := Kd.R_form HO_15.out (by omega)
                     (first | cases eo88 | (injection eo88 with ea_ en_ ec_; (first | subst ea_ | (injection ea_ with ea_; subst ea_)); subst ec_; clear en_))
                     have GB88 := Aside0.mk gb88
                     have GG88 := Aside0.mk HG88
                     clear gb88 gl88 HG88
                     (first | simp only [add_plain] at hx391_0 | skip)
                     obtain ⟨hx88_0, hf88_0⟩ := Kd.R_celln 0 HO_15.out ((ji82) : Int) p88 q88
                     replace p88 := eq_true p88
                     replace q88 := eq_true q88
                     have HP89 := Kd.R_putg HO_15.out ((ji82) : Int) (Go.bits .xor .u8 (rd x15_4 (ji82)) (ji87))
                     go_wp2_with (first | ((with_reducible refine gate_store (t := 5) (p := 119) rfl ?_); refine store_event (t := 5) (p := 119) (v := ?vo_w90) (w1 := (wc.setCell ⟨go88, ((ji82) : Int).toNat, none⟩ (.int .u8 (Go.bits .xor .u8 (rd x15_4 (ji82)) (ji87))))) ?hg ?ho ?hn ?hr ?_; (case ho => rfl); (case hg => rfl); (case hn => rfl); (case hr => first | (go_simp; done) | (go_simp; rfl)); intro w90 hw; have hg : wc.grownBy w90 (some go88) := (by rw [hw]; exact HP89.2); have hp_ : Kd.R (Kd.int .u8) 5 w90 w.heap.size (fun k_ => some k_ ≠ (.slice Ao72 t374.length co72 : Value).ownBlock) (.slice (some ⟨go88, 0, none⟩) x15_4.length co74) y392 := (by rw [hw, Ny392.out]; exact HP89.1); clear HP89; have n0_ := Aside0.mk (Kd.R_after (v := (.slice (some ⟨go88, 0, none⟩) x15_4.length co74)) (v1 := (.slice (some ⟨go88, 0, none⟩) x15_4.length co74)) (ok := (fun _ => True)) (by (with_reducible repeat (first | apply Kd.R_alloc | apply Kd.R_drewN | apply Kd.R_drew)); exact Kd.R_mono HO_11.out (fun _ hk => ⟨trivial, hk⟩)) hg (.inl rfl)); have n1_ := Aside0.mk (hp_); have n2_ := Aside0.mk (blk_grown (g := gb370) (o := .cells #[.int .i64 a0_0, .int .i64 a0_1, .int .i64 a0_2, .slice A0_3 l0_3.length c0_3, .slice A0_4 l0_4.length c0_4, .slice A0_5 l0_5.length c0_5] 40 (0, 0)) (by (with_reducible repeat (first | refine blk_drewN ?_ _ | refine blk_drew ?_ | refine blk_alloc ?_ _)); exact BK370.out) hg (Kd.R_ne HO_15.out BK370.out (by decide))); have n3_ := Aside0.mk (blk_grown (g := gb371) (o := .cells #[.int .i64 a1_0, .int .i64 a1_1, .int .i64 a1_2, .slice A1_3 l1_3.length c1_3, .slice A1_4 l1_4.length c1_4, .slice A1_5 l1_5.length c1_5] 40 (0, 0)) (by (with_reducible repeat (first | refine blk_drewN ?_ _ | refine blk_drew ?_ | refine blk_alloc ?_ _)); exact BK371.out) hg (Kd.R_ne HO_15.out BK371.out (by decide))); have n4_ := Aside0.mk ((by rw [hw]; exact below_set (HB.out) GB88.out : Below w.heap.size w w90)); clear HO_11; clear HO_15; clear BK370; clear BK371; clear HB; have HO_11 := n0_; have HO_15 := n1_; have BK370 := n2_; have BK371 := n3_; have HB := n4_; clear n0_ n1_ n2_ n3_ n4_; clear hg hw hp_))
                     (try simp only [← hl15_4])
                     go_roundg kj74
                     case measure => have := HJ5.out; have := HJ28.out; have := HJ58.out; have := HK4.out; have := HJ74.out; omega
                     case rel => exact ⟨(y392), (true), (wrap64 (x17_4 + 1)), (by first | rfl | (simp; done) | (simp [*]; done)), (by first | rfl | (simp; done) | (simp [*]; done)), H', ⟨by have := HJ5.out; have := HJ28.out; have := HJ58.out; have := HK4.out; have := HJ74.out; omega⟩, ⟨by (try simp only [hl15_4]); (with_reducible repeat (first | apply Kd.R_alloc | apply Kd.R_drewN | apply Kd.R_drew)); exact Kd.R_mono HO_11.out (fun _ hk => hk.2)⟩, ⟨by (try simp only [hl15_4]); (with_reducible repeat (first | apply Kd.R_alloc | apply Kd.R_drewN | apply Kd.R_drew)); exact HO_15.out⟩, ⟨by (try simp only [hl15_4]); (with_reducible repeat (first | refine blk_drewN ?_ _ | refine blk_drew ?_ | refine blk_alloc ?_ _)); exact BK370.out⟩, ⟨by (try simp only [hl15_4]); (with_reducible repeat (first | refine blk_drewN ?_ _ | refine blk_drew ?_ | refine blk_alloc ?_ _)); exact BK371.out⟩, ⟨by repeat (first | (with_reducible first | exact HB.out | apply below_alloc | apply pw_below_drewN | apply below_drew1 | refine below_set ?_ GE370.out | refine below_set ?_ GE371.out) | exact HB.out)⟩⟩
                    ·rw [if_neg c86] at H
                     exact absurd H (by simp)
                   ·rw [if_neg c84] at H
                    exact absurd H (by simp)
                  ·rw [if_neg c83] at H
                   exact absurd H (by simp)
                 ·rw [if_neg c81] at H
                  have c81b0 : ((Go.bits .and .u32 (ji80) 1) == 1) = false := beq_eq_false_iff_ne.mpr c81
                  have c81b1 : ((Go.bits .and .u32 (ji80) 1) != 1) = true := bne_iff_ne.mpr c81
                  have H' := Aside0.mk H
                  clear H
                  go_wp2
                  (try simp only [← hl15_4])
                  go_roundg kj74
                  case measure => have := HJ5.out; have := HJ28.out; have := HJ58.out; have := HK4.out; have := HJ74.out; omega
                  case rel => exact ⟨(x15_4), (x16_4), (wrap64 (x17_4 + 1)), (by first | rfl | (simp; done) | (simp [*]; done)), (by first | rfl | (simp; done) | (simp [*]; done)), H', ⟨by have := HJ5.out; have := HJ28.out; have := HJ58.out; have := HK4.out; have := HJ74.out; omega⟩, ⟨by (try simp only [hl15_4]); (with_reducible repeat (first | apply Kd.R_alloc | apply Kd.R_drewN | apply Kd.R_drew)); exact HO_11.out⟩, ⟨by (try simp only [hl15_4]); (with_reducible repeat (first | apply Kd.R_alloc | apply Kd.R_drewN | apply Kd.R_drew)); exact HO_15.out⟩, ⟨by (try simp only [hl15_4]); (with_reducible repeat (first | refine blk_drewN ?_ _ | refine blk_drew ?_ | refine blk_alloc ?_ _)); exact BK370.out⟩, ⟨by (try simp only [hl15_4]); (with_reducible repeat (first | refine blk_drewN ?_ _ | refine blk_drew ?_ | refine blk_alloc ?_ _)); exact BK371.out⟩, ⟨by repeat (first | (with_reducible first | exact HB.out | apply below_alloc | apply pw_below_drewN | apply below_drew1 | refine below_set ?_ GE370.out | refine below_set ?_ GE371.out) | exact HB.out)⟩⟩
                ·rw [if_neg c79] at H
                 exact absurd H (by simp)
               ·replace c77 := Bool.eq_false_iff.mpr c77
                subst c77
                have H1 : ((msg_Read.f x15_4).bind fun bt393 => (if (x16_4 != (bt393.2.2.2.2.2.2 == 4)) = true then (raddlelaw08_MsgCuts.j5 kj74 a2 t374 true) else (if x16_4 = true then (raddlelaw08_MsgCuts.j5 kj74 a2 t374 false) else (if bt393.2.2.2.2.2.2 = 0 then ((raddlekeep_Msg.f kj74 bt393.1 bt393.2.1 bt393.2.2.1 bt393.2.2.2.1 bt393.2.2.2.2.1 bt393.2.2.2.2.2.1 a0_0 a0_1 a0_2 l0_3 l0_4 l0_5).bind fun t407 => (raddlelaw08_MsgCuts.j5 kj74 a2 t374 (!t407))) else (raddlelaw08_MsgCuts.j5 kj74 a2 t374 true))))) = some r := by rw [if_neg (show ¬ (false = true) by decide)] at H; exact H
                clear H
                have H := H1
                clear H1
                replace H := Option.bind_eq_some_iff.mp H
                obtain ⟨⟨t393, t394, t395, t396, t399, t402, t405⟩, A910, H⟩ := H
                replace H : (if (x16_4 != (t405 == 4)) = true then (raddlelaw08_MsgCuts.j5 kj74 a2 t374 true) else (if x16_4 = true then (raddlelaw08_MsgCuts.j5 kj74 a2 t374 false) else (if t405 = 0 then ((raddlekeep_Msg.f kj74 t393 t394 t395 t396 t399 t402 a0_0 a0_1 a0_2 l0_3 l0_4 l0_5).bind fun t407 => (raddlelaw08_MsgCuts.j5 kj74 a2 t374 (!t407))) else (raddlelaw08_MsgCuts.j5 kj74 a2 t374 true)))) = some r := H
                have A91 := Aside0.mk A910
                clear A910
                have HC92 := Aside0.mk H
                clear H
                go_upto_region 19 with (first | ((with_reducible refine gate_callee (f := 25) rfl ?_); refine goesL_ (some 122) rfl rfl Try.func25 (by kernel_rfl) rfl #[.slice Ao74 x15_4.length co74] rfl (by (try simp only [List.map_toArray, List.map_cons, List.map_nil]); first | done | rfl | (simp only [List.length_drop, List.length_take]; rfl)) ?_; (with_reducible refine (msg_Read.calls _ _ x15_4 t393 t394 t395 t396 t399 t402 t405 _ ?side1 ?side2 A91.out).mono ?_); (case side1 => repeat (first | exact (Kd.R_reads' HO_15.out).2.2 | (with_reducible refine Kd.C_alloc ?_ _) | (with_reducible refine Kd.C_drewN ?_ _) | (with_reducible refine Kd.C_drew ?_))); (case side2 => exact (Kd.R_reads' HO_15.out).2.1); rintro e w93 ⟨v397, v400, v403, rfl, ho0, ho1, ho2, hb⟩; refine ⟨_, rfl, ?_⟩; have n0_ := Aside0.mk (Kd.R_below (by (with_reducible repeat (first | apply Kd.R_alloc | apply Kd.R_drewN | apply Kd.R_drew)); exact HO_11.out) hb); have n1_ := Aside0.mk (Kd.R_below (by (with_reducible repeat (first | apply Kd.R_alloc | apply Kd.R_drewN | apply Kd.R_drew)); exact HO_15.out) hb); have n2_ := Aside0.mk (Kd.R_lower ho0 (below_size (by repeat (first | (with_reducible first | exact HB.out | apply below_alloc | apply pw_below_drewN | apply below_drew1 | refine below_set ?_ GE370.out | refine below_set ?_ GE371.out) | exact HB.out)))); have n3_ := Aside0.mk (Kd.R_lower ho1 (below_size (by repeat (first | (with_reducible first | exact HB.out | apply below_alloc | apply pw_below_drewN | apply below_drew1 | refine below_set ?_ GE370.out | refine below_set ?_ GE371.out) | exact HB.out)))); have n4_ := Aside0.mk (Kd.S_lower ho2 (below_size (by repeat (first | (with_reducible first | exact HB.out | apply below_alloc | apply pw_below_drewN | apply below_drew1 | refine below_set ?_ GE370.out | refine below_set ?_ GE371.out) | exact HB.out)))); have n5_ := Aside0.mk (blk_below (g := gb370) (o := .cells #[.int .i64 a0_0, .int .i64 a0_1, .int .i64 a0_2, .slice A0_3 l0_3.length c0_3, .slice A0_4 l0_4.length c0_4, .slice A0_5 l0_5.length c0_5] 40 (0, 0)) (by (with_reducible repeat (first | refine blk_drewN ?_ _ | refine blk_drew ?_ | refine blk_alloc ?_ _)); exact BK370.out) hb); have n6_ := Aside0.mk (blk_below (g := gb371) (o := .cells #[.int .i64 a1_0, .int .i64 a1_1, .int .i64 a1_2, .slice A1_3 l1_3.length c1_3, .slice A1_4 l1_4.length c1_4, .slice A1_5 l1_5.length c1_5] 40 (0, 0)) (by (with_reducible repeat (first | refine blk_drewN ?_ _ | refine blk_drew ?_ | refine blk_alloc ?_ _)); exact BK371.out) hb); have n7_ := Aside0.mk (below_step (by repeat (first | (with_reducible first | exact HB.out | apply below_alloc | apply pw_below_drewN | apply below_drew1 | refine below_set ?_ GE370.out | refine below_set ?_ GE371.out) | exact HB.out)) hb); clear HO_11; clear HO_15; clear BK370; clear BK371; clear HB; have HO_11 := n0_; have HO_15 := n1_; have HO398 := n2_; have HO401 := n3_; have HO404 := n4_; have BK370 := n5_; have BK371 := n6_; have HB := n7_; clear n0_ n1_ n2_ n3_ n4_ n5_ n6_ n7_; (try clear hb); (try clear hb2); (try clear hk); (try clear hi); (try clear ho0); (try clear ho1); (try clear ho2)) | ((with_reducible refine gate_dst (N := 18) rfl ?_); (try (refine gate_guard (by rfl) ?_; dsimp only)); refine box_event ?hg (N := 18) ?hd (cs := #[.int .i64 0, .int .i64 0, .int .i64 0, .slice none 0 0, .slice none 0 0, .slice none 0 0]) (t := 40) ?hr ?_; (case hd => rfl); (case hg => rfl); (case hr => first | (go_simp; done) | (go_simp; rfl)); intro gb406 hg w94 hbox hb; have n0_ := Aside0.mk (Kd.R_below (by (with_reducible repeat (first | apply Kd.R_alloc | apply Kd.R_drewN | apply Kd.R_drew)); exact HO_11.out) hb); have n1_ := Aside0.mk (Kd.R_below (by (with_reducible repeat (first | apply Kd.R_alloc | apply Kd.R_drewN | apply Kd.R_drew)); exact HO_15.out) hb); have n2_ := Aside0.mk (Kd.R_below (by (with_reducible repeat (first | apply Kd.R_alloc | apply Kd.R_drewN | apply Kd.R_drew)); exact HO398.out) hb); have n3_ := Aside0.mk (Kd.R_below (by (with_reducible repeat (first | apply Kd.R_alloc | apply Kd.R_drewN | apply Kd.R_drew)); exact HO401.out) hb); have n4_ := Aside0.mk (Kd.S_below (by (with_reducible repeat (first | apply Kd.S_alloc | apply Kd.S_drewN | apply Kd.S_drew)); exact HO404.out) hb); have n5_ := Aside0.mk (blk_below (g := gb370) (o := .cells #[.int .i64 a0_0, .int .i64 a0_1, .int .i64 a0_2, .slice A0_3 l0_3.length c0_3, .slice A0_4 l0_4.length c0_4, .slice A0_5 l0_5.length c0_5] 40 (0, 0)) (by (with_reducible repeat (first | refine blk_drewN ?_ _ | refine blk_drew ?_ | refine blk_alloc ?_ _)); exact BK370.out) hb); have n6_ := Aside0.mk (blk_below (g := gb371) (o := .cells #[.int .i64 a1_0, .int .i64 a1_1, .int .i64 a1_2, .slice A1_3 l1_3.length c1_3, .slice A1_4 l1_4.length c1_4, .slice A1_5 l1_5.length c1_5] 40 (0, 0)) (by (with_reducible repeat (first | refine blk_drewN ?_ _ | refine blk_drew ?_ | refine blk_alloc ?_ _)); exact BK371.out) hb); have n7_ := Aside0.mk (below_step (by repeat (first | (with_reducible first | exact HB.out | apply below_alloc | apply pw_below_drewN | apply below_drew1 | refine below_set ?_ GE370.out | refine below_set ?_ GE371.out) | exact HB.out)) hb); have n8_ := Aside0.mk (hbox); have n9_ := Aside0.mk ((by rw [hg]; exact (below_size (by repeat (first | (with_reducible first | exact HB.out | apply below_alloc | apply pw_below_drewN | apply below_drew1 | refine below_set ?_ GE370.out | refine below_set ?_ GE371.out) | exact HB.out))) : w.heap.size ≤ gb406)); have n10_ := Aside0.mk ((by rw [hg]; exact (below_size (by repeat (first | (with_reducible first | exact HB.out | apply below_alloc | apply pw_below_drewN | apply below_drew1 | refine below_set ?_ GE370.out | refine below_set ?_ GE371.out) | exact HB.out))) : w.heap.size ≤ gb406)); have n11_ := Aside0.mk ((by rw [hg]; exact Nat.ne_of_lt (blk_lt (g := gb370) (o := .cells #[.int .i64 a0_0, .int .i64 a0_1, .int .i64 a0_2, .slice A0_3 l0_3.length c0_3, .slice A0_4 l0_4.length c0_4, .slice A0_5 l0_5.length c0_5] 40 (0, 0)) (by (with_reducible repeat (first | refine blk_drewN ?_ _ | refine blk_drew ?_ | refine blk_alloc ?_ _)); exact BK370.out)) : gb370 ≠ gb406)); have n12_ := Aside0.mk ((by rw [hg]; exact Nat.ne_of_gt (blk_lt (g := gb370) (o := .cells #[.int .i64 a0_0, .int .i64 a0_1, .int .i64 a0_2, .slice A0_3 l0_3.length c0_3, .slice A0_4 l0_4.length c0_4, .slice A0_5 l0_5.length c0_5] 40 (0, 0)) (by (with_reducible repeat (first | refine blk_drewN ?_ _ | refine blk_drew ?_ | refine blk_alloc ?_ _)); exact BK370.out)) : gb406 ≠ gb370)); have n13_ := Aside0.mk ((by rw [hg]; exact Nat.ne_of_lt (blk_lt (g := gb371) (o := .cells #[.int .i64 a1_0, .int .i64 a1_1, .int .i64 a1_2, .slice A1_3 l1_3.length c1_3, .slice A1_4 l1_4.length c1_4, .slice A1_5 l1_5.length c1_5] 40 (0, 0)) (by (with_reducible repeat (first | refine blk_drewN ?_ _ | refine blk_drew ?_ | refine blk_alloc ?_ _)); exact BK371.out)) : gb371 ≠ gb406)); have n14_ := Aside0.mk ((by rw [hg]; exact Nat.ne_of_gt (blk_lt (g := gb371) (o := .cells #[.int .i64 a1_0, .int .i64 a1_1, .int .i64 a1_2, .slice A1_3 l1_3.length c1_3, .slice A1_4 l1_4.length c1_4, .slice A1_5 l1_5.length c1_5] 40 (0, 0)) (by (with_reducible repeat (first | refine blk_drewN ?_ _ | refine blk_drew ?_ | refine blk_alloc ?_ _)); exact BK371.out)) : gb406 ≠ gb371)); clear HO_11; clear HO_15; clear HO398; clear HO401; clear HO404; clear BK370; clear BK371; clear HB; have HO_11 := n0_; have HO_15 := n1_; have HO398 := n2_; have HO401 := n3_; have HO404 := n4_; have BK370 := n5_; have BK371 := n6_; have HB := n7_; have BK406 := n8_; have GW406 := n9_; have GE406 := n10_; have NB370_406 := n11_; have NB406_370 := n12_; have NB371_406 := n13_; have NB406_371 := n14_; clear n0_ n1_ n2_ n3_ n4_ n5_ n6_ n7_ n8_ n9_ n10_ n11_ n12_ n13_ n14_; clear hb hbox hg; have hnb95 := NB406_370.out; have hnc95 := NB370_406.out; have hnb96 := NB406_371.out; have hnc96 := NB371_406.out; have hcz97 := fun i_ => blk_cell BK406.out i_; have hfz97 := fun i_ => blk_frozen BK406.out i_; obtain ⟨Ao98, co98, eo98⟩ := Kd.R_slice HO398.out; subst eo98; obtain ⟨Ao99, co99, eo99⟩ := Kd.R_slice HO401.out; subst eo99; obtain ⟨Ao100, co100, eo100⟩ := Kd.S_slice HO404.out; subst eo100))
                (try simp only [Act.put, List.setIfInBounds_toArray, List.set_cons_zero, List.set_cons_succ])
                go_cut [142] (fun v142 wc => ∃ (kq : Nat) (x142_91 : Bool), v142 = .bool x142_91 ∧ Aside0 (raddlelaw08_MsgCuts.j5 kq a2 t374 x142_91 = some r) ∧ Aside0 (kq ≤ kj74) ∧ Aside0 (Kd.R (Kd.int .u8) 5 wc w.heap.size (fun _ => True) (.slice Ao72 t374.length co72) t374) ∧ Aside0 (Kd.R (Kd.int .i64) 3 wc w.heap.size (fun _ => True) (.slice Ao98 t396.length co98) t396) ∧ Aside0 (Kd.R (Kd.int .i64) 3 wc w.heap.size (fun _ => True) (.slice Ao99 t399.length co99) t399) ∧ Aside0 (Kd.S k55 55 wc w.heap.size (fun _ => True) (.slice Ao100 t402.length co100) t402) ∧ Aside0 (wc.heap[gb370]? = some (.cells #[.int .i64 a0_0, .int .i64 a0_1, .int .i64 a0_2, (.slice A0_3 l0_3.length c0_3), (.slice A0_4 l0_4.length c0_4), (.slice A0_5 l0_5.length c0_5)] 40 (0, 0))) ∧ Aside0 (wc.heap[gb371]? = some (.cells #[.int .i64 a1_0, .int .i64 a1_1, .int .i64 a1_2, (.slice A1_3 l1_3.length c1_3), (.slice A1_4 l1_4.length c1_4), (.slice A1_5 l1_5.length c1_5)] 40 (0, 0))) ∧ Aside0 (wc.heap[gb406]? = some (.cells #[.int .i64 t393, .int .i64 t394, .int .i64 t395, (.slice Ao98 t396.length co98), (.slice Ao99 t399.length co99), (.slice Ao100 t402.length co100)] 40 (0, 0))) ∧ Aside0 (Below w.heap.size w wc))
                case first =>
                 have H := HC92.out
                 clear HC92
                 by_cases c101 : (x16_4 != (t405 == 4)) = true
                 ·rw [if_pos c101] at H
                  have c101b0 : (x16_4 != (t405 == 4)) = true := c101
                  (try (have c101b1 : decide (x16_4 = (t405 == 4)) = false := by simpa using c101))
                  (try (have c101b2 : (x16_4 == (t405 == 4)) = false := by simpa using c101))
                  (try (have c101b3 : ¬ (x16_4 = (t405 == 4)) := by simpa using c101))
                  clear c101
                  (first | rw [c101b0] | (simp only [i64_w, i32_w]; rw [c101b0]) | skip)
                  have H' := Aside0.mk H
                  clear H
                  go_wp2
                  go_meet
                  case rel => exact ⟨_, (true), (by first | rfl | (simp; done) | (simp [*]; done)), H', ⟨by have := HJ5.out; have := HJ28.out; have := HJ58.out; have := HK4.out; have := HJ74.out; first | omega | exact Nat.le_refl _⟩, ⟨by (try simp only [hl15_4]); (with_reducible repeat (first | apply Kd.R_alloc | apply Kd.R_drewN | apply Kd.R_drew)); exact Kd.R_mono (Kd.R_far (p := ⟨gb406, 5, none⟩) (Kd.R_far (p := ⟨gb406, 4, none⟩) (Kd.R_far (p := ⟨gb406, 3, none⟩) (Kd.R_far (p := ⟨gb406, 2, none⟩) (Kd.R_far (p := ⟨gb406, 1, none⟩) (Kd.R_far (p := ⟨gb406, 0, none⟩) (Kd.R_types HO_11.out BK406.out (by decide)) (fun _ hk => hk.2) (.int .i64 t393)) (fun _ hk => hk.2) (.int .i64 t394)) (fun _ hk => hk.2) (.int .i64 t395)) (fun _ hk => hk.2) (.slice Ao98 t396.length co98)) (fun _ hk => hk.2) (.slice Ao99 t399.length co99)) (fun _ hk => hk.2) (.slice Ao100 t402.length co100)) (fun _ hk => trivial)⟩, ⟨by (try simp only [hl15_4]); (with_reducible repeat (first | apply Kd.R_alloc | apply Kd.R_drewN | apply Kd.R_drew)); exact Kd.R_mono (Kd.R_far (p := ⟨gb406, 5, none⟩) (Kd.R_far (p := ⟨gb406, 4, none⟩) (Kd.R_far (p := ⟨gb406, 3, none⟩) (Kd.R_far (p := ⟨gb406, 2, none⟩) (Kd.R_far (p := ⟨gb406, 1, none⟩) (Kd.R_far (p := ⟨gb406, 0, none⟩) (Kd.R_types HO398.out BK406.out (by decide)) (fun _ hk => hk.2) (.int .i64 t393)) (fun _ hk => hk.2) (.int .i64 t394)) (fun _ hk => hk.2) (.int .i64 t395)) (fun _ hk => hk.2) (.slice Ao98 t396.length co98)) (fun _ hk => hk.2) (.slice Ao99 t399.length co99)) (fun _ hk => hk.2) (.slice Ao100 t402.length co100)) (fun _ hk => hk.1)⟩, ⟨by (try simp only [hl15_4]); (with_reducible repeat (first | apply Kd.R_alloc | apply Kd.R_drewN | apply Kd.R_drew)); exact Kd.R_mono (Kd.R_far (p := ⟨gb406, 5, none⟩) (Kd.R_far (p := ⟨gb406, 4, none⟩) (Kd.R_far (p := ⟨gb406, 3, none⟩) (Kd.R_far (p := ⟨gb406, 2, none⟩) (Kd.R_far (p := ⟨gb406, 1, none⟩) (Kd.R_far (p := ⟨gb406, 0, none⟩) (Kd.R_types HO401.out BK406.out (by decide)) (fun _ hk => hk.2) (.int .i64 t393)) (fun _ hk => hk.2) (.int .i64 t394)) (fun _ hk => hk.2) (.int .i64 t395)) (fun _ hk => hk.2) (.slice Ao98 t396.length co98)) (fun _ hk => hk.2) (.slice Ao99 t399.length co99)) (fun _ hk => hk.2) (.slice Ao100 t402.length co100)) (fun _ hk => hk.1)⟩, ⟨by (try simp only [hl15_4]); (with_reducible repeat (first | apply Kd.S_alloc | apply Kd.S_drewN | apply Kd.S_drew)); exact Kd.S_mono (Kd.S_far (p := ⟨gb406, 5, none⟩) (Kd.S_far (p := ⟨gb406, 4, none⟩) (Kd.S_far (p := ⟨gb406, 3, none⟩) (Kd.S_far (p := ⟨gb406, 2, none⟩) (Kd.S_far (p := ⟨gb406, 1, none⟩) (Kd.S_far (p := ⟨gb406, 0, none⟩) (Kd.S_types HO404.out BK406.out (by decide)) (fun _ hk => hk.2) (.int .i64 t393)) (fun _ hk => hk.2) (.int .i64 t394)) (fun _ hk => hk.2) (.int .i64 t395)) (fun _ hk => hk.2) (.slice Ao98 t396.length co98)) (fun _ hk => hk.2) (.slice Ao99 t399.length co99)) (fun _ hk => hk.2) (.slice Ao100 t402.length co100)) (fun _ hk => hk.1)⟩, ⟨by (try simp only [hl15_4]); (with_reducible repeat (first | refine blk_drewN ?_ _ | refine blk_drew ?_ | refine blk_alloc ?_ _)); refine blk_far ?_ NB370_406.out _; (with_reducible repeat (first | refine blk_drewN ?_ _ | refine blk_drew ?_ | refine blk_alloc ?_ _)); refine blk_far ?_ NB370_406.out _; (with_reducible repeat (first | refine blk_drewN ?_ _ | refine blk_drew ?_ | refine blk_alloc ?_ _)); refine blk_far ?_ NB370_406.out _; (with_reducible repeat (first | refine blk_drewN ?_ _ | refine blk_drew ?_ | refine blk_alloc ?_ _)); refine blk_far ?_ NB370_406.out _; (with_reducible repeat (first | refine blk_drewN ?_ _ | refine blk_drew ?_ | refine blk_alloc ?_ _)); refine blk_far ?_ NB370_406.out _; (with_reducible repeat (first | refine blk_drewN ?_ _ | refine blk_drew ?_ | refine blk_alloc ?_ _)); refine blk_far ?_ NB370_406.out _; (with_reducible repeat (first | refine blk_drewN ?_ _ | refine blk_drew ?_ | refine blk_alloc ?_ _)); exact BK370.out⟩, ⟨by (try simp only [hl15_4]); (with_reducible repeat (first | refine blk_drewN ?_ _ | refine blk_drew ?_ | refine blk_alloc ?_ _)); refine blk_far ?_ NB371_406.out _; (with_reducible repeat (first | refine blk_drewN ?_ _ | refine blk_drew ?_ | refine blk_alloc ?_ _)); refine blk_far ?_ NB371_406.out _; (with_reducible repeat (first | refine blk_drewN ?_ _ | refine blk_drew ?_ | refine blk_alloc ?_ _)); refine blk_far ?_ NB371_406.out _; (with_reducible repeat (first | refine blk_drewN ?_ _ | refine blk_drew ?_ | refine blk_alloc ?_ _)); refine blk_far ?_ NB371_406.out _; (with_reducible repeat (first | refine blk_drewN ?_ _ | refine blk_drew ?_ | refine blk_alloc ?_ _)); refine blk_far ?_ NB371_406.out _; (with_reducible repeat (first | refine blk_drewN ?_ _ | refine blk_drew ?_ | refine blk_alloc ?_ _)); refine blk_far ?_ NB371_406.out _; (with_reducible repeat (first | refine blk_drewN ?_ _ | refine blk_drew ?_ | refine blk_alloc ?_ _)); exact BK371.out⟩, ⟨by (try simp only [hl15_4]); (with_reducible repeat (first | refine blk_drewN ?_ _ | refine blk_drew ?_ | refine blk_alloc ?_ _)); refine blk_put (cs := #[.int .i64 t393, .int .i64 t394, .int .i64 t395, .slice Ao98 t396.length co98, .slice Ao99 t399.length co99, .slice none 0 0]) ?_ 5 _ rfl; (with_reducible repeat (first | refine blk_drewN ?_ _ | refine blk_drew ?_ | refine blk_alloc ?_ _)); refine blk_put (cs := #[.int .i64 t393, .int .i64 t394, .int .i64 t395, .slice Ao98 t396.length co98, .slice none 0 0, .slice none 0 0]) ?_ 4 _ rfl; (with_reducible repeat (first | refine blk_drewN ?_ _ | refine blk_drew ?_ | refine blk_alloc ?_ _)); refine blk_put (cs := #[.int .i64 t393, .int .i64 t394, .int .i64 t395, .slice none 0 0, .slice none 0 0, .slice none 0 0]) ?_ 3 _ rfl; (with_reducible repeat (first | refine blk_drewN ?_ _ | refine blk_drew ?_ | refine blk_alloc ?_ _)); refine blk_put (cs := #[.int .i64 t393, .int .i64 t394, .int .i64 0, .slice none 0 0, .slice none 0 0, .slice none 0 0]) ?_ 2 _ rfl; (with_reducible repeat (first | refine blk_drewN ?_ _ | refine blk_drew ?_ | refine blk_alloc ?_ _)); refine blk_put (cs := #[.int .i64 t393, .int .i64 0, .int .i64 0, .slice none 0 0, .slice none 0 0, .slice none 0 0]) ?_ 1 _ rfl; (with_reducible repeat (first | refine blk_drewN ?_ _ | refine blk_drew ?_ | refine blk_alloc ?_ _)); refine blk_put (cs := #[.int .i64 0, .int .i64 0, .int .i64 0, .slice none 0 0, .slice none 0 0, .slice none 0 0]) ?_ 0 _ rfl; (with_reducible repeat (first | refine blk_drewN ?_ _ | refine blk_drew ?_ | refine blk_alloc ?_ _)); exact BK406.out⟩, ⟨by repeat (first | (with_reducible first | exact HB.out | apply below_alloc | apply pw_below_drewN | apply below_drew1 | refine below_set ?_ GE370.out | refine below_set ?_ GE371.out | refine below_set ?_ GE406.out) | exact HB.out)⟩⟩
                 ·rw [if_neg c101] at H
                  have c101b0 : (x16_4 != (t405 == 4)) = false := by simpa using c101
                  (try (have c101b1 : decide (x16_4 = (t405 == 4)) = true := by simpa using c101))
                  (try (have c101b2 : (x16_4 == (t405 == 4)) = true := by simpa using c101))
                  clear c101
                  (first | rw [c101b0] | (simp only [i64_w, i32_w]; rw [c101b0]) | skip)
                  by_cases c102 : x16_4 = true
                  ·subst c102
                   have H1 : (raddlelaw08_MsgCuts.j5 kj74 a2 t374 false) = some r := by rw [if_pos rfl] at H; exact H
                   clear H
                   have H := H1
                   clear H1
                   have H' := Aside0.mk H
                   clear H
                   go_wp2
                   go_meet
                   case rel => exact ⟨_, (false), (by first | rfl | (simp; done) | (simp [*]; done)), H', ⟨by have := HJ5.out; have := HJ28.out; have := HJ58.out; have := HK4.out; have := HJ74.out; first | omega | exact Nat.le_refl _⟩, ⟨by (try simp only [hl15_4]); (with_reducible repeat (first | apply Kd.R_alloc | apply Kd.R_drewN | apply Kd.R_drew)); exact Kd.R_mono (Kd.R_far (p := ⟨gb406, 5, none⟩) (Kd.R_far (p := ⟨gb406, 4, none⟩) (Kd.R_far (p := ⟨gb406, 3, none⟩) (Kd.R_far (p := ⟨gb406, 2, none⟩) (Kd.R_far (p := ⟨gb406, 1, none⟩) (Kd.R_far (p := ⟨gb406, 0, none⟩) (Kd.R_types HO_11.out BK406.out (by decide)) (fun _ hk => hk.2) (.int .i64 t393)) (fun _ hk => hk.2) (.int .i64 t394)) (fun _ hk => hk.2) (.int .i64 t395)) (fun _ hk => hk.2) (.slice Ao98 t396.length co98)) (fun _ hk => hk.2) (.slice Ao99 t399.length co99)) (fun _ hk => hk.2) (.slice Ao100 t402.length co100)) (fun _ hk => trivial)⟩, ⟨by (try simp only [hl15_4]); (with_reducible repeat (first | apply Kd.R_alloc | apply Kd.R_drewN | apply Kd.R_drew)); exact Kd.R_mono (Kd.R_far (p := ⟨gb406, 5, none⟩) (Kd.R_far (p := ⟨gb406, 4, none⟩) (Kd.R_far (p := ⟨gb406, 3, none⟩) (Kd.R_far (p := ⟨gb406, 2, none⟩) (Kd.R_far (p := ⟨gb406, 1, none⟩) (Kd.R_far (p := ⟨gb406, 0, none⟩) (Kd.R_types HO398.out BK406.out (by decide)) (fun _ hk => hk.2) (.int .i64 t393)) (fun _ hk => hk.2) (.int .i64 t394)) (fun _ hk => hk.2) (.int .i64 t395)) (fun _ hk => hk.2) (.slice Ao98 t396.length co98)) (fun _ hk => hk.2) (.slice Ao99 t399.length co99)) (fun _ hk => hk.2) (.slice Ao100 t402.length co100)) (fun _ hk => hk.1)⟩, ⟨by (try simp only [hl15_4]); (with_reducible repeat (first | apply Kd.R_alloc | apply Kd.R_drewN | apply Kd.R_drew)); exact Kd.R_mono (Kd.R_far (p := ⟨gb406, 5, none⟩) (Kd.R_far (p := ⟨gb406, 4, none⟩) (Kd.R_far (p := ⟨gb406, 3, none⟩) (Kd.R_far (p := ⟨gb406, 2, none⟩) (Kd.R_far (p := ⟨gb406, 1, none⟩) (Kd.R_far (p := ⟨gb406, 0, none⟩) (Kd.R_types HO401.out BK406.out (by decide)) (fun _ hk => hk.2) (.int .i64 t393)) (fun _ hk => hk.2) (.int .i64 t394)) (fun _ hk => hk.2) (.int .i64 t395)) (fun _ hk => hk.2) (.slice Ao98 t396.length co98)) (fun _ hk => hk.2) (.slice Ao99 t399.length co99)) (fun _ hk => hk.2) (.slice Ao100 t402.length co100)) (fun _ hk => hk.1)⟩, ⟨by (try simp only [hl15_4]); (with_reducible repeat (first | apply Kd.S_alloc | apply Kd.S_drewN | apply Kd.S_drew)); exact Kd.S_mono (Kd.S_far (p := ⟨gb406, 5, none⟩) (Kd.S_far (p := ⟨gb406, 4, none⟩) (Kd.S_far (p := ⟨gb406, 3, none⟩) (Kd.S_far (p := ⟨gb406, 2, none⟩) (Kd.S_far (p := ⟨gb406, 1, none⟩) (Kd.S_far (p := ⟨gb406, 0, none⟩) (Kd.S_types HO404.out BK406.out (by decide)) (fun _ hk => hk.2) (.int .i64 t393)) (fun _ hk => hk.2) (.int .i64 t394)) (fun _ hk => hk.2) (.int .i64 t395)) (fun _ hk => hk.2) (.slice Ao98 t396.length co98)) (fun _ hk => hk.2) (.slice Ao99 t399.length co99)) (fun _ hk => hk.2) (.slice Ao100 t402.length co100)) (fun _ hk => hk.1)⟩, ⟨by (try simp only [hl15_4]); (with_reducible repeat (first | refine blk_drewN ?_ _ | refine blk_drew ?_ | refine blk_alloc ?_ _)); refine blk_far ?_ NB370_406.out _; (with_reducible repeat (first | refine blk_drewN ?_ _ | refine blk_drew ?_ | refine blk_alloc ?_ _)); refine blk_far ?_ NB370_406.out _; (with_reducible repeat (first | refine blk_drewN ?_ _ | refine blk_drew ?_ | refine blk_alloc ?_ _)); refine blk_far ?_ NB370_406.out _; (with_reducible repeat (first | refine blk_drewN ?_ _ | refine blk_drew ?_ | refine blk_alloc ?_ _)); refine blk_far ?_ NB370_406.out _; (with_reducible repeat (first | refine blk_drewN ?_ _ | refine blk_drew ?_ | refine blk_alloc ?_ _)); refine blk_far ?_ NB370_406.out _; (with_reducible repeat (first | refine blk_drewN ?_ _ | refine blk_drew ?_ | refine blk_alloc ?_ _)); refine blk_far ?_ NB370_406.out _; (with_reducible repeat (first | refine blk_drewN ?_ _ | refine blk_drew ?_ | refine blk_alloc ?_ _)); exact BK370.out⟩, ⟨by (try simp only [hl15_4]); (with_reducible repeat (first | refine blk_drewN ?_ _ | refine blk_drew ?_ | refine blk_alloc ?_ _)); refine blk_far ?_ NB371_406.out _; (with_reducible repeat (first | refine blk_drewN ?_ _ | refine blk_drew ?_ | refine blk_alloc ?_ _)); refine blk_far ?_ NB371_406.out _; (with_reducible repeat (first | refine blk_drewN ?_ _ | refine blk_drew ?_ | refine blk_alloc ?_ _)); refine blk_far ?_ NB371_406.out _; (with_reducible repeat (first | refine blk_drewN ?_ _ | refine blk_drew ?_ | refine blk_alloc ?_ _)); refine blk_far ?_ NB371_406.out _; (with_reducible repeat (first | refine blk_drewN ?_ _ | refine blk_drew ?_ | refine blk_alloc ?_ _)); refine blk_far ?_ NB371_406.out _; (with_reducible repeat (first | refine blk_drewN ?_ _ | refine blk_drew ?_ | refine blk_alloc ?_ _)); refine blk_far ?_ NB371_406.out _; (with_reducible repeat (first | refine blk_drewN ?_ _ | refine blk_drew ?_ | refine blk_alloc ?_ _)); exact BK371.out⟩, ⟨by (try simp only [hl15_4]); (with_reducible repeat (first | refine blk_drewN ?_ _ | refine blk_drew ?_ | refine blk_alloc ?_ _)); refine blk_put (cs := #[.int .i64 t393, .int .i64 t394, .int .i64 t395, .slice Ao98 t396.length co98, .slice Ao99 t399.length co99, .slice none 0 0]) ?_ 5 _ rfl; (with_reducible repeat (first | refine blk_drewN ?_ _ | refine blk_drew ?_ | refine blk_alloc ?_ _)); refine blk_put (cs := #[.int .i64 t393, .int .i64 t394, .int .i64 t395, .slice Ao98 t396.length co98, .slice none 0 0, .slice none 0 0]) ?_ 4 _ rfl; (with_reducible repeat (first | refine blk_drewN ?_ _ | refine blk_drew ?_ | refine blk_alloc ?_ _)); refine blk_put (cs := #[.int .i64 t393, .int .i64 t394, .int .i64 t395, .slice none 0 0, .slice none 0 0, .slice none 0 0]) ?_ 3 _ rfl; (with_reducible repeat (first | refine blk_drewN ?_ _ | refine blk_drew ?_ | refine blk_alloc ?_ _)); refine blk_put (cs := #[.int .i64 t393, .int .i64 t394, .int .i64 0, .slice none 0 0, .slice none 0 0, .slice none 0 0]) ?_ 2 _ rfl; (with_reducible repeat (first | refine blk_drewN ?_ _ | refine blk_drew ?_ | refine blk_alloc ?_ _)); refine blk_put (cs := #[.int .i64 t393, .int .i64 0, .int .i64 0, .slice none 0 0, .slice none 0 0, .slice none 0 0]) ?_ 1 _ rfl; (with_reducible repeat (first | refine blk_drewN ?_ _ | refine blk_drew ?_ | refine blk_alloc ?_ _)); refine blk_put (cs := #[.int .i64 0, .int .i64 0, .int .i64 0, .slice none 0 0, .slice none 0 0, .slice none 0 0]) ?_ 0 _ rfl; (with_reducible repeat (first | refine blk_drewN ?_ _ | refine blk_drew ?_ | refine blk_alloc ?_ _)); exact BK406.out⟩, ⟨by repeat (first | (with_reducible first | exact HB.out | apply below_alloc | apply pw_below_drewN | apply below_drew1 | refine below_set ?_ GE370.out | refine below_set ?_ GE371.out | refine below_set ?_ GE406.out) | exact HB.out)⟩⟩
                  ·replace c102 := Bool.eq_false_iff.mpr c102
                   subst c102
                   have H1 : (if t405 = 0 then ((raddlekeep_Msg.f kj74 t393 t394 t395 t396 t399 t402 a0_0 a0_1 a0_2 l0_3 l0_4 l0_5).bind fun t407 => (raddlelaw08_MsgCuts.j5 kj74 a2 t374 (!t407))) else (raddlelaw08_MsgCuts.j5 kj74 a2 t374 true)) = some r := by rw [if_neg (show ¬ (false = true) by decide)] at H; exact H
                   clear H
                   have H := H1
                   clear H1
                   by_cases c103 : t405 = 0
                   ·rw [if_pos c103] at H
                    have c103b0 : (t405 == 0) = true := beq_iff_eq.mpr c103
                    have c103b1 : (t405 != 0) = false := bne_eq_false_iff_eq.mpr c103
                    clear c103
                    replace H := Option.bind_eq_some_iff.mp H
                    obtain ⟨t407, A1040, H⟩ := H
                    replace H : (raddlelaw08_MsgCuts.j5 kj74 a2 t374 (!t407)) = some r := H
                    have A104 := Aside0.mk A1040
                    clear A1040
                    have H' := Aside0.mk H
                    clear H
                    have hnb105 := NB406_370.out
                    have hnc105 := NB370_406.out
                    have hnb106 := NB406_371.out
                    have hnc106 := NB371_406.out
                    have hcz107 := fun i_ => blk_cell BK406.out i_
                    have hfz107 := fun i_ => blk_frozen BK406.out i_
                    have hnb108 := NB370_371.out
                    have hnc108 := NB371_370.out
                    have hcz109 := fun i_ => blk_cell BK370.out i_
                    have hfz109 := fun i_ => blk_frozen BK370.out i_
                    go_wp2_with (first | (go_at_call 24; (with_reducible refine (raddlekeep_Msg.calls kj74 t393 t394 t395 _ _ t396 _ _ t399 _ _ t402 a0_0 a0_1 a0_2 _ _ l0_3 _ _ l0_4 _ _ l0_5 t407 _ ?side1 ?side2 ?side3 ?side4 ?side5 ?side6 ?side7 ?side8 ?side9 ?side10 ?side11 ?side12 A104.out).mono ?_); (case side1 => refine (Kd.R_reads' (e := 3) (base := w.heap.size) (ok := fun _ => True) (n := t396.length) (c := co98) ?_).2.2; exact (by (with_reducible repeat (first | apply Kd.R_alloc | apply Kd.R_drewN | apply Kd.R_drew)); exact (Kd.R_mono (Kd.R_far (p := ⟨gb406, 5, none⟩) (Kd.R_far (p := ⟨gb406, 4, none⟩) (Kd.R_far (p := ⟨gb406, 3, none⟩) (Kd.R_far (p := ⟨gb406, 2, none⟩) (Kd.R_far (p := ⟨gb406, 1, none⟩) (Kd.R_far (p := ⟨gb406, 0, none⟩) (Kd.R_types HO398.out BK406.out (by decide)) (fun _ hk => hk.2) (.int .i64 t393)) (fun _ hk => hk.2) (.int .i64 t394)) (fun _ hk => hk.2) (.int .i64 t395)) (fun _ hk => hk.2) (.slice Ao98 t396.length co98)) (fun _ hk => hk.2) (.slice Ao99 t399.length co99)) (fun _ hk => hk.2) (.slice Ao100 t402.length co100)) (fun _ h_ => h_.1)))); (case side2 => exact (Kd.R_reads' HO398.out).2.1); (case side3 => refine (Kd.R_reads' (e := 3) (base := w.heap.size) (ok := fun _ => True) (n := t399.length) (c := co99) ?_).2.2; exact (by (with_reducible repeat (first | apply Kd.R_alloc | apply Kd.R_drewN | apply Kd.R_drew)); exact (Kd.R_mono (Kd.R_far (p := ⟨gb406, 5, none⟩) (Kd.R_far (p := ⟨gb406, 4, none⟩) (Kd.R_far (p := ⟨gb406, 3, none⟩) (Kd.R_far (p := ⟨gb406, 2, none⟩) (Kd.R_far (p := ⟨gb406, 1, none⟩) (Kd.R_far (p := ⟨gb406, 0, none⟩) (Kd.R_types HO401.out BK406.out (by decide)) (fun _ hk => hk.2) (.int .i64 t393)) (fun _ hk => hk.2) (.int .i64 t394)) (fun _ hk => hk.2) (.int .i64 t395)) (fun _ hk => hk.2) (.slice Ao98 t396.length co98)) (fun _ hk => hk.2) (.slice Ao99 t399.length co99)) (fun _ hk => hk.2) (.slice Ao100 t402.length co100)) (fun _ h_ => h_.1)))); (case side4 => exact (Kd.R_reads' HO401.out).2.1); (case side5 => refine (Kd.S_reads' (e := 55) (base := w.heap.size) (ok := fun _ => True) (n := t402.length) (c := co100) ?_).2.2; exact (by (with_reducible repeat (first | apply Kd.S_alloc | apply Kd.S_drewN | apply Kd.S_drew)); exact (Kd.S_mono (Kd.S_far (p := ⟨gb406, 5, none⟩) (Kd.S_far (p := ⟨gb406, 4, none⟩) (Kd.S_far (p := ⟨gb406, 3, none⟩) (Kd.S_far (p := ⟨gb406, 2, none⟩) (Kd.S_far (p := ⟨gb406, 1, none⟩) (Kd.S_far (p := ⟨gb406, 0, none⟩) (Kd.S_types HO404.out BK406.out (by decide)) (fun _ hk => hk.2) (.int .i64 t393)) (fun _ hk => hk.2) (.int .i64 t394)) (fun _ hk => hk.2) (.int .i64 t395)) (fun _ hk => hk.2) (.slice Ao98 t396.length co98)) (fun _ hk => hk.2) (.slice Ao99 t399.length co99)) (fun _ hk => hk.2) (.slice Ao100 t402.length co100)) (fun _ h_ => h_.1)))); (case side6 => exact (Kd.S_reads' HO404.out).2.1); (case side7 => exact Kd.C_below HR0_3.out (by repeat (first | (with_reducible first | exact HB.out | apply below_alloc | apply pw_below_drewN | apply below_drew1 | refine below_set ?_ GE370.out | refine below_set ?_ GE371.out | refine below_set ?_ GE406.out) | exact HB.out))); (case side8 => exact HC0_3.out); (case side9 => exact Kd.C_below HR0_4.out (by repeat (first | (with_reducible first | exact HB.out | apply below_alloc | apply pw_below_drewN | apply below_drew1 | refine below_set ?_ GE370.out | refine below_set ?_ GE371.out | refine below_set ?_ GE406.out) | exact HB.out))); (case side10 => exact HC0_4.out); (case side11 => exact Kd.C_below HR0_5.out (by repeat (first | (with_reducible first | exact HB.out | apply below_alloc | apply pw_below_drewN | apply below_drew1 | refine below_set ?_ GE370.out | refine below_set ?_ GE371.out | refine below_set ?_ GE406.out) | exact HB.out))); (case side12 => exact HC0_5.out); rintro e w110 ⟨rfl, hb⟩; have n0_ := Aside0.mk (Kd.R_below (by (with_reducible repeat (first | apply Kd.R_alloc | apply Kd.R_drewN | apply Kd.R_drew)); exact (Kd.R_mono (Kd.R_far (p := ⟨gb406, 5, none⟩) (Kd.R_far (p := ⟨gb406, 4, none⟩) (Kd.R_far (p := ⟨gb406, 3, none⟩) (Kd.R_far (p := ⟨gb406, 2, none⟩) (Kd.R_far (p := ⟨gb406, 1, none⟩) (Kd.R_far (p := ⟨gb406, 0, none⟩) (Kd.R_types HO_11.out BK406.out (by decide)) (fun _ hk => hk.2) (.int .i64 t393)) (fun _ hk => hk.2) (.int .i64 t394)) (fun _ hk => hk.2) (.int .i64 t395)) (fun _ hk => hk.2) (.slice Ao98 t396.length co98)) (fun _ hk => hk.2) (.slice Ao99 t399.length co99)) (fun _ hk => hk.2) (.slice Ao100 t402.length co100)) (fun _ h_ => h_.1))) hb); have n1_ := Aside0.mk (Kd.R_below (by (with_reducible repeat (first | apply Kd.R_alloc | apply Kd.R_drewN | apply Kd.R_drew)); exact (Kd.R_mono (Kd.R_far (p := ⟨gb406, 5, none⟩) (Kd.R_far (p := ⟨gb406, 4, none⟩) (Kd.R_far (p := ⟨gb406, 3, none⟩) (Kd.R_far (p := ⟨gb406, 2, none⟩) (Kd.R_far (p := ⟨gb406, 1, none⟩) (Kd.R_far (p := ⟨gb406, 0, none⟩) (Kd.R_types HO_15.out BK406.out (by decide)) (fun _ hk => hk.2) (.int .i64 t393)) (fun _ hk => hk.2) (.int .i64 t394)) (fun _ hk => hk.2) (.int .i64 t395)) (fun _ hk => hk.2) (.slice Ao98 t396.length co98)) (fun _ hk => hk.2) (.slice Ao99 t399.length co99)) (fun _ hk => hk.2) (.slice Ao100 t402.length co100)) (fun _ h_ => h_.1))) hb); have n2_ := Aside0.mk (Kd.R_below (by (with_reducible repeat (first | apply Kd.R_alloc | apply Kd.R_drewN | apply Kd.R_drew)); exact (Kd.R_mono (Kd.R_far (p := ⟨gb406, 5, none⟩) (Kd.R_far (p := ⟨gb406, 4, none⟩) (Kd.R_far (p := ⟨gb406, 3, none⟩) (Kd.R_far (p := ⟨gb406, 2, none⟩) (Kd.R_far (p := ⟨gb406, 1, none⟩) (Kd.R_far (p := ⟨gb406, 0, none⟩) (Kd.R_types HO398.out BK406.out (by decide)) (fun _ hk => hk.2) (.int .i64 t393)) (fun _ hk => hk.2) (.int .i64 t394)) (fun _ hk => hk.2) (.int .i64 t395)) (fun _ hk => hk.2) (.slice Ao98 t396.length co98)) (fun _ hk => hk.2) (.slice Ao99 t399.length co99)) (fun _ hk => hk.2) (.slice Ao100 t402.length co100)) (fun _ h_ => h_.1))) hb); have n3_ := Aside0.mk (Kd.R_below (by (with_reducible repeat (first | apply Kd.R_alloc | apply Kd.R_drewN | apply Kd.R_drew)); exact (Kd.R_mono (Kd.R_far (p := ⟨gb406, 5, none⟩) (Kd.R_far (p := ⟨gb406, 4, none⟩) (Kd.R_far (p := ⟨gb406, 3, none⟩) (Kd.R_far (p := ⟨gb406, 2, none⟩) (Kd.R_far (p := ⟨gb406, 1, none⟩) (Kd.R_far (p := ⟨gb406, 0, none⟩) (Kd.R_types HO401.out BK406.out (by decide)) (fun _ hk => hk.2) (.int .i64 t393)) (fun _ hk => hk.2) (.int .i64 t394)) (fun _ hk => hk.2) (.int .i64 t395)) (fun _ hk => hk.2) (.slice Ao98 t396.length co98)) (fun _ hk => hk.2) (.slice Ao99 t399.length co99)) (fun _ hk => hk.2) (.slice Ao100 t402.length co100)) (fun _ h_ => h_.1))) hb); have n4_ := Aside0.mk (Kd.S_below (by (with_reducible repeat (first | apply Kd.S_alloc | apply Kd.S_drewN | apply Kd.S_drew)); exact (Kd.S_mono (Kd.S_far (p := ⟨gb406, 5, none⟩) (Kd.S_far (p := ⟨gb406, 4, none⟩) (Kd.S_far (p := ⟨gb406, 3, none⟩) (Kd.S_far (p := ⟨gb406, 2, none⟩) (Kd.S_far (p := ⟨gb406, 1, none⟩) (Kd.S_far (p := ⟨gb406, 0, none⟩) (Kd.S_types HO404.out BK406.out (by decide)) (fun _ hk => hk.2) (.int .i64 t393)) (fun _ hk => hk.2) (.int .i64 t394)) (fun _ hk => hk.2) (.int .i64 t395)) (fun _ hk => hk.2) (.slice Ao98 t396.length co98)) (fun _ hk => hk.2) (.slice Ao99 t399.length co99)) (fun _ hk => hk.2) (.slice Ao100 t402.length co100)) (fun _ h_ => h_.1))) hb); have n5_ := Aside0.mk (blk_below (g := gb370) (o := .cells #[.int .i64 a0_0, .int .i64 a0_1, .int .i64 a0_2, .slice A0_3 l0_3.length c0_3, .slice A0_4 l0_4.length c0_4, .slice A0_5 l0_5.length c0_5] 40 (0, 0)) (by (with_reducible repeat (first | refine blk_drewN ?_ _ | refine blk_drew ?_ | refine blk_alloc ?_ _)); refine blk_far ?_ NB370_406.out _; (with_reducible repeat (first | refine blk_drewN ?_ _ | refine blk_drew ?_ | refine blk_alloc ?_ _)); refine blk_far ?_ NB370_406.out _; (with_reducible repeat (first | refine blk_drewN ?_ _ | refine blk_drew ?_ | refine blk_alloc ?_ _)); refine blk_far ?_ NB370_406.out _; (with_reducible repeat (first | refine blk_drewN ?_ _ | refine blk_drew ?_ | refine blk_alloc ?_ _)); refine blk_far ?_ NB370_406.out _; (with_reducible repeat (first | refine blk_drewN ?_ _ | refine blk_drew ?_ | refine blk_alloc ?_ _)); refine blk_far ?_ NB370_406.out _; (with_reducible repeat (first | refine blk_drewN ?_ _ | refine blk_drew ?_ | refine blk_alloc ?_ _)); refine blk_far ?_ NB370_406.out _; (with_reducible repeat (first | refine blk_drewN ?_ _ | refine blk_drew ?_ | refine blk_alloc ?_ _)); exact BK370.out) hb); have n6_ := Aside0.mk (blk_below (g := gb371) (o := .cells #[.int .i64 a1_0, .int .i64 a1_1, .int .i64 a1_2, .slice A1_3 l1_3.length c1_3, .slice A1_4 l1_4.length c1_4, .slice A1_5 l1_5.length c1_5] 40 (0, 0)) (by (with_reducible repeat (first | refine blk_drewN ?_ _ | refine blk_drew ?_ | refine blk_alloc ?_ _)); refine blk_far ?_ NB371_406.out _; (with_reducible repeat (first | refine blk_drewN ?_ _ | refine blk_drew ?_ | refine blk_alloc ?_ _)); refine blk_far ?_ NB371_406.out _; (with_reducible repeat (first | refine blk_drewN ?_ _ | refine blk_drew ?_ | refine blk_alloc ?_ _)); refine blk_far ?_ NB371_406.out _; (with_reducible repeat (first | refine blk_drewN ?_ _ | refine blk_drew ?_ | refine blk_alloc ?_ _)); refine blk_far ?_ NB371_406.out _; (with_reducible repeat (first | refine blk_drewN ?_ _ | refine blk_drew ?_ | refine blk_alloc ?_ _)); refine blk_far ?_ NB371_406.out _; (with_reducible repeat (first | refine blk_drewN ?_ _ | refine blk_drew ?_ | refine blk_alloc ?_ _)); refine blk_far ?_ NB371_406.out _; (with_reducible repeat (first | refine blk_drewN ?_ _ | refine blk_drew ?_ | refine blk_alloc ?_ _)); exact BK371.out) hb); have n7_ := Aside0.mk (blk_below (g := gb406) (o := .cells #[.int .i64 t393, .int .i64 t394, .int .i64 t395, .slice Ao98 t396.length co98, .slice Ao99 t399.length co99, .slice Ao100 t402.length co100] 40 (0, 0)) (by (with_reducible repeat (first | refine blk_drewN ?_ _ | refine blk_drew ?_ | refine blk_alloc ?_ _)); refine blk_put (cs := #[.int .i64 t393, .int .i64 t394, .int .i64 t395, .slice Ao98 t396.length co98, .slice Ao99 t399.length co99, .slice none 0 0]) ?_ 5 _ rfl; (with_reducible repeat (first | refine blk_drewN ?_ _ | refine blk_drew ?_ | refine blk_alloc ?_ _)); refine blk_put (cs := #[.int .i64 t393, .int .i64 t394, .int .i64 t395, .slice Ao98 t396.length co98, .slice none 0 0, .slice none 0 0]) ?_ 4 _ rfl; (with_reducible repeat (first | refine blk_drewN ?_ _ | refine blk_drew ?_ | refine blk_alloc ?_ _)); refine blk_put (cs := #[.int .i64 t393, .int .i64 t394, .int .i64 t395, .slice none 0 0, .slice none 0 0, .slice none 0 0]) ?_ 3 _ rfl; (with_reducible repeat (first | refine blk_drewN ?_ _ | refine blk_drew ?_ | refine blk_alloc ?_ _)); refine blk_put (cs := #[.int .i64 t393, .int .i64 t394, .int .i64 0, .slice none 0 0, .slice none 0 0, .slice none 0 0]) ?_ 2 _ rfl; (with_reducible repeat (first | refine blk_drewN ?_ _ | refine blk_drew ?_ | refine blk_alloc ?_ _)); refine blk_put (cs := #[.int .i64 t393, .int .i64 0, .int .i64 0, .slice none 0 0, .slice none 0 0, .slice none 0 0]) ?_ 1 _ rfl; (with_reducible repeat (first | refine blk_drewN ?_ _ | refine blk_drew ?_ | refine blk_alloc ?_ _)); refine blk_put (cs := #[.int .i64 0, .int .i64 0, .int .i64 0, .slice none 0 0, .slice none 0 0, .slice none 0 0]) ?_ 0 _ rfl; (with_reducible repeat (first | refine blk_drewN ?_ _ | refine blk_drew ?_ | refine blk_alloc ?_ _)); exact BK406.out) hb); have n8_ := Aside0.mk (below_step (by repeat (first | (with_reducible first | exact HB.out | apply below_alloc | apply pw_below_drewN | apply below_drew1 | refine below_set ?_ GE370.out | refine below_set ?_ GE371.out | refine below_set ?_ GE406.out) | exact HB.out)) hb); clear HO_11; clear HO_15; clear HO398; clear HO401; clear HO404; clear BK370; clear BK371; clear BK406; clear HB; have HO_11 := n0_; have HO_15 := n1_; have HO398 := n2_; have HO401 := n3_; have HO404 := n4_; have BK370 := n5_; have BK371 := n6_; have BK406 := n7_; have HB := n8_; clear n0_ n1_ n2_ n3_ n4_ n5_ n6_ n7_ n8_; (try clear hb); (try clear hb2); (try clear hk); (try clear hi)))
                    go_meet
                    case rel => exact ⟨_, (!t407), (by first | rfl | (simp; done) | (simp [*]; done)), H', ⟨by have := HJ5.out; have := HJ28.out; have := HJ58.out; have := HK4.out; have := HJ74.out; first | omega | exact Nat.le_refl _⟩, ⟨by (try simp only [hl15_4]); (with_reducible repeat (first | apply Kd.R_alloc | apply Kd.R_drewN | apply Kd.R_drew)); exact Kd.R_mono HO_11.out (fun _ hk => trivial)⟩, ⟨by (try simp only [hl15_4]); (with_reducible repeat (first | apply Kd.R_alloc | apply Kd.R_drewN | apply Kd.R_drew)); exact HO398.out⟩, ⟨by (try simp only [hl15_4]); (with_reducible repeat (first | apply Kd.R_alloc | apply Kd.R_drewN | apply Kd.R_drew)); exact HO401.out⟩, ⟨by (try simp only [hl15_4]); (with_reducible repeat (first | apply Kd.S_alloc | apply Kd.S_drewN | apply Kd.S_drew)); exact HO404.out⟩, ⟨by (try simp only [hl15_4]); (with_reducible repeat (first | refine blk_drewN ?_ _ | refine blk_drew ?_ | refine blk_alloc ?_ _)); exact BK370.out⟩, ⟨by (try simp only [hl15_4]); (with_reducible repeat (first | refine blk_drewN ?_ _ | refine blk_drew ?_ | refine blk_alloc ?_ _)); exact BK371.out⟩, ⟨by (try simp only [hl15_4]); (with_reducible repeat (first | refine blk_drewN ?_ _ | refine blk_drew ?_ | refine blk_alloc ?_ _)); exact BK406.out⟩, ⟨by repeat (first | (with_reducible first | exact HB.out | apply below_alloc | apply pw_below_drewN | apply below_drew1 | refine below_set ?_ GE370.out | refine below_set ?_ GE371.out | refine below_set ?_ GE406.out) | exact HB.out)⟩⟩
                   ·rw [if_neg c103] at H
                    have c103b0 : (t405 == 0) = false := beq_eq_false_iff_ne.mpr c103
                    have c103b1 : (t405 != 0) = true := bne_iff_ne.mpr c103
                    have H' := Aside0.mk H
                    clear H
                    go_wp2
                    go_meet
                    case rel => exact ⟨_, (true), (by first | rfl | (simp; done) | (simp [*]; done)), H', ⟨by have := HJ5.out; have := HJ28.out; have := HJ58.out; have := HK4.out; have := HJ74.out; first | omega | exact Nat.le_refl _⟩, ⟨by (try simp only [hl15_4]); (with_reducible repeat (first | apply Kd.R_alloc | apply Kd.R_drewN | apply Kd.R_drew)); exact Kd.R_mono (Kd.R_far (p := ⟨gb406, 5, none⟩) (Kd.R_far (p := ⟨gb406, 4, none⟩) (Kd.R_far (p := ⟨gb406, 3, none⟩) (Kd.R_far (p := ⟨gb406, 2, none⟩) (Kd.R_far (p := ⟨gb406, 1, none⟩) (Kd.R_far (p := ⟨gb406, 0, none⟩) (Kd.R_types HO_11.out BK406.out (by decide)) (fun _ hk => hk.2) (.int .i64 t393)) (fun _ hk => hk.2) (.int .i64 t394)) (fun _ hk => hk.2) (.int .i64 t395)) (fun _ hk => hk.2) (.slice Ao98 t396.length co98)) (fun _ hk => hk.2) (.slice Ao99 t399.length co99)) (fun _ hk => hk.2) (.slice Ao100 t402.length co100)) (fun _ hk => trivial)⟩, ⟨by (try simp only [hl15_4]); (with_reducible repeat (first | apply Kd.R_alloc | apply Kd.R_drewN | apply Kd.R_drew)); exact Kd.R_mono (Kd.R_far (p := ⟨gb406, 5, none⟩) (Kd.R_far (p := ⟨gb406, 4, none⟩) (Kd.R_far (p := ⟨gb406, 3, none⟩) (Kd.R_far (p := ⟨gb406, 2, none⟩) (Kd.R_far (p := ⟨gb406, 1, none⟩) (Kd.R_far (p := ⟨gb406, 0, none⟩) (Kd.R_types HO398.out BK406.out (by decide)) (fun _ hk => hk.2) (.int .i64 t393)) (fun _ hk => hk.2) (.int .i64 t394)) (fun _ hk => hk.2) (.int .i64 t395)) (fun _ hk => hk.2) (.slice Ao98 t396.length co98)) (fun _ hk => hk.2) (.slice Ao99 t399.length co99)) (fun _ hk => hk.2) (.slice Ao100 t402.length co100)) (fun _ hk => hk.1)⟩, ⟨by (try simp only [hl15_4]); (with_reducible repeat (first | apply Kd.R_alloc | apply Kd.R_drewN | apply Kd.R_drew)); exact Kd.R_mono (Kd.R_far (p := ⟨gb406, 5, none⟩) (Kd.R_far (p := ⟨gb406, 4, none⟩) (Kd.R_far (p := ⟨gb406, 3, none⟩) (Kd.R_far (p := ⟨gb406, 2, none⟩) (Kd.R_far (p := ⟨gb406, 1, none⟩) (Kd.R_far (p := ⟨gb406, 0, none⟩) (Kd.R_types HO401.out BK406.out (by decide)) (fun _ hk => hk.2) (.int .i64 t393)) (fun _ hk => hk.2) (.int .i64 t394)) (fun _ hk => hk.2) (.int .i64 t395)) (fun _ hk => hk.2) (.slice Ao98 t396.length co98)) (fun _ hk => hk.2) (.slice Ao99 t399.length co99)) (fun _ hk => hk.2) (.slice Ao100 t402.length co100)) (fun _ hk => hk.1)⟩, ⟨by (try simp only [hl15_4]); (with_reducible repeat (first | apply Kd.S_alloc | apply Kd.S_drewN | apply Kd.S_drew)); exact Kd.S_mono (Kd.S_far (p := ⟨gb406, 5, none⟩) (Kd.S_far (p := ⟨gb406, 4, none⟩) (Kd.S_far (p := ⟨gb406, 3, none⟩) (Kd.S_far (p := ⟨gb406, 2, none⟩) (Kd.S_far (p := ⟨gb406, 1, none⟩) (Kd.S_far (p := ⟨gb406, 0, none⟩) (Kd.S_types HO404.out BK406.out (by decide)) (fun _ hk => hk.2) (.int .i64 t393)) (fun _ hk => hk.2) (.int .i64 t394)) (fun _ hk => hk.2) (.int .i64 t395)) (fun _ hk => hk.2) (.slice Ao98 t396.length co98)) (fun _ hk => hk.2) (.slice Ao99 t399.length co99)) (fun _ hk => hk.2) (.slice Ao100 t402.length co100)) (fun _ hk => hk.1)⟩, ⟨by (try simp only [hl15_4]); (with_reducible repeat (first | refine blk_drewN ?_ _ | refine blk_drew ?_ | refine blk_alloc ?_ _)); refine blk_far ?_ NB370_406.out _; (with_reducible repeat (first | refine blk_drewN ?_ _ | refine blk_drew ?_ | refine blk_alloc ?_ _)); refine blk_far ?_ NB370_406.out _; (with_reducible repeat (first | refine blk_drewN ?_ _ | refine blk_drew ?_ | refine blk_alloc ?_ _)); refine blk_far ?_ NB370_406.out _; (with_reducible repeat (first | refine blk_drewN ?_ _ | refine blk_drew ?_ | refine blk_alloc ?_ _)); refine blk_far ?_ NB370_406.out _; (with_reducible repeat (first | refine blk_drewN ?_ _ | refine blk_drew ?_ | refine blk_alloc ?_ _)); refine blk_far ?_ NB370_406.out _; (with_reducible repeat (first | refine blk_drewN ?_ _ | refine blk_drew ?_ | refine blk_alloc ?_ _)); refine blk_far ?_ NB370_406.out _; (with_reducible repeat (first | refine blk_drewN ?_ _ | refine blk_drew ?_ | refine blk_alloc ?_ _)); exact BK370.out⟩, ⟨by (try simp only [hl15_4]); (with_reducible repeat (first | refine blk_drewN ?_ _ | refine blk_drew ?_ | refine blk_alloc ?_ _)); refine blk_far ?_ NB371_406.out _; (with_reducible repeat (first | refine blk_drewN ?_ _ | refine blk_drew ?_ | refine blk_alloc ?_ _)); refine blk_far ?_ NB371_406.out _; (with_reducible repeat (first | refine blk_drewN ?_ _ | refine blk_drew ?_ | refine blk_alloc ?_ _)); refine blk_far ?_ NB371_406.out _; (with_reducible repeat (first | refine blk_drewN ?_ _ | refine blk_drew ?_ | refine blk_alloc ?_ _)); refine blk_far ?_ NB371_406.out _; (with_reducible repeat (first | refine blk_drewN ?_ _ | refine blk_drew ?_ | refine blk_alloc ?_ _)); refine blk_far ?_ NB371_406.out _; (with_reducible repeat (first | refine blk_drewN ?_ _ | refine blk_drew ?_ | refine blk_alloc ?_ _)); refine blk_far ?_ NB371_406.out _; (with_reducible repeat (first | refine blk_drewN ?_ _ | refine blk_drew ?_ | refine blk_alloc ?_ _)); exact BK371.out⟩, ⟨by (try simp only [hl15_4]); (with_reducible repeat (first | refine blk_drewN ?_ _ | refine blk_drew ?_ | refine blk_alloc ?_ _)); refine blk_put (cs := #[.int .i64 t393, .int .i64 t394, .int .i64 t395, .slice Ao98 t396.length co98, .slice Ao99 t399.length co99, .slice none 0 0]) ?_ 5 _ rfl; (with_reducible repeat (first | refine blk_drewN ?_ _ | refine blk_drew ?_ | refine blk_alloc ?_ _)); refine blk_put (cs := #[.int .i64 t393, .int .i64 t394, .int .i64 t395, .slice Ao98 t396.length co98, .slice none 0 0, .slice none 0 0]) ?_ 4 _ rfl; (with_reducible repeat (first | refine blk_drewN ?_ _ | refine blk_drew ?_ | refine blk_alloc ?_ _)); refine blk_put (cs := #[.int .i64 t393, .int .i64 t394, .int .i64 t395, .slice none 0 0, .slice none 0 0, .slice none 0 0]) ?_ 3 _ rfl; (with_reducible repeat (first | refine blk_drewN ?_ _ | refine blk_drew ?_ | refine blk_alloc ?_ _)); refine blk_put (cs := #[.int .i64 t393, .int .i64 t394, .int .i64 0, .slice none 0 0, .slice none 0 0, .slice none 0 0]) ?_ 2 _ rfl; (with_reducible repeat (first | refine blk_drewN ?_ _ | refine blk_drew ?_ | refine blk_alloc ?_ _)); refine blk_put (cs := #[.int .i64 t393, .int .i64 0, .int .i64 0, .slice none 0 0, .slice none 0 0, .slice none 0 0]) ?_ 1 _ rfl; (with_reducible repeat (first | refine blk_drewN ?_ _ | refine blk_drew ?_ | refine blk_alloc ?_ _)); refine blk_put (cs := #[.int .i64 0, .int .i64 0, .int .i64 0, .slice none 0 0, .slice none 0 0, .slice none 0 0]) ?_ 0 _ rfl; (with_reducible repeat (first | refine blk_drewN ?_ _ | refine blk_drew ?_ | refine blk_alloc ?_ _)); exact BK406.out⟩, ⟨by repeat (first | (with_reducible first | exact HB.out | apply below_alloc | apply pw_below_drewN | apply below_drew1 | refine below_set ?_ GE370.out | refine below_set ?_ GE371.out | refine below_set ?_ GE406.out) | exact HB.out)⟩⟩
                case rest =>
                 clear HC92
                 try clear c1
                 try clear c2
                 try clear p2
                 try clear c3
                 try clear p3
                 try clear q3
                 try clear hx3
                 try clear c4
                 try clear c5
                 try clear c6
                 try clear p6
                 try clear c7
                 try clear c8
                 try clear p8
                 try clear q8
                 try clear hx8
                 try clear hf8
                 try clear c9
                 try clear c10
                 try clear c11
                 try clear c13
                 try clear c14
                 try clear c15
                 try clear c16
                 try clear c21
                 try clear c22
                 try clear c24
                 try clear c25
                 try clear c26
                 try clear c30
                 try clear c35
                 try clear c35b0
                 try clear c35b1
                 try clear c36
                 try clear c37
                 try clear c37b0
                 try clear c37b1
                 try clear c38
                 try clear c38b0
                 try clear c38b1
                 try clear p39
                 try clear q39
                 try clear hx39
                 try clear c41
                 try clear c41b0
                 try clear c41b1
                 try clear c41b2
                 try clear c46
                 try clear c46b0
                 try clear c46b1
                 try clear c46b2
                 try clear c47
                 try clear c47b0
                 try clear c47b1
                 try clear c51
                 try clear c51b0
                 try clear c51b1
                 try clear c51b2
                 try clear c60
                 try clear c60b0
                 try clear c60b1
                 try clear p64
                 try clear c69
                 try clear c71
                 try clear c71b0
                 try clear c71b1
                 try clear c76
                 try clear c76b0
                 try clear c77
                 try clear c79
                 try clear c79b0
                 try clear c79b1
                 try clear c81
                 try clear c81b0
                 try clear c81b1
                 try clear c83
                 try clear c83b0
                 try clear c84
                 try clear c84b0
                 try clear c86
                 try clear c86b0
                 try clear c86b1
                 try clear p88
                 try clear q88
                 try clear hx88
                 try clear hf88
                 try clear c95
                 try clear c96
                 try clear c101
                 try clear c101b0
                 try clear c101b1
                 try clear c101b2
                 try clear c102
                 try clear c103
                 try clear c103b0
                 try clear c103b1
                 try clear c105
                 try clear c106
                 try clear c108
                 try clear hcz107_0
                 try clear hcz107_1
                 try clear hcz107_2
                 try clear hcz107_3
                 try clear hcz107_4
                 try clear hcz107_5
                 try clear hcz109_0
                 try clear hcz109_1
                 try clear hcz109_2
                 try clear hcz109_3
                 try clear hcz109_4
                 try clear hcz109_5
                 try clear hcz12_0
                 try clear hcz12_1
                 try clear hcz12_2
                 try clear hcz12_3
                 try clear hcz12_4
                 try clear hcz12_5
                 try clear hcz17_0
                 try clear hcz17_1
                 try clear hcz17_2
                 try clear hcz17_3
                 try clear hcz17_4
                 try clear hcz17_5
                 try clear hcz19_0
                 try clear hcz19_1
                 try clear hcz19_2
                 try clear hcz19_3
                 try clear hcz19_4
                 try clear hcz19_5
                 try clear hcz22_0
                 try clear hcz22_1
                 try clear hcz22_2
                 try clear hcz22_3
                 try clear hcz22_4
                 try clear hcz22_5
                 try clear hcz24_0
                 try clear hcz24_1
                 try clear hcz24_2
                 try clear hcz24_3
                 try clear hcz24_4
                 try clear hcz24_5
                 try clear hcz31_0
                 try clear hcz31_1
                 try clear hcz31_2
                 try clear hcz31_3
                 try clear hcz31_4
                 try clear hcz31_5
                 try clear hcz33_0
                 try clear hcz33_1
                 try clear hcz33_2
                 try clear hcz33_3
                 try clear hcz33_4
                 try clear hcz33_5
                 try clear hcz97_0
                 try clear hcz97_1
                 try clear hcz97_2
                 try clear hcz97_3
                 try clear hcz97_4
                 try clear hcz97_5
                 try clear hfz107_0
                 try clear hfz107_1
                 try clear hfz107_2
                 try clear hfz107_3
                 try clear hfz107_4
                 try clear hfz107_5
                 try clear hfz109_0
                 try clear hfz109_1
                 try clear hfz109_2
                 try clear hfz109_3
                 try clear hfz109_4
                 try clear hfz109_5
                 try clear hfz12_0
                 try clear hfz12_1
                 try clear hfz12_2
                 try clear hfz12_3
                 try clear hfz12_4
                 try clear hfz12_5
                 try clear hfz17_0
                 try clear hfz17_1
                 try clear hfz17_2
                 try clear hfz17_3
                 try clear hfz17_4
                 try clear hfz17_5
                 try clear hfz19_0
                 try clear hfz19_1
                 try clear hfz19_2
                 try clear hfz19_3
                 try clear hfz19_4
                 try clear hfz19_5
                 try clear hfz22_0
                 try clear hfz22_1
                 try clear hfz22_2
                 try clear hfz22_3
                 try clear hfz22_4
                 try clear hfz22_5
                 try clear hfz24_0
                 try clear hfz24_1
                 try clear hfz24_2
                 try clear hfz24_3
                 try clear hfz24_4
                 try clear hfz24_5
                 try clear hfz31_0
                 try clear hfz31_1
                 try clear hfz31_2
                 try clear hfz31_3
                 try clear hfz31_4
                 try clear hfz31_5
                 try clear hfz33_0
                 try clear hfz33_1
                 try clear hfz33_2
                 try clear hfz33_3
                 try clear hfz33_4
                 try clear hfz33_5
                 try clear hfz97_0
                 try clear hfz97_1
                 try clear hfz97_2
                 try clear hfz97_3
                 try clear hfz97_4
                 try clear hfz97_5
                 try clear hx391_0
                 try clear hx88_0
                 try clear p2
                 try clear p391
                 try clear p6
                 try clear p64
                 try clear p88
                 try clear q391
                 try clear q88
                 obtain ⟨kq, x142_91, rfl, HA, HJ91, HO_11, HO_407003, HO_407004, HO_407005, BK370, BK371, BK406, HB⟩ := hcut
                 cases kq with
                 | zero => exact absurd HA.out (by simp [raddlelaw08_MsgCuts.j5])
                 | succ kj91 =>
                  have H := HA.out
                  clear HA
                  simp only [raddlelaw08_MsgCuts.j5] at H
                  by_cases c111 : x142_91 = true
                  ·subst c111
                   have H1 : (some false) = some r := by rw [if_pos rfl] at H; exact H
                   clear H
                   have H := H1
                   clear H1
                   obtain rfl := Option.some.inj H
                   go_wp2
                   go_ret
                   exact ⟨by first | rfl | (simp [errW_none, errW_some] <;> rfl) | (simp [*, errW_none, errW_some] <;> rfl), by repeat (first | (with_reducible first | exact HB.out | apply below_alloc | apply pw_below_drewN | apply below_drew1 | refine below_set ?_ GE370.out | refine below_set ?_ GE371.out | refine below_set ?_ GE406.out) | exact HB.out)⟩
                  ·replace c111 := Bool.eq_false_iff.mpr c111
                   subst c111
                   have H1 : (if 0 ≤ (mn (wrap64 ((t374.length : Int) - 1)) (wrap64 (Int.tmod (IntKind.u64.wrap (a2)) 4))) then (if (mn (wrap64 ((t374.length : Int) - 1)) (wrap64 (Int.tmod (IntKind.u64.wrap (a2)) 4))) ≤ (t374.length : Int) then ((msg_Read.f (t374.take ((mn (wrap64 ((t374.length : Int) - 1)) (wrap64 (Int.tmod (IntKind.u64.wrap (a2)) 4))) : Int).toNat)).bind fun bt412 => (if bt412.2.2.2.2.2.2 = 2 then ((raddlelaw08_wakes.f).bind fun t425 => (some t425)) else (some false))) else (none)) else (none)) = some r := by rw [if_neg (show ¬ (false = true) by decide)] at H; exact H
                   clear H
                   have H := H1
                   clear H1
                   obtain ⟨ji112, hji112⟩ : ∃ j_ : Int, (mn (wrap64 ((t374.length : Int) - 1)) (wrap64 (Int.tmod (IntKind.u64.wrap (a2)) 4))) = j_ := ⟨_, rfl⟩
                   replace H : (if 0 ≤ (ji112) then (if (ji112) ≤ (t374.length : Int) then ((msg_Read.f (t374.take ((ji112) : Int).toNat)).bind fun bt412 => (if bt412.2.2.2.2.2.2 = 2 then ((raddlelaw08_wakes.f).bind fun t425 => (some t425)) else (some false))) else (none)) else (none)) = some r := by first | (rw [hji112] at H; exact H) | (simp only [hji112] at H ⊢; exact H)
                   have hji112_ : (if (wrap64 (Int.tmod (IntKind.u64.wrap (a2)) 4)) < (wrap64 ((t374.length : Int) - 1)) then (wrap64 (Int.tmod (IntKind.u64.wrap (a2)) 4)) else (wrap64 ((t374.length : Int) - 1))) = ji112 := hji112
                   by_cases c113 : 0 ≤ (ji112)
                   ·rw [if_pos c113] at H
                    have c113b0 := eq_true c113
                    have c113b1 : decide (0 ≤ (ji112)) = true := decide_eq_true c113
                    clear c113
                    by_cases c114 : (ji112) ≤ (t374.length : Int)
                    ·rw [if_pos c114] at H
                     have c114b0 := eq_true c114
                     have c114b1 : decide ((ji112) ≤ (t374.length : Int)) = true := decide_eq_true c114
                     clear c114
                     obtain ⟨y408, hy408⟩ : ∃ y_ : List Int, y_ = (t374.take ((ji112) : Int).toNat) := ⟨_, rfl⟩
                     replace H : ((msg_Read.f y408).bind fun bt412 => (if bt412.2.2.2.2.2.2 = 2 then ((raddlelaw08_wakes.f).bind fun t425 => (some t425)) else (some false))) = some r := by first | (rw [hy408]; with_reducible exact H) | (have H2_ := (Option.bind_some _ _).symm.trans H; rw [hy408]; with_reducible exact H2_) | (have H2_ := (Option.bind_some _ _).symm.trans H; with_reducible exact H2_) | with_reducible exact H | (rw [hy408]; exact H) | exact H
                     have Ny408 := Aside0.mk hy408
                     clear hy408
                     replace H := Option.bind_eq_some_iff.mp H
                     obtain ⟨⟨t412, t413, t414, t415, t418, t421, t424⟩, A1150, H⟩ := H
                     replace H : (if t424 = 2 then ((raddlelaw08_wakes.f).bind fun t425 => (some t425)) else (some false)) = some r := H
                     have A115 := Aside0.mk A1150
                     clear A1150
                     by_cases c116 : t424 = 2
                     ·rw [if_pos c116] at H
                      have c116b0 : (t424 == 2) = true := beq_iff_eq.mpr c116
                      have c116b1 : (t424 != 2) = false := bne_eq_false_iff_eq.mpr c116
                      clear c116
                      replace H := Option.bind_eq_some_iff.mp H
                      obtain ⟨t425, A1170, H⟩ := H
                      replace H : (some t425) = some r := H
                      have A117 := Aside0.mk A1170
                      clear A1170
                      obtain rfl := Option.some.inj H
                      have q118 : ((ji112) : Int) ≤ ((t374.length : Int) : Int) := of_decide_eq_true (by first | (with_reducible assumption) | assumption)
                      obtain ⟨i0118, hi0118, _, hsz118, _⟩ := info_parts info5
                      have hroom118 : t374.length ≤ co72 := (Kd.R_reads' HO_11.out).2.1
                      have hC118 : Kd.C (Kd.int .u8) _ Ao72 t374.length t374 := (Kd.R_reads' HO_11.out).2.2
                      have hcut118 := cut_to (P := Try.prog) 22 5 .i64 Try.underlying22 hi0118 Ao72 t374.length co72 (ji112) (of_decide_eq_true (by first | (with_reducible assumption) | assumption)) q118 hroom118
                      have hr118 := Kd.C_take (m := ((ji112) : Int).toNat) hC118 (by omega)
                      have hy118 : y408.length = ((ji112) : Int).toNat := (by rw [Ny408.out, List.length_take]; omega)
                      rw [← Ny408.out] at hr118
                      rw [← hy118] at hcut118
                      have HR411 := Aside0.mk hr118
                      have HC411 := Aside0.mk (show y408.length ≤ co72 from by omega)
                      clear hr118 hC118 hroom118 hi0118 hsz118
                      have KY118 := Aside0.mk hy118
                      clear hy118
                      have KL118 := Aside0.mk (show ((ji112) : Int).toNat ≤ t374.length from by omega)
                      replace q118 := eq_true q118
                      go_wp2_with (first | ((with_reducible refine gate_callee (f := 25) rfl ?_); refine goesL_ (some 154) rfl rfl Try.func25 (by kernel_rfl) rfl #[.slice Ao72 y408.length co72] rfl (by (try simp only [List.map_toArray, List.map_cons, List.map_nil]); first | done | rfl | (simp only [List.length_drop, List.length_take]; rfl)) ?_; (with_reducible refine (msg_Read.calls _ _ y408 t412 t413 t414 t415 t418 t421 t424 _ ?side1 ?side2 A115.out).mono ?_); (case side1 => repeat (first | exact (by repeat (first | (with_reducible exact HR411.out) | (with_reducible refine Kd.C_alloc ?_ _) | (with_reducible refine Kd.C_drewN ?_ _) | (with_reducible refine Kd.C_drew ?_) | exact HR411.out)) | (with_reducible refine Kd.C_alloc ?_ _) | (with_reducible refine Kd.C_drewN ?_ _) | (with_reducible refine Kd.C_drew ?_))); (case side2 => exact HC411.out); rintro e w119 ⟨v416, v419, v422, rfl, ho0, ho1, ho2, hb⟩; refine ⟨_, rfl, ?_⟩; have n0_ := Aside0.mk (Kd.R_below (by (with_reducible repeat (first | apply Kd.R_alloc | apply Kd.R_drewN | apply Kd.R_drew)); exact HO_11.out) hb); have n1_ := Aside0.mk (Kd.R_mono (Kd.R_told (Kd.R_told (Kd.R_old (by (with_reducible repeat (first | apply Kd.R_alloc | apply Kd.R_drewN | apply Kd.R_drew)); exact HO_407003.out) hb) (Kd.R_base ho0)) (Kd.R_base ho1)) (fun _ h_ => h_.1)); have n2_ := Aside0.mk (Kd.R_mono (Kd.R_told (Kd.R_told (Kd.R_old (by (with_reducible repeat (first | apply Kd.R_alloc | apply Kd.R_drewN | apply Kd.R_drew)); exact HO_407004.out) hb) (Kd.R_base ho0)) (Kd.R_base ho1)) (fun _ h_ => h_.1)); have n3_ := Aside0.mk (Kd.S_mono (Kd.S_told (Kd.S_told (Kd.S_told (Kd.S_old (by (with_reducible repeat (first | apply Kd.S_alloc | apply Kd.S_drewN | apply Kd.S_drew)); exact HO_407005.out) hb) (Kd.R_base ho0)) (Kd.R_base ho1)) (Kd.S_base ho2)) (fun _ h_ => h_.1)); have n4_ := Aside0.mk (Kd.R_lower (Kd.R_new' (Kd.R_new' ho0 (Kd.R_lt (by (with_reducible repeat (first | apply Kd.R_alloc | apply Kd.R_drewN | apply Kd.R_drew)); exact HO_407003.out))) (Kd.R_lt (by (with_reducible repeat (first | apply Kd.R_alloc | apply Kd.R_drewN | apply Kd.R_drew)); exact HO_407004.out))) (below_size (by repeat (first | (with_reducible first | exact HB.out | apply below_alloc | apply pw_below_drewN | apply below_drew1 | refine below_set ?_ GE370.out | refine below_set ?_ GE371.out | refine below_set ?_ GE406.out) | exact HB.out)))); have n5_ := Aside0.mk (Kd.R_lower (Kd.R_new' (Kd.R_new' ho1 (Kd.R_lt (by (with_reducible repeat (first | apply Kd.R_alloc | apply Kd.R_drewN | apply Kd.R_drew)); exact HO_407003.out))) (Kd.R_lt (by (with_reducible repeat (first | apply Kd.R_alloc | apply Kd.R_drewN | apply Kd.R_drew)); exact HO_407004.out))) (below_size (by repeat (first | (with_reducible first | exact HB.out | apply below_alloc | apply pw_below_drewN | apply below_drew1 | refine below_set ?_ GE370.out | refine below_set ?_ GE371.out | refine below_set ?_ GE406.out) | exact HB.out)))); have n6_ := Aside0.mk (Kd.S_lower (Kd.S_new' (Kd.S_new' (Kd.S_new' ho2 (Kd.R_lt (by (with_reducible repeat (first | apply Kd.R_alloc | apply Kd.R_drewN | apply Kd.R_drew)); exact HO_407003.out))) (Kd.R_lt (by (with_reducible repeat (first | apply Kd.R_alloc | apply Kd.R_drewN | apply Kd.R_drew)); exact HO_407004.out))) (Kd.S_lt (by (with_reducible repeat (first | apply Kd.S_alloc | apply Kd.S_drewN | apply Kd.S_drew)); exact HO_407005.out))) (below_size (by repeat (first | (with_reducible first | exact HB.out | apply below_alloc | apply pw_below_drewN | apply below_drew1 | refine below_set ?_ GE370.out | refine below_set ?_ GE371.out | refine below_set ?_ GE406.out) | exact HB.out)))); have n7_ := Aside0.mk (blk_below (g := gb370) (o := .cells #[.int .i64 a0_0, .int .i64 a0_1, .int .i64 a0_2, .slice A0_3 l0_3.length c0_3, .slice A0_4 l0_4.length c0_4, .slice A0_5 l0_5.length c0_5] 40 (0, 0)) (by (with_reducible repeat (first | refine blk_drewN ?_ _ | refine blk_drew ?_ | refine blk_alloc ?_ _)); exact BK370.out) hb); have n8_ := Aside0.mk (blk_below (g := gb371) (o := .cells #[.int .i64 a1_0, .int .i64 a1_1, .int .i64 a1_2, .slice A1_3 l1_3.length c1_3, .slice A1_4 l1_4.length c1_4, .slice A1_5 l1_5.length c1_5] 40 (0, 0)) (by (with_reducible repeat (first | refine blk_drewN ?_ _ | refine blk_drew ?_ | refine blk_alloc ?_ _)); exact BK371.out) hb); have n9_ := Aside0.mk (blk_below (g := gb406) (o := .cells #[.int .i64 t393, .int .i64 t394, .int .i64 t395, .slice Ao98 t396.length co98, .slice Ao99 t399.length co99, .slice Ao100 t402.length co100] 40 (0, 0)) (by (with_reducible repeat (first | refine blk_drewN ?_ _ | refine blk_drew ?_ | refine blk_alloc ?_ _)); exact BK406.out) hb); have n10_ := Aside0.mk (Kd.C_below (by repeat (first | (with_reducible exact HR411.out) | (with_reducible refine Kd.C_alloc ?_ _) | (with_reducible refine Kd.C_drewN ?_ _) | (with_reducible refine Kd.C_drew ?_) | exact HR411.out)) hb); have n11_ := Aside0.mk (below_step (by repeat (first | (with_reducible first | exact HB.out | apply below_alloc | apply pw_below_drewN | apply below_drew1 | refine below_set ?_ GE370.out | refine below_set ?_ GE371.out | refine below_set ?_ GE406.out) | exact HB.out)) hb); clear HO_11; clear HO_407003; clear HO_407004; clear HO_407005; clear BK370; clear BK371; clear BK406; clear HR411; clear HB; have HO_11 := n0_; have HO_407003 := n1_; have HO_407004 := n2_; have HO_407005 := n3_; have HO417 := n4_; have HO420 := n5_; have HO423 := n6_; have BK370 := n7_; have BK371 := n8_; have BK406 := n9_; have HR411 := n10_; have HB := n11_; clear n0_ n1_ n2_ n3_ n4_ n5_ n6_ n7_ n8_ n9_ n10_ n11_; (try clear hb); (try clear hb2); (try clear hk); (try clear hi); (try clear ho0); (try clear ho1); (try clear ho2)) | (go_at_call 23; (with_reducible refine (raddlelaw08_wakes.calls  t425 _ A117.out).mono ?_); rintro e w120 ⟨rfl, hb⟩; have n0_ := Aside0.mk (Kd.R_below (by (with_reducible repeat (first | apply Kd.R_alloc | apply Kd.R_drewN | apply Kd.R_drew)); exact HO_11.out) hb); have n1_ := Aside0.mk (Kd.R_below (by (with_reducible repeat (first | apply Kd.R_alloc | apply Kd.R_drewN | apply Kd.R_drew)); exact HO_407003.out) hb); have n2_ := Aside0.mk (Kd.R_below (by (with_reducible repeat (first | apply Kd.R_alloc | apply Kd.R_drewN | apply Kd.R_drew)); exact HO_407004.out) hb); have n3_ := Aside0.mk (Kd.S_below (by (with_reducible repeat (first | apply Kd.S_alloc | apply Kd.S_drewN | apply Kd.S_drew)); exact HO_407005.out) hb); have n4_ := Aside0.mk (Kd.R_below (by (with_reducible repeat (first | apply Kd.R_alloc | apply Kd.R_drewN | apply Kd.R_drew)); exact HO417.out) hb); have n5_ := Aside0.mk (Kd.R_below (by (with_reducible repeat (first | apply Kd.R_alloc | apply Kd.R_drewN | apply Kd.R_drew)); exact HO420.out) hb); have n6_ := Aside0.mk (Kd.S_below (by (with_reducible repeat (first | apply Kd.S_alloc | apply Kd.S_drewN | apply Kd.S_drew)); exact HO423.out) hb); have n7_ := Aside0.mk (blk_below (g := gb370) (o := .cells #[.int .i64 a0_0, .int .i64 a0_1, .int .i64 a0_2, .slice A0_3 l0_3.length c0_3, .slice A0_4 l0_4.length c0_4, .slice A0_5 l0_5.length c0_5] 40 (0, 0)) (by (with_reducible repeat (first | refine blk_drewN ?_ _ | refine blk_drew ?_ | refine blk_alloc ?_ _)); exact BK370.out) hb); have n8_ := Aside0.mk (blk_below (g := gb371) (o := .cells #[.int .i64 a1_0, .int .i64 a1_1, .int .i64 a1_2, .slice A1_3 l1_3.length c1_3, .slice A1_4 l1_4.length c1_4, .slice A1_5 l1_5.length c1_5] 40 (0, 0)) (by (with_reducible repeat (first | refine blk_drewN ?_ _ | refine blk_drew ?_ | refine blk_alloc ?_ _)); exact BK371.out) hb); have n9_ := Aside0.mk (blk_below (g := gb406) (o := .cells #[.int .i64 t393, .int .i64 t394, .int .i64 t395, .slice Ao98 t396.length co98, .slice Ao99 t399.length co99, .slice Ao100 t402.length co100] 40 (0, 0)) (by (with_reducible repeat (first | refine blk_drewN ?_ _ | refine blk_drew ?_ | refine blk_alloc ?_ _)); exact BK406.out) hb); have n10_ := Aside0.mk (Kd.C_below (by repeat (first | (with_reducible exact HR411.out) | (with_reducible refine Kd.C_alloc ?_ _) | (with_reducible refine Kd.C_drewN ?_ _) | (with_reducible refine Kd.C_drew ?_) | exact HR411.out)) hb); have n11_ := Aside0.mk (below_step (by repeat (first | (with_reducible first | exact HB.out | apply below_alloc | apply pw_below_drewN | apply below_drew1 | refine below_set ?_ GE370.out | refine below_set ?_ GE371.out | refine below_set ?_ GE406.out) | exact HB.out)) hb); clear HO_11; clear HO_407003; clear HO_407004; clear HO_407005; clear HO417; clear HO420; clear HO423; clear BK370; clear BK371; clear BK406; clear HR411; clear HB; have HO_11 := n0_; have HO_407003 := n1_; have HO_407004 := n2_; have HO_407005 := n3_; have HO417 := n4_; have HO420 := n5_; have HO423 := n6_; have BK370 := n7_; have BK371 := n8_; have BK406 := n9_; have HR411 := n10_; have HB := n11_; clear n0_ n1_ n2_ n3_ n4_ n5_ n6_ n7_ n8_ n9_ n10_ n11_; (try clear hb); (try clear hb2); (try clear hk); (try clear hi)))
                      go_ret
                      exact ⟨by first | rfl | (simp [errW_none, errW_some] <;> rfl) | (simp only [← hji112]; first | rfl | (simp [errW_none, errW_some] <;> rfl)) | (simp [*, errW_none, errW_some] <;> rfl), by repeat (first | (with_reducible first | exact HB.out | apply below_alloc | apply pw_below_drewN | apply below_drew1 | refine below_set ?_ GE370.out | refine below_set ?_ GE371.out | refine below_set ?_ GE406.out) | exact HB.out)⟩
                     ·rw [if_neg c116] at H
                      have c116b0 : (t424 == 2) = false := beq_eq_false_iff_ne.mpr c116
                      have c116b1 : (t424 != 2) = true := bne_iff_ne.mpr c116
                      obtain rfl := Option.some.inj H
                      have q121 : ((ji112) : Int) ≤ ((t374.length : Int) : Int) := of_decide_eq_true (by first | (with_reducible assumption) | assumption)
                      obtain ⟨i0121, hi0121, _, hsz121, _⟩ := info_parts info5
                      have hroom121 : t374.length ≤ co72 := (Kd.R_reads' HO_11.out).2.1
                      have hC121 : Kd.C (Kd.int .u8) _ Ao72 t374.length t374 := (Kd.R_reads' HO_11.out).2.2
                      have hcut121 := cut_to (P := Try.prog) 22 5 .i64 Try.underlying22 hi0121 Ao72 t374.length co72 (ji112) (of_decide_eq_true (by first | (with_reducible assumption) | assumption)) q121 hroom121
                      have hr121 := Kd.C_take (m := ((ji112) : Int).toNat) hC121 (by omega)
                      have hy121 : y408.length = ((ji112) : Int).toNat := (by rw [Ny408.out, List.length_take]; omega)
                      rw [← Ny408.out] at hr121
                      rw [← hy121] at hcut121
                      have HR411 := Aside0.mk hr121
                      have HC411 := Aside0.mk (show y408.length ≤ co72 from by omega)
                      clear hr121 hC121 hroom121 hi0121 hsz121
                      have KY121 := Aside0.mk hy121
                      clear hy121
                      have KL121 := Aside0.mk (show ((ji112) : Int).toNat ≤ t374.length from by omega)
                      replace q121 := eq_true q121
                      go_wp2_with (first | ((with_reducible refine gate_callee (f := 25) rfl ?_); refine goesL_ (some 154) rfl rfl Try.func25 (by kernel_rfl) rfl #[.slice Ao72 y408.length co72] rfl (by (try simp only [List.map_toArray, List.map_cons, List.map_nil]); first | done | rfl | (simp only [List.length_drop, List.length_take]; rfl)) ?_; (with_reducible refine (msg_Read.calls _ _ y408 t412 t413 t414 t415 t418 t421 t424 _ ?side1 ?side2 A115.out).mono ?_); (case side1 => repeat (first | exact (by repeat (first | (with_reducible exact HR411.out) | (with_reducible refine Kd.C_alloc ?_ _) | (with_reducible refine Kd.C_drewN ?_ _) | (with_reducible refine Kd.C_drew ?_) | exact HR411.out)) | (with_reducible refine Kd.C_alloc ?_ _) | (with_reducible refine Kd.C_drewN ?_ _) | (with_reducible refine Kd.C_drew ?_))); (case side2 => exact HC411.out); rintro e w122 ⟨v416, v419, v422, rfl, ho0, ho1, ho2, hb⟩; refine ⟨_, rfl, ?_⟩; have n0_ := Aside0.mk (Kd.R_below (by (with_reducible repeat (first | apply Kd.R_alloc | apply Kd.R_drewN | apply Kd.R_drew)); exact HO_11.out) hb); have n1_ := Aside0.mk (Kd.R_mono (Kd.R_told (Kd.R_told (Kd.R_old (by (with_reducible repeat (first | apply Kd.R_alloc | apply Kd.R_drewN | apply Kd.R_drew)); exact HO_407003.out) hb) (Kd.R_base ho0)) (Kd.R_base ho1)) (fun _ h_ => h_.1)); have n2_ := Aside0.mk (Kd.R_mono (Kd.R_told (Kd.R_told (Kd.R_old (by (with_reducible repeat (first | apply Kd.R_alloc | apply Kd.R_drewN | apply Kd.R_drew)); exact HO_407004.out) hb) (Kd.R_base ho0)) (Kd.R_base ho1)) (fun _ h_ => h_.1)); have n3_ := Aside0.mk (Kd.S_mono (Kd.S_told (Kd.S_told (Kd.S_told (Kd.S_old (by (with_reducible repeat (first | apply Kd.S_alloc | apply Kd.S_drewN | apply Kd.S_drew)); exact HO_407005.out) hb) (Kd.R_base ho0)) (Kd.R_base ho1)) (Kd.S_base ho2)) (fun _ h_ => h_.1)); have n4_ := Aside0.mk (Kd.R_lower (Kd.R_new' (Kd.R_new' ho0 (Kd.R_lt (by (with_reducible repeat (first | apply Kd.R_alloc | apply Kd.R_drewN | apply Kd.R_drew)); exact HO_407003.out))) (Kd.R_lt (by (with_reducible repeat (first | apply Kd.R_alloc | apply Kd.R_drewN | apply Kd.R_drew)); exact HO_407004.out))) (below_size (by repeat (first | (with_reducible first | exact HB.out | apply below_alloc | apply pw_below_drewN | apply below_drew1 | refine below_set ?_ GE370.out | refine below_set ?_ GE371.out | refine below_set ?_ GE406.out) | exact HB.out)))); have n5_ := Aside0.mk (Kd.R_lower (Kd.R_new' (Kd.R_new' ho1 (Kd.R_lt (by (with_reducible repeat (first | apply Kd.R_alloc | apply Kd.R_drewN | apply Kd.R_drew)); exact HO_407003.out))) (Kd.R_lt (by (with_reducible repeat (first | apply Kd.R_alloc | apply Kd.R_drewN | apply Kd.R_drew)); exact HO_407004.out))) (below_size (by repeat (first | (with_reducible first | exact HB.out | apply below_alloc | apply pw_below_drewN | apply below_drew1 | refine below_set ?_ GE370.out | refine below_set ?_ GE371.out | refine below_set ?_ GE406.out) | exact HB.out)))); have n6_ := Aside0.mk (Kd.S_lower (Kd.S_new' (Kd.S_new' (Kd.S_new' ho2 (Kd.R_lt (by (with_reducible repeat (first | apply Kd.R_alloc | apply Kd.R_drewN | apply Kd.R_drew)); exact HO_407003.out))) (Kd.R_lt (by (with_reducible repeat (first | apply Kd.R_alloc | apply Kd.R_drewN | apply Kd.R_drew)); exact HO_407004.out))) (Kd.S_lt (by (with_reducible repeat (first | apply Kd.S_alloc | apply Kd.S_drewN | apply Kd.S_drew)); exact HO_407005.out))) (below_size (by repeat (first | (with_reducible first | exact HB.out | apply below_alloc | apply pw_below_drewN | apply below_drew1 | refine below_set ?_ GE370.out | refine below_set ?_ GE371.out | refine below_set ?_ GE406.out) | exact HB.out)))); have n7_ := Aside0.mk (blk_below (g := gb370) (o := .cells #[.int .i64 a0_0, .int .i64 a0_1, .int .i64 a0_2, .slice A0_3 l0_3.length c0_3, .slice A0_4 l0_4.length c0_4, .slice A0_5 l0_5.length c0_5] 40 (0, 0)) (by (with_reducible repeat (first | refine blk_drewN ?_ _ | refine blk_drew ?_ | refine blk_alloc ?_ _)); exact BK370.out) hb); have n8_ := Aside0.mk (blk_below (g := gb371) (o := .cells #[.int .i64 a1_0, .int .i64 a1_1, .int .i64 a1_2, .slice A1_3 l1_3.length c1_3, .slice A1_4 l1_4.length c1_4, .slice A1_5 l1_5.length c1_5] 40 (0, 0)) (by (with_reducible repeat (first | refine blk_drewN ?_ _ | refine blk_drew ?_ | refine blk_alloc ?_ _)); exact BK371.out) hb); have n9_ := Aside0.mk (blk_below (g := gb406) (o := .cells #[.int .i64 t393, .int .i64 t394, .int .i64 t395, .slice Ao98 t396.length co98, .slice Ao99 t399.length co99, .slice Ao100 t402.length co100] 40 (0, 0)) (by (with_reducible repeat (first | refine blk_drewN ?_ _ | refine blk_drew ?_ | refine blk_alloc ?_ _)); exact BK406.out) hb); have n10_ := Aside0.mk (Kd.C_below (by repeat (first | (with_reducible exact HR411.out) | (with_reducible refine Kd.C_alloc ?_ _) | (with_reducible refine Kd.C_drewN ?_ _) | (with_reducible refine Kd.C_drew ?_) | exact HR411.out)) hb); have n11_ := Aside0.mk (below_step (by repeat (first | (with_reducible first | exact HB.out | apply below_alloc | apply pw_below_drewN | apply below_drew1 | refine below_set ?_ GE370.out | refine below_set ?_ GE371.out | refine below_set ?_ GE406.out) | exact HB.out)) hb); clear HO_11; clear HO_407003; clear HO_407004; clear HO_407005; clear BK370; clear BK371; clear BK406; clear HR411; clear HB; have HO_11 := n0_; have HO_407003 := n1_; have HO_407004 := n2_; have HO_407005 := n3_; have HO417 := n4_; have HO420 := n5_; have HO423 := n6_; have BK370 := n7_; have BK371 := n8_; have BK406 := n9_; have HR411 := n10_; have HB := n11_; clear n0_ n1_ n2_ n3_ n4_ n5_ n6_ n7_ n8_ n9_ n10_ n11_; (try clear hb); (try clear hb2); (try clear hk); (try clear hi); (try clear ho0); (try clear ho1); (try clear ho2)))
                      go_ret
                      exact ⟨by first | rfl | (simp [errW_none, errW_some] <;> rfl) | (simp only [← hji112]; first | rfl | (simp [errW_none, errW_some] <;> rfl)) | (simp [*, errW_none, errW_some] <;> rfl), by repeat (first | (with_reducible first | exact HB.out | apply below_alloc | apply pw_below_drewN | apply below_drew1 | refine below_set ?_ GE370.out | refine below_set ?_ GE371.out | refine below_set ?_ GE406.out) | exact HB.out)⟩
                    ·rw [if_neg c114] at H
                     exact absurd H (by simp)
                   ·rw [if_neg c113] at H
                    exact absurd H (by simp)

end Go.Proofs.Ytnbjflcfdncocaa.M

/- For every two messages, every place and every word: bytes that are cut short or turned about are none; unlike messages have unlike bytes (MsgCuts answers true); on no condition. -/
namespace Go.Proofs.Ytnbjflcfdncocaa.M
open Go.RowKit Go.Proofs.YtnbjflcfdncocaaW.PrintWords Go.Proofs.YtnbjflcfdncocaaW.PrintLast Go.Proofs.YtnbjflcfdncocaaW.PrintMore

theorem bytes_app {a b : List Int} (ha : Bytes_ a) (hb : Bytes_ b) : Bytes_ (a ++ b) := fun c hc => (List.mem_append.1 hc).elim (ha c) (hb c)
theorem bytes_nil : Bytes_ [] := fun c hc => by simp at hc
theorem byte_mod (n : Int) : Byte (n % 256) := by unfold Byte; omega
theorem bytes_cons {c : Int} {l : List Int} (hc : Byte c) (hl : Bytes_ l) : Bytes_ (c :: l) := fun x hx => (List.mem_cons.1 hx).elim (fun e => e ▸ hc) (hl x)
theorem Eb_num (s : Nat) (n : Int) : Bytes_ (E (wnum s n)) := by
  show Bytes_ ([] ++ (putL s n).1)
  rw [List.nil_append]; exact putL_bytes s n
theorem Eb_text (t : ByteArray) : Bytes_ (E (wtext t)) := by
  show Bytes_ ([] ++ (putT t).1)
  rw [List.nil_append]; exact putT_bytes t
theorem Eb_comp {w v : Ws → Ws} (hw : Adds w) (hv : Bytes_ (E v)) (he : Bytes_ (E w)) : Bytes_ (E (fun st => w (v st))) := by
  rw [E_comp hw]; exact bytes_app hv he
theorem Eb_dot (a b : Int) : Bytes_ (E (wdot a b)) := Eb_comp (w := wnum 4 b) (v := wnum 1 a) (Adds.num 4 b) (Eb_num 1 a) (Eb_num 4 b)
theorem Eb_stamp (a b c : Int) : Bytes_ (E (wstamp a b c)) := Eb_comp (w := wnum 1 c) (v := fun st => wnum 3 b (wnum 6 a st)) (Adds.num 1 c) (Eb_comp (w := wnum 3 b) (v := wnum 6 a) (Adds.num 3 b) (Eb_num 6 a) (Eb_num 3 b)) (Eb_num 1 c)
theorem Eb_ints : ∀ l : List Int, Bytes_ (E (wints l))
  | [] => bytes_nil
  | n :: l => Eb_comp (w := wints l) (v := wnum 4 n) (Adds.ints l) (Eb_num 4 n) (Eb_ints l)
theorem Eb_nums (l : List Int) : Bytes_ (E (wnums l)) := by rw [E_nums]; exact bytes_app (Eb_num 1 _) (Eb_ints l)
theorem Eb_dots : ∀ l : List Dt, Bytes_ (E (wdots l))
  | [] => bytes_nil
  | d :: l => Eb_comp (w := wdots l) (v := wdot d.f0 d.f1) (Adds.dots l) (Eb_dot _ _) (Eb_dots l)
theorem int_bytes (n : Int) : Bytes_ (intL n) := by
  unfold intL
  split
  · exact bytes_cons ⟨by omega, by omega⟩ (be_bytes _ 8)
  · exact bytes_cons ⟨by omega, by omega⟩ (be_bytes _ 8)
theorem val_bytes (v : Val) : Bytes_ (valL v) := by
  unfold valL
  refine bytes_cons (byte_mod _) ?_
  split
  · exact bytes_cons (byte_mod _) bytes_nil
  · split
    · exact int_bytes _
    · split
      · exact bytes_cons (byte_mod _) (bytesOf_bytes _)
      · exact bytes_nil
theorem vals_bytes : ∀ l : List Val, Bytes_ (valsL l)
  | [] => bytes_nil
  | v :: l => by
    have e : valsL (v :: l) = valL v ++ valsL l := by simp [valsL]
    rw [e]; exact bytes_app (val_bytes v) (vals_bytes l)
theorem Eb_row (l : List Val) : Bytes_ (E (wrow l)) := by
  show Bytes_ ([] ++ (rowB l).1)
  rw [List.nil_append]
  unfold rowB
  split
  · exact bytes_nil
  · split
    · exact bytes_cons (byte_mod _) (vals_bytes l)
    · exact bytes_nil
theorem Eb_op (x : Opr) : Bytes_ (E (wop x)) := by
  rw [E_op]
  exact bytes_app (Eb_num _ _) (bytes_app (Eb_dot _ _) (bytes_app (Eb_nums _) (bytes_app (Eb_stamp _ _ _) (bytes_app (Eb_num _ _) (bytes_app (Eb_text _) (bytes_app (Eb_num _ _) (bytes_app (Eb_row _) (bytes_app (Eb_num _ _) (Eb_dots _)))))))))
theorem Eb_ops : ∀ l : List Opr, Bytes_ (E (wops l))
  | [] => bytes_nil
  | x :: l => Eb_comp (w := wops l) (v := wop x) (Adds.ops l) (Eb_op x) (Eb_ops l)
theorem Eb_msg (a b c : Int) (h s : List Int) (l : List Opr) : Bytes_ (E (wmsg a b c h s l)) := by
  rw [E_msg]
  exact bytes_app (Eb_num _ _) (bytes_app (Eb_num _ _) (bytes_app (Eb_num _ _) (bytes_app (Eb_nums _) (bytes_app (Eb_nums _) (bytes_app (Eb_num _ _) (Eb_ops l))))))
theorem read_tells (l : List Int) (hb : Bytes_ l) (hl : l.length < 1000000) : msg_Read.f l = some ((readB l).1.1, (readB l).1.2.1, (readB l).1.2.2.1, (readB l).1.2.2.2.1, (readB l).1.2.2.2.2.1, (readB l).1.2.2.2.2.2, (readB l).2) := by
  unfold msg_Read.f
  rw [if_pos ⟨hb, hl⟩]
theorem read_short (l : List Int) (hl : l.length < 4) : (readB l).2 = 2 := by
  have e : openL l = ([], 2) := by unfold openL; rw [if_pos (.inl hl)]
  unfold readB
  rw [e, if_neg (by decide)]
theorem cuts_j5 (a2 : Int) (B : List Int) (hb : Bytes_ B) (h4 : 4 ≤ B.length) (hm : B.length ≤ 65536) (k : Nat) : raddlelaw08_MsgCuts.j5 (k + 1) a2 B false = some true := by
  simp only [raddlelaw08_MsgCuts.j5]
  obtain ⟨t, ht⟩ : ∃ t, t = wrap64 (Int.tmod (IntKind.u64.wrap a2) 4) := ⟨_, rfl⟩
  have hu : 0 ≤ IntKind.u64.wrap a2 := by
    simp [IntKind.wrap, IntKind.bits, IntKind.signed]; omega
  have h0 : 0 ≤ t ∧ t ≤ 3 := by
    rw [ht, Int.tmod_eq_emod_of_nonneg hu]
    have h1 := Int.emod_nonneg (IntKind.u64.wrap a2) (b := 4) (by omega)
    have h2 := Int.emod_lt_of_pos (IntKind.u64.wrap a2) (b := 4) (by omega)
    rw [wrap_in _ (by omega) (by omega)]; omega
  rw [← ht, wrap_in ((B.length : Int) - 1) (by omega) (by omega)]
  obtain ⟨m, hmn⟩ : ∃ m, m = mn ((B.length : Int) - 1) t := ⟨_, rfl⟩
  have hm2 : 0 ≤ m ∧ m ≤ 3 := by rw [hmn]; unfold mn; split <;> omega
  rw [← hmn, if_neg (by decide), if_pos hm2.1, if_pos (by omega)]
  have hl : (B.take m.toNat).length < 4 := by rw [List.length_take]; omega
  rw [read_tells _ (Bytes_take hb _) (by omega), Option.bind_some, read_short _ hl, if_pos rfl]
  rfl
theorem cuts_end (a b c : Int) (h s : List Int) (l : List Opr) (h1 : h.length ≤ 30) (h2 : s.length ≤ 30) (h3 : l.length ≤ 300) (h4 : ∀ x ∈ l, light x) (B x15 : List Int) (hB : Bytes_ B) (h5 : 4 ≤ B.length) (hm : B.length ≤ 65536) (hx : Bytes_ x15) (hl : x15.length = B.length)
    (hr : readB B = ((a, b, c, h, s, l), 0)) (t : Bool) (h0 : t = false → x15 = B) (h9 : t = true → (readB x15).2 = 4) (k : Nat) (hk : 2000 < k) (a2 x3 x4 x17 : Int) :
    raddlelaw08_MsgCuts.j4 k a2 x3 x4 B x15 t x17 false a b c h s l = some true := by
  obtain ⟨k, rfl⟩ : ∃ m, k = m + 2 := ⟨k - 2, by omega⟩
  simp only [raddlelaw08_MsgCuts.j4]
  rw [if_neg (by decide), read_tells _ hx (by omega), Option.bind_some]
  cases t
  · obtain rfl := h0 rfl
    rw [hr]
    obtain ⟨r, e1, e2⟩ := Msg_eq a b c h s l a b c h s l 300 (by omega) (by omega) (by omega) h3 (fun x hx => ⟨by have := (h4 x hx).1; omega, by have := (h4 x hx).2.2.1; omega, by have := (h4 x hx).2.2.2; omega⟩) (k + 1) (by omega)
    obtain rfl : r = true := e2.2 rfl
    rw [if_neg (show ¬ ((false != ((0 : Int) == 4)) = true) from by decide), if_neg (by decide), if_pos rfl, e1, Option.bind_some]
    exact cuts_j5 a2 x15 hB h5 hm k
  · rw [h9 rfl, if_neg (by decide), if_pos rfl]
    exact cuts_j5 a2 B hB h5 hm k
theorem cuts_loop (a b c : Int) (h s : List Int) (l : List Opr) (B : List Int) (p n : Nat) (a2 x4 : Int) (hn : n ≤ 600000) (_hp : p < n)
    (hend : ∀ (k : Nat) (x15 : List Int) (t : Bool) (x17 : Int), 2000 < k → x15.length = B.length → (t, x15) = (turned p n (has x4) 32 0, flips p n (has x4) 32 0 B) → raddlelaw08_MsgCuts.j4 k a2 (p : Int) x4 B x15 t x17 false a b c h s l = some true) (hB : 8 * B.length = n) :
    ∀ (d i k : Nat) (x15 : List Int) (t : Bool), i + d = 32 → x15.length = B.length → (t || turned p n (has x4) d i, flips p n (has x4) d i x15) = (turned p n (has x4) 32 0, flips p n (has x4) 32 0 B) → 2 * d + 2002 < k →
      raddlelaw08_MsgCuts.l0 k a2 (p : Int) x4 B x15 t (i : Int) a b c h s l = some true := by
  intro d
  induction d with
  | zero =>
    intro k i x15 t hi hl he hk
    obtain ⟨i, rfl⟩ : ∃ m, i = m + 1 := ⟨i - 1, by omega⟩
    simp only [raddlelaw08_MsgCuts.l0]
    rw [if_neg (by omega)]
    exact hend i x15 t _ (by omega) hl (by simpa only [turned, flips, Bool.or_false] using he)
  | succ d ih =>
    intro i k x15 t hi hl he hk
    obtain ⟨k, rfl⟩ : ∃ m, k = m + 2 := ⟨k - 2, by omega⟩
    simp only [raddlelaw08_MsgCuts.l0]
    rw [if_pos (by omega), wrap_in ((p : Int) + i) (by omega) (by omega), hl, wrap_in (8 * (B.length : Int)) (by omega) (by omega)]
    by_cases hlt : p + i < n
    · rw [show decide ((p : Int) + i < 8 * (B.length : Int)) = true from decide_eq_true (by omega)]
      simp only [raddlelaw08_MsgCuts.j4]
      rw [if_pos trivial, wrap_u64 (i : Int) (by omega) (by omega), if_pos (by omega), wrap_in ((p : Int) + i) (by omega) (by omega), wrap_in ((i : Int) + 1) (by omega) (by omega)]
      rw [show (p : Int) + i = ((p + i : Nat) : Int) from by omega, tdiv8, tmod8, wrap_in (((p + i) / 8 : Nat) : Int) (by omega) (by omega), wrap_u64 (((p + i) % 8 : Nat) : Int) (by omega) (by omega), show (i : Int) + 1 = ((i + 1 : Nat) : Int) from by omega]
      rw [if_pos (show (0 : Int) ≤ (((p + i) / 8 : Nat) : Int) by omega), if_pos (show (((p + i) / 8 : Nat) : Int) < (x15.length : Int) by omega), if_pos (show (0 : Int) ≤ (((p + i) % 8 : Nat) : Int) by omega)]
      have e : flips p n (has x4) (d + 1) i x15 = flips p n (has x4) d (i + 1) (if has x4 i then flipAt x15 (p + i) else x15) := by
        simp only [flips]; rw [if_pos hlt]
      have e2 : turned p n (has x4) (d + 1) i = (has x4 i || turned p n (has x4) d (i + 1)) := by
        simp only [turned]; rw [if_pos hlt]
      rw [e, e2] at he
      by_cases hb : bits .and .u32 (shr .u32 x4 (i : Int)) 1 = 1
      · rw [if_pos hb]
        rw [show has x4 i = true from decide_eq_true hb, if_pos rfl] at he
        refine ih (i + 1) k (flipAt x15 (p + i)) true (by omega) (by rw [flipAt_length]; exact hl) ?_ (by omega)
        simpa only [Bool.true_or, Bool.or_true] using he
      · rw [if_neg hb]
        rw [show has x4 i = false from decide_eq_false hb, if_neg (by decide), Bool.false_or] at he
        exact ih (i + 1) k x15 t (by omega) hl he (by omega)
    · rw [show decide ((p : Int) + i < 8 * (B.length : Int)) = false from decide_eq_false (by omega)]
      have e : flips p n (has x4) (d + 1) i x15 = x15 := by
        simp only [flips]; rw [if_neg hlt]
      have e2 : turned p n (has x4) (d + 1) i = false := by
        simp only [turned]; rw [if_neg hlt]
      rw [e, e2, Bool.or_false] at he
      exact hend (k + 1) x15 t _ (by omega) hl he
theorem MsgCuts_pure (a b c : Int) (h s : List Int) (l : List Opr) (a' b' c' : Int) (h' s' : List Int) (l' : List Opr) (a2 a3 a4 : Int) (_w2 : (Lit.int .i64 a2).wf = true) (_w3 : (Lit.int .i64 a3).wf = true) (_w4 : (Lit.int .u32 a4).wf = true) : ∃ k, raddlelaw08_MsgCuts.f k a b c h s l a' b' c' h' s' l' a2 a3 a4 = some true := by
  obtain ⟨k, hk⟩ : ∃ k : Nat, 100000 < k := ⟨_, Nat.lt_succ_self _⟩
  refine ⟨k + 4, ?_⟩
  unfold raddlelaw08_MsgCuts.f
  rcases heavy8_tells a b c h s l (k + 4) (by omega) with hv | ⟨hv, h1, h2, h3, h4⟩
  · rw [hv, Option.bind_some, if_pos rfl]
    simp only [raddlelaw08_MsgCuts.j0]
    rw [if_pos trivial]
  rw [hv, Option.bind_some, if_neg (by decide)]
  rcases heavy8_tells a' b' c' h' s' l' (k + 4) (by omega) with hv' | ⟨hv', h1', h2', h3', h4'⟩
  · rw [hv', Option.bind_some, if_pos rfl]
    simp only [raddlelaw08_MsgCuts.j0]
    rw [if_pos trivial]
  rw [hv', Option.bind_some, if_neg (by decide)]
  simp only [raddlelaw08_MsgCuts.j0]
  by_cases hz : (a4 == 0) = true
  · rw [if_pos hz]
  rw [if_neg hz, msgBytes_tells a b c h s l h1 h2 h3 h4, Option.bind_some, msgBytes_tells a' b' c' h' s' l' h1' h2' h3' h4', Option.bind_some]
  -- no bytes: the answer is the law's own
  have none1 : ∀ (x11 : List Int) (x12 : Int) (x13 : List Int) (x14 : Int), (x12 = 0 ∨ x11 = []) → (x14 = 0 ∨ x13 = []) → raddlelaw08_MsgCuts.j1 (k + 3) a2 a3 a4 x11 x12 x13 x14 true a b c h s l a' b' c' h' s' l' = some true := by
    intro x11 x12 x13 x14 g1 g2
    simp only [raddlelaw08_MsgCuts.j1]
    rw [if_pos trivial]
    by_cases g3 : x12 = 0
    · rw [if_pos g3]
      by_cases g4 : x14 = 0
      · rw [if_pos g4]; rfl
      · rw [if_neg g4, if_pos (by rw [g2.resolve_left g4]; rfl)]; rfl
    · rw [if_neg g3, if_pos (by rw [g1.resolve_left g3]; rfl)]
      by_cases g4 : x14 = 0
      · rw [if_pos g4]; rfl
      · rw [if_neg g4, if_pos (by rw [g2.resolve_left g4]; rfl)]; rfl
  have side : ∀ (a b c : Int) (h s : List Int) (l : List Opr), ((msgB a b c h s l).2 = 0 ∨ (msgB a b c h s l).1 = []) := by
    intro a b c h s l
    rcases msgB_cases a b c h s l with ⟨_, e⟩ | ⟨_, _, e⟩ | ⟨_, _, e⟩ <;> rw [e] <;> simp
  by_cases he : (msgB a b c h s l).2 = 0
  case neg =>
    rw [if_neg he]
    exact none1 _ _ _ _ (side a b c h s l) (side a' b' c' h' s' l')
  rw [if_pos he]
  by_cases he' : (msgB a' b' c' h' s' l').2 = 0
  case neg =>
    rw [bne_iff_ne.2 he']
    exact none1 _ _ _ _ (side a b c h s l) (side a' b' c' h' s' l')
  rw [show ((msgB a' b' c' h' s' l').2 != 0) = false from bne_eq_false_iff_eq.2 he']
  -- both have bytes
  have hr := readB_msgB a b c h s l he
  have hr' := readB_msgB a' b' c' h' s' l' he'
  obtain ⟨hbad, hlen, hB⟩ : Bd (wmsg a b c h s l) = false ∧ (E (wmsg a b c h s l)).length ≤ 65532 ∧ msgB a b c h s l = (sealL (E (wmsg a b c h s l)), 0) := by
    rcases msgB_cases a b c h s l with ⟨_, e⟩ | ⟨_, _, e⟩ | e
    · rw [e] at he; exact absurd he (by decide)
    · rw [e] at he; exact absurd he (by decide)
    · exact e
  have hE := Eb_msg a b c h s l
  obtain ⟨L, hL⟩ : ∃ L, L = E (wmsg a b c h s l) := ⟨_, rfl⟩
  rw [← hL] at hlen hB hE
  rw [hB] at hr ⊢
  obtain ⟨B', hB'⟩ : ∃ B', B' = (msgB a' b' c' h' s' l').1 := ⟨_, rfl⟩
  rw [← hB'] at hr' ⊢
  have hsl := sealL_length L
  simp only [raddlelaw08_MsgCuts.j1]
  rw [if_neg (by decide), if_neg (by omega), Bytes_eq (sealL L) B' (by omega) _ (by omega), Option.bind_some]
  obtain ⟨r, e1, e2⟩ := Msg_eq a b c h s l a' b' c' h' s' l' 300 (by omega) (by omega) (by omega) h3 (fun x hx => ⟨by have := (h4 x hx).1; omega, by have := (h4 x hx).2.2.1; omega, by have := (h4 x hx).2.2.2; omega⟩) (k + 2) (by omega)
  have hq : (decide (sealL L = B') != r) = false := by
    rw [bne_eq_false_iff_eq, Bool.eq_iff_iff, decide_eq_true_eq, e2]
    constructor
    · intro q
      rw [← q, hr] at hr'
      exact congrArg Prod.fst hr'
    · intro q
      simp only [Prod.mk.injEq] at q
      obtain ⟨rfl, rfl, rfl, rfl, rfl, rfl⟩ := q
      rw [hB', hB]
  rw [e1, Option.bind_some, hq]
  simp only [raddlelaw08_MsgCuts.j2]
  rw [if_neg (by decide), Twin_eq _ (by omega), Option.bind_some]
  obtain ⟨p, hp, ep⟩ := place a3 (sealL L).length (by omega) (by omega)
  rw [ep, wrap_in (8 * ((sealL L).length : Int)) (by omega) (by omega), wrap_u64 (8 * ((sealL L).length : Int)) (by omega) (by omega), if_neg (by omega)]
  have hsb := sealL_bytes hE
  obtain ⟨fl, fb, _, fd, _⟩ := flips_facts p (8 * (sealL L).length) (has a4) 32 0 (sealL L) hsb rfl
  refine cuts_loop a b c h s l (sealL L) p (8 * (sealL L).length) a2 a4 (by omega) hp ?_ rfl 32 0 (k + 1) (sealL L) false (by omega) rfl (by rw [Bool.false_or]) (by omega)
  intro k' x15 t x17 hk' hl15 heq
  simp only [Prod.mk.injEq] at heq
  obtain ⟨ht, hx⟩ := heq
  refine cuts_end a b c h s l h1 h2 h3 h4 (sealL L) x15 hsb (by omega) (by omega) (by rw [hx]; exact fb) hl15 hr t ?_ ?_ k' hk' a2 _ a4 x17
  · intro h0
    rw [hx]; exact fd (by rw [← ht]; exact h0)
  · intro h0
    have hne := seal_flips hE p (has a4) (by rw [← ht]; exact h0) (m := x15.take (x15.length - 4)) (Bytes_take (by rw [hx]; exact fb) _)
    rw [← hx] at hne
    have eo : openL x15 = ([], 4) := by
      unfold openL
      rw [if_neg (by omega), if_neg hne]
    unfold readB
    rw [eo, if_neg (by decide)]
end Go.Proofs.Ytnbjflcfdncocaa.M

/- What is handed in of the messages' types is of the print's kinds. -/
namespace Go.Proofs.Ytnbjflcfdncocaa.M
open Go.RowKit Go.ChangeShapes Go.WideShapes Go.Proofs.YtnbjflcfdncocaaW.PrintWords Go.Proofs.YtnbjflcfdncocaaW.PrintLast Go.Proofs.YtnbjflcfdncocaaW.PrintMore
/-- What reads as of type t is of the kind d. -/
def Opens {α : Type} (t : TypeId) (d : Kd α) : Prop := Try.prog.cellsOf t = d.sz ∧ ∀ {H : Type} (enc : TypeId × Value → H) (w : World) (base : Nat) (sp : Nat → Bool) (held : Bool) (fuel : Nat) (cs : List Value) (x : DataW H × List MemPlace), DataW.trod enc Try.prog w base sp held fuel t cs = some x → ∃ a, d.K w a cs
theorem opens_int {t : TypeId} {k : IntKind} (ht : Try.prog.underlying t = some (.int k)) (hc : Try.prog.cellsOf t = 1) : Opens t (Kd.int k) := by
  refine ⟨hc, fun enc w base sp held fuel cs x h => ?_⟩
  cases fuel with
  | zero => simp [DataW.trod] at h
  | succ fuel =>
    simp only [DataW.trod, ht] at h
    split at h <;> simp_all
    exact ⟨_, rfl⟩
theorem opens_string {t : TypeId} (ht : Try.prog.underlying t = some .string) (hc : Try.prog.cellsOf t = 1) : Opens t Kd.string := by
  refine ⟨hc, fun enc w base sp held fuel cs x h => ?_⟩
  cases fuel with
  | zero => simp [DataW.trod] at h
  | succ fuel =>
    simp only [DataW.trod, ht] at h
    split at h <;> simp_all
    exact ⟨_, rfl⟩
theorem opens_slice {α : Type} {t e : TypeId} {d : Kd α} (z : α) (ht : Try.prog.underlying t = some (.slice e)) (hc : Try.prog.cellsOf t = 1) (he : Opens e d) : Opens t (Kd.slice e d) := by
  refine ⟨hc, fun enc w base sp held fuel cs x h => ?_⟩
  rcases Go.Deep.open_slice ht h with ⟨rfl, _⟩ | ⟨a, len, cap, m, n, D, Pl, rfl, hb, hl, hm, hmm, _, hx⟩
  · exact ⟨[], none, 0, rfl, Nat.le_refl _, Kd.C_nil _ _⟩
  · have hlm : len ≤ m := by rw [hmm]; split <;> omega
    letI : Inhabited α := ⟨z⟩
    obtain ⟨f, hf⟩ := Go.Deep.choose_lt (α := α) (n := len) (p := fun i y => ∃ cs', w.cells? base (a.add (i * Try.prog.cellsOf e)) (Try.prog.cellsOf e) = some cs' ∧ d.K w y cs') (fun i hi => by
      obtain ⟨cs', h1, h2⟩ := hx i (by omega)
      obtain ⟨y, hy⟩ := he.2 _ _ _ _ _ _ _ _ h2
      exact ⟨y, cs', h1, hy⟩)
    have hlen : ((List.range len).map f).length = len := by simp
    refine ⟨(List.range len).map f, some a, cap, by rw [hlen], by rw [hlen]; exact hl, ?_⟩
    rw [hlen]
    refine ⟨hlen, by have : maxLen ≤ 9223372036854775807 := by decide
                     omega, fun _ => ⟨a, rfl, fun j p hj => ?_⟩⟩
    obtain ⟨hj1, hj2⟩ := List.getElem?_eq_some_iff.1 hj
    rw [hlen] at hj1
    simp only [List.getElem_map, List.getElem_range] at hj2
    obtain ⟨cs', h1, h2⟩ := hf j hj1
    rw [hj2] at h2
    obtain ⟨_, g2, g3⟩ := World.cells?_some h1
    refine ⟨cs', d.K_len h2, h2, fun i u hu => ?_⟩
    obtain ⟨hi, _⟩ := List.getElem?_eq_some_iff.1 hu
    have g4 := g3 i (by omega)
    rw [Go.Deep.add_add, he.1, hu] at g4
    exact g4
/-- Fields in line, from a place on, up to n. -/
def OpensF {α : Type} (fs : List Field) (o n : Nat) (d : Kd α) : Prop := o + d.sz = n ∧ ∀ {H : Type} (enc : TypeId × Value → H) (w : World) (base : Nat) (sp : Nat → Bool) (held : Bool) (fuel : Nat) (cs : List Value) (xs : List (DataW H × List MemPlace)), cs.length = n →
  fs.mapM (fun f => DataW.trod enc Try.prog w base sp held fuel f.type ((cs.drop f.offset).take (Try.prog.cellsOf f.type))) = some xs → ∃ a, d.K w a (cs.drop o)
theorem opensF_one {α : Type} {f : Field} {o n : Nat} {d : Kd α} (ho : f.offset = o) (hd : Opens f.type d) (hn : o + d.sz = n) : OpensF [f] o n d := by
  refine ⟨hn, fun enc w base sp held fuel cs xs hl h => ?_⟩
  rw [List.mapM_cons] at h
  obtain ⟨x, hx, _⟩ := Option.bind_eq_some_iff.1 h
  obtain ⟨a, ha⟩ := hd.2 _ _ _ _ _ _ _ _ hx
  rw [ho, hd.1, List.take_of_length_le (by simp; omega)] at ha
  exact ⟨a, ha⟩
theorem opensF_cons {α β : Type} {f : Field} {fs : List Field} {o n : Nat} {d : Kd α} {e : Kd β} (ho : f.offset = o) (hd : Opens f.type d) (he : OpensF fs (o + d.sz) n e) : OpensF (f :: fs) o n (Kd.pair d e) := by
  refine ⟨by have := he.1; show o + (d.sz + e.sz) = n; omega, fun enc w base sp held fuel cs xs hl h => ?_⟩
  rw [List.mapM_cons] at h
  obtain ⟨x, hx, h2⟩ := Option.bind_eq_some_iff.1 h
  obtain ⟨y, hy, _⟩ := Option.bind_eq_some_iff.1 h2
  obtain ⟨a, ha⟩ := hd.2 _ _ _ _ _ _ _ _ hx
  obtain ⟨b, hb⟩ := he.2 _ _ _ _ _ _ _ _ hl hy
  rw [ho, hd.1] at ha
  refine ⟨(a, b), _, _, ?_, ha, hb⟩
  rw [← List.drop_drop, List.take_append_drop]
theorem opens_struct {α β : Type} {t : TypeId} {fs : Array Field} {d : Kd α} {g : β → α} (ht : Try.prog.underlying t = some (.struct fs)) (hd : OpensF fs.toList 0 (Try.prog.cellsOf t) d) (hg : ∀ a, ∃ b, g b = a) : Opens t (Kd.iso d g) := by
  refine ⟨by have := hd.1; show _ = d.sz; omega, fun enc w base sp held fuel cs x h => ?_⟩
  cases fuel with
  | zero => simp [DataW.trod] at h
  | succ fuel =>
    have h2 : (if cs.length = Try.prog.cellsOf t then (fs.toList.mapM fun f => DataW.trod enc Try.prog w base sp held fuel f.type ((cs.drop f.offset).take (Try.prog.cellsOf f.type))).map fun xs => (DataW.agg (xs.map (·.1)), xs.flatMap (·.2)) else none) = some x := by
      rw [← h]; simp only [DataW.trod, ht]
    split at h2
    · rename_i hl
      obtain ⟨xs, hxs, _⟩ := Option.map_eq_some_iff.1 h2
      obtain ⟨a, ha⟩ := hd.2 _ _ _ _ _ _ _ _ hl hxs
      obtain ⟨b, rfl⟩ := hg a
      exact ⟨b, ha⟩
    · cases h2
theorem opens_read {α : Type} {t : TypeId} {d : Kd α} {H : Type} {enc : TypeId × Value → H} {w : World} {base : Nat} {sp : Nat → Bool} {held : Bool} {v : Value} {x : DataW H} {p : List MemPlace} (h : Opens t d) (hf : DataW.Trod enc Try.prog w base sp held t v x p) : ∃ a, d.K w a v.cells.toList := by
  obtain ⟨fuel, hf⟩ := hf
  exact h.2 _ _ _ _ _ _ _ _ hf
theorem oi : Opens 3 (Kd.int .i64) := opens_int Try.underlying3 (by kernel_rfl)
theorem ois : Opens 37 (Kd.slice 3 (Kd.int .i64)) := opens_slice 0 Try.underlying37 (by kernel_rfl) oi
theorem ostr : Opens 9 Kd.string := opens_string Try.underlying9 (by kernel_rfl)
theorem oDot : Opens 49 k49 := opens_struct Try.underlying49 (opensF_cons rfl oi (opensF_one rfl oi (by kernel_rfl))) (fun a => ⟨⟨a.1, a.2⟩, rfl⟩)
theorem oStamp : Opens 51 k51 := opens_struct Try.underlying51 (opensF_cons rfl oi (opensF_cons rfl oi (opensF_one rfl oi (by kernel_rfl)))) (fun a => ⟨⟨a.1, a.2.1, a.2.2⟩, rfl⟩)
theorem oValue : Opens 101 k101 := opens_struct Try.underlying101 (opensF_cons rfl oi (opensF_cons rfl oi (opensF_one rfl ostr (by kernel_rfl)))) (fun a => ⟨⟨a.1, a.2.1, a.2.2⟩, rfl⟩)
theorem oVals : Opens 52 (Kd.slice 101 k101) := opens_slice z101 Try.underlying52 (by kernel_rfl) oValue
theorem oDots : Opens 53 (Kd.slice 49 k49) := opens_slice z49 Try.underlying53 (by kernel_rfl) oDot
theorem oOp : Opens 55 k55 := opens_struct Try.underlying55 (opensF_cons rfl oDot (opensF_cons rfl ois (opensF_cons rfl oStamp (opensF_cons rfl oi (opensF_cons rfl oi (opensF_cons rfl ostr (opensF_cons rfl oi (opensF_cons rfl oVals (opensF_one rfl oDots (by kernel_rfl))))))))))
  (fun a => ⟨⟨a.1, a.2.1, a.2.2.1, a.2.2.2.1, a.2.2.2.2.1, a.2.2.2.2.2.1, a.2.2.2.2.2.2.1, a.2.2.2.2.2.2.2.1, a.2.2.2.2.2.2.2.2⟩, rfl⟩)
theorem oOps : Opens 38 (Kd.slice 55 k55) := opens_slice z55 Try.underlying38 (by kernel_rfl) oOp
theorem oMsg : Opens 40 k40 := opens_struct Try.underlying40 (opensF_cons rfl oi (opensF_cons rfl oi (opensF_cons rfl oi (opensF_cons rfl ois (opensF_cons rfl ois (opensF_one rfl oOps (by kernel_rfl)))))))
  (fun a => ⟨⟨a.1, a.2.1, a.2.2.1, a.2.2.2.1, a.2.2.2.2.1, a.2.2.2.2.2⟩, rfl⟩)
set_option maxRecDepth 100000 in
/-- A message that is handed in, read. -/
theorem msg_in {H : Type} {enc : TypeId × Value → H} {r : Reach} {w : World} {base b0 : Nat} {sp : Nat → Bool} {held : Bool} {v : Value} {d : DataW H} {p : List MemPlace} (hv : Value.okWide Try.prog w r b0 40 v) (h : DataW.Trod enc Try.prog w base sp held 40 v d p) :
    ∃ (x : S40) (A3 : Option Addr) (c3 : Nat) (A4 : Option Addr) (c4 : Nat) (A5 : Option Addr) (c5 : Nat), v = .agg #[.int .i64 x.f0, .int .i64 x.f1, .int .i64 x.f2, .slice A3 x.f3.length c3, .slice A4 x.f4.length c4, .slice A5 x.f5.length c5] ∧ x.f3.length ≤ c3 ∧ Kd.C (Kd.int .i64) w A3 x.f3.length x.f3 ∧ x.f4.length ≤ c4 ∧ Kd.C (Kd.int .i64) w A4 x.f4.length x.f4 ∧ x.f5.length ≤ c5 ∧ Kd.C k55 w A5 x.f5.length x.f5 := by
  obtain ⟨cs, rfl, _⟩ := okWide_struct Try.underlying40 hv
  obtain ⟨x, hx⟩ := opens_read oMsg h
  obtain ⟨A3, c3, A4, c4, A5, c5, e, h1, h2, h3, h4, h5, h6⟩ := k40_open hx
  refine ⟨x, A3, c3, A4, c4, A5, c5, ?_, h1, h2, h3, h4, h5, h6⟩
  have e2 : (Value.agg cs).cells.toList = cs.toList := rfl
  rw [e2] at e
  rw [show cs = cs.toList.toArray from (Array.toArray_toList).symm, e]
end Go.Proofs.Ytnbjflcfdncocaa.M

namespace Go.Proofs.YtnbjflcfdncocaaW.PrintWords
open Go.ChangeShapes Go.WideShapes
end Go.Proofs.YtnbjflcfdncocaaW.PrintWords

namespace Go.Proofs.Ytnbjflcfdncocaa.msgCuts
open Go.ChangeShapes Go.WideShapes Go.ChangeAt Go.RowKit
open Go.ChangeMaps (open_string shut_string)
set_option linter.unusedVariables false
theorem own : ownKnob Try.prog.godebug = none := by kernel_rfl
theorem laidOut : laidOutB Try.prog = true := by kernel_rfl
set_option maxRecDepth 100000 in
theorem lifted (os : Os) (started : os.Started) (H : Type) (enc : TypeId × Value → H) :
    ReturnsInHanded {} Try.checked os 9 .any (Rows.msgCutsSpec.pre6 enc Try.prog Try.f9 Rows.msgCutsRow.domain false) (Rows.msgCutsSpec.post enc Try.prog Try.f9 false true false false) := by
  refine returnsInHanded_of_change_sized (C := Try.checked) own started (by kernel_rfl) Try.func9
    (ChangeSpec.witness6 (enc := enc) (C := Try.checked) false ⟨#[], #[.agg #[.int .i64 0, .int .i64 0, .int .i64 0, .slice none 0 0, .slice none 0 0, .slice none 0 0], .agg #[.int .i64 0, .int .i64 0, .int .i64 0, .slice none 0 0, .slice none 0 0, .slice none 0 0], .int .i64 0, .int .i64 0, .int .u32 0], []⟩ 8 (by kernel_rfl) (by kernel_rfl) (by kernel_rfl) (by kernel_rfl)) ?_
  intro W base args ds gs before hval0 hW hcnd hsz0 _
  have hval : ∀ (j : Nat) t v, Try.f9.params[j]? = some t → args[j]? = some v → Value.okWide Try.prog W .any base t v := hval0
  have hW' := hW
  obtain ⟨p, q, hA0, hV, rfl, hfz, hnd⟩ := hW
  have hA : DataW.TrodAll enc Try.prog W 0 (fun _ => true) true Try.f9.params.toList args.toList ds p := hA0
  rw [Try.params9] at hA hval
  obtain ⟨v0, vs0, d0, ds0, p0, q0, hargs, rfl, rfl, h0, r0⟩ := trodAll_cons hA
  obtain ⟨v1, vs1, d1, ds1, p1, q1, rfl, rfl, rfl, h1, r1⟩ := trodAll_cons r0
  obtain ⟨v2, vs2, d2, ds2, p2, q2, rfl, rfl, rfl, h2, r2⟩ := trodAll_cons r1
  obtain ⟨v3, vs3, d3, ds3, p3, q3, rfl, rfl, rfl, h3, r3⟩ := trodAll_cons r2
  obtain ⟨v4, vs4, d4, ds4, p4, q4, rfl, rfl, rfl, h4, r4⟩ := trodAll_cons r3
  obtain ⟨rfl, rfl, rfl⟩ := trodAll_nil r4
  obtain rfl : args = #[v0, v1, v2, v3, v4] := by cases args; simp_all
  obtain ⟨rfl, rfl⟩ := trodVars_none hV
  have k0 := h0
  have lt0 : ∀ x ∈ p0, x.block < W.heap.size := by obtain ⟨m, hm⟩ := k0; exact DataW.trod_lt m _ _ _ hm
  obtain ⟨x0, A0_3, c0_3, A0_4, c0_4, A0_5, c0_5, rfl, l0_3, g0_3, l0_4, g0_4, l0_5, g0_5⟩ := M.msg_in (hval 0 40 v0 rfl rfl) h0
  have k1 := h1
  have lt1 : ∀ x ∈ p1, x.block < W.heap.size := by obtain ⟨m, hm⟩ := k1; exact DataW.trod_lt m _ _ _ hm
  obtain ⟨x1, A1_3, c1_3, A1_4, c1_4, A1_5, c1_5, rfl, l1_3, g1_3, l1_4, g1_4, l1_5, g1_5⟩ := M.msg_in (hval 1 40 v1 rfl rfl) h1
  obtain ⟨a2, rfl, rfl, rfl, w2⟩ := open_int Try.underlying3 (hval 2 3 v2 rfl rfl) h2
  obtain ⟨a3, rfl, rfl, rfl, w3⟩ := open_int Try.underlying3 (hval 3 3 v3 rfl rfl) h3
  obtain ⟨a4, rfl, rfl, rfl, w4⟩ := open_int Try.underlying23 (hval 4 23 v4 rfl rfl) h4
  clear hA0 hval0 hsz0
  obtain ⟨k, hk⟩ := M.MsgCuts_pure x0.f0 x0.f1 x0.f2 x0.f3 x0.f4 x0.f5 x1.f0 x1.f1 x1.f2 x1.f3 x1.f4 x1.f5 a2 a3 a4 w2 w3 w4
  refine (M.raddlelaw08_MsgCuts.calls k x0.f0 x0.f1 x0.f2 A0_3 c0_3 x0.f3 A0_4 c0_4 x0.f4 A0_5 c0_5 x0.f5 x1.f0 x1.f1 x1.f2 A1_3 c1_3 x1.f3 A1_4 c1_4 x1.f4 A1_5 c1_5 x1.f5 a2 a3 a4 true W g0_3 l0_3 g0_4 l0_4 g0_5 l0_5 g1_3 l1_3 g1_4 l1_4 g1_5 l1_5 hk).mono fun e W' ⟨he, bel⟩ => ?_
  subst he
  exact ⟨_, rfl, _, _, _, [], _, [], hW', trodAll_mk1 (shut_bool Try.underlying4 _), (trodAll_cons_mk (Below.trod laidOut (by kernel_rfl) (of_decide_eq_true (by kernel_rfl)) k0 bel lt0) (trodAll_cons_mk (Below.trod laidOut (by kernel_rfl) (of_decide_eq_true (by kernel_rfl)) k1 bel lt1) (trodAll_cons_mk (shut_int Try.underlying3 w2) (trodAll_cons_mk (shut_int Try.underlying3 w3) (trodAll_cons_mk (shut_int Try.underlying23 w4) trodAll_mk0))))), rfl, bel.frame _, fun h => by cases h⟩
theorem over : Rows.msgCutsRow.holds Try.pinned (OpenSpec.ofChange Rows.msgCutsSpec) :=
  OpenClaim.holds_of_wide 9 Try.f9 rfl rfl rfl rfl rfl rfl rfl ⟨rfl, rfl, rfl, rfl, rfl⟩ rfl rfl rfl rfl rfl (by kernel_rfl) Try.func9 (by kernel_rfl)
    (of_decide_eq_true (by kernel_rfl)) (by unfold Func.isWrapper; first | (rw [if_pos (by decide +kernel)]; kernel_rfl) | (rw [if_neg (by decide +kernel)]; exact ⟨rfl, rfl⟩))
    (fun os started H enc _ => lifted os started H enc)
theorem proved : Rows.MsgCutsSaid := over
#print axioms proved
end Go.Proofs.Ytnbjflcfdncocaa.msgCuts
namespace Go.Proofs.Ytnbjflcfdncocaa
/-- The row, under a short name, for the claim. -/
theorem msgCuts_holds : Rows.MsgCutsSaid := msgCuts.proved
end Go.Proofs.Ytnbjflcfdncocaa

