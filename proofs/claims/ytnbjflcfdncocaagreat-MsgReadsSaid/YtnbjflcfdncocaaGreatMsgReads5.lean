/- The law MsgReads of the program's messages holds for every input (its row stands in the last of these texts): part 5 of 6. -/
import Derived.Test.YtnbjflcfdncocaaGreatMsgReads3
import Derived.Test.YtnbjflcfdncocaaGreatMsgReads4
import Derived.Deep.QuietTactic
import Derived.BigQuiet
import Derived.Deep.RegionHeld3
import Derived.Deep.RegionLaw
import Derived.Test.YtnbjflcfdncocaaGreatMsgReads2
namespace Go.Proofs.YtnbjflcfdncocaaGreat.M
open Go.RowKit Go.Proofs.YtnbjflcfdncocaaGreatW.PrintWords Go.Proofs.YtnbjflcfdncocaaGreatW.PrintLast Go.Proofs.YtnbjflcfdncocaaGreatW.PrintMore
theorem bad_cases (b : Bool) : b = true ∨ b = false := by cases b <;> simp
set_option maxHeartbeats 4000000 in
set_option maxRecDepth 100000 in
theorem R_num (w0 w : World) (g : Nat) (B rest : List Int) (bad : Bool) (h : IsR w0 w g B rest bad) (z : Int) (s : Nat) (hz : z = (s : Int)) (h1 : 1 ≤ s) (h7 : s ≤ 7) :
    Calls Tryz.prog 44 #[.pointer (some ⟨g, 0, none⟩), .int .i64 z] w fun en w' => en = .returned (.int .i64 (rnum s (rest, bad)).1) ∧ IsR w0 w' g B (rnum s (rest, bad)).2.1 (rnum s (rest, bad)).2.2 ∧ KeepBut w w' g none := by
  subst hz
  obtain ⟨h0, hg, h2, h3, A, c, at_, hv, hC, hc, ha, hd⟩ := h
  have hc0 : w.cell? ⟨g, 0, none⟩ = some (.slice A B.length c) := (blk_cell hv 0).trans rfl
  have hc1 : w.cell? ⟨g, 1, none⟩ = some (.int .i64 (at_ : Int)) := (blk_cell hv 1).trans rfl
  have hc2 : w.cell? ⟨g, 2, none⟩ = some (.bool bad) := (blk_cell hv 2).trans rfl
  have hf1 := blk_frozen hv 1
  have hf2 := blk_frozen hv 2
  have HC := Aside0.mk (Kd.C_below hC h0)
  have HC0 := Aside0.mk hC
  have Hc := Aside0.mk hc
  have HH := Aside0.mk h0
  have Hg := Aside0.mk hg
  have Hb := Aside0.mk h2
  have Hl := Aside0.mk h3
  have Hv := Aside0.mk hv
  have Ha := Aside0.mk ha
  have Hd := Aside0.mk hd
  have H1 := Aside0.mk h1
  have H7 := Aside0.mk h7
  clear h0 hg h2 h3 hv hC hc ha hd h1 h7
  by_cases hs : rest.length < s
  · rcases bad_cases bad with rfl | rfl
    · have HS := Aside0.mk (show rnum s (rest, true) = (0, (rest, true)) from by unfold rnum; rw [if_pos (by simp)])
      go_enter Tryz.func44, Tryz.ntmps44
      go_wp2
      go_quiet ((go_at_call 84; refine Calls.quiet_of (v := .tuple #[.int .i64 0, .int .i64 0, .int .i64 3]) ((wire_Get.calls 100 A c B (at_ : Int) (s : Int) 0 0 3 _ (Kd.C_drewN HC.out _) Hc.out (by rw [Get_eq B rest at_ s Hb.out Hl.out Ha.out Hd.out H1.out H7.out 100 (by omega), if_pos hs])).mono ?_); rintro e w1 ⟨rfl, ⟨m, hm⟩⟩; exact ⟨rfl, m, hm⟩))
      have dr : Below w.heap.size w (w.drewN nq) := pw_below_drewN (Below.refl _ w) nq
      have HH1 := Aside0.mk (below_step HH.out dr)
      have Hv1 := Aside0.mk (blk_below Hv.out dr)
      have hk0 := KeepBut.of_below (row := none) dr g
      have HK1 := Aside0.mk hk0
      clear hk0 dr
      go_wp2
      go_ret
      rw [HS.out]
      exact ⟨rfl, IsR.bad (bad := true) ⟨HH1.out, Hg.out, Hb.out, Hl.out, A, c, at_, Hv1.out, HC0.out, Hc.out, Ha.out, Hd.out⟩, HK1.out.set_ 2 (.bool true)⟩
    · have HS := Aside0.mk (show rnum s (rest, false) = (0, (rest, true)) from by unfold rnum; rw [if_pos (.inr hs)])
      go_enter Tryz.func44, Tryz.ntmps44
      go_wp2
      go_quiet ((go_at_call 84; refine Calls.quiet_of (v := .tuple #[.int .i64 0, .int .i64 0, .int .i64 3]) ((wire_Get.calls 100 A c B (at_ : Int) (s : Int) 0 0 3 _ (Kd.C_drewN HC.out _) Hc.out (by rw [Get_eq B rest at_ s Hb.out Hl.out Ha.out Hd.out H1.out H7.out 100 (by omega), if_pos hs])).mono ?_); rintro e w1 ⟨rfl, ⟨m, hm⟩⟩; exact ⟨rfl, m, hm⟩))
      have dr : Below w.heap.size w (w.drewN nq) := pw_below_drewN (Below.refl _ w) nq
      have HH1 := Aside0.mk (below_step HH.out dr)
      have Hv1 := Aside0.mk (blk_below Hv.out dr)
      have hk0 := KeepBut.of_below (row := none) dr g
      have HK1 := Aside0.mk hk0
      clear hk0 dr
      go_wp2
      go_ret
      rw [HS.out]
      exact ⟨rfl, IsR.bad (bad := false) ⟨HH1.out, Hg.out, Hb.out, Hl.out, A, c, at_, Hv1.out, HC0.out, Hc.out, Ha.out, Hd.out⟩, HK1.out.set_ 2 (.bool true)⟩
  · rcases bad_cases bad with rfl | rfl
    · have HS := Aside0.mk (show rnum s (rest, true) = (0, (rest, true)) from by unfold rnum; rw [if_pos (by simp)])
      go_enter Tryz.func44, Tryz.ntmps44
      go_wp2
      go_quiet ((go_at_call 84; refine Calls.quiet_of (v := .tuple #[.int .i64 (numL (rest.take s)), .int .i64 ((at_ + s : Nat) : Int), .int .i64 0]) ((wire_Get.calls 100 A c B (at_ : Int) (s : Int) (numL (rest.take s)) ((at_ + s : Nat) : Int) 0 _ (Kd.C_drewN HC.out _) Hc.out (by rw [Get_eq B rest at_ s Hb.out Hl.out Ha.out Hd.out H1.out H7.out 100 (by omega), if_neg hs])).mono ?_); rintro e w1 ⟨rfl, ⟨m, hm⟩⟩; exact ⟨rfl, m, hm⟩))
      have dr : Below w.heap.size w (w.drewN nq) := pw_below_drewN (Below.refl _ w) nq
      have HH1 := Aside0.mk (below_step HH.out dr)
      have Hv1 := Aside0.mk (blk_below Hv.out dr)
      have hk0 := KeepBut.of_below (row := none) dr g
      have HK1 := Aside0.mk hk0
      clear hk0 dr
      go_wp2
      go_ret
      rw [HS.out]
      exact ⟨rfl, IsR.bad (bad := true) ⟨HH1.out, Hg.out, Hb.out, Hl.out, A, c, at_, Hv1.out, HC0.out, Hc.out, Ha.out, Hd.out⟩, HK1.out.set_ 2 (.bool true)⟩
    · have HS := Aside0.mk (show rnum s (rest, false) = (numL (rest.take s), (rest.drop s, false)) from by unfold rnum; rw [if_neg (by rintro (h | h); cases h; exact hs h)])
      have HE := Aside0.mk (show at_ + s ≤ B.length ∧ B.drop (at_ + s) = rest.drop s from ⟨by have h5 : rest.length = B.length - at_ := by { rw [← Hd.out]; simp }; have := Ha.out; omega, by rw [← Hd.out, List.drop_drop]⟩)
      go_enter Tryz.func44, Tryz.ntmps44
      go_wp2
      go_quiet ((go_at_call 84; refine Calls.quiet_of (v := .tuple #[.int .i64 (numL (rest.take s)), .int .i64 ((at_ + s : Nat) : Int), .int .i64 0]) ((wire_Get.calls 100 A c B (at_ : Int) (s : Int) (numL (rest.take s)) ((at_ + s : Nat) : Int) 0 _ (Kd.C_drewN HC.out _) Hc.out (by rw [Get_eq B rest at_ s Hb.out Hl.out Ha.out Hd.out H1.out H7.out 100 (by omega), if_neg hs])).mono ?_); rintro e w1 ⟨rfl, ⟨m, hm⟩⟩; exact ⟨rfl, m, hm⟩))
      have dr : Below w.heap.size w (w.drewN nq) := pw_below_drewN (Below.refl _ w) nq
      have HH1 := Aside0.mk (below_step HH.out dr)
      have Hv1 := Aside0.mk (blk_below Hv.out dr)
      have hk0 := KeepBut.of_below (row := none) dr g
      have HK1 := Aside0.mk hk0
      clear hk0 dr
      go_wp2
      go_ret
      rw [HS.out]
      exact ⟨rfl, IsR.go (bad := false) HH1.out Hg.out Hb.out Hl.out Hv1.out HC0.out Hc.out HE.out.1 HE.out.2, HK1.out.set_ 1 _⟩
set_option maxHeartbeats 4000000 in
set_option maxRecDepth 100000 in
theorem R_text (w0 w : World) (g : Nat) (B rest : List Int) (bad : Bool) (h : IsR w0 w g B rest bad) :
    Calls Tryz.prog 88 #[.pointer (some ⟨g, 0, none⟩)] w fun en w' => en = .returned (.string (rtext (rest, bad)).1) ∧ IsR w0 w' g B (rtext (rest, bad)).2.1 (rtext (rest, bad)).2.2 ∧ KeepBut w w' g none := by
  obtain ⟨h0, hg, h2, h3, A, c, at_, hv, hC, hc, ha, hd⟩ := h
  have hc0 : w.cell? ⟨g, 0, none⟩ = some (.slice A B.length c) := (blk_cell hv 0).trans rfl
  have hc1 : w.cell? ⟨g, 1, none⟩ = some (.int .i64 (at_ : Int)) := (blk_cell hv 1).trans rfl
  have hc2 : w.cell? ⟨g, 2, none⟩ = some (.bool bad) := (blk_cell hv 2).trans rfl
  have hf1 := blk_frozen hv 1
  have hf2 := blk_frozen hv 2
  have HC := Aside0.mk (Kd.C_below hC h0)
  have HC0 := Aside0.mk hC
  have Hc := Aside0.mk hc
  have HH := Aside0.mk h0
  have Hg := Aside0.mk hg
  have Hb := Aside0.mk h2
  have Hl := Aside0.mk h3
  have Hv := Aside0.mk hv
  have Ha := Aside0.mk ha
  have Hd := Aside0.mk hd
  clear h0 hg h2 h3 hv hC hc ha hd
  rcases rest with _ | ⟨b, tl⟩
  · rcases bad_cases bad with rfl | rfl
    · have HS := Aside0.mk (show rtext ([], true) = (⟨#[]⟩, ([], true)) from rfl)
      go_enter Tryz.func88, Tryz.ntmps88
      go_wp2
      go_quiet ((go_at_call 115; refine Calls.quiet_of (v := .tuple #[.string ⟨#[]⟩, .int .i64 0, .int .i64 3]) ((wire_GetText.calls 100 A c B (at_ : Int) ⟨#[]⟩ 0 3 _ (Kd.C_drewN HC.out _) Hc.out (GetText_eq B [] at_ Hb.out Hl.out Ha.out Hd.out 100 (by omega))).mono ?_); rintro e w1 ⟨rfl, ⟨m, hm⟩⟩; exact ⟨rfl, m, hm⟩))
      have dr : Below w.heap.size w (w.drewN nq) := pw_below_drewN (Below.refl _ w) nq
      have HH1 := Aside0.mk (below_step HH.out dr)
      have Hv1 := Aside0.mk (blk_below Hv.out dr)
      have hk0 := KeepBut.of_below (row := none) dr g
      have HK1 := Aside0.mk hk0
      clear hk0 dr
      go_wp2
      go_ret
      rw [HS.out]
      exact ⟨rfl, IsR.bad (bad := true) ⟨HH1.out, Hg.out, Hb.out, Hl.out, A, c, at_, Hv1.out, HC0.out, Hc.out, Ha.out, Hd.out⟩, HK1.out.set_ 2 (.bool true)⟩
    · have HS := Aside0.mk (show rtext ([], false) = (⟨#[]⟩, ([], true)) from rfl)
      go_enter Tryz.func88, Tryz.ntmps88
      go_wp2
      go_quiet ((go_at_call 115; refine Calls.quiet_of (v := .tuple #[.string ⟨#[]⟩, .int .i64 0, .int .i64 3]) ((wire_GetText.calls 100 A c B (at_ : Int) ⟨#[]⟩ 0 3 _ (Kd.C_drewN HC.out _) Hc.out (GetText_eq B [] at_ Hb.out Hl.out Ha.out Hd.out 100 (by omega))).mono ?_); rintro e w1 ⟨rfl, ⟨m, hm⟩⟩; exact ⟨rfl, m, hm⟩))
      have dr : Below w.heap.size w (w.drewN nq) := pw_below_drewN (Below.refl _ w) nq
      have HH1 := Aside0.mk (below_step HH.out dr)
      have Hv1 := Aside0.mk (blk_below Hv.out dr)
      have hk0 := KeepBut.of_below (row := none) dr g
      have HK1 := Aside0.mk hk0
      clear hk0 dr
      go_wp2
      go_ret
      rw [HS.out]
      exact ⟨rfl, IsR.bad (bad := false) ⟨HH1.out, Hg.out, Hb.out, Hl.out, A, c, at_, Hv1.out, HC0.out, Hc.out, Ha.out, Hd.out⟩, HK1.out.set_ 2 (.bool true)⟩
  · by_cases hs : b > 24 ∨ (tl.length : Int) < b
    · rcases bad_cases bad with rfl | rfl
      · have HS := Aside0.mk (show rtext (b :: tl, true) = (⟨#[]⟩, (b :: tl, true)) from by unfold rtext; simp only; rw [if_pos (by simp)])
        go_enter Tryz.func88, Tryz.ntmps88
        go_wp2
        go_quiet ((go_at_call 115; refine Calls.quiet_of (v := .tuple #[.string ⟨#[]⟩, .int .i64 0, .int .i64 3]) ((wire_GetText.calls 100 A c B (at_ : Int) ⟨#[]⟩ 0 3 _ (Kd.C_drewN HC.out _) Hc.out (by rw [GetText_eq B (b :: tl) at_ Hb.out Hl.out Ha.out Hd.out 100 (by omega)]; simp only; rw [if_pos hs])).mono ?_); rintro e w1 ⟨rfl, ⟨m, hm⟩⟩; exact ⟨rfl, m, hm⟩))
        have dr : Below w.heap.size w (w.drewN nq) := pw_below_drewN (Below.refl _ w) nq
        have HH1 := Aside0.mk (below_step HH.out dr)
        have Hv1 := Aside0.mk (blk_below Hv.out dr)
        have hk0 := KeepBut.of_below (row := none) dr g
        have HK1 := Aside0.mk hk0
        clear hk0 dr
        go_wp2
        go_ret
        rw [HS.out]
        exact ⟨rfl, IsR.bad (bad := true) ⟨HH1.out, Hg.out, Hb.out, Hl.out, A, c, at_, Hv1.out, HC0.out, Hc.out, Ha.out, Hd.out⟩, HK1.out.set_ 2 (.bool true)⟩
      · have HS := Aside0.mk (show rtext (b :: tl, false) = (⟨#[]⟩, (b :: tl, true)) from by unfold rtext; simp only; rw [if_pos (.inr hs)])
        go_enter Tryz.func88, Tryz.ntmps88
        go_wp2
        go_quiet ((go_at_call 115; refine Calls.quiet_of (v := .tuple #[.string ⟨#[]⟩, .int .i64 0, .int .i64 3]) ((wire_GetText.calls 100 A c B (at_ : Int) ⟨#[]⟩ 0 3 _ (Kd.C_drewN HC.out _) Hc.out (by rw [GetText_eq B (b :: tl) at_ Hb.out Hl.out Ha.out Hd.out 100 (by omega)]; simp only; rw [if_pos hs])).mono ?_); rintro e w1 ⟨rfl, ⟨m, hm⟩⟩; exact ⟨rfl, m, hm⟩))
        have dr : Below w.heap.size w (w.drewN nq) := pw_below_drewN (Below.refl _ w) nq
        have HH1 := Aside0.mk (below_step HH.out dr)
        have Hv1 := Aside0.mk (blk_below Hv.out dr)
        have hk0 := KeepBut.of_below (row := none) dr g
        have HK1 := Aside0.mk hk0
        clear hk0 dr
        go_wp2
        go_ret
        rw [HS.out]
        exact ⟨rfl, IsR.bad (bad := false) ⟨HH1.out, Hg.out, Hb.out, Hl.out, A, c, at_, Hv1.out, HC0.out, Hc.out, Ha.out, Hd.out⟩, HK1.out.set_ 2 (.bool true)⟩
    · rcases bad_cases bad with rfl | rfl
      · have HS := Aside0.mk (show rtext (b :: tl, true) = (⟨#[]⟩, (b :: tl, true)) from by unfold rtext; simp only; rw [if_pos (by simp)])
        have hbb : Byte b := Hb.out b (by have : b ∈ B.drop at_ := by { rw [Hd.out]; simp }; exact List.mem_of_mem_drop this)
        unfold Byte at hbb
        have h5 : tl.length + 1 = B.length - at_ := by have := congrArg List.length Hd.out; simp at this; omega
        have h8 : B.drop (at_ + 1) = tl := by rw [← List.drop_drop, Hd.out]; rfl
        obtain ⟨at1, hat1⟩ : ∃ at1 : Nat, (at_ : Int) + 1 + b = (at1 : Int) := ⟨at_ + 1 + b.toNat, by omega⟩
        have HE := Aside0.mk (show at1 ≤ B.length ∧ B.drop at1 = tl.drop b.toNat from ⟨by have := Ha.out; omega, by rw [show at1 = at_ + 1 + b.toNat from by omega, ← List.drop_drop, h8]⟩)
        have HG := Aside0.mk (show wire_GetText.f 100 B (at_ : Int) = some (strOfNums (tl.take b.toNat), (at1 : Int), 0) from by rw [GetText_eq B (b :: tl) at_ Hb.out Hl.out Ha.out Hd.out 100 (by omega)]; simp only; rw [if_neg hs, hat1])
        clear hbb h5 h8 hat1 hs
        go_enter Tryz.func88, Tryz.ntmps88
        go_wp2
        go_quiet ((go_at_call 115; refine Calls.quiet_of (v := .tuple #[.string (strOfNums (tl.take b.toNat)), .int .i64 (at1 : Int), .int .i64 0]) ((wire_GetText.calls 100 A c B (at_ : Int) (strOfNums (tl.take b.toNat)) (at1 : Int) 0 _ (Kd.C_drewN HC.out _) Hc.out HG.out).mono ?_); rintro e w1 ⟨rfl, ⟨m, hm⟩⟩; exact ⟨rfl, m, hm⟩))
        have dr : Below w.heap.size w (w.drewN nq) := pw_below_drewN (Below.refl _ w) nq
        have HH1 := Aside0.mk (below_step HH.out dr)
        have Hv1 := Aside0.mk (blk_below Hv.out dr)
        have hk0 := KeepBut.of_below (row := none) dr g
        have HK1 := Aside0.mk hk0
        clear hk0 dr
        go_wp2
        go_ret
        rw [HS.out]
        exact ⟨rfl, IsR.bad (bad := true) ⟨HH1.out, Hg.out, Hb.out, Hl.out, A, c, at_, Hv1.out, HC0.out, Hc.out, Ha.out, Hd.out⟩, HK1.out.set_ 2 (.bool true)⟩
      · have HS := Aside0.mk (show rtext (b :: tl, false) = (strOfNums (tl.take b.toNat), (tl.drop b.toNat, false)) from by unfold rtext; simp only; rw [if_neg (by rintro (h | h); cases h; exact hs h)])
        have hbb : Byte b := Hb.out b (by have : b ∈ B.drop at_ := by { rw [Hd.out]; simp }; exact List.mem_of_mem_drop this)
        unfold Byte at hbb
        have h5 : tl.length + 1 = B.length - at_ := by have := congrArg List.length Hd.out; simp at this; omega
        have h8 : B.drop (at_ + 1) = tl := by rw [← List.drop_drop, Hd.out]; rfl
        obtain ⟨at1, hat1⟩ : ∃ at1 : Nat, (at_ : Int) + 1 + b = (at1 : Int) := ⟨at_ + 1 + b.toNat, by omega⟩
        have HE := Aside0.mk (show at1 ≤ B.length ∧ B.drop at1 = tl.drop b.toNat from ⟨by have := Ha.out; omega, by rw [show at1 = at_ + 1 + b.toNat from by omega, ← List.drop_drop, h8]⟩)
        have HG := Aside0.mk (show wire_GetText.f 100 B (at_ : Int) = some (strOfNums (tl.take b.toNat), (at1 : Int), 0) from by rw [GetText_eq B (b :: tl) at_ Hb.out Hl.out Ha.out Hd.out 100 (by omega)]; simp only; rw [if_neg hs, hat1])
        clear hbb h5 h8 hat1 hs
        go_enter Tryz.func88, Tryz.ntmps88
        go_wp2
        go_quiet ((go_at_call 115; refine Calls.quiet_of (v := .tuple #[.string (strOfNums (tl.take b.toNat)), .int .i64 (at1 : Int), .int .i64 0]) ((wire_GetText.calls 100 A c B (at_ : Int) (strOfNums (tl.take b.toNat)) (at1 : Int) 0 _ (Kd.C_drewN HC.out _) Hc.out HG.out).mono ?_); rintro e w1 ⟨rfl, ⟨m, hm⟩⟩; exact ⟨rfl, m, hm⟩))
        have dr : Below w.heap.size w (w.drewN nq) := pw_below_drewN (Below.refl _ w) nq
        have HH1 := Aside0.mk (below_step HH.out dr)
        have Hv1 := Aside0.mk (blk_below Hv.out dr)
        have hk0 := KeepBut.of_below (row := none) dr g
        have HK1 := Aside0.mk hk0
        clear hk0 dr
        go_wp2
        go_ret
        rw [HS.out]
        exact ⟨rfl, IsR.go (bad := false) HH1.out Hg.out Hb.out Hl.out Hv1.out HC0.out Hc.out HE.out.1 HE.out.2, HK1.out.set_ 1 _⟩
def rmany (s : Nat) (m : Int) (st : List Int × Bool) : Int × (List Int × Bool) := if (rnum s st).1 > m then (0, ((rnum s st).2.1, true)) else rnum s st
def rdot (st : List Int × Bool) : Dt × (List Int × Bool) := (⟨(rnum 1 st).1, (rnum 4 (rnum 1 st).2).1⟩, (rnum 4 (rnum 1 st).2).2)
def rstamp (st : List Int × Bool) : S48 × (List Int × Bool) := (⟨(rnum 6 st).1, (rnum 3 (rnum 6 st).2).1, (rnum 1 (rnum 3 (rnum 6 st).2).2).1⟩, (rnum 1 (rnum 3 (rnum 6 st).2).2).2)
theorem keep_then {w w1 w2 : World} {g : Nat} (h : KeepBut w w1 g none) (k : KeepBut w1 w2 g none) : KeepBut w w2 g none := h.trans k (.inl rfl)
set_option maxHeartbeats 4000000 in
set_option maxRecDepth 100000 in
theorem R_many (w0 w : World) (g : Nat) (B rest : List Int) (bad : Bool) (h : IsR w0 w g B rest bad) (z m : Int) (s : Nat) (hz : z = (s : Int)) (h1 : 1 ≤ s) (h7 : s ≤ 7) :
    Calls Tryz.prog 85 #[.pointer (some ⟨g, 0, none⟩), .int .i64 z, .int .i64 m] w fun en w' => en = .returned (.int .i64 (rmany s m (rest, bad)).1) ∧ IsR w0 w' g B (rmany s m (rest, bad)).2.1 (rmany s m (rest, bad)).2.2 ∧ KeepBut w w' g none := by
  have H := Aside0.mk h
  have Hz := Aside0.mk hz
  have H1 := Aside0.mk h1
  have H7 := Aside0.mk h7
  clear h hz h1 h7
  obtain ⟨q, hq⟩ : ∃ q, q = rnum s (rest, bad) := ⟨_, rfl⟩
  have HQ := Aside0.mk hq
  clear hq
  by_cases hm : q.1 > m
  · have HS := Aside0.mk (show rmany s m (rest, bad) = (0, (q.2.1, true)) from by unfold rmany; rw [← HQ.out, if_pos hm])
    go_enter Tryz.func85, Tryz.ntmps85
    go_wp2_with fail
    refine (R_num w0 _ g B rest bad H.out z s Hz.out H1.out H7.out).mono ?_
    rintro e w1 ⟨rfl, hi, hk⟩
    rw [← HQ.out] at hi
    rw [← HQ.out]
    have HI := Aside0.mk hi
    have HK := Aside0.mk hk
    obtain ⟨-, -, -, -, A, c, at_, hv, -⟩ := hi
    have hc2 : w1.cell? ⟨g, 2, none⟩ = some (.bool q.2.2) := (blk_cell hv 2).trans rfl
    have hf2 := blk_frozen hv 2
    clear hk hv
    go_wp2
    go_ret
    rw [HS.out]
    exact ⟨rfl, HI.out.bad, HK.out.set_ 2 (.bool true)⟩
  · have HS := Aside0.mk (show rmany s m (rest, bad) = q from by unfold rmany; rw [← HQ.out, if_neg hm])
    have hm2 := decide_eq_false (show ¬ m < q.1 by omega)
    go_enter Tryz.func85, Tryz.ntmps85
    go_wp2_with fail
    refine (R_num w0 _ g B rest bad H.out z s Hz.out H1.out H7.out).mono ?_
    rintro e w1 ⟨rfl, hi, hk⟩
    rw [← HQ.out] at hi
    rw [← HQ.out]
    have HI := Aside0.mk hi
    have HK := Aside0.mk hk
    clear hi hk
    go_wp2
    go_ret
    rw [HS.out]
    exact ⟨rfl, HI.out, HK.out⟩
set_option maxHeartbeats 4000000 in
set_option maxRecDepth 100000 in
theorem R_dot (w0 w : World) (g : Nat) (B rest : List Int) (bad : Bool) (h : IsR w0 w g B rest bad) :
    Calls Tryz.prog 86 #[.pointer (some ⟨g, 0, none⟩)] w fun en w' => en = .returned (.agg #[.int .i64 (rdot (rest, bad)).1.f0, .int .i64 (rdot (rest, bad)).1.f1]) ∧ IsR w0 w' g B (rdot (rest, bad)).2.1 (rdot (rest, bad)).2.2 ∧ KeepBut w w' g none := by
  have hgl : g < w.heap.size := h.lt
  have hne : w.heap.size ≠ g := by omega
  have H0 := Aside0.mk (h.alloc (.cells #[.int .i64 0, .int .i64 0] 46))
  have K0 := Aside0.mk (keep_alloc (KeepBut.refl w g none) (.cells #[.int .i64 0, .int .i64 0] 46))
  have D0 := Aside0.mk (heap_alloc_new w (.cells #[.int .i64 0, .int .i64 0] 46))
  have HZ := Aside0.mk (below_size h.1)
  have HNE := Aside0.mk hne
  clear h hgl hne
  go_enter Tryz.func86, Tryz.ntmps86
  go_wp2_with fail
  refine (R_num w0 _ g B rest bad H0.out 1 1 rfl (by omega) (by omega)).mono ?_
  rintro e w1 ⟨rfl, hi, hk⟩
  have D1 := Aside0.mk (hk.blk D0.out HNE.out (by simp))
  have H1 := Aside0.mk hi
  have K1 := Aside0.mk (keep_then K0.out hk)
  clear hi hk
  go_wp2_with fail
  refine (R_num w0 _ g B (rnum 1 (rest, bad)).2.1 (rnum 1 (rest, bad)).2.2 H1.out 4 4 rfl (by omega) (by omega)).mono ?_
  rintro e w2 ⟨rfl, hi, hk⟩
  have D2 := Aside0.mk (hk.blk D1.out HNE.out (by simp))
  have H2 := Aside0.mk hi
  have K2 := Aside0.mk (keep_then K1.out hk)
  clear hi hk
  have hcx := fun i => blk_cell D2.out i
  have hfx := fun i => blk_frozen D2.out i
  go_wp2
  refine bodyPost_ret (v := .agg #[.int .i64 (rnum 1 (rest, bad)).1, .int .i64 (rnum 4 (rnum 1 (rest, bad)).2).1]) ?_ rfl ⟨rfl, ((((H2.out).far HNE.out HZ.out 0 (.int .i64 (rnum 1 (rest, bad)).1))).far HNE.out HZ.out 1 (.int .i64 (rnum 4 (rnum 1 (rest, bad)).2).1)), (keep_far ((keep_far (K2.out) (p := ⟨w.heap.size, 0, none⟩) (Nat.le_refl _) (.int .i64 (rnum 1 (rest, bad)).1))) (p := ⟨w.heap.size, 1, none⟩) (Nat.le_refl _) (.int .i64 (rnum 4 (rnum 1 (rest, bad)).2).1))⟩
  exact results_cell_row (p := 2) (ty := 46) rfl _ _ w.heap.size 46 #[.int .i64 (rnum 1 (rest, bad)).1, .int .i64 (rnum 4 (rnum 1 (rest, bad)).2).1] (0, 0) _ rfl (blk_set (blk_set D2.out 0 (.int .i64 (rnum 1 (rest, bad)).1)) 1 (.int .i64 (rnum 4 (rnum 1 (rest, bad)).2).1)) Tryz.underlying46 rfl (by kernel_rfl)
set_option maxHeartbeats 4000000 in
set_option maxRecDepth 100000 in
theorem R_stamp (w0 w : World) (g : Nat) (B rest : List Int) (bad : Bool) (h : IsR w0 w g B rest bad) :
    Calls Tryz.prog 87 #[.pointer (some ⟨g, 0, none⟩)] w fun en w' => en = .returned (.agg #[.int .i64 (rstamp (rest, bad)).1.f0, .int .i64 (rstamp (rest, bad)).1.f1, .int .i64 (rstamp (rest, bad)).1.f2]) ∧ IsR w0 w' g B (rstamp (rest, bad)).2.1 (rstamp (rest, bad)).2.2 ∧ KeepBut w w' g none := by
  have hgl : g < w.heap.size := h.lt
  have hne : w.heap.size ≠ g := by omega
  have H0 := Aside0.mk (h.alloc (.cells #[.int .i64 0, .int .i64 0, .int .i64 0] 48))
  have K0 := Aside0.mk (keep_alloc (KeepBut.refl w g none) (.cells #[.int .i64 0, .int .i64 0, .int .i64 0] 48))
  have D0 := Aside0.mk (heap_alloc_new w (.cells #[.int .i64 0, .int .i64 0, .int .i64 0] 48))
  have HZ := Aside0.mk (below_size h.1)
  have HNE := Aside0.mk hne
  clear h hgl hne
  go_enter Tryz.func87, Tryz.ntmps87
  go_wp2_with fail
  refine (R_num w0 _ g B rest bad H0.out 6 6 rfl (by omega) (by omega)).mono ?_
  rintro e w1 ⟨rfl, hi, hk⟩
  have D1 := Aside0.mk (hk.blk D0.out HNE.out (by simp))
  have H1 := Aside0.mk hi
  have K1 := Aside0.mk (keep_then K0.out hk)
  clear hi hk
  go_wp2_with fail
  refine (R_num w0 _ g B (rnum 6 (rest, bad)).2.1 (rnum 6 (rest, bad)).2.2 H1.out 3 3 rfl (by omega) (by omega)).mono ?_
  rintro e w2 ⟨rfl, hi, hk⟩
  have D2 := Aside0.mk (hk.blk D1.out HNE.out (by simp))
  have H2 := Aside0.mk hi
  have K2 := Aside0.mk (keep_then K1.out hk)
  clear hi hk
  go_wp2_with fail
  refine (R_num w0 _ g B (rnum 3 (rnum 6 (rest, bad)).2).2.1 (rnum 3 (rnum 6 (rest, bad)).2).2.2 H2.out 1 1 rfl (by omega) (by omega)).mono ?_
  rintro e w3 ⟨rfl, hi, hk⟩
  have D3 := Aside0.mk (hk.blk D2.out HNE.out (by simp))
  have H3 := Aside0.mk hi
  have K3 := Aside0.mk (keep_then K2.out hk)
  clear hi hk
  have hcx := fun i => blk_cell D3.out i
  have hfx := fun i => blk_frozen D3.out i
  go_wp2
  refine bodyPost_ret (v := .agg #[.int .i64 (rnum 6 (rest, bad)).1, .int .i64 (rnum 3 (rnum 6 (rest, bad)).2).1, .int .i64 (rnum 1 (rnum 3 (rnum 6 (rest, bad)).2).2).1]) ?_ rfl ⟨rfl, ((((((H3.out).far HNE.out HZ.out 0 (.int .i64 (rnum 6 (rest, bad)).1))).far HNE.out HZ.out 1 (.int .i64 (rnum 3 (rnum 6 (rest, bad)).2).1))).far HNE.out HZ.out 2 (.int .i64 (rnum 1 (rnum 3 (rnum 6 (rest, bad)).2).2).1)), (keep_far ((keep_far ((keep_far (K3.out) (p := ⟨w.heap.size, 0, none⟩) (Nat.le_refl _) (.int .i64 (rnum 6 (rest, bad)).1))) (p := ⟨w.heap.size, 1, none⟩) (Nat.le_refl _) (.int .i64 (rnum 3 (rnum 6 (rest, bad)).2).1))) (p := ⟨w.heap.size, 2, none⟩) (Nat.le_refl _) (.int .i64 (rnum 1 (rnum 3 (rnum 6 (rest, bad)).2).2).1))⟩
  exact results_cell_row (p := 2) (ty := 48) rfl _ _ w.heap.size 48 #[.int .i64 (rnum 6 (rest, bad)).1, .int .i64 (rnum 3 (rnum 6 (rest, bad)).2).1, .int .i64 (rnum 1 (rnum 3 (rnum 6 (rest, bad)).2).2).1] (0, 0) _ rfl (blk_set (blk_set (blk_set D3.out 0 (.int .i64 (rnum 6 (rest, bad)).1)) 1 (.int .i64 (rnum 3 (rnum 6 (rest, bad)).2).1)) 2 (.int .i64 (rnum 1 (rnum 3 (rnum 6 (rest, bad)).2).2).1)) Tryz.underlying48 rfl (by kernel_rfl)
def rints : Nat → List Int × Bool → List Int × (List Int × Bool)
  | 0, st => ([], st)
  | k + 1, st => ((rints k st).1 ++ [(rnum 4 (rints k st).2).1], (rnum 4 (rints k st).2).2)
theorem rints_length (st : List Int × Bool) : ∀ k, (rints k st).1.length = k
  | 0 => rfl
  | k + 1 => by simp [rints, rints_length st k]
def rnums (st : List Int × Bool) : List Int × (List Int × Bool) := rints (rmany 1 5 st).1.toNat (rmany 1 5 st).2
theorem rmany_le (s : Nat) (m : Int) (h0 : 0 ≤ m) (st : List Int × Bool) : (rmany s m st).1 ≤ m := by
  unfold rmany; split
  · exact h0
  · omega
theorem IsR.grown {w0 W W1 : World} {g : Nat} {B rest : List Int} {bad : Bool} {row : Option Nat} (h : IsR w0 W g B rest bad) (hw : W.grownBy W1 row) (hr : row ≠ some g) (hb : ∀ k, row = some k → w0.heap.size ≤ k) : IsR w0 W1 g B rest bad := by
  obtain ⟨h0, hg, h2, h3, A, c, at_, hv, h4⟩ := h
  exact ⟨h0.grown hw (below_size h0) hb, hg, h2, h3, A, c, at_, blk_grown hv hw (fun e => hr e.symm), h4⟩
theorem keep_grown {w W W1 : World} {g : Nat} {row : Option Nat} (h : KeepBut w W g none) (hw : W.grownBy W1 row) (hb : ∀ k, row = some k → w.heap.size ≤ k) : KeepBut w W1 g none := by
  refine h.trans (KeepBut.of_grown hw g) ?_
  cases row with
  | none => exact .inl rfl
  | some b => exact .inr ⟨b, rfl, hb b rfl⟩
set_option maxHeartbeats 4000000 in
set_option maxRecDepth 100000 in
theorem R_nums (w0 w : World) (g : Nat) (B rest : List Int) (bad : Bool) (h : IsR w0 w g B rest bad) :
    Calls Tryz.prog 45 #[.pointer (some ⟨g, 0, none⟩)] w fun en w' => ∃ v, en = .returned v ∧ Kd.R (Kd.int .i64) 3 w' w.heap.size (fun k => k ≠ g) v (rnums (rest, bad)).1 ∧
      IsR w0 w' g B (rnums (rest, bad)).2.1 (rnums (rest, bad)).2.2 ∧ KeepBut w w' g none := by
  have hgl : g < w.heap.size := h.lt
  have HGL := Aside0.mk hgl
  have H0 := Aside0.mk h
  have HM := Aside0.mk (rmany_le 1 5 (by omega) (rest, bad))
  obtain ⟨q, hq⟩ : ∃ q, q = rmany 1 5 (rest, bad) := ⟨_, rfl⟩
  rw [← hq] at HM
  have HQ := Aside0.mk hq
  have HS := Aside0.mk (show rnums (rest, bad) = rints q.1.toNat q.2 from by rw [hq]; rfl)
  clear h hgl hq
  go_enter Tryz.func45, Tryz.ntmps45
  go_wp2_with fail
  refine (R_many w0 _ g B rest bad H0.out 1 5 1 rfl (by omega) (by omega)).mono ?_
  rintro e w1 ⟨rfl, hi, hk⟩
  rw [← HQ.out] at hi
  rw [← HQ.out]
  have H1 := Aside0.mk hi
  have K1 := Aside0.mk hk
  clear hi hk HQ
  go_wp2
  have HB0 := Aside0.mk (below_size H0.out.1)
  go_loopw [3, 6] (fun v3 v6 wr => ∃ k : Nat, k ≤ q.1.toNat ∧ v6 = .int .i64 k ∧ Aside0 (Kd.R (Kd.int .i64) 3 wr w.heap.size (fun k => k ≠ g) v3 (rints k q.2).1) ∧ Aside0 (IsR w0 wr g B (rints k q.2).2.1 (rints k q.2).2.2) ∧ Aside0 (KeepBut w wr g none)) (fun _ v6 _ => q.1.toNat - (intOf v6).toNat)
  case atStart => exact ⟨0, by omega, rfl, ⟨Kd.R_nil _ _ _ _ _⟩, H1, K1⟩
  case round =>
    obtain ⟨k, hk, rfl, HO, HI, HK⟩ := hrel
    have hkm : (k : Int) ≤ 5 := by have := HM.out; omega
    by_cases hlt : (k : Int) < q.1
    · go_wp2_with fail
      refine (R_num w0 _ g B _ _ HI.out 4 4 rfl (by omega) (by omega)).mono ?_
      rintro e w2 ⟨rfl, hi, hk2⟩
      have H2 := Aside0.mk hi
      have K2 := Aside0.mk (keep_then HK.out hk2)
      have O2 := Aside0.mk (Kd.R_keep HO.out hk2 (fun _ h => h))
      clear hi hk2
      obtain ⟨x, hx⟩ : ∃ x, x = (rnum 4 ((rints k q.2).2.1, (rints k q.2).2.2)).1 := ⟨_, rfl⟩
      obtain ⟨L, hL⟩ : ∃ L, L = (rints k q.2).1 := ⟨_, rfl⟩
      have HLn := Aside0.mk (show L.length = k by rw [hL, rints_length])
      have HT := Aside0.mk (show rints (k + 1) q.2 = (L ++ [x], (rnum 4 (rints k q.2).2).2) from by rw [hL, hx]; rfl)
      rw [← hL] at O2
      rw [← hx]
      clear hx hL
      go_wp2_with (first | ((with_reducible refine gate_builtin (b := .append) (xs := #[.tmp 8, .tmp 11]) rfl ?_); at_builtin; refine Kd.R_append (Kd.int .i64) (w0 := w2) w.heap.size rfl (.tmp 8) (.tmp 11) 23 3 (.int .i64 0) 8 rfl Tryz.underlying23 info3 rfl (by decide) (by omega) u3 L x [.int .i64 x] (fun k => k ≠ g) (fun _ => False) rfl rfl rfl (fun _ hk => hk.elim) (fun k hk e_ => by have := H2.out.lt; omega) O2.out (Below.refl _ _) K2.out.1 (by have := HLn.out; omega) ?_; intro v3 w3 ho hb hgw hat; have O3 := Aside0.mk ho; have H3 := Aside0.mk (H2.out.grown hgw (fun e_ => O2.out.1 g e_ rfl) (fun k hk => by have := Kd.R_base O2.out k hk; have := HB0.out; omega)); have K3 := Aside0.mk (keep_grown K2.out hgw (fun k hk => Kd.R_base O2.out k hk)); clear ho hb hgw hat))
      go_roundw
      case rel => exact ⟨k + 1, by omega, by go_num, by rw [HT.out]; exact O3, by rw [HT.out]; exact H3, K3⟩
      case measure => simp [intOf]; omega
    · obtain rfl : k = q.1.toNat := by omega
      have HE := Aside0.mk (show rnums (rest, bad) = rints q.1.toNat q.2 from HS.out)
      go_wp2
      go_ret
      rw [HE.out]
      exact ⟨_, rfl, HO.out, HI.out, HK.out⟩
def rdots : Nat → List Int × Bool → List Dt × (List Int × Bool)
  | 0, st => ([], st)
  | k + 1, st => ((rdots k st).1 ++ [(rdot (rdots k st).2).1], (rdot (rdots k st).2).2)
theorem rdots_length (st : List Int × Bool) : ∀ k, (rdots k st).1.length = k
  | 0 => rfl
  | k + 1 => by simp [rdots, rdots_length st k]
structure Head where
  kind : Int
  dot : Dt
  deps : List Int
  stamp : S48
  table : Int
  key : ByteArray
  col : Int
def rhead (st : List Int × Bool) : Head × (List Int × Bool) :=
  (⟨(rnum 1 st).1, (rdot (rnum 1 st).2).1, (rnums (rdot (rnum 1 st).2).2).1, (rstamp (rnums (rdot (rnum 1 st).2).2).2).1, (rnum 1 (rstamp (rnums (rdot (rnum 1 st).2).2).2).2).1,
    (rtext (rnum 1 (rstamp (rnums (rdot (rnum 1 st).2).2).2).2).2).1, (rnum 1 (rtext (rnum 1 (rstamp (rnums (rdot (rnum 1 st).2).2).2).2).2).2).1⟩, (rnum 1 (rtext (rnum 1 (rstamp (rnums (rdot (rnum 1 st).2).2).2).2).2).2).2)
def rdl (st : List Int × Bool) : List Dt × (List Int × Bool) := rdots (rmany 1 64 st).1.toNat (rmany 1 64 st).2
def mkOp (h : Head) (vs : List Val) (ds : List Dt) : Opr := ⟨h.dot, h.deps, h.stamp, h.kind, h.table, h.key, h.col, vs, ds⟩
def rtail (h : Head × (List Int × Bool)) : Option (List Val × List Int) → Opr × (List Int × Bool)
  | none => (z52, (h.2.1, true))
  | some (vs, tl) => if h.2.2 = true then (z52, (h.2.1, true)) else (mkOp h.1 vs (rdl (tl, false)).1, (rdl (tl, false)).2)
def rop (st : List Int × Bool) : Opr × (List Int × Bool) := rtail (rhead st) (rrow (rhead st).2.1)
theorem set12 {W : World} {b t : Nat} {a0 a1 a2 a3 a4 a5 a6 a7 a8 a9 a10 a11 : Value} (h : W.heap[b]? = some (.cells #[a0, a1, a2, a3, a4, a5, a6, a7, a8, a9, a10, a11] t (0, 0))) (c0 c1 c2 c3 c4 c5 c6 c7 c8 c9 c10 c11 : Value) :
    (((((((((((((W.setCell ⟨b, 0, none⟩ c0).setCell ⟨b, 1, none⟩ c1).setCell ⟨b, 2, none⟩ c2).setCell ⟨b, 3, none⟩ c3).setCell ⟨b, 4, none⟩ c4).setCell ⟨b, 5, none⟩ c5).setCell ⟨b, 6, none⟩ c6).setCell ⟨b, 7, none⟩ c7).setCell ⟨b, 8, none⟩ c8).setCell ⟨b, 9, none⟩ c9).setCell ⟨b, 10, none⟩ c10).setCell ⟨b, 11, none⟩ c11)).heap[b]? = some (.cells #[c0, c1, c2, c3, c4, c5, c6, c7, c8, c9, c10, c11] t (0, 0)) := by
  have h1 : (W.setCell ⟨b, 0, none⟩ c0).heap[b]? = some (.cells #[c0, a1, a2, a3, a4, a5, a6, a7, a8, a9, a10, a11] t (0, 0)) := blk_set h 0 c0
  have h2 : ((W.setCell ⟨b, 0, none⟩ c0).setCell ⟨b, 1, none⟩ c1).heap[b]? = some (.cells #[c0, c1, a2, a3, a4, a5, a6, a7, a8, a9, a10, a11] t (0, 0)) := blk_set h1 1 c1
  have h3 : (((W.setCell ⟨b, 0, none⟩ c0).setCell ⟨b, 1, none⟩ c1).setCell ⟨b, 2, none⟩ c2).heap[b]? = some (.cells #[c0, c1, c2, a3, a4, a5, a6, a7, a8, a9, a10, a11] t (0, 0)) := blk_set h2 2 c2
  have h4 : ((((W.setCell ⟨b, 0, none⟩ c0).setCell ⟨b, 1, none⟩ c1).setCell ⟨b, 2, none⟩ c2).setCell ⟨b, 3, none⟩ c3).heap[b]? = some (.cells #[c0, c1, c2, c3, a4, a5, a6, a7, a8, a9, a10, a11] t (0, 0)) := blk_set h3 3 c3
  have h5 : (((((W.setCell ⟨b, 0, none⟩ c0).setCell ⟨b, 1, none⟩ c1).setCell ⟨b, 2, none⟩ c2).setCell ⟨b, 3, none⟩ c3).setCell ⟨b, 4, none⟩ c4).heap[b]? = some (.cells #[c0, c1, c2, c3, c4, a5, a6, a7, a8, a9, a10, a11] t (0, 0)) := blk_set h4 4 c4
  have h6 : ((((((W.setCell ⟨b, 0, none⟩ c0).setCell ⟨b, 1, none⟩ c1).setCell ⟨b, 2, none⟩ c2).setCell ⟨b, 3, none⟩ c3).setCell ⟨b, 4, none⟩ c4).setCell ⟨b, 5, none⟩ c5).heap[b]? = some (.cells #[c0, c1, c2, c3, c4, c5, a6, a7, a8, a9, a10, a11] t (0, 0)) := blk_set h5 5 c5
  have h7 : (((((((W.setCell ⟨b, 0, none⟩ c0).setCell ⟨b, 1, none⟩ c1).setCell ⟨b, 2, none⟩ c2).setCell ⟨b, 3, none⟩ c3).setCell ⟨b, 4, none⟩ c4).setCell ⟨b, 5, none⟩ c5).setCell ⟨b, 6, none⟩ c6).heap[b]? = some (.cells #[c0, c1, c2, c3, c4, c5, c6, a7, a8, a9, a10, a11] t (0, 0)) := blk_set h6 6 c6
  have h8 : ((((((((W.setCell ⟨b, 0, none⟩ c0).setCell ⟨b, 1, none⟩ c1).setCell ⟨b, 2, none⟩ c2).setCell ⟨b, 3, none⟩ c3).setCell ⟨b, 4, none⟩ c4).setCell ⟨b, 5, none⟩ c5).setCell ⟨b, 6, none⟩ c6).setCell ⟨b, 7, none⟩ c7).heap[b]? = some (.cells #[c0, c1, c2, c3, c4, c5, c6, c7, a8, a9, a10, a11] t (0, 0)) := blk_set h7 7 c7
  have h9 : (((((((((W.setCell ⟨b, 0, none⟩ c0).setCell ⟨b, 1, none⟩ c1).setCell ⟨b, 2, none⟩ c2).setCell ⟨b, 3, none⟩ c3).setCell ⟨b, 4, none⟩ c4).setCell ⟨b, 5, none⟩ c5).setCell ⟨b, 6, none⟩ c6).setCell ⟨b, 7, none⟩ c7).setCell ⟨b, 8, none⟩ c8).heap[b]? = some (.cells #[c0, c1, c2, c3, c4, c5, c6, c7, c8, a9, a10, a11] t (0, 0)) := blk_set h8 8 c8
  have h10 : ((((((((((W.setCell ⟨b, 0, none⟩ c0).setCell ⟨b, 1, none⟩ c1).setCell ⟨b, 2, none⟩ c2).setCell ⟨b, 3, none⟩ c3).setCell ⟨b, 4, none⟩ c4).setCell ⟨b, 5, none⟩ c5).setCell ⟨b, 6, none⟩ c6).setCell ⟨b, 7, none⟩ c7).setCell ⟨b, 8, none⟩ c8).setCell ⟨b, 9, none⟩ c9).heap[b]? = some (.cells #[c0, c1, c2, c3, c4, c5, c6, c7, c8, c9, a10, a11] t (0, 0)) := blk_set h9 9 c9
  have h11 : (((((((((((W.setCell ⟨b, 0, none⟩ c0).setCell ⟨b, 1, none⟩ c1).setCell ⟨b, 2, none⟩ c2).setCell ⟨b, 3, none⟩ c3).setCell ⟨b, 4, none⟩ c4).setCell ⟨b, 5, none⟩ c5).setCell ⟨b, 6, none⟩ c6).setCell ⟨b, 7, none⟩ c7).setCell ⟨b, 8, none⟩ c8).setCell ⟨b, 9, none⟩ c9).setCell ⟨b, 10, none⟩ c10).heap[b]? = some (.cells #[c0, c1, c2, c3, c4, c5, c6, c7, c8, c9, c10, a11] t (0, 0)) := blk_set h10 10 c10
  have h12 : ((((((((((((W.setCell ⟨b, 0, none⟩ c0).setCell ⟨b, 1, none⟩ c1).setCell ⟨b, 2, none⟩ c2).setCell ⟨b, 3, none⟩ c3).setCell ⟨b, 4, none⟩ c4).setCell ⟨b, 5, none⟩ c5).setCell ⟨b, 6, none⟩ c6).setCell ⟨b, 7, none⟩ c7).setCell ⟨b, 8, none⟩ c8).setCell ⟨b, 9, none⟩ c9).setCell ⟨b, 10, none⟩ c10).setCell ⟨b, 11, none⟩ c11).heap[b]? = some (.cells #[c0, c1, c2, c3, c4, c5, c6, c7, c8, c9, c10, c11] t (0, 0)) := blk_set h11 11 c11
  exact h12
theorem rinfo46 : (Tryz.prog.info? 46).map (fun i => (i.zero, i.size, i.bytes)) = some (some (.agg #[.int .i64 0, .int .i64 0]), 2, 16) := by kernel_rfl
theorem heap_set {W1 W : World} {k b i : Nat} {u : Value} (h : W1.heap[k]? = W.heap[k]?) (hk : k ≠ b) : (W1.setCell ⟨b, i, none⟩ u).heap[k]? = W.heap[k]? := (Below.heap_setCell W1 ⟨b, i, none⟩ u k hk).trans h
theorem Kd.R_elder0 {α : Type} {d : Kd α} {e : Nat} {w w1 : World} {v : Value} {xs : List α} {g : Nat} (h : Kd.R d e w1 w.heap.size (fun _ => True) v xs) (hg : g < w.heap.size) : Kd.R d e w1 w.heap.size (fun k => k ≠ g) v xs :=
  Kd.R_mono (Kd.R_bound h) (fun k hk => by have := hk.2.1; omega)
set_option maxHeartbeats 8000000 in
set_option maxRecDepth 100000 in
theorem R_op (w0 w : World) (g : Nat) (B rest : List Int) (bad : Bool) (h : IsR w0 w g B rest bad) :
    Calls Tryz.prog 46 #[.pointer (some ⟨g, 0, none⟩)] w fun en w' => ∃ cs : List Value, en = .returned (.agg cs.toArray) ∧ k52.M w' w.heap.size (fun k => k ≠ g) (rop (rest, bad)).1 cs ∧
      IsR w0 w' g B (rop (rest, bad)).2.1 (rop (rest, bad)).2.2 ∧ KeepBut w w' g none := by
  have hgl : g < w.heap.size := h.lt
  have hne : w.heap.size ≠ g := by omega
  have H0 := Aside0.mk (h.alloc (.cells #[.int .i64 0, .int .i64 0, .slice none 0 0, .int .i64 0, .int .i64 0, .int .i64 0, .int .i64 0, .int .i64 0, .string ⟨#[]⟩, .int .i64 0, .slice none 0 0, .slice none 0 0] 52))
  have K0 := Aside0.mk (keep_alloc (KeepBut.refl w g none) (.cells #[.int .i64 0, .int .i64 0, .slice none 0 0, .int .i64 0, .int .i64 0, .int .i64 0, .int .i64 0, .int .i64 0, .string ⟨#[]⟩, .int .i64 0, .slice none 0 0, .slice none 0 0] 52))
  have D0 := Aside0.mk (heap_alloc_new w (.cells #[.int .i64 0, .int .i64 0, .slice none 0 0, .int .i64 0, .int .i64 0, .int .i64 0, .int .i64 0, .int .i64 0, .string ⟨#[]⟩, .int .i64 0, .slice none 0 0, .slice none 0 0] 52))
  have HNE := Aside0.mk hne
  have HB0 := Aside0.mk (below_size h.1)
  clear h hgl hne
  obtain ⟨q1, hq1⟩ : ∃ q, q = rnum 1 (rest, bad) := ⟨_, rfl⟩
  obtain ⟨q2, hq2⟩ : ∃ q, q = rdot (q1.2.1, q1.2.2) := ⟨_, rfl⟩
  obtain ⟨q3, hq3⟩ : ∃ q, q = rnums (q2.2.1, q2.2.2) := ⟨_, rfl⟩
  obtain ⟨q4, hq4⟩ : ∃ q, q = rstamp (q3.2.1, q3.2.2) := ⟨_, rfl⟩
  obtain ⟨q5, hq5⟩ : ∃ q, q = rnum 1 (q4.2.1, q4.2.2) := ⟨_, rfl⟩
  obtain ⟨q6, hq6⟩ : ∃ q, q = rtext (q5.2.1, q5.2.2) := ⟨_, rfl⟩
  obtain ⟨q7, hq7⟩ : ∃ q, q = rnum 1 (q6.2.1, q6.2.2) := ⟨_, rfl⟩
  have HS := Aside0.mk (show rop (rest, bad) = rtail (⟨q1.1, q2.1, q3.1, q4.1, q5.1, q6.1, q7.1⟩, q7.2) (rrow q7.2.1) from by rw [hq7, hq6, hq5, hq4, hq3, hq2, hq1]; rfl)
  have HQ1 := Aside0.mk hq1
  have HQ2 := Aside0.mk hq2
  have HQ3 := Aside0.mk hq3
  have HQ4 := Aside0.mk hq4
  have HQ5 := Aside0.mk hq5
  have HQ6 := Aside0.mk hq6
  have HQ7 := Aside0.mk hq7
  clear hq1 hq2 hq3 hq4 hq5 hq6 hq7
  go_enter Tryz.func46, Tryz.ntmps46
  go_wp2_with fail
  refine (R_num w0 _ g B rest bad H0.out 1 1 rfl (by omega) (by omega)).mono ?_
  rintro e w1 ⟨rfl, hi, hk⟩
  rw [← HQ1.out] at hi
  rw [← HQ1.out]
  have D1 := Aside0.mk (hk.blk D0.out HNE.out (by simp))
  have H1 := Aside0.mk hi
  have K1 := Aside0.mk (keep_then K0.out hk)
  clear hi hk HQ1
  go_wp2_with fail
  refine (R_dot w0 _ g B q1.2.1 q1.2.2 H1.out).mono ?_
  rintro e w2 ⟨rfl, hi, hk⟩
  rw [← HQ2.out] at hi
  rw [← HQ2.out]
  have D2 := Aside0.mk (hk.blk D1.out HNE.out (by simp))
  have H2 := Aside0.mk hi
  have K2 := Aside0.mk (keep_then K1.out hk)
  clear hi hk HQ2
  go_wp2_with fail
  refine (R_nums w0 _ g B q2.2.1 q2.2.2 H2.out).mono ?_
  rintro e w3 ⟨v, rfl, ho, hi, hk⟩
  rw [← HQ3.out] at hi ho
  obtain ⟨Ad, cd, rfl⟩ := Kd.R_slice ho
  have O3 := Aside0.mk (Kd.R_lower ho (keep_size K2.out))
  have D3 := Aside0.mk (hk.blk D2.out HNE.out (by simp))
  have H3 := Aside0.mk hi
  have K3 := Aside0.mk (keep_then K2.out hk)
  clear hi hk HQ3 ho
  go_wp2_with fail
  refine (R_stamp w0 _ g B q3.2.1 q3.2.2 H3.out).mono ?_
  rintro e w4 ⟨rfl, hi, hk⟩
  rw [← HQ4.out] at hi
  rw [← HQ4.out]
  have O4 := Aside0.mk (Kd.R_keep O3.out hk (fun _ h => h))
  have D4 := Aside0.mk (hk.blk D3.out HNE.out (by simp))
  have H4 := Aside0.mk hi
  have K4 := Aside0.mk (keep_then K3.out hk)
  clear hi hk HQ4
  go_wp2_with fail
  refine (R_num w0 _ g B q4.2.1 q4.2.2 H4.out 1 1 rfl (by omega) (by omega)).mono ?_
  rintro e w5 ⟨rfl, hi, hk⟩
  rw [← HQ5.out] at hi
  rw [← HQ5.out]
  have O5 := Aside0.mk (Kd.R_keep O4.out hk (fun _ h => h))
  have D5 := Aside0.mk (hk.blk D4.out HNE.out (by simp))
  have H5 := Aside0.mk hi
  have K5 := Aside0.mk (keep_then K4.out hk)
  clear hi hk HQ5
  go_wp2_with fail
  refine (R_text w0 _ g B q5.2.1 q5.2.2 H5.out).mono ?_
  rintro e w6 ⟨rfl, hi, hk⟩
  rw [← HQ6.out] at hi
  rw [← HQ6.out]
  have O6 := Aside0.mk (Kd.R_keep O5.out hk (fun _ h => h))
  have D6 := Aside0.mk (hk.blk D5.out HNE.out (by simp))
  have H6 := Aside0.mk hi
  have K6 := Aside0.mk (keep_then K5.out hk)
  clear hi hk HQ6
  go_wp2_with fail
  refine (R_num w0 _ g B q6.2.1 q6.2.2 H6.out 1 1 rfl (by omega) (by omega)).mono ?_
  rintro e w7 ⟨rfl, hi, hk⟩
  rw [← HQ7.out] at hi
  rw [← HQ7.out]
  have O7 := Aside0.mk (Kd.R_keep O6.out hk (fun _ h => h))
  have D7 := Aside0.mk (hk.blk D6.out HNE.out (by simp))
  have H7 := Aside0.mk hi
  have K7 := Aside0.mk (keep_then K6.out hk)
  clear hi hk HQ7
  go_wp2
  have K8 := Aside0.mk (keep_alloc K7.out (.cells #[.int .i64 q2.1.f0, .int .i64 q2.1.f1, .slice Ad q3.1.length cd, .int .i64 q4.1.f0, .int .i64 q4.1.f1, .int .i64 q4.1.f2, .int .i64 q1.1, .int .i64 q5.1, .string q6.1, .int .i64 q7.1, .slice none 0 0, .slice none 0 0] 52))
  have H8 := Aside0.mk (H7.out.alloc (.cells #[.int .i64 q2.1.f0, .int .i64 q2.1.f1, .slice Ad q3.1.length cd, .int .i64 q4.1.f0, .int .i64 q4.1.f1, .int .i64 q4.1.f2, .int .i64 q1.1, .int .i64 q5.1, .string q6.1, .int .i64 q7.1, .slice none 0 0, .slice none 0 0] 52))
  have X8 := Aside0.mk (heap_alloc_new w7 (.cells #[.int .i64 q2.1.f0, .int .i64 q2.1.f1, .slice Ad q3.1.length cd, .int .i64 q4.1.f0, .int .i64 q4.1.f1, .int .i64 q4.1.f2, .int .i64 q1.1, .int .i64 q5.1, .string q6.1, .int .i64 q7.1, .slice none 0 0, .slice none 0 0] 52))
  have D8 := Aside0.mk (blk_below D7.out (below_alloc (Below.refl _ w7) (.cells #[.int .i64 q2.1.f0, .int .i64 q2.1.f1, .slice Ad q3.1.length cd, .int .i64 q4.1.f0, .int .i64 q4.1.f1, .int .i64 q4.1.f2, .int .i64 q1.1, .int .i64 q5.1, .string q6.1, .int .i64 q7.1, .slice none 0 0, .slice none 0 0] 52)))
  have O8 := Aside0.mk (Kd.R_alloc O7.out (.cells #[.int .i64 q2.1.f0, .int .i64 q2.1.f1, .slice Ad q3.1.length cd, .int .i64 q4.1.f0, .int .i64 q4.1.f1, .int .i64 q4.1.f2, .int .i64 q1.1, .int .i64 q5.1, .string q6.1, .int .i64 q7.1, .slice none 0 0, .slice none 0 0] 52))
  have hxg : w7.heap.size ≠ g := by have := H7.out.lt; omega
  have hxr : w7.heap.size ≠ w.heap.size := by have := blk_lt D7.out; omega
  have hxw : w.heap.size ≤ w7.heap.size := keep_size K7.out
  obtain ⟨w8, hw8⟩ : ∃ w8, w8 = w7.alloc (.cells #[.int .i64 q2.1.f0, .int .i64 q2.1.f1, .slice Ad q3.1.length cd, .int .i64 q4.1.f0, .int .i64 q4.1.f1, .int .i64 q4.1.f2, .int .i64 q1.1, .int .i64 q5.1, .string q6.1, .int .i64 q7.1, .slice none 0 0, .slice none 0 0] 52) := ⟨_, rfl⟩
  rw [← hw8] at K8 H8 X8 D8 O8
  rw [← hw8]
  obtain ⟨xb, hxb⟩ : ∃ xb, xb = w7.heap.size := ⟨_, rfl⟩
  rw [← hxb] at X8 hxg hxr hxw
  rw [← hxb]
  have HXG := Aside0.mk hxg
  have HXR := Aside0.mk hxr
  have HXW := Aside0.mk hxw
  clear hw8 hxb hxg hxr hxw K7 H7 D7 O7 D0 D1 D2 D3 D4 D5 D6 H0 H1 H2 H3 H4 H5 H6 K0 K1 K2 K3 K4 K5 K6 O3 O4 O5 O6
  obtain ⟨h0, hg, h2, h3, A, c, at_, hv, hC, hc, ha, hd⟩ := H8.out
  have HP : ∃ r1 r2 r3, row_Read.f 100 B (at_ : Int) = some (r1, r2, r3) ∧ ((rrow q7.2.1 = none ∧ r3 ≠ 0) ∨ (∃ (tl : List Int) (at1 : Nat), rrow q7.2.1 = some (r1, tl) ∧ at1 ≤ B.length ∧ B.drop at1 = tl ∧ r2 = (at1 : Int) ∧ r3 = 0)) := by
    rcases rowRead_eq B q7.2.1 at_ h2 h3 ha hd 100 (by omega) with ⟨e0, e, he, e1⟩ | ⟨vs, tl, at1, e0, g1, g2, e1⟩
    · exact ⟨_, _, _, e1, .inl ⟨e0, he⟩⟩
    · exact ⟨_, _, _, e1, .inr ⟨tl, at1, e0, g1, g2, rfl, rfl⟩⟩
  obtain ⟨r1, r2, r3, hp, hr⟩ := HP
  have HP := Aside0.mk hp
  have HR := Aside0.mk hr
  have HC := Aside0.mk (Kd.C_below hC h0)
  have HC0 := Aside0.mk hC
  have Hc := Aside0.mk hc
  have HH := Aside0.mk h0
  have Hg := Aside0.mk hg
  have Hb := Aside0.mk h2
  have Hl := Aside0.mk h3
  have Hv := Aside0.mk hv
  have Ha := Aside0.mk ha
  have Hd := Aside0.mk hd
  have hs0 : w8.cell? ⟨g, 0, none⟩ = some (.slice A B.length c) := (blk_cell hv 0).trans rfl
  have hs1 : w8.cell? ⟨g, 1, none⟩ = some (.int .i64 (at_ : Int)) := (blk_cell hv 1).trans rfl
  clear h0 hg h2 h3 hv hC hc ha hd hp hr
  go_region_held3 (fun w' => w'.cell? ⟨g, 0, none⟩ = some (.slice A B.length c) ∧ w'.cell? ⟨g, 1, none⟩ = some (.int .i64 (at_ : Int))) (first | exact ⟨hs0, hs1⟩ | exact ⟨ht0, ht1⟩)
    (first | (go_at_call 89; refine (row_Read.calls 100 A c B (at_ : Int) r1 r2 r3 _ (Kd.C_below HC.out (by first | exact Below.refl _ _ | exact below_drew (Below.refl _ _) | exact pw_below_drewN (Below.refl _ _) _)) Hc.out HP.out).mono ?_; rintro e w9 ⟨v9, rfl, ho, hb⟩; obtain ⟨A9, c9, rfl⟩ := Kd.R_slice ho; have HB9 := Aside0.mk (show Below w8.heap.size w8 w9 from below_step (below_drew (Below.refl _ w8)) hb); have O9 := Aside0.mk (show Kd.R k92 92 w9 w8.heap.size (fun _ => True) (.slice A9 r1.length c9) r1 from ho); clear ho hb; have ht0 := pw_cell_below HB9.out hs0; have ht1 := pw_cell_below HB9.out hs1))
  have Hv9 := Aside0.mk (blk_below Hv.out HB9.out)
  have D9 := Aside0.mk (blk_below D8.out HB9.out)
  have X9 := Aside0.mk (blk_below X8.out HB9.out)
  have OD9 := Aside0.mk (Kd.R_below O8.out HB9.out)
  have H9 := Aside0.mk (H8.out.below HB9.out)
  have K9 := Aside0.mk (keep_then K8.out (KeepBut.of_below (row := none) HB9.out g))
  have OV9 := Aside0.mk (Kd.R_lower (Kd.R_elder0 O9.out H8.out.lt) (keep_size K8.out))
  have he2 : w9.cell? ⟨g, 2, none⟩ = some (.bool q7.2.2) := (blk_cell Hv9.out 2).trans rfl
  have hf1 := blk_frozen Hv9.out 1
  have hf2 := blk_frozen Hv9.out 2
  have hdc := fun i => blk_cell D9.out i
  have hdf := fun i => blk_frozen D9.out i
  have hxc := fun i => blk_cell X9.out i
  have hxf := fun i => blk_frozen X9.out i
  have hgr : g ≠ w.heap.size := fun e_ => HNE.out e_.symm
  clear hs0 hs1 HP
  obtain ⟨qb, hqb⟩ : ∃ qb, qb = q7.2.2 := ⟨_, rfl⟩
  have HQB := Aside0.mk hqb
  rw [← hqb] at he2 H9 Hv9
  clear hqb H8 O8 X8 D8 K8 O9 Hv
  rcases HR.out with ⟨hn, h3⟩ | ⟨tl, at1, hn, g1, g2, rfl, rfl⟩
  · have HN := Aside0.mk (show rtail (⟨q1.1, q2.1, q3.1, q4.1, q5.1, q6.1, q7.1⟩, q7.2) (rrow q7.2.1) = (z52, (q7.2.1, true)) from by rw [hn]; rfl)
    have h3b : (r3 != 0) = true := bne_iff_ne.2 h3
    clear h3 hn HR
    rcases bad_cases qb with rfl | rfl
    · go_wp2
      rw [HS.out, HN.out]
      refine bodyPost_ret (v := .agg #[.int .i64 0, .int .i64 0, .slice none 0 0, .int .i64 0, .int .i64 0, .int .i64 0, .int .i64 0, .int .i64 0, .string ⟨#[]⟩, .int .i64 0, .slice none 0 0, .slice none 0 0]) ?_ rfl ⟨[.int .i64 0, .int .i64 0, .slice none 0 0, .int .i64 0, .int .i64 0, .int .i64 0, .int .i64 0, .int .i64 0, .string ⟨#[]⟩, .int .i64 0, .slice none 0 0, .slice none 0 0], rfl, (k52_mkM _ _ _ z52 (Kd.R_nil _ _ _ _ _) (Kd.R_nil _ _ _ _ _) (Kd.R_nil _ _ _ _ _)), (((((((((((((((((((((((((IsR.bad H9.out)).far HNE.out HB0.out 0 (.int .i64 0))).far HNE.out HB0.out 1 (.int .i64 0))).far HNE.out HB0.out 2 (.slice none 0 0))).far HNE.out HB0.out 3 (.int .i64 0))).far HNE.out HB0.out 4 (.int .i64 0))).far HNE.out HB0.out 5 (.int .i64 0))).far HNE.out HB0.out 6 (.int .i64 0))).far HNE.out HB0.out 7 (.int .i64 0))).far HNE.out HB0.out 8 (.string ⟨#[]⟩))).far HNE.out HB0.out 9 (.int .i64 0))).far HNE.out HB0.out 10 (.slice none 0 0))).far HNE.out HB0.out 11 (.slice none 0 0)), (keep_far ((keep_far ((keep_far ((keep_far ((keep_far ((keep_far ((keep_far ((keep_far ((keep_far ((keep_far ((keep_far ((keep_far ((K9.out.set_ 2 (.bool true))) (p := ⟨w.heap.size, 0, none⟩) (Nat.le_refl _) (.int .i64 0))) (p := ⟨w.heap.size, 1, none⟩) (Nat.le_refl _) (.int .i64 0))) (p := ⟨w.heap.size, 2, none⟩) (Nat.le_refl _) (.slice none 0 0))) (p := ⟨w.heap.size, 3, none⟩) (Nat.le_refl _) (.int .i64 0))) (p := ⟨w.heap.size, 4, none⟩) (Nat.le_refl _) (.int .i64 0))) (p := ⟨w.heap.size, 5, none⟩) (Nat.le_refl _) (.int .i64 0))) (p := ⟨w.heap.size, 6, none⟩) (Nat.le_refl _) (.int .i64 0))) (p := ⟨w.heap.size, 7, none⟩) (Nat.le_refl _) (.int .i64 0))) (p := ⟨w.heap.size, 8, none⟩) (Nat.le_refl _) (.string ⟨#[]⟩))) (p := ⟨w.heap.size, 9, none⟩) (Nat.le_refl _) (.int .i64 0))) (p := ⟨w.heap.size, 10, none⟩) (Nat.le_refl _) (.slice none 0 0))) (p := ⟨w.heap.size, 11, none⟩) (Nat.le_refl _) (.slice none 0 0))⟩
      exact results_cell_row (p := 2) (ty := 52) rfl _ _ w.heap.size 52 #[.int .i64 0, .int .i64 0, .slice none 0 0, .int .i64 0, .int .i64 0, .int .i64 0, .int .i64 0, .int .i64 0, .string ⟨#[]⟩, .int .i64 0, .slice none 0 0, .slice none 0 0] (0, 0) _ rfl (set12 ((Below.heap_setCell w9 ⟨g, 2, none⟩ (.bool true) w.heap.size HNE.out).trans D9.out) _ _ _ _ _ _ _ _ _ _ _ _) Tryz.underlying52 rfl (by kernel_rfl)
    · go_wp2
      rw [HS.out, HN.out]
      refine bodyPost_ret (v := .agg #[.int .i64 0, .int .i64 0, .slice none 0 0, .int .i64 0, .int .i64 0, .int .i64 0, .int .i64 0, .int .i64 0, .string ⟨#[]⟩, .int .i64 0, .slice none 0 0, .slice none 0 0]) ?_ rfl ⟨[.int .i64 0, .int .i64 0, .slice none 0 0, .int .i64 0, .int .i64 0, .int .i64 0, .int .i64 0, .int .i64 0, .string ⟨#[]⟩, .int .i64 0, .slice none 0 0, .slice none 0 0], rfl, (k52_mkM _ _ _ z52 (Kd.R_nil _ _ _ _ _) (Kd.R_nil _ _ _ _ _) (Kd.R_nil _ _ _ _ _)), (((((((((((((((((((((((((IsR.bad H9.out)).far HNE.out HB0.out 0 (.int .i64 0))).far HNE.out HB0.out 1 (.int .i64 0))).far HNE.out HB0.out 2 (.slice none 0 0))).far HNE.out HB0.out 3 (.int .i64 0))).far HNE.out HB0.out 4 (.int .i64 0))).far HNE.out HB0.out 5 (.int .i64 0))).far HNE.out HB0.out 6 (.int .i64 0))).far HNE.out HB0.out 7 (.int .i64 0))).far HNE.out HB0.out 8 (.string ⟨#[]⟩))).far HNE.out HB0.out 9 (.int .i64 0))).far HNE.out HB0.out 10 (.slice none 0 0))).far HNE.out HB0.out 11 (.slice none 0 0)), (keep_far ((keep_far ((keep_far ((keep_far ((keep_far ((keep_far ((keep_far ((keep_far ((keep_far ((keep_far ((keep_far ((keep_far ((K9.out.set_ 2 (.bool true))) (p := ⟨w.heap.size, 0, none⟩) (Nat.le_refl _) (.int .i64 0))) (p := ⟨w.heap.size, 1, none⟩) (Nat.le_refl _) (.int .i64 0))) (p := ⟨w.heap.size, 2, none⟩) (Nat.le_refl _) (.slice none 0 0))) (p := ⟨w.heap.size, 3, none⟩) (Nat.le_refl _) (.int .i64 0))) (p := ⟨w.heap.size, 4, none⟩) (Nat.le_refl _) (.int .i64 0))) (p := ⟨w.heap.size, 5, none⟩) (Nat.le_refl _) (.int .i64 0))) (p := ⟨w.heap.size, 6, none⟩) (Nat.le_refl _) (.int .i64 0))) (p := ⟨w.heap.size, 7, none⟩) (Nat.le_refl _) (.int .i64 0))) (p := ⟨w.heap.size, 8, none⟩) (Nat.le_refl _) (.string ⟨#[]⟩))) (p := ⟨w.heap.size, 9, none⟩) (Nat.le_refl _) (.int .i64 0))) (p := ⟨w.heap.size, 10, none⟩) (Nat.le_refl _) (.slice none 0 0))) (p := ⟨w.heap.size, 11, none⟩) (Nat.le_refl _) (.slice none 0 0))⟩
      exact results_cell_row (p := 2) (ty := 52) rfl _ _ w.heap.size 52 #[.int .i64 0, .int .i64 0, .slice none 0 0, .int .i64 0, .int .i64 0, .int .i64 0, .int .i64 0, .int .i64 0, .string ⟨#[]⟩, .int .i64 0, .slice none 0 0, .slice none 0 0] (0, 0) _ rfl (set12 ((Below.heap_setCell w9 ⟨g, 2, none⟩ (.bool true) w.heap.size HNE.out).trans D9.out) _ _ _ _ _ _ _ _ _ _ _ _) Tryz.underlying52 rfl (by kernel_rfl)
  · have HG := Aside0.mk (show at1 ≤ B.length ∧ B.drop at1 = tl from ⟨g1, g2⟩)
    have HN := Aside0.mk hn
    clear hn g1 g2 HR
    rcases bad_cases qb with rfl | rfl
    · have HM := Aside0.mk (show rtail (⟨q1.1, q2.1, q3.1, q4.1, q5.1, q6.1, q7.1⟩, q7.2) (rrow q7.2.1) = (z52, (q7.2.1, true)) from by rw [HN.out]; exact if_pos HQB.out.symm)
      go_wp2
      rw [HS.out, HM.out]
      refine bodyPost_ret (v := .agg #[.int .i64 0, .int .i64 0, .slice none 0 0, .int .i64 0, .int .i64 0, .int .i64 0, .int .i64 0, .int .i64 0, .string ⟨#[]⟩, .int .i64 0, .slice none 0 0, .slice none 0 0]) ?_ rfl ⟨[.int .i64 0, .int .i64 0, .slice none 0 0, .int .i64 0, .int .i64 0, .int .i64 0, .int .i64 0, .int .i64 0, .string ⟨#[]⟩, .int .i64 0, .slice none 0 0, .slice none 0 0], rfl, (k52_mkM _ _ _ z52 (Kd.R_nil _ _ _ _ _) (Kd.R_nil _ _ _ _ _) (Kd.R_nil _ _ _ _ _)), (((((((((((((((((((((((((IsR.bad H9.out)).far HNE.out HB0.out 0 (.int .i64 0))).far HNE.out HB0.out 1 (.int .i64 0))).far HNE.out HB0.out 2 (.slice none 0 0))).far HNE.out HB0.out 3 (.int .i64 0))).far HNE.out HB0.out 4 (.int .i64 0))).far HNE.out HB0.out 5 (.int .i64 0))).far HNE.out HB0.out 6 (.int .i64 0))).far HNE.out HB0.out 7 (.int .i64 0))).far HNE.out HB0.out 8 (.string ⟨#[]⟩))).far HNE.out HB0.out 9 (.int .i64 0))).far HNE.out HB0.out 10 (.slice none 0 0))).far HNE.out HB0.out 11 (.slice none 0 0)), (keep_far ((keep_far ((keep_far ((keep_far ((keep_far ((keep_far ((keep_far ((keep_far ((keep_far ((keep_far ((keep_far ((keep_far ((K9.out.set_ 2 (.bool true))) (p := ⟨w.heap.size, 0, none⟩) (Nat.le_refl _) (.int .i64 0))) (p := ⟨w.heap.size, 1, none⟩) (Nat.le_refl _) (.int .i64 0))) (p := ⟨w.heap.size, 2, none⟩) (Nat.le_refl _) (.slice none 0 0))) (p := ⟨w.heap.size, 3, none⟩) (Nat.le_refl _) (.int .i64 0))) (p := ⟨w.heap.size, 4, none⟩) (Nat.le_refl _) (.int .i64 0))) (p := ⟨w.heap.size, 5, none⟩) (Nat.le_refl _) (.int .i64 0))) (p := ⟨w.heap.size, 6, none⟩) (Nat.le_refl _) (.int .i64 0))) (p := ⟨w.heap.size, 7, none⟩) (Nat.le_refl _) (.int .i64 0))) (p := ⟨w.heap.size, 8, none⟩) (Nat.le_refl _) (.string ⟨#[]⟩))) (p := ⟨w.heap.size, 9, none⟩) (Nat.le_refl _) (.int .i64 0))) (p := ⟨w.heap.size, 10, none⟩) (Nat.le_refl _) (.slice none 0 0))) (p := ⟨w.heap.size, 11, none⟩) (Nat.le_refl _) (.slice none 0 0))⟩
      exact results_cell_row (p := 2) (ty := 52) rfl _ _ w.heap.size 52 #[.int .i64 0, .int .i64 0, .slice none 0 0, .int .i64 0, .int .i64 0, .int .i64 0, .int .i64 0, .int .i64 0, .string ⟨#[]⟩, .int .i64 0, .slice none 0 0, .slice none 0 0] (0, 0) _ rfl (set12 ((Below.heap_setCell w9 ⟨g, 2, none⟩ (.bool true) w.heap.size HNE.out).trans D9.out) _ _ _ _ _ _ _ _ _ _ _ _) Tryz.underlying52 rfl (by kernel_rfl)
    · have HX0 := Aside0.mk (show g ≠ xb from fun e_ => HXG.out e_.symm)
      have HRX := Aside0.mk (show w.heap.size ≠ xb from fun e_ => HXR.out e_.symm)
      obtain ⟨q8, hq8⟩ : ∃ q, q = rmany 1 64 (tl, false) := ⟨_, rfl⟩
      have HM8 := Aside0.mk (show q8.1 ≤ 64 from by rw [hq8]; exact rmany_le 1 64 (by omega) (tl, false))
      have HQ8 := Aside0.mk hq8
      have HE := Aside0.mk (show rtail (⟨q1.1, q2.1, q3.1, q4.1, q5.1, q6.1, q7.1⟩, q7.2) (rrow q7.2.1) = (mkOp ⟨q1.1, q2.1, q3.1, q4.1, q5.1, q6.1, q7.1⟩ r1 (rdots q8.1.toNat q8.2).1, (rdots q8.1.toNat q8.2).2) from by rw [HN.out, hq8]; exact if_neg (by rw [← HQB.out]; exact Bool.false_ne_true))
      clear hq8
      have H10 := Aside0.mk (IsR.go (bad := false) (x := (at_ : Int)) (below_set H9.out.1 (by have := HXW.out; have := HB0.out; omega)) Hg.out Hb.out Hl.out ((Below.heap_setCell w9 ⟨xb, 10, none⟩ (.slice A9 r1.length c9) g HX0.out).trans Hv9.out) HC0.out Hc.out HG.out.1 HG.out.2)
      have D10 := Aside0.mk ((Below.heap_setCell (w9.setCell ⟨xb, 10, none⟩ (.slice A9 r1.length c9)) ⟨g, 1, none⟩ (.int .i64 (at1 : Int)) w.heap.size HNE.out).trans ((Below.heap_setCell w9 ⟨xb, 10, none⟩ (.slice A9 r1.length c9) w.heap.size HRX.out).trans D9.out))
      have X10 := Aside0.mk ((Below.heap_setCell (w9.setCell ⟨xb, 10, none⟩ (.slice A9 r1.length c9)) ⟨g, 1, none⟩ (.int .i64 (at1 : Int)) xb HXG.out).trans (blk_set X9.out 10 (.slice A9 r1.length c9)))
      have OD10 := Aside0.mk (Kd.R_far (Kd.R_set OD9.out X9.out (by decide) 10 (.slice A9 r1.length c9)) (p := ⟨g, 1, none⟩) (fun _ h => h) (.int .i64 (at1 : Int)))
      have OV10 := Aside0.mk (Kd.R_far (Kd.R_set OV9.out X9.out (by decide) 10 (.slice A9 r1.length c9)) (p := ⟨g, 1, none⟩) (fun _ h => h) (.int .i64 (at1 : Int)))
      have K10 := Aside0.mk ((keep_far K9.out (p := ⟨xb, 10, none⟩) HXW.out (.slice A9 r1.length c9)).set_ 1 (.int .i64 (at1 : Int)))
      go_wp2_with fail
      refine (R_many w0 _ g B tl false H10.out 1 64 1 rfl (by omega) (by omega)).mono ?_
      rintro e w11 ⟨rfl, hi, hk⟩
      rw [← HQ8.out] at hi
      rw [← HQ8.out]
      have H11 := Aside0.mk hi
      have D11 := Aside0.mk (hk.blk D10.out HNE.out (by simp))
      have X11 := Aside0.mk (hk.blk X10.out HXG.out (by simp))
      have OD11 := Aside0.mk (Kd.R_keep OD10.out hk (fun _ h => h))
      have OV11 := Aside0.mk (Kd.R_keep OV10.out hk (fun _ h => h))
      have K11 := Aside0.mk (keep_then K10.out hk)
      clear hi hk he2 hf1 hf2 hdc hdf hxc hxf hgr D10 X10 OD10 OV10 K10 H10 D9 X9 OD9 OV9 K9 H9 Hv9 HC
      go_wp2
      go_loopw [55] (fun v wr => ∃ (k : Nat) (At : Option Addr) (ct : Nat), k ≤ q8.1.toNat ∧ v = .int .i64 k ∧ Aside0 (IsR w0 wr g B (rdots k q8.2).2.1 (rdots k q8.2).2.2) ∧ Aside0 (KeepBut w wr g none) ∧ Aside0 (wr.heap[w.heap.size]? = some (.cells #[.int .i64 0, .int .i64 0, .slice none 0 0, .int .i64 0, .int .i64 0, .int .i64 0, .int .i64 0, .int .i64 0, .string ⟨#[]⟩, .int .i64 0, .slice none 0 0, .slice none 0 0] 52 (0, 0))) ∧ Aside0 (wr.heap[xb]? = some (.cells #[.int .i64 q2.1.f0, .int .i64 q2.1.f1, .slice Ad q3.1.length cd, .int .i64 q4.1.f0, .int .i64 q4.1.f1, .int .i64 q4.1.f2, .int .i64 q1.1, .int .i64 q5.1, .string q6.1, .int .i64 q7.1, .slice A9 r1.length c9, .slice At (rdots k q8.2).1.length ct] 52 (0, 0))) ∧ Aside0 (Kd.R (Kd.int .i64) 3 wr w.heap.size (fun k => k ≠ g) (.slice Ad q3.1.length cd) q3.1) ∧ Aside0 (Kd.R k92 92 wr w.heap.size (fun k => k ≠ g) (.slice A9 r1.length c9) r1) ∧ Aside0 (Kd.R k46 46 wr w.heap.size (fun k => k ≠ g) (.slice At (rdots k q8.2).1.length ct) (rdots k q8.2).1)) (fun v _ => q8.1.toNat - (intOf v).toNat)
      case atStart => exact ⟨0, none, 0, by omega, rfl, H11, K11, D11, X11, OD11, OV11, ⟨Kd.R_nil _ _ _ _ _⟩⟩
      case round =>
        obtain ⟨k, At, ct, hk, rfl, HI, HK, HD, HX, HOD, HOV, HOT⟩ := hrel
        have hkm : (k : Int) ≤ 64 := by have := HM8.out; omega
        by_cases hlt : (k : Int) < q8.1
        · have HLn := Aside0.mk (rdots_length q8.2 k)
          have HT := Aside0.mk (show rdots (k + 1) q8.2 = ((rdots k q8.2).1 ++ [(rdot ((rdots k q8.2).2.1, (rdots k q8.2).2.2)).1], (rdot ((rdots k q8.2).2.1, (rdots k q8.2).2.2)).2) from rfl)
          obtain ⟨q9, hq9⟩ : ∃ q, q = rdot ((rdots k q8.2).2.1, (rdots k q8.2).2.2) := ⟨_, rfl⟩
          rw [← hq9] at HT
          have HQ9 := Aside0.mk hq9
          obtain ⟨L, hL⟩ : ∃ L, L = (rdots k q8.2).1 := ⟨_, rfl⟩
          rw [← hL] at HLn HT HOT HX
          clear hL hq9
          have hxc := fun i => blk_cell HX.out i
          have hxf := fun i => blk_frozen HX.out i
          go_wp2_with fail
          go_region_law (first | (go_simp; go_at_call 86; refine (R_dot w0 _ g B _ _ (HI.out.below (by first | exact Below.refl _ _ | exact below_drew (Below.refl _ _)))).mono ?_; rintro e w12 ⟨rfl, hi, hk2⟩; rw [← HQ9.out] at hi; rw [← HQ9.out]; have H12 := Aside0.mk hi; have hk3 : KeepBut wr w12 g none := hk2; have K12 := Aside0.mk (keep_then HK.out hk3); have D12 := Aside0.mk (hk3.blk HD.out HNE.out (by simp)); have X12 := Aside0.mk (hk3.blk HX.out HXG.out (by simp)); have OD12 := Aside0.mk (Kd.R_keep HOD.out hk3 (fun _ h => h)); have OV12 := Aside0.mk (Kd.R_keep HOV.out hk3 (fun _ h => h)); have OT12 := Aside0.mk (Kd.R_keep HOT.out hk3 (fun _ h => h)); have hxc2 := fun i => blk_cell X12.out i; have hxf2 := fun i => blk_frozen X12.out i; have X12a := Aside0.mk (blk_below X12.out (below_alloc (Below.refl _ w12) (.cells #[.int .i64 q9.1.f0, .int .i64 q9.1.f1] 46))); have hxc2a := fun i => blk_cell X12a.out i; clear hi hk2 hk3 X12a) | (refine Kd.R_append_step k46 (w0 := w12) w.heap.size rfl (.tmp 58) (.tmp 61) 50 46 (.agg #[.int .i64 0, .int .i64 0]) 16 rfl Tryz.underlying50 rinfo46 rfl (by decide) (by omega) (.slice At L.length ct) L q9.1 [.int .i64 q9.1.f0, .int .i64 q9.1.f1] (fun k => k ≠ g) (fun _ => False) rfl rfl (k46_mkM _ _ _ _) (fun _ hk => hk.elim) (fun k hk e_ => by have := H12.out.lt; omega) OT12.out (Below.refl _ _) K12.out.1 (by have := HLn.out; omega) ?_; intro v3 w13 ho hb hgw hat; obtain ⟨A3, c3, rfl⟩ := Kd.R_slice ho; have O13 := Aside0.mk ho; have H13 := Aside0.mk (H12.out.grown hgw (fun e_ => OT12.out.1 g e_ rfl) (fun k hk => by have := Kd.R_base OT12.out k hk; have := HB0.out; omega)); have K13 := Aside0.mk (keep_grown K12.out hgw (fun k hk => Kd.R_base OT12.out k hk)); have D13 := Aside0.mk (blk_grown D12.out hgw (Kd.R_ne OT12.out D12.out (by decide))); have X13 := Aside0.mk (blk_grown X12.out hgw (Kd.R_ne OT12.out X12.out (by decide))); have OD13 := Aside0.mk (Kd.R_over OD12.out OT12.out (by decide) hgw); have OV13 := Aside0.mk (Kd.R_over OV12.out OT12.out (by decide) hgw); have hxc3 := fun i => blk_cell X13.out i; have hxf3 := fun i => blk_frozen X13.out i; clear ho hb hgw hat hxc2 hxf2 hxc2a))
          all_goals (go_wp2; go_roundw)
          case rel => exact ⟨k + 1, A3, c3, by omega, by go_num, by rw [HT.out]; exact ⟨H13.out.far HXG.out (by have := HXW.out; have := HB0.out; omega) 11 (.slice A3 (L.length + 1) c3)⟩, ⟨keep_far K13.out (p := ⟨xb, 11, none⟩) HXW.out (.slice A3 (L.length + 1) c3)⟩, ⟨(Below.heap_setCell w13 ⟨xb, 11, none⟩ (.slice A3 (L.length + 1) c3) w.heap.size HRX.out).trans D13.out⟩, by rw [HT.out, show (L ++ [q9.1]).length = L.length + 1 from by simp]; exact ⟨blk_set X13.out 11 (.slice A3 (L.length + 1) c3)⟩, ⟨Kd.R_set OD13.out X13.out (by decide) 11 (.slice A3 (L.length + 1) c3)⟩, ⟨Kd.R_set OV13.out X13.out (by decide) 11 (.slice A3 (L.length + 1) c3)⟩, by rw [HT.out]; exact ⟨Kd.R_set O13.out X13.out (by decide) 11 (.slice A3 (L.length + 1) c3)⟩⟩
          case measure => simp [intOf]; omega
          case rel => exact ⟨k + 1, A3, c3, by omega, by go_num, by rw [HT.out]; exact ⟨H13.out.far HXG.out (by have := HXW.out; have := HB0.out; omega) 11 (.slice A3 (L.length + 1) c3)⟩, ⟨keep_far K13.out (p := ⟨xb, 11, none⟩) HXW.out (.slice A3 (L.length + 1) c3)⟩, ⟨(Below.heap_setCell w13 ⟨xb, 11, none⟩ (.slice A3 (L.length + 1) c3) w.heap.size HRX.out).trans D13.out⟩, by rw [HT.out, show (L ++ [q9.1]).length = L.length + 1 from by simp]; exact ⟨blk_set X13.out 11 (.slice A3 (L.length + 1) c3)⟩, ⟨Kd.R_set OD13.out X13.out (by decide) 11 (.slice A3 (L.length + 1) c3)⟩, ⟨Kd.R_set OV13.out X13.out (by decide) 11 (.slice A3 (L.length + 1) c3)⟩, by rw [HT.out]; exact ⟨Kd.R_set O13.out X13.out (by decide) 11 (.slice A3 (L.length + 1) c3)⟩⟩
          case measure => simp [intOf]; omega
          case rel => exact ⟨k + 1, A3, c3, by omega, by go_num, by rw [HT.out]; exact ⟨H13.out.far HXG.out (by have := HXW.out; have := HB0.out; omega) 11 (.slice A3 (L.length + 1) c3)⟩, ⟨keep_far K13.out (p := ⟨xb, 11, none⟩) HXW.out (.slice A3 (L.length + 1) c3)⟩, ⟨(Below.heap_setCell w13 ⟨xb, 11, none⟩ (.slice A3 (L.length + 1) c3) w.heap.size HRX.out).trans D13.out⟩, by rw [HT.out, show (L ++ [q9.1]).length = L.length + 1 from by simp]; exact ⟨blk_set X13.out 11 (.slice A3 (L.length + 1) c3)⟩, ⟨Kd.R_set OD13.out X13.out (by decide) 11 (.slice A3 (L.length + 1) c3)⟩, ⟨Kd.R_set OV13.out X13.out (by decide) 11 (.slice A3 (L.length + 1) c3)⟩, by rw [HT.out]; exact ⟨Kd.R_set O13.out X13.out (by decide) 11 (.slice A3 (L.length + 1) c3)⟩⟩
          case measure => simp [intOf]; omega
        · obtain rfl : k = q8.1.toNat := by omega
          have hxc := fun i => blk_cell HX.out i
          have hxf := fun i => blk_frozen HX.out i
          have hdc := fun i => blk_cell HD.out i
          have hdf := fun i => blk_frozen HD.out i
          go_wp2
          rw [HS.out, HE.out]
          refine bodyPost_ret (v := .agg #[.int .i64 q2.1.f0, .int .i64 q2.1.f1, .slice Ad q3.1.length cd, .int .i64 q4.1.f0, .int .i64 q4.1.f1, .int .i64 q4.1.f2, .int .i64 q1.1, .int .i64 q5.1, .string q6.1, .int .i64 q7.1, .slice A9 r1.length c9, .slice At (rdots q8.1.toNat q8.2).1.length ct]) ?_ rfl ⟨[.int .i64 q2.1.f0, .int .i64 q2.1.f1, .slice Ad q3.1.length cd, .int .i64 q4.1.f0, .int .i64 q4.1.f1, .int .i64 q4.1.f2, .int .i64 q1.1, .int .i64 q5.1, .string q6.1, .int .i64 q7.1, .slice A9 r1.length c9, .slice At (rdots q8.1.toNat q8.2).1.length ct], rfl, (k52_mkM _ _ _ _ (Kd.R_mono (Kd.R_step (Kd.R_types HOD.out HD.out (by decide)) (fun k hk _ => by repeat (first | refine heap_set ?_ hk.2 | rfl))) (fun _ hk => hk.1)) (Kd.R_mono (Kd.R_step (Kd.R_types HOV.out HD.out (by decide)) (fun k hk _ => by repeat (first | refine heap_set ?_ hk.2 | rfl))) (fun _ hk => hk.1)) (Kd.R_mono (Kd.R_step (Kd.R_types HOT.out HD.out (by decide)) (fun k hk _ => by repeat (first | refine heap_set ?_ hk.2 | rfl))) (fun _ hk => hk.1))), ((((((((((((((((((((((((HI.out).far HNE.out HB0.out 0 (.int .i64 q2.1.f0))).far HNE.out HB0.out 1 (.int .i64 q2.1.f1))).far HNE.out HB0.out 2 (.slice Ad q3.1.length cd))).far HNE.out HB0.out 3 (.int .i64 q4.1.f0))).far HNE.out HB0.out 4 (.int .i64 q4.1.f1))).far HNE.out HB0.out 5 (.int .i64 q4.1.f2))).far HNE.out HB0.out 6 (.int .i64 q1.1))).far HNE.out HB0.out 7 (.int .i64 q5.1))).far HNE.out HB0.out 8 (.string q6.1))).far HNE.out HB0.out 9 (.int .i64 q7.1))).far HNE.out HB0.out 10 (.slice A9 r1.length c9))).far HNE.out HB0.out 11 (.slice At (rdots q8.1.toNat q8.2).1.length ct)), (keep_far ((keep_far ((keep_far ((keep_far ((keep_far ((keep_far ((keep_far ((keep_far ((keep_far ((keep_far ((keep_far ((keep_far (HK.out) (p := ⟨w.heap.size, 0, none⟩) (Nat.le_refl _) (.int .i64 q2.1.f0))) (p := ⟨w.heap.size, 1, none⟩) (Nat.le_refl _) (.int .i64 q2.1.f1))) (p := ⟨w.heap.size, 2, none⟩) (Nat.le_refl _) (.slice Ad q3.1.length cd))) (p := ⟨w.heap.size, 3, none⟩) (Nat.le_refl _) (.int .i64 q4.1.f0))) (p := ⟨w.heap.size, 4, none⟩) (Nat.le_refl _) (.int .i64 q4.1.f1))) (p := ⟨w.heap.size, 5, none⟩) (Nat.le_refl _) (.int .i64 q4.1.f2))) (p := ⟨w.heap.size, 6, none⟩) (Nat.le_refl _) (.int .i64 q1.1))) (p := ⟨w.heap.size, 7, none⟩) (Nat.le_refl _) (.int .i64 q5.1))) (p := ⟨w.heap.size, 8, none⟩) (Nat.le_refl _) (.string q6.1))) (p := ⟨w.heap.size, 9, none⟩) (Nat.le_refl _) (.int .i64 q7.1))) (p := ⟨w.heap.size, 10, none⟩) (Nat.le_refl _) (.slice A9 r1.length c9))) (p := ⟨w.heap.size, 11, none⟩) (Nat.le_refl _) (.slice At (rdots q8.1.toNat q8.2).1.length ct))⟩
          exact results_cell_row (p := 2) (ty := 52) rfl _ _ w.heap.size 52 #[.int .i64 q2.1.f0, .int .i64 q2.1.f1, .slice Ad q3.1.length cd, .int .i64 q4.1.f0, .int .i64 q4.1.f1, .int .i64 q4.1.f2, .int .i64 q1.1, .int .i64 q5.1, .string q6.1, .int .i64 q7.1, .slice A9 r1.length c9, .slice At (rdots q8.1.toNat q8.2).1.length ct] (0, 0) _ rfl (set12 HD.out _ _ _ _ _ _ _ _ _ _ _ _) Tryz.underlying52 rfl (by kernel_rfl)
def wops (l : List Opr) (st : List Int × Bool) : List Int × Bool := l.foldl (fun s x => wop x s) st
theorem wops_take (l : List Opr) (k : Nat) (h : k < l.length) (st : List Int × Bool) : wops (l.take (k + 1)) st = wop (l.getD k z52) (wops (l.take k) st) := by
  unfold wops
  rw [List.take_succ_eq_append_getElem h, List.foldl_append]
  simp [List.getD_eq_getElem?_getD, h]
def okOp (x : Opr) : Prop := x.f1.length ≤ 300 ∧ x.f8.length ≤ 300
instance (x : Opr) : Decidable (okOp x) := by unfold okOp; infer_instance
theorem wops_len : ∀ (l : List Opr) (st : List Int × Bool), (∀ x ∈ l, okOp x) → (wops l st).1.length ≤ st.1.length + 3065 * l.length
  | [], st, _ => by simp [wops]
  | x :: l, st, h => by
    have h1 := wops_len l (wop x st) (fun y hy => h y (by simp [hy]))
    have h2 := wop_len x st
    have h3 := h x (by simp)
    simp only [okOp] at h3
    simp only [wops, List.foldl_cons, List.length_cons] at h1 ⊢; omega
def msgW0 (a b c : Int) (h s : List Int) (n : Nat) : List Int × Bool := wnum 2 (n : Int) (wnums s (wnums h (wnum 1 c (wnum 1 b (wnum 1 a ([], false))))))
def msgW (a b c : Int) (h s : List Int) (l : List Opr) : List Int × Bool := wops l (msgW0 a b c h s l.length)
theorem msgW0_len (a b c : Int) (h s : List Int) (n : Nat) : (msgW0 a b c h s n).1.length ≤ 7 + 4 * h.length + 4 * s.length := by
  have h1 := wnum_len 2 (n : Int) (wnums s (wnums h (wnum 1 c (wnum 1 b (wnum 1 a ([], false))))))
  have h2 := wnums_len s (wnums h (wnum 1 c (wnum 1 b (wnum 1 a ([], false)))))
  have h3 := wnums_len h (wnum 1 c (wnum 1 b (wnum 1 a ([], false))))
  have h4 := wnum_len 1 c (wnum 1 b (wnum 1 a ([], false)))
  have h5 := wnum_len 1 b (wnum 1 a ([], false))
  have h6 := wnum_len 1 a ([], false)
  simp only [List.length_nil] at h6
  unfold msgW0; omega
def sealB (l : List Int) : List Int × Int := if l.length ≤ 65532 then (sealL l, 0) else ([], 2)
def msgB (a b c : Int) (h s : List Int) (l : List Opr) : List Int × Int := if (msgW a b c h s l).2 = true then ([], 1) else sealB (msgW a b c h s l).1
theorem Seal_all (l : List Int) : crc_Seal.f l = some (sealB l) := by
  unfold sealB
  split
  · exact Seal_eq l (by omega)
  · exact Seal_long l (by omega)
def msg_Bytes.f (a0_0 a0_1 a0_2 : Int) (l0_3 l0_4 : List Int) (l0_5 : List Opr) : Option (List Int × Int) :=
  if l0_3.length ≤ 300 ∧ l0_4.length ≤ 300 ∧ l0_5.length ≤ 300 ∧ ∀ x ∈ l0_5, okOp x then some (msgB a0_0 a0_1 a0_2 l0_3 l0_4 l0_5) else none
set_option maxHeartbeats 8000000 in
set_option maxRecDepth 100000 in
theorem msg_Bytes.calls (a0_0 : Int) (a0_1 : Int) (a0_2 : Int) (A0_3 : Option Addr) (c0_3 : Nat) (l0_3 : List Int) (A0_4 : Option Addr) (c0_4 : Nat) (l0_4 : List Int) (A0_5 : Option Addr) (c0_5 : Nat) (l0_5 : List (S52)) (r1 : List Int) (r2 : Int) (w : World)
    (hr0_3 : Kd.C (Kd.int .i64) w A0_3 l0_3.length l0_3) (_hc0_3 : l0_3.length ≤ c0_3) (hr0_4 : Kd.C (Kd.int .i64) w A0_4 l0_4.length l0_4) (_hc0_4 : l0_4.length ≤ c0_4) (hr0_5 : Kd.C k52 w A0_5 l0_5.length l0_5) (_hc0_5 : l0_5.length ≤ c0_5)
    (h : msg_Bytes.f a0_0 a0_1 a0_2 l0_3 l0_4 l0_5 = some (r1, r2)) :
    Calls Tryz.prog 11 #[.agg #[.int .i64 a0_0, .int .i64 a0_1, .int .i64 a0_2, .slice A0_3 l0_3.length c0_3, .slice A0_4 l0_4.length c0_4, .slice A0_5 l0_5.length c0_5]] w fun e w' => ∃ v0_ : Value, e = .returned (.tuple #[v0_, .int .i64 r2]) ∧ Kd.R (Kd.int .u8) 5 w' w.heap.size (fun _ => True) v0_ r1 ∧ Below w.heap.size w w' := by
  unfold msg_Bytes.f at h
  by_cases hb : l0_3.length ≤ 300 ∧ l0_4.length ≤ 300 ∧ l0_5.length ≤ 300 ∧ ∀ x ∈ l0_5, okOp x
  case neg => rw [if_neg hb] at h; cases h
  rw [if_pos hb] at h
  have E1 := Aside0.mk (Option.some.inj h)
  have HB := Aside0.mk (show l0_3.length ≤ 300 ∧ l0_4.length ≤ 300 ∧ l0_5.length ≤ 300 from ⟨hb.1, hb.2.1, hb.2.2.1⟩)
  have HG := Aside0.mk hb.2.2.2
  have R3 := Aside0.mk hr0_3
  have R4 := Aside0.mk hr0_4
  have R5 := Aside0.mk hr0_5
  have HW := Aside0.mk (show IsW w ((w.alloc (.cells #[.int .i64 a0_0, .int .i64 a0_1, .int .i64 a0_2, .slice A0_3 l0_3.length c0_3, .slice A0_4 l0_4.length c0_4, .slice A0_5 l0_5.length c0_5] 26)).alloc (.cells #[.slice none 0 0, .bool false] 66)) (w.heap.size + 1) [] false from
    IsW.mk2 (v := .slice none 0 0) (below_alloc (below_alloc (Below.refl _ w) _) _) (by omega) (by have := heap_alloc2_new w (.cells #[.int .i64 a0_0, .int .i64 a0_1, .int .i64 a0_2, .slice A0_3 l0_3.length c0_3, .slice A0_4 l0_4.length c0_4, .slice A0_5 l0_5.length c0_5] 26) (.cells #[.slice none 0 0, .bool false] 66); exact this) (Kd.R_nil _ _ _ _ _))
  have HX := Aside0.mk (heap_alloc2_old w (.cells #[.int .i64 a0_0, .int .i64 a0_1, .int .i64 a0_2, .slice A0_3 l0_3.length c0_3, .slice A0_4 l0_4.length c0_4, .slice A0_5 l0_5.length c0_5] 26) (.cells #[.slice none 0 0, .bool false] 66))
  have L1 := Aside0.mk (wnum_len 1 a0_0 ([], false))
  have L2 := Aside0.mk (wnum_len 1 a0_1 (wnum 1 a0_0 ([], false)))
  have L3 := Aside0.mk (wnum_len 1 a0_2 (wnum 1 a0_1 (wnum 1 a0_0 ([], false))))
  have L4 := Aside0.mk (wnums_len l0_3 (wnum 1 a0_2 (wnum 1 a0_1 (wnum 1 a0_0 ([], false)))))
  have L5 := Aside0.mk (wnums_len l0_4 (wnums l0_3 (wnum 1 a0_2 (wnum 1 a0_1 (wnum 1 a0_0 ([], false))))))
  have L6 := Aside0.mk (wnum_len 2 (l0_5.length : Int) (wnums l0_4 (wnums l0_3 (wnum 1 a0_2 (wnum 1 a0_1 (wnum 1 a0_0 ([], false)))))))
  have LM := Aside0.mk (msgW0_len a0_0 a0_1 a0_2 l0_3 l0_4 l0_5.length)
  obtain ⟨SU, hSU⟩ : ∃ SU, SU = msgW0 a0_0 a0_1 a0_2 l0_3 l0_4 l0_5.length := ⟨_, rfl⟩
  have E2 := Aside0.mk (show wnum 2 (l0_5.length : Int) (wnums l0_4 (wnums l0_3 (wnum 1 a0_2 (wnum 1 a0_1 (wnum 1 a0_0 ([], false)))))) = SU from by rw [hSU]; rfl)
  have E3 := Aside0.mk (show wops l0_5 SU = msgW a0_0 a0_1 a0_2 l0_3 l0_4 l0_5 from by rw [hSU]; rfl)
  rw [← hSU] at LM
  clear hSU
  have hg1 : ¬ ((l0_5.length : Int) > 65535) := by have := HB.out; omega
  have hg2 := decide_eq_false (show ¬ (65535 : Int) < (l0_5.length : Int) by omega)
  have hg3 := decide_eq_false (show ¬ 65535 < l0_5.length by omega)
  clear h hb hr0_3 hr0_4 hr0_5
  have hcx := fun i => blk_cell HX.out i
  go_enter Tryz.func11, Tryz.ntmps11
  go_wp2_with fail
  refine (W_num w _ (w.heap.size + 1) ([], false) HW.out a0_0 1 1 rfl (by omega) (by omega) (by have := HB.out; simp only [List.length_nil] at *; omega)).mono ?_
  rintro e w1 ⟨rfl, hi, hk⟩
  have H1 := Aside0.mk hi
  have D1 := Aside0.mk (hk _ _ _ _ HX.out (by decide) (by decide))
  have hc1 := fun i => blk_cell D1.out i
  have hf1 := fun i => blk_frozen D1.out i
  clear hi hk
  go_wp2_with fail
  refine (W_num w _ (w.heap.size + 1) (wnum 1 a0_0 ([], false)) H1.out a0_1 1 1 rfl (by omega) (by omega) (by have := HB.out; have := L1.out; simp only [List.length_nil] at *; omega)).mono ?_
  rintro e w2 ⟨rfl, hi, hk⟩
  have H2 := Aside0.mk hi
  have D2 := Aside0.mk (hk _ _ _ _ D1.out (by decide) (by decide))
  have hc2 := fun i => blk_cell D2.out i
  have hf2 := fun i => blk_frozen D2.out i
  clear hi hk
  go_wp2_with fail
  refine (W_num w _ (w.heap.size + 1) (wnum 1 a0_1 (wnum 1 a0_0 ([], false))) H2.out a0_2 1 1 rfl (by omega) (by omega) (by have := HB.out; have := L1.out; have := L2.out; simp only [List.length_nil] at *; omega)).mono ?_
  rintro e w3 ⟨rfl, hi, hk⟩
  have H3 := Aside0.mk hi
  have D3 := Aside0.mk (hk _ _ _ _ D2.out (by decide) (by decide))
  have hc3 := fun i => blk_cell D3.out i
  have hf3 := fun i => blk_frozen D3.out i
  clear hi hk
  go_wp2_with fail
  refine (W_nums w _ (w.heap.size + 1) (wnum 1 a0_2 (wnum 1 a0_1 (wnum 1 a0_0 ([], false)))) H3.out A0_3 c0_3 l0_3 R3.out (by have := HB.out; have := L1.out; have := L2.out; have := L3.out; simp only [List.length_nil] at *; omega) (by have := HB.out; omega)).mono ?_
  rintro e w4 ⟨rfl, hi, hk⟩
  have H4 := Aside0.mk hi
  have D4 := Aside0.mk (hk _ _ _ _ D3.out (by decide) (by decide))
  have hc4 := fun i => blk_cell D4.out i
  have hf4 := fun i => blk_frozen D4.out i
  clear hi hk
  go_wp2_with fail
  refine (W_nums w _ (w.heap.size + 1) (wnums l0_3 (wnum 1 a0_2 (wnum 1 a0_1 (wnum 1 a0_0 ([], false))))) H4.out A0_4 c0_4 l0_4 R4.out (by have := HB.out; have := L1.out; have := L2.out; have := L3.out; have := L4.out; simp only [List.length_nil] at *; omega) (by have := HB.out; omega)).mono ?_
  rintro e w5 ⟨rfl, hi, hk⟩
  have H5 := Aside0.mk hi
  have D5 := Aside0.mk (hk _ _ _ _ D4.out (by decide) (by decide))
  have hc5 := fun i => blk_cell D5.out i
  have hf5 := fun i => blk_frozen D5.out i
  clear hi hk
  go_wp2_with fail
  refine (W_num w _ (w.heap.size + 1) (wnums l0_4 (wnums l0_3 (wnum 1 a0_2 (wnum 1 a0_1 (wnum 1 a0_0 ([], false)))))) H5.out (l0_5.length : Int) 2 2 rfl (by omega) (by omega) (by have := HB.out; have := L1.out; have := L2.out; have := L3.out; have := L4.out; have := L5.out; simp only [List.length_nil] at *; omega)).mono ?_
  rintro e w6 ⟨rfl, hi, hk⟩
  have H6 := Aside0.mk hi
  have D6 := Aside0.mk (hk _ _ _ _ D5.out (by decide) (by decide))
  have hc6 := fun i => blk_cell D6.out i
  have hf6 := fun i => blk_frozen D6.out i
  clear hi hk
  have H6b := Aside0.mk (show IsW w w6 (w.heap.size + 1) SU.1 SU.2 from by have := H6.out; rw [E2.out] at this; exact this)
  clear H6 HW H1 H2 H3 H4 H5 hcx hc1 hc2 hc3 hc4 hc5 hf1 hf2 hf3 hf4 hf5 L1 L2 L3 L4 L5 L6
  go_wp2
  go_loopw [41] (fun v wr => ∃ k : Nat, k ≤ l0_5.length ∧ v = .int .i64 k ∧ Aside0 (IsW w wr (w.heap.size + 1) (wops (l0_5.take k) SU).1 (wops (l0_5.take k) SU).2)) (fun v _ => l0_5.length - (intOf v).toNat)
  case atStart => exact ⟨0, by omega, rfl, H6b⟩
  case round =>
    obtain ⟨k, hk, rfl, HI⟩ := hrel
    by_cases hlt : k < l0_5.length
    · obtain ⟨ad, Y2, d2, Y10, d10, Y11, d11, e, hd0, hd1, hd2, hd3, hd4, hd5, hd6, hd7, hd8, hd9, hd10, hd11, hl2, hq2, hl10, hq10, hl11, hq11⟩ := at_T52 R5.out (k : Int) (by omega) (by omega)
      subst e
      replace hd0 := pw_cell_below HI.out.1 hd0
      replace hd1 := pw_cell_below HI.out.1 hd1
      replace hd2 := pw_cell_below HI.out.1 hd2
      replace hd3 := pw_cell_below HI.out.1 hd3
      replace hd4 := pw_cell_below HI.out.1 hd4
      replace hd5 := pw_cell_below HI.out.1 hd5
      replace hd6 := pw_cell_below HI.out.1 hd6
      replace hd7 := pw_cell_below HI.out.1 hd7
      replace hd8 := pw_cell_below HI.out.1 hd8
      replace hd9 := pw_cell_below HI.out.1 hd9
      replace hd10 := pw_cell_below HI.out.1 hd10
      replace hd11 := pw_cell_below HI.out.1 hd11
      have hrd : rd_T52 l0_5 (k : Int) = l0_5.getD k z52 := by simp [rd_T52]
      have hin : okOp (l0_5.getD k z52) := by
        rw [List.getD_eq_getElem?_getD, List.getElem?_eq_getElem hlt]
        exact HG.out _ (List.getElem_mem hlt)
      rw [Int.toNat_natCast, hrd] at hd0 hd1 hd2 hd3 hd4 hd5 hd6 hd7 hd8 hd9 hd10 hd11
      rw [hrd] at hl2 hq2 hl10 hq10 hl11 hq11
      clear hrd
      have HT := Aside0.mk (wops_take l0_5 k hlt SU)
      have HZ := Aside0.mk (wops_len (l0_5.take k) SU (fun x hx => HG.out x (List.mem_of_mem_take hx)))
      have HTk := Aside0.mk (List.length_take_le k l0_5)
      obtain ⟨y, hy⟩ : ∃ y, y = l0_5.getD k z52 := ⟨_, rfl⟩
      rw [← hy] at hd0 hd1 hd2 hd3 hd4 hd5 hd6 hd7 hd8 hd9 hd10 hd11 hl2 hq2 hl10 hq10 hl11 hq11 HT hin
      clear hy
      have Q2 := Aside0.mk hq2
      have Q10 := Aside0.mk hq10
      have Q11 := Aside0.mk hq11
      have QL := Aside0.mk hl10
      have QI := Aside0.mk hin
      clear hl2 hq2 hl10 hq10 hl11 hq11 hin
      have hkb : l0_5.length ≤ 300 := HB.out.2.2
      have HI2 := Aside0.mk (HI.out.alloc (.cells #[.int .i64 y.f0.f0, .int .i64 y.f0.f1, .slice Y2 y.f1.length d2, .int .i64 y.f2.f0, .int .i64 y.f2.f1, .int .i64 y.f2.f2, .int .i64 y.f3, .int .i64 y.f4, .string y.f5, .int .i64 y.f6, .slice Y10 y.f7.length d10, .slice Y11 y.f8.length d11] 52))
      go_wp2_with fail
      refine (W_op w _ (w.heap.size + 1) (wops (l0_5.take k) SU) HI2.out y Y2 d2 Y10 d10 Y11 d11 Q2.out Q10.out QL.out Q11.out (by have := HZ.out; have := HTk.out; have := HB.out; have := LM.out; omega) (by have := QI.out.1; omega) (by have := QI.out.2; omega)).mono ?_
      rintro e w2 ⟨rfl, hi, -⟩
      rw [← HT.out] at hi
      have H2 := Aside0.mk hi
      clear hi
      go_wp2
      go_roundw
      case rel => exact ⟨k + 1, by omega, by go_num, H2⟩
      case measure => simp [intOf]; omega
    · obtain rfl : k = l0_5.length := by omega
      rw [List.take_length, E3.out] at HI
      obtain ⟨B, hB⟩ : ∃ B, B = (msgW a0_0 a0_1 a0_2 l0_3 l0_4 l0_5).1 := ⟨_, rfl⟩
      obtain ⟨b, hb⟩ : ∃ b, b = (msgW a0_0 a0_1 a0_2 l0_3 l0_4 l0_5).2 := ⟨_, rfl⟩
      rw [← hB, ← hb] at HI
      have E4 := Aside0.mk (show (if b = true then (([] : List Int), (1 : Int)) else sealB B) = (r1, r2) from by rw [hB, hb]; exact E1.out)
      clear hB hb E1 E2 E3
      obtain ⟨h0, hg, v, hv, hR⟩ := HI.out
      obtain ⟨Av, cv, rfl⟩ := Kd.R_slice hR
      have hc0 : wr.cell? ⟨w.heap.size + 1, 0, none⟩ = some (.slice Av B.length cv) := (blk_cell hv 0).trans rfl
      have hc1 : wr.cell? ⟨w.heap.size + 1, 1, none⟩ = some (.bool b) := (blk_cell hv 1).trans rfl
      have H0 := Aside0.mk h0
      have HR := Aside0.mk (Kd.R_reads' hR)
      clear h0 hg hv hR
      cases b
      · have e4 := E4.out
        rw [if_neg (by decide)] at e4
        go_wp2_with fail
        refine (crc_Seal.calls Av cv B r1 r2 wr HR.out.2.2 HR.out.2.1 (by rw [Seal_all, e4])).mono ?_
        rintro e w9 ⟨v9, rfl, ho, hb9⟩
        have HO := Aside0.mk ho
        have HB9 := Aside0.mk hb9
        clear ho hb9
        go_wp2
        go_ret2
        exact ⟨_, rfl, Kd.R_lower HO.out (below_size H0.out), below_step H0.out HB9.out⟩
      · have e4 := E4.out
        have e5 : (([] : List Int), (1 : Int)) = (r1, r2) := by simpa using e4
        go_wp2
        go_ret2
        obtain ⟨rfl, rfl⟩ := Prod.mk.inj e5
        exact ⟨_, rfl, Kd.R_nil _ _ _ _ _, H0.out⟩
theorem set6 {W : World} {b t : Nat} {a0 a1 a2 a3 a4 a5 : Value} (h : W.heap[b]? = some (.cells #[a0, a1, a2, a3, a4, a5] t (0, 0))) (c0 c1 c2 c3 c4 c5 : Value) :
    (((((((W.setCell ⟨b, 0, none⟩ c0).setCell ⟨b, 1, none⟩ c1).setCell ⟨b, 2, none⟩ c2).setCell ⟨b, 3, none⟩ c3).setCell ⟨b, 4, none⟩ c4).setCell ⟨b, 5, none⟩ c5)).heap[b]? = some (.cells #[c0, c1, c2, c3, c4, c5] t (0, 0)) := by
  have h1 : (W.setCell ⟨b, 0, none⟩ c0).heap[b]? = some (.cells #[c0, a1, a2, a3, a4, a5] t (0, 0)) := blk_set h 0 c0
  have h2 : ((W.setCell ⟨b, 0, none⟩ c0).setCell ⟨b, 1, none⟩ c1).heap[b]? = some (.cells #[c0, c1, a2, a3, a4, a5] t (0, 0)) := blk_set h1 1 c1
  have h3 : (((W.setCell ⟨b, 0, none⟩ c0).setCell ⟨b, 1, none⟩ c1).setCell ⟨b, 2, none⟩ c2).heap[b]? = some (.cells #[c0, c1, c2, a3, a4, a5] t (0, 0)) := blk_set h2 2 c2
  have h4 : ((((W.setCell ⟨b, 0, none⟩ c0).setCell ⟨b, 1, none⟩ c1).setCell ⟨b, 2, none⟩ c2).setCell ⟨b, 3, none⟩ c3).heap[b]? = some (.cells #[c0, c1, c2, c3, a4, a5] t (0, 0)) := blk_set h3 3 c3
  have h5 : (((((W.setCell ⟨b, 0, none⟩ c0).setCell ⟨b, 1, none⟩ c1).setCell ⟨b, 2, none⟩ c2).setCell ⟨b, 3, none⟩ c3).setCell ⟨b, 4, none⟩ c4).heap[b]? = some (.cells #[c0, c1, c2, c3, c4, a5] t (0, 0)) := blk_set h4 4 c4
  have h6 : ((((((W.setCell ⟨b, 0, none⟩ c0).setCell ⟨b, 1, none⟩ c1).setCell ⟨b, 2, none⟩ c2).setCell ⟨b, 3, none⟩ c3).setCell ⟨b, 4, none⟩ c4).setCell ⟨b, 5, none⟩ c5).heap[b]? = some (.cells #[c0, c1, c2, c3, c4, c5] t (0, 0)) := blk_set h5 5 c5
  exact h6
def rops : Nat → List Int × Bool → List Opr × (List Int × Bool)
  | 0, st => ([], st)
  | n + 1, st => if st.2 = true then ([], st) else ((rop st).1 :: (rops n (rop st).2).1, (rops n (rop st).2).2)
abbrev MsgP := Int × Int × Int × List Int × List Int × List Opr
def zMsg : MsgP := (0, 0, 0, [], [], [])
def rheadM (st : List Int × Bool) : (Int × Int × Int × List Int × List Int × Int) × (List Int × Bool) :=
  ((rnum 1 st).1, (rnum 1 (rnum 1 st).2).1, (rnum 1 (rnum 1 (rnum 1 st).2).2).1, (rnums (rnum 1 (rnum 1 (rnum 1 st).2).2).2).1, (rnums (rnums (rnum 1 (rnum 1 (rnum 1 st).2).2).2).2).1, (rnum 2 (rnums (rnums (rnum 1 (rnum 1 (rnum 1 st).2).2).2).2).2).1) |> fun x => (x, (rnum 2 (rnums (rnums (rnum 1 (rnum 1 (rnum 1 st).2).2).2).2).2).2)
def rfin (h : Int × Int × Int × List Int × List Int × Int) (t : List Opr × (List Int × Bool)) : MsgP × Int :=
  if t.2.2 = true ∨ t.2.1 ≠ [] then (zMsg, 3) else ((h.1, h.2.1, h.2.2.1, h.2.2.2.1, h.2.2.2.2.1, t.1), 0)
def rmsg (B : List Int) : MsgP × Int := rfin (rheadM (B, false)).1 (rops (rheadM (B, false)).1.2.2.2.2.2.toNat (rheadM (B, false)).2)
def readB (l : List Int) : MsgP × Int := if (openL l).2 = 0 then rmsg (openL l).1 else (zMsg, (openL l).2)
instance (l : List Int) : Decidable (Bytes_ l) := by unfold Bytes_ Byte; infer_instance
def msg_Read.f (l0 : List Int) : Option (Int × Int × Int × List Int × List Int × List (S52) × Int) :=
  if Bytes_ l0 ∧ l0.length < 1000000 then some ((readB l0).1.1, (readB l0).1.2.1, (readB l0).1.2.2.1, (readB l0).1.2.2.2.1, (readB l0).1.2.2.2.2.1, (readB l0).1.2.2.2.2.2, (readB l0).2) else none
theorem openL_len (l : List Int) : (openL l).1.length ≤ 65536 := by
  unfold openL
  split
  · simp
  · split
    · simp; omega
    · simp
theorem openL_bytes (l : List Int) (h : Bytes_ l) : Bytes_ (openL l).1 := by
  unfold openL
  split
  · intro c hc; simp at hc
  · split
    · exact Bytes_take h _
    · intro c hc; simp at hc
theorem rnum_bound (s : Nat) (st : List Int × Bool) (h : Bytes_ st.1) : 0 ≤ (rnum s st).1 ∧ (rnum s st).1 < 256 ^ s := by
  unfold rnum
  split
  · exact ⟨by simp, by simpa using Int.pow_pos (by omega : (0 : Int) < 256)⟩
  · rename_i hn
    exact numL_bound s _ (by simp; omega) (Bytes_take h s)
theorem IsR.bytes {w0 W : World} {g : Nat} {B rest : List Int} {bad : Bool} (h : IsR w0 W g B rest bad) : Bytes_ rest := by
  obtain ⟨_, _, h2, _, A, c, at_, _, _, _, _, hd⟩ := h
  rw [← hd]; exact Bytes_drop h2 at_
theorem meas_down (n : Nat) (h : wrap64 (n : Int) = (n : Int)) : (intOf (Value.int IntKind.i64 (wrap64 (n : Int)))).toNat < (intOf (Value.int IntKind.i64 ((n + 1 : Nat) : Int))).toNat := by
  rw [h]
  show (n : Int).toNat < ((n + 1 : Nat) : Int).toNat
  omega
theorem minfo52 : (Tryz.prog.info? 52).map (fun i => (i.zero, i.size, i.bytes)) = some (some (.agg #[.int .i64 0, .int .i64 0, .slice none 0 0, .int .i64 0, .int .i64 0, .int .i64 0, .int .i64 0, .int .i64 0, .string ⟨#[]⟩, .int .i64 0, .slice none 0 0, .slice none 0 0]), 12, 152) := by kernel_rfl
set_option maxHeartbeats 8000000 in
set_option maxRecDepth 100000 in
theorem msg_Read.calls (A0 : Option Addr) (c0 : Nat) (l0 : List Int) (r1 r2 r3 : Int) (r4 r5 : List Int) (r6 : List (S52)) (r7 : Int) (w : World) (hr0 : Kd.C (Kd.int .u8) w A0 l0.length l0) (hc0 : l0.length ≤ c0) (h : msg_Read.f l0 = some (r1, r2, r3, r4, r5, r6, r7)) :
    Calls Tryz.prog 17 #[.slice A0 l0.length c0] w fun e w' => ∃ v0_ v1_ v2_ : Value, e = .returned (.tuple #[.agg #[.int .i64 r1, .int .i64 r2, .int .i64 r3, v0_, v1_, v2_], .int .i64 r7]) ∧ Kd.R (Kd.int .i64) 3 w' w.heap.size (fun _ => True) v0_ r4 ∧ Kd.R (Kd.int .i64) 3 w' w.heap.size (fun _ => True) v1_ r5 ∧ Kd.S k52 52 w' w.heap.size (fun _ => True) v2_ r6 ∧ Below w.heap.size w w' := by
  unfold msg_Read.f at h
  by_cases hb : Bytes_ l0 ∧ l0.length < 1000000
  case neg => rw [if_neg hb] at h; cases h
  rw [if_pos hb] at h
  have h := Option.some.inj h
  simp only [Prod.mk.injEq] at h
  have HEq := Aside0.mk h
  have HR0 := Aside0.mk hr0
  have HC0 := Aside0.mk hc0
  have HP := Aside0.mk (Open_eq l0 (by omega) (l0.length + 2) (by omega))
  obtain ⟨bd, hbd⟩ : ∃ bd, bd = (openL l0).1 := ⟨_, rfl⟩
  obtain ⟨er, her⟩ : ∃ er, er = (openL l0).2 := ⟨_, rfl⟩
  have HBL := Aside0.mk (show bd.length ≤ 65536 from by rw [hbd]; exact openL_len l0)
  have HBB := Aside0.mk (show Bytes_ bd from by rw [hbd]; exact openL_bytes l0 hb.1)
  have HP2 := Aside0.mk (show crc_Open.f (l0.length + 2) l0 = some (bd, er) from by rw [hbd, her]; exact HP.out)
  clear h hb hr0 hc0 HP
  go_enter Tryz.func17, Tryz.ntmps17
  go_wp2_with fail
  refine (crc_Open.calls (l0.length + 2) A0 c0 l0 bd er _ (Kd.C_alloc HR0.out _) HC0.out HP2.out).mono ?_
  rintro e w1 ⟨v1, rfl, ho, hb⟩
  obtain ⟨Ab, cb, rfl⟩ := Kd.R_slice ho
  have HO1 := Aside0.mk ho
  have D1 := Aside0.mk (blk_below (heap_alloc_new w (.cells #[.int .i64 0, .int .i64 0, .int .i64 0, .slice none 0 0, .slice none 0 0, .slice none 0 0] 26)) hb)
  have HB1 := Aside0.mk (show Below w.heap.size w w1 from below_step (below_alloc (Below.refl _ w) _) hb)
  clear ho hb
  by_cases h0 : er = 0
  case neg =>
    have h1 : (er != 0) = true := bne_iff_ne.2 h0
    have HE := Aside0.mk (show readB l0 = (zMsg, er) from by rw [her]; exact if_neg (by rw [← her]; exact h0))
    have E2 := HEq.out
    rw [HE.out] at E2
    have E3 := Aside0.mk E2
    have hdc := fun i => blk_cell D1.out i
    have hdf := fun i => blk_frozen D1.out i
    clear E2 h0 her hbd
    go_wp2
    obtain ⟨rfl, rfl, rfl, rfl, rfl, rfl, rfl⟩ := E3.out
    refine bodyPost_ret (v := .tuple #[.agg #[.int .i64 0, .int .i64 0, .int .i64 0, .slice none 0 0, .slice none 0 0, .slice none 0 0], .int .i64 er]) ?_ rfl ⟨.slice none 0 0, .slice none 0 0, .slice none 0 0, rfl, Kd.R_nil _ _ _ _ _, Kd.R_nil _ _ _ _ _, Kd.S_nil _ _ _ _ _, by repeat (first | refine below_set ?_ (Nat.le_refl _) | exact HB1.out)⟩
    exact results_ct (p := 2) (u := 3) (ty := 26) rfl _ _ w.heap.size 26 #[.int .i64 0, .int .i64 0, .int .i64 0, .slice none 0 0, .slice none 0 0, .slice none 0 0] (0, 0) _ rfl (set6 D1.out _ _ _ _ _ _) Tryz.underlying26 rfl (by kernel_rfl)
  subst h0
  have HRB := Aside0.mk (show readB l0 = rmsg bd from by rw [hbd]; exact if_pos her.symm)
  clear her hbd
  obtain ⟨q1, hq1⟩ : ∃ q, q = rnum 1 (bd, false) := ⟨_, rfl⟩
  obtain ⟨q2, hq2⟩ : ∃ q, q = rnum 1 (q1.2.1, q1.2.2) := ⟨_, rfl⟩
  obtain ⟨q3, hq3⟩ : ∃ q, q = rnum 1 (q2.2.1, q2.2.2) := ⟨_, rfl⟩
  obtain ⟨q4, hq4⟩ : ∃ q, q = rnums (q3.2.1, q3.2.2) := ⟨_, rfl⟩
  obtain ⟨q5, hq5⟩ : ∃ q, q = rnums (q4.2.1, q4.2.2) := ⟨_, rfl⟩
  obtain ⟨q6, hq6⟩ : ∃ q, q = rnum 2 (q5.2.1, q5.2.2) := ⟨_, rfl⟩
  have HS := Aside0.mk (show rmsg bd = rfin (q1.1, q2.1, q3.1, q4.1, q5.1, q6.1) (rops q6.1.toNat q6.2) from by rw [hq6, hq5, hq4, hq3, hq2, hq1]; rfl)
  have HQ1 := Aside0.mk hq1
  have HQ2 := Aside0.mk hq2
  have HQ3 := Aside0.mk hq3
  have HQ4 := Aside0.mk hq4
  have HQ5 := Aside0.mk hq5
  have HQ6 := Aside0.mk hq6
  clear hq1 hq2 hq3 hq4 hq5 hq6
  go_wp2_with fail
  obtain ⟨g, hgd⟩ : ∃ g, g = w1.heap.size := ⟨_, rfl⟩
  have H0 := Aside0.mk (show IsR w1 (w1.alloc (.cells #[.slice Ab bd.length cb, .int .i64 0, .bool false] 80)) g bd bd false from ⟨below_alloc (Below.refl _ w1) _, by omega, HBB.out, HBL.out, Ab, cb, 0, by rw [hgd]; exact heap_alloc_new w1 (.cells #[.slice Ab bd.length cb, .int .i64 0, .bool false] 80), (Kd.R_reads' HO1.out).2.2, (Kd.R_reads' HO1.out).2.1, by omega, rfl⟩)
  have D0 := Aside0.mk (blk_below D1.out (below_alloc (Below.refl _ w1) (.cells #[.slice Ab bd.length cb, .int .i64 0, .bool false] 80)))
  have HRG := Aside0.mk (show w.heap.size ≠ g from by have := blk_lt D1.out; omega)
  clear D1
  rw [← hgd]
  clear hgd
  refine (R_num w1 _ g bd bd false H0.out 1 1 rfl (by omega) (by omega)).mono ?_
  rintro e v1 ⟨rfl, hi, hk⟩
  rw [← HQ1.out] at hi
  rw [← HQ1.out]
  have D1 := Aside0.mk (hk.blk D0.out HRG.out (by simp))
  have H1 := Aside0.mk hi
  clear hi hk HQ1
  go_wp2_with fail
  refine (R_num w1 _ g bd q1.2.1 q1.2.2 H1.out 1 1 rfl (by omega) (by omega)).mono ?_
  rintro e v2 ⟨rfl, hi, hk⟩
  rw [← HQ2.out] at hi
  rw [← HQ2.out]
  have D2 := Aside0.mk (hk.blk D1.out HRG.out (by simp))
  have H2 := Aside0.mk hi
  clear hi hk HQ2
  go_wp2_with fail
  refine (R_num w1 _ g bd q2.2.1 q2.2.2 H2.out 1 1 rfl (by omega) (by omega)).mono ?_
  rintro e v3 ⟨rfl, hi, hk⟩
  rw [← HQ3.out] at hi
  rw [← HQ3.out]
  have D3 := Aside0.mk (hk.blk D2.out HRG.out (by simp))
  have H3 := Aside0.mk hi
  clear hi hk HQ3
  go_wp2_with fail
  refine (R_nums w1 _ g bd q3.2.1 q3.2.2 H3.out).mono ?_
  rintro e v4 ⟨v, rfl, ho, hi, hk⟩
  rw [← HQ4.out] at hi ho
  obtain ⟨A4, c4, rfl⟩ := Kd.R_slice ho
  have O4 := Aside0.mk (Kd.R_lower ho (below_size H3.out.1))
  have D4 := Aside0.mk (hk.blk D3.out HRG.out (by simp))
  have H4 := Aside0.mk hi
  clear hi hk HQ4 ho
  go_wp2_with fail
  refine (R_nums w1 _ g bd q4.2.1 q4.2.2 H4.out).mono ?_
  rintro e v5 ⟨v, rfl, ho, hi, hk⟩
  rw [← HQ5.out] at hi ho
  obtain ⟨A5, c5, rfl⟩ := Kd.R_slice ho
  have O5 := Aside0.mk (Kd.R_lower ho (below_size H4.out.1))
  have P5 := Aside0.mk (Kd.R_keep O4.out hk (fun _ h => h))
  have D5 := Aside0.mk (hk.blk D4.out HRG.out (by simp))
  have H5 := Aside0.mk hi
  clear hi hk HQ5 ho
  go_wp2_with fail
  have H6 := Aside0.mk (H5.out.alloc (.cells #[.int .i64 q1.1, .int .i64 q2.1, .int .i64 q3.1, .slice A4 q4.1.length c4, .slice A5 q5.1.length c5, .slice none 0 0] 26))
  have X6 := Aside0.mk (heap_alloc_new v5 (.cells #[.int .i64 q1.1, .int .i64 q2.1, .int .i64 q3.1, .slice A4 q4.1.length c4, .slice A5 q5.1.length c5, .slice none 0 0] 26))
  have D6 := Aside0.mk (blk_below D5.out (below_alloc (Below.refl _ v5) (.cells #[.int .i64 q1.1, .int .i64 q2.1, .int .i64 q3.1, .slice A4 q4.1.length c4, .slice A5 q5.1.length c5, .slice none 0 0] 26)))
  have OS6 := Aside0.mk (Kd.R_alloc O5.out (.cells #[.int .i64 q1.1, .int .i64 q2.1, .int .i64 q3.1, .slice A4 q4.1.length c4, .slice A5 q5.1.length c5, .slice none 0 0] 26))
  have OH6 := Aside0.mk (Kd.R_alloc P5.out (.cells #[.int .i64 q1.1, .int .i64 q2.1, .int .i64 q3.1, .slice A4 q4.1.length c4, .slice A5 q5.1.length c5, .slice none 0 0] 26))
  have hxg : v5.heap.size ≠ g := by have := H5.out.lt; omega
  have hxr : v5.heap.size ≠ w.heap.size := by have := blk_lt D5.out; omega
  have hxw : w1.heap.size ≤ v5.heap.size := below_size H5.out.1
  obtain ⟨v6, hv6⟩ : ∃ v6, v6 = v5.alloc (.cells #[.int .i64 q1.1, .int .i64 q2.1, .int .i64 q3.1, .slice A4 q4.1.length c4, .slice A5 q5.1.length c5, .slice none 0 0] 26) := ⟨_, rfl⟩
  rw [← hv6] at H6 X6 D6 OS6 OH6
  rw [← hv6]
  obtain ⟨xb, hxb⟩ : ∃ xb, xb = v5.heap.size := ⟨_, rfl⟩
  rw [← hxb] at X6 hxg hxr hxw
  rw [← hxb]
  have HXG := Aside0.mk hxg
  have HXR := Aside0.mk hxr
  have HXW := Aside0.mk hxw
  have HRX := Aside0.mk (fun e => HXR.out e.symm : w.heap.size ≠ xb)
  clear hv6 hxb hxg hxr hxw
  refine (R_num w1 _ g bd q5.2.1 q5.2.2 H6.out 2 2 rfl (by omega) (by omega)).mono ?_
  have hq6b := rnum_bound 2 (q5.2.1, q5.2.2) H6.out.bytes
  rw [← HQ6.out] at hq6b
  rintro e v7 ⟨rfl, hi, hk⟩
  rw [← HQ6.out] at hi
  rw [← HQ6.out]
  have H7 := Aside0.mk hi
  have X7 := Aside0.mk (hk.blk X6.out HXG.out (by simp))
  have D7 := Aside0.mk (hk.blk D6.out HRG.out (by simp))
  have OS7 := Aside0.mk (Kd.R_keep OS6.out hk (fun _ h => h))
  have OH7 := Aside0.mk (Kd.R_keep OH6.out hk (fun _ h => h))
  clear hi hk HQ6
  obtain ⟨N, hN⟩ : ∃ N : Nat, q6.1 = (N : Int) := ⟨q6.1.toNat, by omega⟩
  have HN := Aside0.mk (show N ≤ 65535 from by have := hq6b.2; rw [hN] at this; omega)
  have HS2 := Aside0.mk (show rmsg bd = rfin (q1.1, q2.1, q3.1, q4.1, q5.1, q6.1) (rops N q6.2) from by rw [HS.out]; congr 1; rw [hN, Int.toNat_natCast])
  rw [hN]
  clear hq6b hN
  obtain ⟨FL, hFL⟩ : ∃ FL, FL = rops N q6.2 := ⟨_, rfl⟩
  rw [← hFL] at HS2
  have HFL := Aside0.mk hFL
  clear hFL
  go_wp2
  go_loopw [8] (fun v wr => ∃ (n : Nat) (L : List Opr) (st : List Int × Bool) (Ao : Option Addr) (co : Nat), n + L.length ≤ 65535 ∧ v = .int .i64 n ∧ Aside0 (L ++ (rops n st).1 = FL.1 ∧ (rops n st).2 = FL.2) ∧ Aside0 (IsR w1 wr g bd st.1 st.2) ∧ Aside0 (wr.heap[w.heap.size]? = some (.cells #[.int .i64 0, .int .i64 0, .int .i64 0, .slice none 0 0, .slice none 0 0, .slice none 0 0] 26 (0, 0))) ∧ Aside0 (wr.heap[xb]? = some (.cells #[.int .i64 q1.1, .int .i64 q2.1, .int .i64 q3.1, .slice A4 q4.1.length c4, .slice A5 q5.1.length c5, .slice Ao L.length co] 26 (0, 0))) ∧ Aside0 (Kd.R (Kd.int .i64) 3 wr w1.heap.size (fun k => k ≠ g) (.slice A4 q4.1.length c4) q4.1) ∧ Aside0 (Kd.R (Kd.int .i64) 3 wr w1.heap.size (fun k => k ≠ g) (.slice A5 q5.1.length c5) q5.1) ∧ Aside0 (Kd.S k52 52 wr w1.heap.size (fun k => k ≠ g) (.slice Ao L.length co) L)) (fun v _ => (intOf v).toNat)
  case atStart => exact ⟨N, [], q6.2, none, 0, by have := HN.out; simpa using this, rfl, ⟨by rw [HFL.out]; rfl, by rw [HFL.out]⟩, H7, D7, X7, OH7, OS7, ⟨Kd.S_nil _ _ _ _ _⟩⟩
  case round =>
    obtain ⟨n, L, st, Ao, co, hn, rfl, HFL2, HI, HD, HX, HOH, HOS, HOL⟩ := hrel
    rcases n with _ | n
    · have HF := Aside0.mk (show L = FL.1 ∧ st = FL.2 from by have := HFL2.out; simpa [rops] using this)
      clear hn HFL2
      rcases hbq : st.2 with _ | _
      · have HBT := Aside0.mk hbq
        rw [hbq] at HI
        clear hbq
        obtain ⟨h0, hg, h2, h3, A, c, at_, hv, hC, hc, ha, hd⟩ := HI.out
        have hb2 := (blk_cell hv 2).trans rfl
        have hb1 := (blk_cell hv 1).trans rfl
        have hdc := fun i => blk_cell HD.out i
        have hdf := fun i => blk_frozen HD.out i
        have hxc := fun i => blk_cell HX.out i
        by_cases hr : st.1 = []
        · have hne : ((at_ : Int) != (bd.length : Int)) = false := by have h9 := congrArg List.length hd; rw [hr] at h9; simp at h9; simp; omega
          have HE := Aside0.mk (show readB l0 = ((q1.1, q2.1, q3.1, q4.1, q5.1, FL.1), 0) from by rw [HRB.out, HS2.out]; exact if_neg (by rw [← HF.out.2]; rintro (h | h); rw [HBT.out] at h; cases h; exact h hr))
          have E2 := HEq.out
          rw [HE.out, ← HF.out.1] at E2
          have E3 := Aside0.mk E2
          clear E2 hr h0 hg h2 h3 hv hC hc ha hd
          go_wp2
          obtain ⟨rfl, rfl, rfl, rfl, rfl, rfl, rfl⟩ := E3.out
          refine bodyPost_ret (v := .tuple #[.agg #[.int .i64 q1.1, .int .i64 q2.1, .int .i64 q3.1, .slice A4 q4.1.length c4, .slice A5 q5.1.length c5, .slice Ao L.length co], .int .i64 0]) ?_ rfl ⟨.slice A4 q4.1.length c4, .slice A5 q5.1.length c5, .slice Ao L.length co, rfl, (Kd.R_mono (Kd.R_lower (Kd.R_step (Kd.R_types HOH.out HD.out (by decide)) (fun k hk _ => by repeat (first | refine heap_set ?_ hk.2 | rfl))) (below_size HB1.out)) (fun _ _ => trivial)), (Kd.R_mono (Kd.R_lower (Kd.R_step (Kd.R_types HOS.out HD.out (by decide)) (fun k hk _ => by repeat (first | refine heap_set ?_ hk.2 | rfl))) (below_size HB1.out)) (fun _ _ => trivial)), (Kd.S_mono (Kd.S_lower (Kd.S_step (Kd.S_types HOL.out HD.out (by decide)) (fun k hk _ => by repeat (first | refine heap_set ?_ hk.2 | rfl))) (below_size HB1.out)) (fun _ _ => trivial)), by repeat (first | refine below_set ?_ (Nat.le_refl _) | exact (below_step HB1.out HI.out.1))⟩
          exact results_ct (p := 2) (u := 3) (ty := 26) rfl _ _ w.heap.size 26 #[.int .i64 q1.1, .int .i64 q2.1, .int .i64 q3.1, .slice A4 q4.1.length c4, .slice A5 q5.1.length c5, .slice Ao L.length co] (0, 0) _ rfl (set6 HD.out _ _ _ _ _ _) Tryz.underlying26 rfl (by kernel_rfl)
        · have hne : ((at_ : Int) != (bd.length : Int)) = true := by have h9 : st.1.length = bd.length - at_ := by { rw [← hd]; simp }; have h8 : 0 < st.1.length := List.length_pos_iff.2 hr; simp; omega
          have HE := Aside0.mk (show readB l0 = (zMsg, 3) from by rw [HRB.out, HS2.out]; exact if_pos (by rw [← HF.out.2]; exact .inr hr))
          have E2 := HEq.out
          rw [HE.out] at E2
          have E3 := Aside0.mk E2
          clear E2 h0 hg h2 h3 hv hC hc ha hd
          go_wp2
          obtain ⟨rfl, rfl, rfl, rfl, rfl, rfl, rfl⟩ := E3.out
          refine bodyPost_ret (v := .tuple #[.agg #[.int .i64 0, .int .i64 0, .int .i64 0, .slice none 0 0, .slice none 0 0, .slice none 0 0], .int .i64 3]) ?_ rfl ⟨.slice none 0 0, .slice none 0 0, .slice none 0 0, rfl, Kd.R_nil _ _ _ _ _, Kd.R_nil _ _ _ _ _, Kd.S_nil _ _ _ _ _, by repeat (first | refine below_set ?_ (Nat.le_refl _) | exact (below_step HB1.out HI.out.1))⟩
          exact results_ct (p := 2) (u := 3) (ty := 26) rfl _ _ w.heap.size 26 #[.int .i64 0, .int .i64 0, .int .i64 0, .slice none 0 0, .slice none 0 0, .slice none 0 0] (0, 0) _ rfl (set6 HD.out _ _ _ _ _ _) Tryz.underlying26 rfl (by kernel_rfl)
      · have HBT := Aside0.mk hbq
        rw [hbq] at HI
        clear hbq
        obtain ⟨h0, hg, h2, h3, A, c, at_, hv, hC, hc, ha, hd⟩ := HI.out
        have hb2 := (blk_cell hv 2).trans rfl
        have hb1 := (blk_cell hv 1).trans rfl
        have hdc := fun i => blk_cell HD.out i
        have hdf := fun i => blk_frozen HD.out i
        have hxc := fun i => blk_cell HX.out i
        have HE := Aside0.mk (show readB l0 = (zMsg, 3) from by rw [HRB.out, HS2.out]; exact if_pos (by rw [← HF.out.2]; exact .inl HBT.out))
        have E2 := HEq.out
        rw [HE.out] at E2
        have E3 := Aside0.mk E2
        clear E2 h0 hg h2 h3 hv hC hc ha hd
        go_wp2
        obtain ⟨rfl, rfl, rfl, rfl, rfl, rfl, rfl⟩ := E3.out
        refine bodyPost_ret (v := .tuple #[.agg #[.int .i64 0, .int .i64 0, .int .i64 0, .slice none 0 0, .slice none 0 0, .slice none 0 0], .int .i64 3]) ?_ rfl ⟨.slice none 0 0, .slice none 0 0, .slice none 0 0, rfl, Kd.R_nil _ _ _ _ _, Kd.R_nil _ _ _ _ _, Kd.S_nil _ _ _ _ _, by repeat (first | refine below_set ?_ (Nat.le_refl _) | exact (below_step HB1.out HI.out.1))⟩
        exact results_ct (p := 2) (u := 3) (ty := 26) rfl _ _ w.heap.size 26 #[.int .i64 0, .int .i64 0, .int .i64 0, .slice none 0 0, .slice none 0 0, .slice none 0 0] (0, 0) _ rfl (set6 HD.out _ _ _ _ _ _) Tryz.underlying26 rfl (by kernel_rfl)
    · rcases hbq : st.2 with _ | _
      · have HF := Aside0.mk (show L ++ [(rop st).1] ++ (rops n (rop st).2).1 = FL.1 ∧ (rops n (rop st).2).2 = FL.2 from by have := HFL2.out; rw [show rops (n + 1) st = ((rop st).1 :: (rops n (rop st).2).1, (rops n (rop st).2).2) from if_neg (by rw [hbq]; exact Bool.false_ne_true)] at this; simpa using this)
        have hp : decide ((0 : Int) < ((n + 1 : Nat) : Int)) = true := decide_eq_true (by omega)
        have HLN := Aside0.mk hn
        have HWN := Aside0.mk (show wrap64 (n : Int) = (n : Int) from wrap_in _ (by omega) (by omega))
        obtain ⟨q9, hq9⟩ : ∃ q, q = rop (st.1, st.2) := ⟨_, rfl⟩
        have HQ9 := Aside0.mk hq9
        rw [show rop st = q9 from hq9.symm] at HF
        have hv2 : wr.cell? ⟨g, 2, none⟩ = some (.bool false) := by obtain ⟨_, _, _, _, A, c, at_, hv, _⟩ := HI.out; rw [hbq] at hv; exact (blk_cell hv 2).trans rfl
        have hxc := fun i => blk_cell HX.out i
        have hxf := fun i => blk_frozen HX.out i
        have HB12 := Aside0.mk (Kd.S_bound HOL.out)
        clear hbq hq9 hn HFL2
        go_wp2_with fail
        go_region_law (first | (go_simp; go_at_call 46; refine (R_op w1 _ g bd st.1 st.2 (HI.out.below (by first | exact Below.refl _ _ | exact below_drew (Below.refl _ _)))).mono ?_; rintro e w12 ⟨cs, rfl, hM, hi, hk2⟩; rw [← HQ9.out] at hi hM; obtain ⟨u2, u10, u11, rfl, m2, m10, m11⟩ := k52_openM hM; obtain ⟨B2, d2, rfl⟩ := Kd.R_slice m2; obtain ⟨B10, d10, rfl⟩ := Kd.R_slice m10; obtain ⟨B11, d11, rfl⟩ := Kd.R_slice m11; have hk3 : KeepBut wr w12 g none := hk2; have HM12 := Aside0.mk (show k52.M w12 wr.heap.size (fun k => k ≠ g) q9.1 _ from hM); have H12 := Aside0.mk hi; have HZ12 := Aside0.mk hk3.1; have D12 := Aside0.mk (hk3.blk HD.out HRG.out (by simp)); have X12 := Aside0.mk (hk3.blk HX.out HXG.out (by simp)); have OH12 := Aside0.mk (Kd.R_keep HOH.out hk3 (fun _ h => h)); have OS12 := Aside0.mk (Kd.R_keep HOS.out hk3 (fun _ h => h)); have OL12 := Aside0.mk (Kd.S_keep HB12.out hk3 (fun _ h => h.1)); have hxc2 := fun i => blk_cell X12.out i; have hxf2 := fun i => blk_frozen X12.out i; have X12a := Aside0.mk (blk_below X12.out (below_alloc (Below.refl _ w12) (.cells #[.int .i64 q9.1.f0.f0, .int .i64 q9.1.f0.f1, .slice B2 q9.1.f1.length d2, .int .i64 q9.1.f2.f0, .int .i64 q9.1.f2.f1, .int .i64 q9.1.f2.f2, .int .i64 q9.1.f3, .int .i64 q9.1.f4, .string q9.1.f5, .int .i64 q9.1.f6, .slice B10 q9.1.f7.length d10, .slice B11 q9.1.f8.length d11] 52))); have hxc2a := fun i => blk_cell X12a.out i; clear hi hk2 hk3 hM m2 m10 m11 X12a) | (refine Kd.S_append_step k52 (w0 := w12) w1.heap.size rfl (.tmp 46) (.tmp 49) 24 52 _ 152 rfl Tryz.underlying24 minfo52 rfl (by decide) (by omega) (.slice Ao L.length co) L q9.1 [.int .i64 q9.1.f0.f0, .int .i64 q9.1.f0.f1, .slice B2 q9.1.f1.length d2, .int .i64 q9.1.f2.f0, .int .i64 q9.1.f2.f1, .int .i64 q9.1.f2.f2, .int .i64 q9.1.f3, .int .i64 q9.1.f4, .string q9.1.f5, .int .i64 q9.1.f6, .slice B10 q9.1.f7.length d10, .slice B11 q9.1.f8.length d11] (fun k => k ≠ g) (fun k => k ≠ g ∧ wr.heap.size ≤ k) rfl rfl (k52.M_lower (below_size HI.out.1) (k52.M_mono (fun k hk => ⟨hk.1, hk.2.1⟩) (k52.M_bound HM12.out))) (fun k hk => ⟨hk.1, fun e_ => by have := Kd.S_lt HOL.out k e_.symm; omega⟩) (fun k hk e_ => by have := H12.out.lt; omega) (Kd.S_mono OL12.out (fun k hk => ⟨hk.1, fun h => by have := hk.2.2.1; omega⟩)) (Below.refl _ _) (below_size H12.out.1) (by have := HLN.out; omega) ?_; intro v3 w13 ho hb hgw hat; obtain ⟨A13, c13, rfl⟩ := Kd.R_slice (Kd.S_R ho); have O13 := Aside0.mk ho; have hb12 := fun k (hk : (Value.slice Ao L.length co).ownBlock = some k) => Kd.S_base HOL.out k hk; have hg12 : (Value.slice Ao L.length co).ownBlock ≠ some g := fun e_ => (Kd.S_R HOL.out).1 g e_ rfl; have H13 := Aside0.mk (H12.out.grown hgw hg12 (fun k hk => hb12 k hk)); have D13 := Aside0.mk (blk_grown D12.out hgw (Kd.R_ne (Kd.S_R OL12.out) D12.out (by decide))); have X13 := Aside0.mk (blk_grown X12.out hgw (Kd.R_ne (Kd.S_R OL12.out) X12.out (by decide))); have OH13 := Aside0.mk (Kd.R_over' OH12.out (Kd.S_typed OL12.out) (by decide) hgw); have OS13 := Aside0.mk (Kd.R_over' OS12.out (Kd.S_typed OL12.out) (by decide) hgw); have hxc3 := fun i => blk_cell X13.out i; have hxf3 := fun i => blk_frozen X13.out i; clear ho hb hgw hat hxc2 hxf2 hxc2a hb12 hg12))
        all_goals (go_wp2; go_roundw)
        case rel => exact ⟨n, L ++ [q9.1], q9.2, A13, c13, by have := HLN.out; simp; omega, by first | (rw [HWN.out]; done) | rw [HWN.out] | go_num, HF, ⟨H13.out.far HXG.out HXW.out 5 (.slice A13 (L.length + 1) c13)⟩, ⟨(Below.heap_setCell w13 ⟨xb, 5, none⟩ (.slice A13 (L.length + 1) c13) w.heap.size HRX.out).trans D13.out⟩, by rw [show (L ++ [q9.1]).length = L.length + 1 from by simp]; exact ⟨blk_set X13.out 5 (.slice A13 (L.length + 1) c13)⟩, ⟨Kd.R_set OH13.out X13.out (by decide) 5 (.slice A13 (L.length + 1) c13)⟩, ⟨Kd.R_set OS13.out X13.out (by decide) 5 (.slice A13 (L.length + 1) c13)⟩, ⟨Kd.S_set O13.out X13.out (by decide) 5 (.slice A13 (L.length + 1) c13)⟩⟩
        case measure => exact meas_down n HWN.out
        case rel => exact ⟨n, L ++ [q9.1], q9.2, A13, c13, by have := HLN.out; simp; omega, by first | (rw [HWN.out]; done) | rw [HWN.out] | go_num, HF, ⟨H13.out.far HXG.out HXW.out 5 (.slice A13 (L.length + 1) c13)⟩, ⟨(Below.heap_setCell w13 ⟨xb, 5, none⟩ (.slice A13 (L.length + 1) c13) w.heap.size HRX.out).trans D13.out⟩, by rw [show (L ++ [q9.1]).length = L.length + 1 from by simp]; exact ⟨blk_set X13.out 5 (.slice A13 (L.length + 1) c13)⟩, ⟨Kd.R_set OH13.out X13.out (by decide) 5 (.slice A13 (L.length + 1) c13)⟩, ⟨Kd.R_set OS13.out X13.out (by decide) 5 (.slice A13 (L.length + 1) c13)⟩, ⟨Kd.S_set O13.out X13.out (by decide) 5 (.slice A13 (L.length + 1) c13)⟩⟩
        case measure => exact meas_down n HWN.out
        case rel => exact ⟨n, L ++ [q9.1], q9.2, A13, c13, by have := HLN.out; simp; omega, by first | (rw [HWN.out]; done) | rw [HWN.out] | go_num, HF, ⟨H13.out.far HXG.out HXW.out 5 (.slice A13 (L.length + 1) c13)⟩, ⟨(Below.heap_setCell w13 ⟨xb, 5, none⟩ (.slice A13 (L.length + 1) c13) w.heap.size HRX.out).trans D13.out⟩, by rw [show (L ++ [q9.1]).length = L.length + 1 from by simp]; exact ⟨blk_set X13.out 5 (.slice A13 (L.length + 1) c13)⟩, ⟨Kd.R_set OH13.out X13.out (by decide) 5 (.slice A13 (L.length + 1) c13)⟩, ⟨Kd.R_set OS13.out X13.out (by decide) 5 (.slice A13 (L.length + 1) c13)⟩, ⟨Kd.S_set O13.out X13.out (by decide) 5 (.slice A13 (L.length + 1) c13)⟩⟩
        case measure => exact meas_down n HWN.out
      · have HF := Aside0.mk (show L = FL.1 ∧ st = FL.2 from by have := HFL2.out; rw [show rops (n + 1) st = ([], st) from if_pos hbq] at this; simpa using this)
        have hp : decide ((0 : Int) < ((n + 1 : Nat) : Int)) = true := decide_eq_true (by omega)
        have HBT := Aside0.mk hbq
        rw [hbq] at HI
        clear hbq HFL2 hn
        obtain ⟨h0, hg, h2, h3, A, c, at_, hv, hC, hc, ha, hd⟩ := HI.out
        have hb2 := (blk_cell hv 2).trans rfl
        have hb1 := (blk_cell hv 1).trans rfl
        have hdc := fun i => blk_cell HD.out i
        have hdf := fun i => blk_frozen HD.out i
        have hxc := fun i => blk_cell HX.out i
        have HE := Aside0.mk (show readB l0 = (zMsg, 3) from by rw [HRB.out, HS2.out]; exact if_pos (by rw [← HF.out.2]; exact .inl HBT.out))
        have E2 := HEq.out
        rw [HE.out] at E2
        have E3 := Aside0.mk E2
        clear E2 h0 hg h2 h3 hv hC hc ha hd
        go_wp2
        obtain ⟨rfl, rfl, rfl, rfl, rfl, rfl, rfl⟩ := E3.out
        refine bodyPost_ret (v := .tuple #[.agg #[.int .i64 0, .int .i64 0, .int .i64 0, .slice none 0 0, .slice none 0 0, .slice none 0 0], .int .i64 3]) ?_ rfl ⟨.slice none 0 0, .slice none 0 0, .slice none 0 0, rfl, Kd.R_nil _ _ _ _ _, Kd.R_nil _ _ _ _ _, Kd.S_nil _ _ _ _ _, by repeat (first | refine below_set ?_ (Nat.le_refl _) | exact (below_step HB1.out HI.out.1))⟩
        exact results_ct (p := 2) (u := 3) (ty := 26) rfl _ _ w.heap.size 26 #[.int .i64 0, .int .i64 0, .int .i64 0, .slice none 0 0, .slice none 0 0, .slice none 0 0] (0, 0) _ rfl (set6 HD.out _ _ _ _ _ _) Tryz.underlying26 rfl (by kernel_rfl)
def raddleref01_ReadValue.f (k : Nat) (l0 : List Int) (a1 : Int) : Option (Int × Int × ByteArray × Int × Int) := (raddleref01_in.f a1 0 (l0.length : Int)).bind fun t395 => (if t395 = true then (if a1 = (l0.length : Int) then (some (0, 0, (⟨#[]⟩ : ByteArray), 0, 3)) else (if 0 ≤ a1 then (if a1 < (l0.length : Int) then (if (wrap64 (rd l0 a1)) = 1 then (if 0 = 0 then ((raddleref01_Value.f (wrap64 (rd l0 a1)) 0 (⟨#[]⟩ : ByteArray)).bind fun t398 => (if t398 = true then (some (wrap64 (rd l0 a1), 0, (⟨#[]⟩ : ByteArray), wrap64 (a1 + 1), 0)) else (some (0, 0, (⟨#[]⟩ : ByteArray), 0, 3)))) else (some (0, 0, (⟨#[]⟩ : ByteArray), 0, 3))) else (if (wrap64 (rd l0 a1)) = 2 then ((raddleref01_Get.f k l0 (wrap64 (a1 + 1)) 1).bind fun bt399 => (if bt399.2.2 = 0 then ((raddleref01_Value.f (wrap64 (rd l0 a1)) bt399.1 (⟨#[]⟩ : ByteArray)).bind fun t402 => (if t402 = true then (some (wrap64 (rd l0 a1), bt399.1, (⟨#[]⟩ : ByteArray), bt399.2.1, 0)) else (some (0, 0, (⟨#[]⟩ : ByteArray), 0, 3)))) else (some (0, 0, (⟨#[]⟩ : ByteArray), 0, 3)))) else (if (wrap64 (rd l0 a1)) = 3 then ((raddleref01_GetInt.f k l0 (wrap64 (a1 + 1))).bind fun bt403 => (if bt403.2.2 = 0 then ((raddleref01_Value.f (wrap64 (rd l0 a1)) bt403.1 (⟨#[]⟩ : ByteArray)).bind fun t406 => (if t406 = true then (some (wrap64 (rd l0 a1), bt403.1, (⟨#[]⟩ : ByteArray), bt403.2.1, 0)) else (some (0, 0, (⟨#[]⟩ : ByteArray), 0, 3)))) else (some (0, 0, (⟨#[]⟩ : ByteArray), 0, 3)))) else (if (wrap64 (rd l0 a1)) = 4 then ((raddleref01_GetText.f l0 (wrap64 (a1 + 1))).bind fun bt407 => (if bt407.2.2 = 0 then ((raddleref01_Value.f (wrap64 (rd l0 a1)) 0 bt407.1).bind fun t410 => (if t410 = true then (some (wrap64 (rd l0 a1), 0, bt407.1, bt407.2.1, 0)) else (some (0, 0, (⟨#[]⟩ : ByteArray), 0, 3)))) else (some (0, 0, (⟨#[]⟩ : ByteArray), 0, 3)))) else (if 3 = 0 then ((raddleref01_Value.f (wrap64 (rd l0 a1)) 0 (⟨#[]⟩ : ByteArray)).bind fun t411 => (if t411 = true then (some (wrap64 (rd l0 a1), 0, (⟨#[]⟩ : ByteArray), wrap64 (a1 + 1), 0)) else (some (0, 0, (⟨#[]⟩ : ByteArray), 0, 3)))) else (some (0, 0, (⟨#[]⟩ : ByteArray), 0, 3))))))) else (none)) else (none))) else (some (0, 0, (⟨#[]⟩ : ByteArray), 0, 1)))
set_option linter.unusedSimpArgs false
set_option maxHeartbeats 8000000 in
set_option maxRecDepth 100000 in
theorem raddleref01_ReadValue.calls (k : Nat) (A0 : Option Addr) (c0 : Nat) (l0 : List Int) (a1 : Int) (r1 : Int) (r2 : Int) (r3 : ByteArray) (r4 : Int) (r5 : Int) (w : World) (hr0 : Kd.C (Kd.int .u8) w A0 l0.length l0) (hc0 : l0.length ≤ c0) (h : raddleref01_ReadValue.f k l0 a1 = some (r1, r2, r3, r4, r5)) :
    Calls Tryz.prog 133 #[.slice A0 l0.length c0, .int .i64 a1] w fun e w' => e = .returned (.tuple #[.agg #[.int .i64 r1, .int .i64 r2, .string r3], .int .i64 r4, .int .i64 r5]) ∧ Below w.heap.size w w' := by
  have HR := Aside0.mk hr0
  have HC := Aside0.mk hc0
  have H := Aside0.mk h
  have HB := Aside0.mk (Below.refl w.heap.size w)
  clear hr0 hc0 h
  go_enter Tryz.func133, Tryz.ntmps133
  go_wp2_with fail
  obtain ⟨t, ht⟩ : ∃ t, raddleref01_in.f a1 0 (l0.length : Int) = some t := ⟨_, in_eq _ _ _⟩
  refine (raddleref01_in.calls a1 0 (l0.length : Int) t _ ht).mono ?_
  rintro e w1 ⟨rfl, hdr⟩
  have HB1 := Aside0.mk (below_step (below_alloc (Below.refl w.heap.size w) (.cells #[.int .i64 0, .int .i64 0, .string (⟨#[]⟩ : ByteArray)] 92)) hdr.below)
  have D1 := Aside0.mk (blk_below (heap_alloc_new w (.cells #[.int .i64 0, .int .i64 0, .string (⟨#[]⟩ : ByteArray)] 92)) hdr.below)
  have HR1 := Aside0.mk (Kd.C_below HR.out HB1.out)
  clear hdr HB
  cases t with
  | false =>
    have h := H.out
    simp only [raddleref01_ReadValue.f, ht, Option.bind_some, if_neg (show ¬ (false = true) by decide), Option.some.injEq, Prod.mk.injEq] at h
    obtain ⟨rfl, rfl, rfl, rfl, rfl⟩ := h
    have hcx := fun i => blk_cell D1.out i
    have hfx := fun i => blk_frozen D1.out i
    go_wp2_with fail
    refine bodyPost_ret (results_ctt rfl _ _ w.heap.size 92 #[.int .i64 0, .int .i64 0, .string (⟨#[]⟩ : ByteArray)] (0, 0) _ rfl (blk_set (blk_set (blk_set D1.out 0 (.int .i64 0)) 1 (.int .i64 0)) 2 (.string (⟨#[]⟩ : ByteArray))) Tryz.underlying92 rfl (by kernel_rfl)) rfl ?_
    exact ⟨rfl, below_set (below_set (below_set HB1.out (Nat.le_refl _)) (Nat.le_refl _)) (Nat.le_refl _)⟩
  | true =>
    by_cases hA : a1 = (l0.length : Int)
    · have h := H.out
      simp only [raddleref01_ReadValue.f, ht, Option.bind_some, if_pos rfl, if_pos hA, Option.some.injEq, Prod.mk.injEq] at h
      subst hA
      obtain ⟨rfl, rfl, rfl, rfl, rfl⟩ := h
      have hcx := fun i => blk_cell D1.out i
      have hfx := fun i => blk_frozen D1.out i
      go_wp2_with fail
      refine bodyPost_ret (results_ctt rfl _ _ w.heap.size 92 #[.int .i64 0, .int .i64 0, .string (⟨#[]⟩ : ByteArray)] (0, 0) _ rfl (blk_set (blk_set (blk_set D1.out 0 (.int .i64 0)) 1 (.int .i64 0)) 2 (.string (⟨#[]⟩ : ByteArray))) Tryz.underlying92 rfl (by kernel_rfl)) rfl ?_
      exact ⟨rfl, below_set (below_set (below_set HB1.out (Nat.le_refl _)) (Nat.le_refl _)) (Nat.le_refl _)⟩
    · have b0 : (a1 == (l0.length : Int)) = false := beq_eq_false_iff_ne.mpr hA
      have hin := in_eq a1 0 (l0.length : Int)
      rw [ht] at hin
      have hin2 : 0 ≤ a1 ∧ a1 ≤ (l0.length : Int) := by simpa using hin
      have p1 : 0 ≤ a1 := hin2.1
      have p2 : a1 < (l0.length : Int) := by omega
      obtain ⟨ad, ee, hx⟩ := Kd.at_int HR1.out a1 p1 p2
      cases ee
      have p1' := eq_true p1
      have p2' := eq_true p2
      clear hin hin2
      by_cases k1 : wrap64 (rd l0 a1) = 1
      · have n1 : (wrap64 (rd l0 a1) == 1) = true := beq_iff_eq.mpr k1
        have h := H.out
        simp only [raddleref01_ReadValue.f, ht, Option.bind_some, if_pos (show true = true from rfl), if_neg hA, if_pos p1, if_pos p2, if_pos k1, if_pos (show (0 : Int) = 0 from rfl)] at h
        replace h := Option.bind_eq_some_iff.mp h
        obtain ⟨t2, hv, h⟩ := h
        have K1 := Aside0.mk k1
        clear k1
        go_wp2_with fail
        refine (raddleref01_Value.calls (wrap64 (rd l0 a1)) 0 (⟨#[]⟩ : ByteArray) t2 _ hv).mono ?_
        rintro en w3 ⟨rfl, hb3⟩
        have hb2 := below_alloc (Below.refl w1.heap.size w1) (.cells #[.int .i64 (wrap64 (rd l0 a1)), .int .i64 0, .string (⟨#[]⟩ : ByteArray)] 92)
        have HB3 := Aside0.mk (below_step (below_step HB1.out hb2) hb3)
        have D3 := Aside0.mk (blk_below (blk_below D1.out hb2) hb3)
        have E3 : Aside0 (w3.heap[w1.heap.size]? = some (.cells #[.int .i64 (wrap64 (rd l0 a1)), .int .i64 0, .string (⟨#[]⟩ : ByteArray)] 92 (0, 0))) := Aside0.mk (blk_below (heap_alloc_new w1 (.cells #[.int .i64 (wrap64 (rd l0 a1)), .int .i64 0, .string (⟨#[]⟩ : ByteArray)] 92)) hb3)
        clear hb3 hb2 hx
        have hcv := fun i => blk_cell E3.out i
        have hfv := fun i => blk_frozen E3.out i
        have hcx := fun i => blk_cell D3.out i
        have hfx := fun i => blk_frozen D3.out i
        cases t2 with
        | true =>
          rw [if_pos rfl] at h
          simp only [Option.some.injEq, Prod.mk.injEq] at h
          obtain ⟨rfl, rfl, rfl, rfl, rfl⟩ := h
          go_wp2_with fail
          refine bodyPost_ret (results_ctt rfl _ _ w.heap.size 92 #[.int .i64 (wrap64 (rd l0 a1)), .int .i64 0, .string (⟨#[]⟩ : ByteArray)] (0, 0) _ rfl (blk_set (blk_set (blk_set D3.out 0 (.int .i64 (wrap64 (rd l0 a1)))) 1 (.int .i64 0)) 2 (.string (⟨#[]⟩ : ByteArray))) Tryz.underlying92 rfl (by kernel_rfl)) rfl ?_
          exact ⟨rfl, below_set (below_set (below_set HB3.out (Nat.le_refl _)) (Nat.le_refl _)) (Nat.le_refl _)⟩
        | false =>
          rw [if_neg (by decide)] at h
          simp only [Option.some.injEq, Prod.mk.injEq] at h
          obtain ⟨rfl, rfl, rfl, rfl, rfl⟩ := h
          go_wp2_with fail
          refine bodyPost_ret (results_ctt rfl _ _ w.heap.size 92 #[.int .i64 0, .int .i64 0, .string (⟨#[]⟩ : ByteArray)] (0, 0) _ rfl (blk_set (blk_set (blk_set D3.out 0 (.int .i64 0)) 1 (.int .i64 0)) 2 (.string (⟨#[]⟩ : ByteArray))) Tryz.underlying92 rfl (by kernel_rfl)) rfl ?_
          exact ⟨rfl, below_set (below_set (below_set HB3.out (Nat.le_refl _)) (Nat.le_refl _)) (Nat.le_refl _)⟩
      by_cases k2 : wrap64 (rd l0 a1) = 2
      · have n1 : (wrap64 (rd l0 a1) == 1) = false := beq_eq_false_iff_ne.mpr k1
        have n2 : (wrap64 (rd l0 a1) == 2) = true := beq_iff_eq.mpr k2
        have h := H.out
        simp only [raddleref01_ReadValue.f, ht, Option.bind_some, if_pos (show true = true from rfl), if_neg hA, if_pos p1, if_pos p2, if_neg k1, if_pos k2] at h
        replace h := Option.bind_eq_some_iff.mp h
        obtain ⟨⟨x, y, e⟩, hg, h⟩ := h
        simp only at h
        have K2 := Aside0.mk k2
        clear k2
        go_wp2_with fail
        refine (raddleref01_Get.calls k (some ad) c0 l0 (wrap64 (a1 + 1)) 1 x y e _ (Kd.C_below HR1.out (below_alloc (Below.refl _ _) _)) HC.out hg).mono ?_
        rintro en w2 ⟨rfl, hdr⟩
        have hb2 := below_step (below_alloc (Below.refl w1.heap.size w1) (.cells #[.int .i64 (wrap64 (rd l0 a1)), .int .i64 0, .string (⟨#[]⟩ : ByteArray)] 92)) hdr.below
        have HB2 := Aside0.mk (below_step HB1.out hb2)
        have D2 := Aside0.mk (blk_below D1.out hb2)
        have E2 := Aside0.mk (blk_below (heap_alloc_new w1 (.cells #[.int .i64 (wrap64 (rd l0 a1)), .int .i64 0, .string (⟨#[]⟩ : ByteArray)] 92)) hdr.below)
        have HG := Aside0.mk (below_size HB1.out)
        have HN := Aside0.mk (Nat.ne_of_lt (blk_lt D1.out))
        clear hb2 hdr hx
        have hcv := fun i => blk_cell E2.out i
        have hfv := fun i => blk_frozen E2.out i
        by_cases he : e = 0
        · have g1 : (e == 0) = true := beq_iff_eq.mpr he
          have g2 : (e != 0) = false := bne_eq_false_iff_eq.mpr he
          rw [if_pos he] at h
          replace h := Option.bind_eq_some_iff.mp h
          obtain ⟨t2, hv, h⟩ := h
          have HE := Aside0.mk he
          clear he
          go_wp2_with fail
          refine (raddleref01_Value.calls (wrap64 (rd l0 a1)) x (⟨#[]⟩ : ByteArray) t2 _ hv).mono ?_
          rintro en w3 ⟨rfl, hb3⟩
          have HB3 := Aside0.mk (below_step (below_set HB2.out HG.out) hb3)
          have D3 := Aside0.mk (blk_below (blk_far D2.out HN.out (.int .i64 x)) hb3)
          have E3 : Aside0 (w3.heap[w1.heap.size]? = some (.cells #[.int .i64 (wrap64 (rd l0 a1)), .int .i64 x, .string (⟨#[]⟩ : ByteArray)] 92 (0, 0))) := Aside0.mk (blk_below (blk_set E2.out 1 (.int .i64 x)) hb3)
          clear hb3 hcv hfv
          have hcv := fun i => blk_cell E3.out i
          have hfv := fun i => blk_frozen E3.out i
          have hcx := fun i => blk_cell D3.out i
          have hfx := fun i => blk_frozen D3.out i
          cases t2 with
          | true =>
            rw [if_pos rfl] at h
            simp only [Option.some.injEq, Prod.mk.injEq] at h
            obtain ⟨rfl, rfl, rfl, rfl, rfl⟩ := h
            go_wp2_with fail
            refine bodyPost_ret (results_ctt rfl _ _ w.heap.size 92 #[.int .i64 (wrap64 (rd l0 a1)), .int .i64 x, .string (⟨#[]⟩ : ByteArray)] (0, 0) _ rfl (blk_set (blk_set (blk_set D3.out 0 (.int .i64 (wrap64 (rd l0 a1)))) 1 (.int .i64 x)) 2 (.string (⟨#[]⟩ : ByteArray))) Tryz.underlying92 rfl (by kernel_rfl)) rfl ?_
            exact ⟨rfl, below_set (below_set (below_set HB3.out (Nat.le_refl _)) (Nat.le_refl _)) (Nat.le_refl _)⟩
          | false =>
            rw [if_neg (by decide)] at h
            simp only [Option.some.injEq, Prod.mk.injEq] at h
            obtain ⟨rfl, rfl, rfl, rfl, rfl⟩ := h
            go_wp2_with fail
            refine bodyPost_ret (results_ctt rfl _ _ w.heap.size 92 #[.int .i64 0, .int .i64 0, .string (⟨#[]⟩ : ByteArray)] (0, 0) _ rfl (blk_set (blk_set (blk_set D3.out 0 (.int .i64 0)) 1 (.int .i64 0)) 2 (.string (⟨#[]⟩ : ByteArray))) Tryz.underlying92 rfl (by kernel_rfl)) rfl ?_
            exact ⟨rfl, below_set (below_set (below_set HB3.out (Nat.le_refl _)) (Nat.le_refl _)) (Nat.le_refl _)⟩
        · have g1 : (e == 0) = false := beq_eq_false_iff_ne.mpr he
          have g2 : (e != 0) = true := bne_iff_ne.mpr he
          rw [if_neg he] at h
          simp only [Option.some.injEq, Prod.mk.injEq] at h
          obtain ⟨rfl, rfl, rfl, rfl, rfl⟩ := h
          clear he
          have D2' := Aside0.mk (blk_far (p := ⟨w1.heap.size, 1, none⟩) D2.out HN.out (.int .i64 x))
          have hcx := fun i => blk_cell D2.out i
          have hfx := fun i => blk_frozen D2.out i
          have hn1 := HN.out
          have hn2 := HN.out.symm
          go_wp2_with fail
          refine bodyPost_ret (results_ctt rfl _ _ w.heap.size 92 #[.int .i64 0, .int .i64 0, .string (⟨#[]⟩ : ByteArray)] (0, 0) _ rfl (blk_set (blk_set (blk_set D2'.out 0 (.int .i64 0)) 1 (.int .i64 0)) 2 (.string (⟨#[]⟩ : ByteArray))) Tryz.underlying92 rfl (by kernel_rfl)) rfl ?_
          exact ⟨rfl, below_set (below_set (below_set (below_set HB2.out HG.out) (Nat.le_refl _)) (Nat.le_refl _)) (Nat.le_refl _)⟩
      by_cases k3 : wrap64 (rd l0 a1) = 3
      · have n1 : (wrap64 (rd l0 a1) == 1) = false := beq_eq_false_iff_ne.mpr k1
        have n2 : (wrap64 (rd l0 a1) == 2) = false := beq_eq_false_iff_ne.mpr k2
        have n3 : (wrap64 (rd l0 a1) == 3) = true := beq_iff_eq.mpr k3
        have h := H.out
        simp only [raddleref01_ReadValue.f, ht, Option.bind_some, if_pos (show true = true from rfl), if_neg hA, if_pos p1, if_pos p2, if_neg k1, if_neg k2, if_pos k3] at h
        replace h := Option.bind_eq_some_iff.mp h
        obtain ⟨⟨x, y, e⟩, hg, h⟩ := h
        simp only at h
        have K3 := Aside0.mk k3
        clear k3
        go_wp2_with fail
        refine (raddleref01_GetInt.calls k (some ad) c0 l0 (wrap64 (a1 + 1)) x y e _ (Kd.C_below HR1.out (below_alloc (Below.refl _ _) _)) HC.out hg).mono ?_
        rintro en w2 ⟨rfl, hdr⟩
        have hb2 := below_step (below_alloc (Below.refl w1.heap.size w1) (.cells #[.int .i64 (wrap64 (rd l0 a1)), .int .i64 0, .string (⟨#[]⟩ : ByteArray)] 92)) hdr.below
        have HB2 := Aside0.mk (below_step HB1.out hb2)
        have D2 := Aside0.mk (blk_below D1.out hb2)
        have E2 := Aside0.mk (blk_below (heap_alloc_new w1 (.cells #[.int .i64 (wrap64 (rd l0 a1)), .int .i64 0, .string (⟨#[]⟩ : ByteArray)] 92)) hdr.below)
        have HG := Aside0.mk (below_size HB1.out)
        have HN := Aside0.mk (Nat.ne_of_lt (blk_lt D1.out))
        clear hb2 hdr hx
        have hcv := fun i => blk_cell E2.out i
        have hfv := fun i => blk_frozen E2.out i
        by_cases he : e = 0
        · have g1 : (e == 0) = true := beq_iff_eq.mpr he
          have g2 : (e != 0) = false := bne_eq_false_iff_eq.mpr he
          rw [if_pos he] at h
          replace h := Option.bind_eq_some_iff.mp h
          obtain ⟨t2, hv, h⟩ := h
          have HE := Aside0.mk he
          clear he
          go_wp2_with fail
          refine (raddleref01_Value.calls (wrap64 (rd l0 a1)) x (⟨#[]⟩ : ByteArray) t2 _ hv).mono ?_
          rintro en w3 ⟨rfl, hb3⟩
          have HB3 := Aside0.mk (below_step (below_set HB2.out HG.out) hb3)
          have D3 := Aside0.mk (blk_below (blk_far D2.out HN.out (.int .i64 x)) hb3)
          have E3 : Aside0 (w3.heap[w1.heap.size]? = some (.cells #[.int .i64 (wrap64 (rd l0 a1)), .int .i64 x, .string (⟨#[]⟩ : ByteArray)] 92 (0, 0))) := Aside0.mk (blk_below (blk_set E2.out 1 (.int .i64 x)) hb3)
          clear hb3 hcv hfv
          have hcv := fun i => blk_cell E3.out i
          have hfv := fun i => blk_frozen E3.out i
          have hcx := fun i => blk_cell D3.out i
          have hfx := fun i => blk_frozen D3.out i
          cases t2 with
          | true =>
            rw [if_pos rfl] at h
            simp only [Option.some.injEq, Prod.mk.injEq] at h
            obtain ⟨rfl, rfl, rfl, rfl, rfl⟩ := h
            go_wp2_with fail
            refine bodyPost_ret (results_ctt rfl _ _ w.heap.size 92 #[.int .i64 (wrap64 (rd l0 a1)), .int .i64 x, .string (⟨#[]⟩ : ByteArray)] (0, 0) _ rfl (blk_set (blk_set (blk_set D3.out 0 (.int .i64 (wrap64 (rd l0 a1)))) 1 (.int .i64 x)) 2 (.string (⟨#[]⟩ : ByteArray))) Tryz.underlying92 rfl (by kernel_rfl)) rfl ?_
            exact ⟨rfl, below_set (below_set (below_set HB3.out (Nat.le_refl _)) (Nat.le_refl _)) (Nat.le_refl _)⟩
          | false =>
            rw [if_neg (by decide)] at h
            simp only [Option.some.injEq, Prod.mk.injEq] at h
            obtain ⟨rfl, rfl, rfl, rfl, rfl⟩ := h
            go_wp2_with fail
            refine bodyPost_ret (results_ctt rfl _ _ w.heap.size 92 #[.int .i64 0, .int .i64 0, .string (⟨#[]⟩ : ByteArray)] (0, 0) _ rfl (blk_set (blk_set (blk_set D3.out 0 (.int .i64 0)) 1 (.int .i64 0)) 2 (.string (⟨#[]⟩ : ByteArray))) Tryz.underlying92 rfl (by kernel_rfl)) rfl ?_
            exact ⟨rfl, below_set (below_set (below_set HB3.out (Nat.le_refl _)) (Nat.le_refl _)) (Nat.le_refl _)⟩
        · have g1 : (e == 0) = false := beq_eq_false_iff_ne.mpr he
          have g2 : (e != 0) = true := bne_iff_ne.mpr he
          rw [if_neg he] at h
          simp only [Option.some.injEq, Prod.mk.injEq] at h
          obtain ⟨rfl, rfl, rfl, rfl, rfl⟩ := h
          clear he
          have D2' := Aside0.mk (blk_far (p := ⟨w1.heap.size, 1, none⟩) D2.out HN.out (.int .i64 x))
          have hcx := fun i => blk_cell D2.out i
          have hfx := fun i => blk_frozen D2.out i
          have hn1 := HN.out
          have hn2 := HN.out.symm
          go_wp2_with fail
          refine bodyPost_ret (results_ctt rfl _ _ w.heap.size 92 #[.int .i64 0, .int .i64 0, .string (⟨#[]⟩ : ByteArray)] (0, 0) _ rfl (blk_set (blk_set (blk_set D2'.out 0 (.int .i64 0)) 1 (.int .i64 0)) 2 (.string (⟨#[]⟩ : ByteArray))) Tryz.underlying92 rfl (by kernel_rfl)) rfl ?_
          exact ⟨rfl, below_set (below_set (below_set (below_set HB2.out HG.out) (Nat.le_refl _)) (Nat.le_refl _)) (Nat.le_refl _)⟩
      by_cases k4 : wrap64 (rd l0 a1) = 4
      · have n1 : (wrap64 (rd l0 a1) == 1) = false := beq_eq_false_iff_ne.mpr k1
        have n2 : (wrap64 (rd l0 a1) == 2) = false := beq_eq_false_iff_ne.mpr k2
        have n3 : (wrap64 (rd l0 a1) == 3) = false := beq_eq_false_iff_ne.mpr k3
        have n4 : (wrap64 (rd l0 a1) == 4) = true := beq_iff_eq.mpr k4
        have h := H.out
        simp only [raddleref01_ReadValue.f, ht, Option.bind_some, if_pos (show true = true from rfl), if_neg hA, if_pos p1, if_pos p2, if_neg k1, if_neg k2, if_neg k3, if_pos k4] at h
        replace h := Option.bind_eq_some_iff.mp h
        obtain ⟨⟨x, y, e⟩, hg, h⟩ := h
        simp only at h
        have K4 := Aside0.mk k4
        clear k4
        go_wp2_with fail
        refine (raddleref01_GetText.calls (some ad) c0 l0 (wrap64 (a1 + 1)) x y e _ (Kd.C_below HR1.out (below_alloc (Below.refl _ _) _)) HC.out hg).mono ?_
        rintro en w2 ⟨rfl, hdr⟩
        have hb2 := below_step (below_alloc (Below.refl w1.heap.size w1) (.cells #[.int .i64 (wrap64 (rd l0 a1)), .int .i64 0, .string (⟨#[]⟩ : ByteArray)] 92)) hdr.below
        have HB2 := Aside0.mk (below_step HB1.out hb2)
        have D2 := Aside0.mk (blk_below D1.out hb2)
        have E2 := Aside0.mk (blk_below (heap_alloc_new w1 (.cells #[.int .i64 (wrap64 (rd l0 a1)), .int .i64 0, .string (⟨#[]⟩ : ByteArray)] 92)) hdr.below)
        have HG := Aside0.mk (below_size HB1.out)
        have HN := Aside0.mk (Nat.ne_of_lt (blk_lt D1.out))
        clear hb2 hdr hx
        have hcv := fun i => blk_cell E2.out i
        have hfv := fun i => blk_frozen E2.out i
        by_cases he : e = 0
        · have g1 : (e == 0) = true := beq_iff_eq.mpr he
          have g2 : (e != 0) = false := bne_eq_false_iff_eq.mpr he
          rw [if_pos he] at h
          replace h := Option.bind_eq_some_iff.mp h
          obtain ⟨t2, hv, h⟩ := h
          have HE := Aside0.mk he
          clear he
          go_wp2_with fail
          refine (raddleref01_Value.calls (wrap64 (rd l0 a1)) 0 x t2 _ hv).mono ?_
          rintro en w3 ⟨rfl, hb3⟩
          have HB3 := Aside0.mk (below_step (below_set HB2.out HG.out) hb3)
          have D3 := Aside0.mk (blk_below (blk_far D2.out HN.out (.string x)) hb3)
          have E3 : Aside0 (w3.heap[w1.heap.size]? = some (.cells #[.int .i64 (wrap64 (rd l0 a1)), .int .i64 0, .string x] 92 (0, 0))) := Aside0.mk (blk_below (blk_set E2.out 2 (.string x)) hb3)
          clear hb3 hcv hfv
          have hcv := fun i => blk_cell E3.out i
          have hfv := fun i => blk_frozen E3.out i
          have hcx := fun i => blk_cell D3.out i
          have hfx := fun i => blk_frozen D3.out i
          cases t2 with
          | true =>
            rw [if_pos rfl] at h
            simp only [Option.some.injEq, Prod.mk.injEq] at h
            obtain ⟨rfl, rfl, rfl, rfl, rfl⟩ := h
            go_wp2_with fail
            refine bodyPost_ret (results_ctt rfl _ _ w.heap.size 92 #[.int .i64 (wrap64 (rd l0 a1)), .int .i64 0, .string x] (0, 0) _ rfl (blk_set (blk_set (blk_set D3.out 0 (.int .i64 (wrap64 (rd l0 a1)))) 1 (.int .i64 0)) 2 (.string x)) Tryz.underlying92 rfl (by kernel_rfl)) rfl ?_
            exact ⟨rfl, below_set (below_set (below_set HB3.out (Nat.le_refl _)) (Nat.le_refl _)) (Nat.le_refl _)⟩
          | false =>
            rw [if_neg (by decide)] at h
            simp only [Option.some.injEq, Prod.mk.injEq] at h
            obtain ⟨rfl, rfl, rfl, rfl, rfl⟩ := h
            go_wp2_with fail
            refine bodyPost_ret (results_ctt rfl _ _ w.heap.size 92 #[.int .i64 0, .int .i64 0, .string (⟨#[]⟩ : ByteArray)] (0, 0) _ rfl (blk_set (blk_set (blk_set D3.out 0 (.int .i64 0)) 1 (.int .i64 0)) 2 (.string (⟨#[]⟩ : ByteArray))) Tryz.underlying92 rfl (by kernel_rfl)) rfl ?_
            exact ⟨rfl, below_set (below_set (below_set HB3.out (Nat.le_refl _)) (Nat.le_refl _)) (Nat.le_refl _)⟩
        · have g1 : (e == 0) = false := beq_eq_false_iff_ne.mpr he
          have g2 : (e != 0) = true := bne_iff_ne.mpr he
          rw [if_neg he] at h
          simp only [Option.some.injEq, Prod.mk.injEq] at h
          obtain ⟨rfl, rfl, rfl, rfl, rfl⟩ := h
          clear he
          have D2' := Aside0.mk (blk_far (p := ⟨w1.heap.size, 2, none⟩) D2.out HN.out (.string x))
          have hcx := fun i => blk_cell D2.out i
          have hfx := fun i => blk_frozen D2.out i
          have hn1 := HN.out
          have hn2 := HN.out.symm
          go_wp2_with fail
          refine bodyPost_ret (results_ctt rfl _ _ w.heap.size 92 #[.int .i64 0, .int .i64 0, .string (⟨#[]⟩ : ByteArray)] (0, 0) _ rfl (blk_set (blk_set (blk_set D2'.out 0 (.int .i64 0)) 1 (.int .i64 0)) 2 (.string (⟨#[]⟩ : ByteArray))) Tryz.underlying92 rfl (by kernel_rfl)) rfl ?_
          exact ⟨rfl, below_set (below_set (below_set (below_set HB2.out HG.out) (Nat.le_refl _)) (Nat.le_refl _)) (Nat.le_refl _)⟩
      have n1 : (wrap64 (rd l0 a1) == 1) = false := beq_eq_false_iff_ne.mpr k1
      have n2 : (wrap64 (rd l0 a1) == 2) = false := beq_eq_false_iff_ne.mpr k2
      have n3 : (wrap64 (rd l0 a1) == 3) = false := beq_eq_false_iff_ne.mpr k3
      have n4 : (wrap64 (rd l0 a1) == 4) = false := beq_eq_false_iff_ne.mpr k4
      have h := H.out
      simp only [raddleref01_ReadValue.f, ht, Option.bind_some, if_pos (show true = true from rfl), if_neg hA, if_pos p1, if_pos p2, if_neg k1, if_neg k2, if_neg k3, if_neg k4, if_neg (show ¬ (3 : Int) = 0 by decide), Option.some.injEq, Prod.mk.injEq] at h
      obtain ⟨rfl, rfl, rfl, rfl, rfl⟩ := h
      have HG := Aside0.mk (below_size HB1.out)
      have HN := Aside0.mk (Nat.ne_of_lt (blk_lt D1.out))
      have D2 := Aside0.mk (blk_below D1.out (below_alloc (Below.refl w1.heap.size w1) (.cells #[.int .i64 (wrap64 (rd l0 a1)), .int .i64 0, .string (⟨#[]⟩ : ByteArray)] 92)))
      have HB2 := Aside0.mk (below_step HB1.out (below_alloc (Below.refl w1.heap.size w1) (.cells #[.int .i64 (wrap64 (rd l0 a1)), .int .i64 0, .string (⟨#[]⟩ : ByteArray)] 92)))
      have hcx := fun i => blk_cell D2.out i
      have hfx := fun i => blk_frozen D2.out i
      have hn1 := HN.out
      have hn2 := HN.out.symm
      clear k1 k2 k3 k4
      go_wp2_with fail
      refine bodyPost_ret (results_ctt rfl _ _ w.heap.size 92 #[.int .i64 0, .int .i64 0, .string (⟨#[]⟩ : ByteArray)] (0, 0) _ rfl (blk_set (blk_set (blk_set D2.out 0 (.int .i64 0)) 1 (.int .i64 0)) 2 (.string (⟨#[]⟩ : ByteArray))) Tryz.underlying92 rfl (by kernel_rfl)) rfl ?_
      exact ⟨rfl, below_set (below_set (below_set HB2.out (Nat.le_refl _)) (Nat.le_refl _)) (Nat.le_refl _)⟩
end Go.Proofs.YtnbjflcfdncocaaGreat.M
namespace Go.Proofs.YtnbjflcfdncocaaGreat.M
open Go.RowKit Go.Proofs.YtnbjflcfdncocaaGreatW.PrintWords Go.Proofs.YtnbjflcfdncocaaGreatW.PrintLast Go.Proofs.YtnbjflcfdncocaaGreatW.PrintMore
attribute [local go_sem] max2_int min2_int max_two min_two max_three min_three max_four min_four
set_option linter.unusedVariables false
set_option linter.unusedSimpArgs false
mutual
def raddleref01_ReadRow.j0 : Nat → List Int → Int → Bool → Option ((List (S92)) × Int × Int)
 | 0, _, _, _ => none
 | k + 1, x0, x1, x29 => if x29 = true then (some (([] : List (S92)), 0, 3)) else (if 0 ≤ x1 then (if x1 < (x0.length : Int) then (raddleref01_ReadRow.l0 k x0 (wrap64 (x1 + 1)) (wrap64 (rd x0 x1)) ([] : List (S92)) 0) else (none)) else (none))
def raddleref01_ReadRow.l0 : Nat → List Int → Int → Int → List (S92) → Int → Option ((List (S92)) × Int × Int)
 | 0, _, _, _, _, _ => none
 | k + 1, x0, x1, x7, x8, x9 => if x9 < x7 then ((raddleref01_ReadValue.f k x0 x1).bind fun bt400 => (if bt400.2.2.2.2 = 0 then (if x8.length < 4398046511104 then (raddleref01_ReadRow.l0 k x0 bt400.2.2.2.1 x7 (x8 ++ [(⟨bt400.1, bt400.2.1, bt400.2.2.1⟩ : S92)]) (wrap64 (x9 + 1))) else (none)) else (some (([] : List (S92)), 0, 3)))) else (some (x8, x1, 0))
end
def raddleref01_ReadRow.f (k : Nat) (l0 : List Int) (a1 : Int) : Option ((List (S92)) × Int × Int) := (raddleref01_in.f a1 0 (l0.length : Int)).bind fun t397 => (if t397 = true then (if a1 = (l0.length : Int) then (raddleref01_ReadRow.j0 k l0 a1 true) else (if 0 ≤ a1 then (if a1 < (l0.length : Int) then (raddleref01_ReadRow.j0 k l0 a1 (decide ((wrap64 (rd l0 a1)) > 12))) else (none)) else (none))) else (some (([] : List (S92)), 0, 1)))
set_option maxHeartbeats 8000000 in
set_option maxRecDepth 100000 in
theorem raddleref01_ReadRow.calls (k : Nat) (A0 : Option Addr) (c0 : Nat) (l0 : List Int) (a1 : Int) (r1 : List (S92)) (r2 : Int) (r3 : Int) (w : World) (hr0 : Kd.C (Kd.int .u8) w A0 l0.length l0) (hc0 : l0.length ≤ c0) (h : raddleref01_ReadRow.f k l0 a1 = some (r1, r2, r3)) :
  Calls Tryz.prog 118 #[.slice A0 l0.length c0, .int .i64 a1] w fun e w' => ∃ v0_ : Value, e = .returned (.tuple #[v0_, .int .i64 r2, .int .i64 r3]) ∧ Kd.R k92 92 w' w.heap.size (fun _ => True) v0_ r1 ∧ Below w.heap.size w w' := by
 have hu92 := Tryz.underlying92
 have HR0 := Aside0.mk hr0
 have HC0 := Aside0.mk hc0
 clear hr0 hc0
 have HB := Aside0.mk (Below.refl w.heap.size w)
 have H : ((raddleref01_in.f a1 0 (l0.length : Int)).bind fun t397 => (if t397 = true then (if a1 = (l0.length : Int) then (raddleref01_ReadRow.j0 k l0 a1 true) else (if 0 ≤ a1 then (if a1 < (l0.length : Int) then (raddleref01_ReadRow.j0 k l0 a1 (decide ((wrap64 (rd l0 a1)) > 12))) else (none)) else (none))) else (some (([] : List (S92)), 0, 1)))) = some (r1, r2, r3) := h
 clear h
 replace H := Option.bind_eq_some_iff.mp H
 obtain ⟨t397, A30, H⟩ := H
 try dsimp only at H
 have A3 := Aside0.mk A30
 clear A30
 by_cases c4 : t397 = true
 ·subst c4
  rw [if_pos rfl] at H
  have HC5 := Aside0.mk H
  clear H
  go_enter Tryz.func118, Tryz.ntmps118
  go_upto_region 3 with (first | ((with_reducible refine gate_callee (f := 23) rfl ?_); refine goesL_ (some 16) rfl rfl Tryz.func23 (by kernel_rfl) rfl #[.int .i64 a1, .int .i64 0, .int .i64 (l0.length : Int)] rfl (by (try simp only [List.map_toArray, List.map_cons, List.map_nil]); first | done | rfl | (simp only [List.length_drop, List.length_take]; rfl)) ?_; (with_reducible refine (raddleref01_in.calls a1 0 (l0.length : Int) true _ A3.out).mono ?_); rintro e w' ⟨rfl, ⟨nd, rfl⟩⟩; refine ⟨_, rfl, ?_⟩))
  (try simp only [Act.put, List.setIfInBounds_toArray, List.set_cons_zero, List.set_cons_succ])
  go_cut [29] (fun v29 wc => ∃ (kq : Nat) (x29_4 : Bool), v29 = .bool x29_4 ∧ Aside0 (raddleref01_ReadRow.j0 kq l0 a1 x29_4 = some (r1, r2, r3)) ∧ Aside0 (kq ≤ k) ∧ Aside0 (Below w.heap.size w wc))
  case first =>
   have H := HC5.out
   clear HC5
   by_cases c6 : a1 = (l0.length : Int)
   ·rw [if_pos c6] at H
    have c6b0 : (a1 == (l0.length : Int)) = true := beq_iff_eq.mpr c6
    have c6b1 : (a1 != (l0.length : Int)) = false := bne_eq_false_iff_eq.mpr c6
    clear c6
    (first | rw [c6b0] | (simp only [i64_w, i32_w]; rw [c6b0]) | skip)
    have H' := Aside0.mk H
    clear H
    go_wp2
    go_meet
    case rel => exact ⟨_, (true), (by first | rfl | (simp; done) | (simp [*]; done)), H', ⟨by first | omega | exact Nat.le_refl _⟩, ⟨by with_reducible repeat (first | exact HB.out | apply below_alloc | apply pw_below_drewN | apply below_drew1)⟩⟩
   ·rw [if_neg c6] at H
    have c6b0 : (a1 == (l0.length : Int)) = false := beq_eq_false_iff_ne.mpr c6
    have c6b1 : (a1 != (l0.length : Int)) = true := bne_iff_ne.mpr c6
    (first | rw [c6b0] | (simp only [i64_w, i32_w]; rw [c6b0]) | skip)
    by_cases c7 : 0 ≤ a1
    ·rw [if_pos c7] at H
     have c7b0 : decide (0 ≤ a1) = true := decide_eq_true c7
     clear c7
     by_cases c8 : a1 < (l0.length : Int)
     ·rw [if_pos c8] at H
      have c8b0 : decide (a1 < (l0.length : Int)) = true := decide_eq_true c8
      clear c8
      have H' := Aside0.mk H
      clear H
      have p398 : 0 ≤ (a1 : Int) := of_decide_eq_true (by first | (with_reducible assumption) | assumption)
      have q398 : a1 < (l0.length : Int) := of_decide_eq_true (by first | (with_reducible assumption) | assumption)
      obtain ⟨ad398, e398, hx398_0⟩ := Kd.at_int HR0.out a1 p398 q398
      cases e398
      replace hx398_0 := (HB.out.cell (World.block_lt_of_cell? w _ hx398_0)).trans hx398_0
      replace p398 := eq_true p398
      replace q398 := eq_true q398
      go_wp2
      go_meet
      case rel => exact ⟨_, (decide ((wrap64 (rd l0 a1)) > 12)), (by first | rfl | (simp; done) | (simp [*]; done)), H', ⟨by first | omega | exact Nat.le_refl _⟩, ⟨by with_reducible repeat (first | exact HB.out | apply below_alloc | apply pw_below_drewN | apply below_drew1)⟩⟩
     ·rw [if_neg c8] at H
      exact absurd H (by simp)
    ·rw [if_neg c7] at H
     exact absurd H (by simp)
  case rest =>
   clear HC5
   try clear c1
   try clear c2
   try clear p2
   try clear p3
   try clear q3
   try clear hx3
   try clear c4
   try clear c6
   try clear c6b0
   try clear c6b1
   try clear p6
   try clear c7
   try clear c7b0
   try clear c8
   try clear c8b0
   try clear hx398_0
   try clear p398
   try clear q398
   obtain ⟨kq, x29_4, rfl, HA, HJ4, HB⟩ := hcut
   cases kq with
   | zero => exact absurd HA.out (by simp [raddleref01_ReadRow.j0])
   | succ kj4 =>
    have H := HA.out
    clear HA
    simp only [raddleref01_ReadRow.j0] at H
    by_cases c9 : x29_4 = true
    ·subst c9
     rw [if_pos rfl] at H
     simp only [Option.some.injEq, Prod.mk.injEq] at H
     obtain ⟨rfl, rfl, rfl⟩ := H
     go_wp2
     go_ret3
     exact ⟨_, by first | rfl | (simp [errW_none, errW_some] <;> rfl) | (simp [*, errW_none, errW_some] <;> rfl), by first | exact Kd.R_nil _ _ _ _ _ | exact Kd.N_nil _ _ _ _ _ | exact Kd.V_nil _ _ _ _ _ | exact Kd.Q_nil _ _ _ _ _ | exact Kd.S_nil _ _ _ _ _, by with_reducible repeat (first | exact HB.out | apply below_alloc | apply pw_below_drewN | apply below_drew1)⟩
    ·replace c9 := Bool.eq_false_iff.mpr c9
     subst c9
     rw [if_neg (show ¬ (false = true) by decide)] at H
     by_cases c10 : 0 ≤ a1
     ·rw [if_pos c10] at H
      have c10b0 : decide (0 ≤ a1) = true := decide_eq_true c10
      clear c10
      by_cases c11 : a1 < (l0.length : Int)
      ·rw [if_pos c11] at H
       have c11b0 : decide (a1 < (l0.length : Int)) = true := decide_eq_true c11
       clear c11
       have H' := Aside0.mk H
       clear H
       have p399 : 0 ≤ (a1 : Int) := of_decide_eq_true (by first | (with_reducible assumption) | assumption)
       have q399 : a1 < (l0.length : Int) := of_decide_eq_true (by first | (with_reducible assumption) | assumption)
       obtain ⟨ad399, e399, hx399_0⟩ := Kd.at_int HR0.out a1 p399 q399
       cases e399
       replace hx399_0 := (HB.out.cell (World.block_lt_of_cell? w _ hx399_0)).trans hx399_0
       replace p399 := eq_true p399
       replace q399 := eq_true q399
       go_wp2
       go_loopg [1, 8, 9] kj4 (fun kq v1 v8 v9 w' => ∃ (x1_2 : Int) (x8_2 : List (S92)) (x9_2 : Int), v1 = .int .i64 x1_2 ∧ v9 = .int .i64 x9_2 ∧ Aside0 (raddleref01_ReadRow.l0 kq l0 x1_2 (wrap64 (rd l0 a1)) x8_2 x9_2 = some (r1, r2, r3)) ∧ Aside0 (kq ≤ kj4) ∧ Aside0 (Kd.R k92 92 w' w.heap.size (fun _ => True) v8 x8_2) ∧ Aside0 (Below w.heap.size w w'))
       case atStart => exact ⟨(wrap64 (a1 + 1)), (([] : List (S92))), (0), (by first | rfl | (simp; done) | (simp [*]; done)), (by first | rfl | (simp; done) | (simp [*]; done)), H', ⟨Nat.le_refl _⟩, ⟨by first | exact Kd.R_nil _ _ _ _ _ | exact Kd.N_nil _ _ _ _ _ | exact Kd.V_nil _ _ _ _ _ | exact Kd.Q_nil _ _ _ _ _ | exact Kd.S_nil _ _ _ _ _⟩, ⟨by with_reducible repeat (first | exact HB.out | apply below_alloc | apply pw_below_drewN | apply below_drew1)⟩⟩
       case round =>
        clear H'
        try clear c1
        try clear c2
        try clear p2
        try clear p3
        try clear q3
        try clear hx3
        try clear c4
        try clear c6
        try clear c6b0
        try clear c6b1
        try clear p6
        try clear c7
        try clear c7b0
        try clear c8
        try clear c8b0
        try clear c9
        try clear c10
        try clear c10b0
        try clear c11
        try clear c11b0
        try clear hx398_0
        try clear hx399_0
        try clear p2
        try clear p3
        try clear p398
        try clear p399
        try clear p6
        try clear q3
        try clear q398
        try clear q399
        obtain ⟨x1_2, x8_2, x9_2, rfl, rfl, HA, HK2, HO_8, HB⟩ := hrel
        cases gk with
        | zero => exact absurd HA.out (by simp [raddleref01_ReadRow.l0])
        | succ k2 =>
         have H := HA.out
         clear HA
         simp only [raddleref01_ReadRow.l0] at H
         by_cases c12 : x9_2 < (wrap64 (rd l0 a1))
         ·rw [if_pos c12] at H
          have c12b0 : decide (x9_2 < (wrap64 (rd l0 a1))) = true := decide_eq_true c12
          clear c12
          replace H := Option.bind_eq_some_iff.mp H
          obtain ⟨⟨t400, t401, t402, t403, t404⟩, A130, H⟩ := H
          try dsimp only at H
          have A13 := Aside0.mk A130
          clear A130
          by_cases c14 : t404 = 0
          ·rw [if_pos c14] at H
           have c14b0 : (t404 == 0) = true := beq_iff_eq.mpr c14
           have c14b1 : (t404 != 0) = false := bne_eq_false_iff_eq.mpr c14
           clear c14
           by_cases c15 : x8_2.length < 4398046511104
           ·rw [if_pos c15] at H
            have LMc15 := Aside0.mk c15
            clear c15
            obtain ⟨y406, hy406⟩ : ∃ y_ : List (S92), y_ = (x8_2 ++ [(⟨t400, t401, t402⟩ : S92)]) := ⟨_, rfl⟩
            replace H : (raddleref01_ReadRow.l0 k2 l0 t403 (wrap64 (rd l0 a1)) y406 (wrap64 (x9_2 + 1))) = some (r1, r2, r3) := by first | (rw [hy406]; with_reducible exact H) | (have H2_ := (Option.bind_some _ _).symm.trans H; rw [hy406]; with_reducible exact H2_) | (have H2_ := (Option.bind_some _ _).symm.trans H; with_reducible exact H2_) | with_reducible exact H | (rw [hy406]; exact H) | exact H
            have Ny406 := Aside0.mk hy406
            clear hy406
            have H' := Aside0.mk H
            clear H
            go_wp2_with (first | ((with_reducible refine gate_callee (f := 133) rfl ?_); refine goesL_ (some 45) rfl rfl Tryz.func133 (by kernel_rfl) rfl #[.slice (some ad399) l0.length c0, .int .i64 x1_2] rfl (by (try simp only [List.map_toArray, List.map_cons, List.map_nil]); first | done | rfl | (simp only [List.length_drop, List.length_take]; rfl)) ?_; (with_reducible refine (raddleref01_ReadValue.calls k2 _ _ l0 x1_2 t400 t401 t402 t403 t404 _ ?side1 ?side2 A13.out).mono ?_); (case side1 => repeat (first | exact (Kd.C_below HR0.out HB.out) | (with_reducible refine Kd.C_alloc ?_ _) | (with_reducible refine Kd.C_drewN ?_ _) | (with_reducible refine Kd.C_drew ?_))); (case side2 => exact HC0.out); rintro e w16 ⟨rfl, hb⟩; refine ⟨_, rfl, ?_⟩; have n0_ := Aside0.mk (Kd.R_below (by (with_reducible repeat (first | apply Kd.R_alloc | apply Kd.R_drewN | apply Kd.R_drew)); exact HO_8.out) hb); have n1_ := Aside0.mk (below_step (by with_reducible repeat (first | exact HB.out | apply below_alloc | apply pw_below_drewN | apply below_drew1)) hb); clear HO_8; clear HB; have HO_8 := n0_; have HB := n1_; clear n0_ n1_; (try clear hb); (try clear hb2); (try clear hk); (try clear hi)) | ((with_reducible refine gate_dst (N := 10) rfl ?_); refine box_event ?hg (N := 10) ?hd (cs := #[.int .i64 0, .int .i64 0, .string (⟨#[]⟩ : ByteArray)]) (t := 92) ?hr ?_; (case hd => rfl); (case hg => rfl); (case hr => first | (go_simp; done) | (go_simp; rfl)); intro gb405 hg w17 hbox hb; have n0_ := Aside0.mk (Kd.R_below (Kd.R_elderB (by (with_reducible repeat (first | apply Kd.R_alloc | apply Kd.R_drewN | apply Kd.R_drew)); exact HO_8.out) gb405 (Nat.le_of_eq hg.symm)) hb); have n1_ := Aside0.mk (below_step (by with_reducible repeat (first | exact HB.out | apply below_alloc | apply pw_below_drewN | apply below_drew1)) hb); have n2_ := Aside0.mk (hbox); have n3_ := Aside0.mk ((by rw [hg]; exact (below_size (by with_reducible repeat (first | exact HB.out | apply below_alloc | apply pw_below_drewN | apply below_drew1))) : w.heap.size ≤ gb405)); have n4_ := Aside0.mk ((by rw [hg]; exact (below_size (by with_reducible repeat (first | exact HB.out | apply below_alloc | apply pw_below_drewN | apply below_drew1))) : w.heap.size ≤ gb405)); clear HO_8; clear HB; have HO_8 := n0_; have HB := n1_; have BK405 := n2_; have GW405 := n3_; have GE405 := n4_; clear n0_ n1_ n2_ n3_ n4_; clear hb hbox hg; have hcz18 := fun i_ => blk_cell BK405.out i_; have hfz18 := fun i_ => blk_frozen BK405.out i_) | ((with_reducible refine gate_builtin (b := .append) (xs := #[.tmp 51, .tmp 53]) rfl ?_); at_builtin; refine Kd.R_append k92 (w0 := w) w.heap.size rfl (.tmp 51) (.tmp 53) 49 92 (.agg #[(.int .i64 0), (.int .i64 0), (.string ⟨#[]⟩)]) 32 rfl Tryz.underlying49 info92 rfl (by decide) (by omega) u8 x8_2 (⟨t400, t401, t402⟩ : S92) [.int .i64 t400, .int .i64 t401, .string t402] (fun k_ => k_ ≠ gb405) (fun _ => False) rfl (by first | (go_simp; done) | (go_simp; rfl)) ?aP (fun _ hk => hk.elim) ?aF ?aO ?aB ?aS ?aL ?_; (case aP => exact k92_mkM _ _ _ (⟨t400, t401, t402⟩ : S92)); (case aB => exact (by with_reducible repeat (first | exact HB.out | apply below_alloc | apply pw_below_drewN | apply below_drew1 | refine below_set ?_ GE405.out))); (case aF => exact (fun k_ hk => Kd.freshB (g := gb405) (o := .cells #[.int .i64 t400, .int .i64 t401, .string t402] 92 (0, 0)) (by (with_reducible repeat (first | refine blk_drewN ?_ _ | refine blk_drew ?_ | refine blk_alloc ?_ _)); refine blk_put (cs := #[.int .i64 t400, .int .i64 t401, .string (⟨#[]⟩ : ByteArray)]) ?_ 2 _ rfl; (with_reducible repeat (first | refine blk_drewN ?_ _ | refine blk_drew ?_ | refine blk_alloc ?_ _)); refine blk_put (cs := #[.int .i64 t400, .int .i64 0, .string (⟨#[]⟩ : ByteArray)]) ?_ 1 _ rfl; (with_reducible repeat (first | refine blk_drewN ?_ _ | refine blk_drew ?_ | refine blk_alloc ?_ _)); refine blk_put (cs := #[.int .i64 0, .int .i64 0, .string (⟨#[]⟩ : ByteArray)]) ?_ 0 _ rfl; (with_reducible repeat (first | refine blk_drewN ?_ _ | refine blk_drew ?_ | refine blk_alloc ?_ _)); exact BK405.out) k_ hk)); (case aO => exact (by (with_reducible repeat (first | apply Kd.R_alloc | apply Kd.R_drewN | apply Kd.R_drew)); exact Kd.R_mono (Kd.R_far (p := ⟨gb405, 2, none⟩) (Kd.R_far (p := ⟨gb405, 1, none⟩) (Kd.R_far (p := ⟨gb405, 0, none⟩) (Kd.R_mono HO_8.out (fun k_ hk => (⟨hk, hk.2⟩ : _ ∧ k_ ≠ gb405))) (fun _ hk => hk.2) (.int .i64 t400)) (fun _ hk => hk.2) (.int .i64 t401)) (fun _ hk => hk.2) (.string t402)) (fun _ hk => hk.1.2))); (case aS => exact (below_size (by with_reducible repeat (first | exact HB.out | apply below_alloc | apply pw_below_drewN | apply below_drew1 | refine below_set ?_ GE405.out)))); (case aL => have := LMc15.out; omega); intro v407 w19 ho hb hg hat; rw [← Ny406.out] at ho; have n0_ := Aside0.mk (blk_grown (g := gb405) (o := .cells #[.int .i64 t400, .int .i64 t401, .string t402] 92 (0, 0)) (by (with_reducible repeat (first | refine blk_drewN ?_ _ | refine blk_drew ?_ | refine blk_alloc ?_ _)); refine blk_put (cs := #[.int .i64 t400, .int .i64 t401, .string (⟨#[]⟩ : ByteArray)]) ?_ 2 _ rfl; (with_reducible repeat (first | refine blk_drewN ?_ _ | refine blk_drew ?_ | refine blk_alloc ?_ _)); refine blk_put (cs := #[.int .i64 t400, .int .i64 0, .string (⟨#[]⟩ : ByteArray)]) ?_ 1 _ rfl; (with_reducible repeat (first | refine blk_drewN ?_ _ | refine blk_drew ?_ | refine blk_alloc ?_ _)); refine blk_put (cs := #[.int .i64 0, .int .i64 0, .string (⟨#[]⟩ : ByteArray)]) ?_ 0 _ rfl; (with_reducible repeat (first | refine blk_drewN ?_ _ | refine blk_drew ?_ | refine blk_alloc ?_ _)); exact BK405.out) hg (Kd.R_away HO_8.out (fun _ hk => hk.2))); have n1_ := Aside0.mk (hb); have n2_ := Aside0.mk (ho); clear BK405; clear HB; clear HO_8; have BK405 := n0_; have HB := n1_; have HO408 := n2_; clear n0_ n1_ n2_; clear ho hb hg hat))
            go_roundg k2
            case measure => have := HJ4.out; have := HK2.out; omega
            case rel => exact ⟨(t403), (y406), (wrap64 (x9_2 + 1)), (by first | rfl | (simp; done) | (simp [*]; done)), (by first | rfl | (simp; done) | (simp [*]; done)), H', ⟨by have := HJ4.out; have := HK2.out; omega⟩, ⟨by (with_reducible repeat (first | apply Kd.R_alloc | apply Kd.R_drewN | apply Kd.R_drew)); exact Kd.R_mono HO408.out (fun _ hk => trivial)⟩, ⟨by with_reducible repeat (first | exact HB.out | apply below_alloc | apply pw_below_drewN | apply below_drew1 | refine below_set ?_ GE405.out)⟩⟩
           ·rw [if_neg c15] at H
            exact absurd H (by simp)
          ·rw [if_neg c14] at H
           have c14b0 : (t404 == 0) = false := beq_eq_false_iff_ne.mpr c14
           have c14b1 : (t404 != 0) = true := bne_iff_ne.mpr c14
           simp only [Option.some.injEq, Prod.mk.injEq] at H
           obtain ⟨rfl, rfl, rfl⟩ := H
           go_wp2_with (first | ((with_reducible refine gate_callee (f := 133) rfl ?_); refine goesL_ (some 45) rfl rfl Tryz.func133 (by kernel_rfl) rfl #[.slice (some ad399) l0.length c0, .int .i64 x1_2] rfl (by (try simp only [List.map_toArray, List.map_cons, List.map_nil]); first | done | rfl | (simp only [List.length_drop, List.length_take]; rfl)) ?_; (with_reducible refine (raddleref01_ReadValue.calls k2 _ _ l0 x1_2 t400 t401 t402 t403 t404 _ ?side1 ?side2 A13.out).mono ?_); (case side1 => repeat (first | exact (Kd.C_below HR0.out HB.out) | (with_reducible refine Kd.C_alloc ?_ _) | (with_reducible refine Kd.C_drewN ?_ _) | (with_reducible refine Kd.C_drew ?_))); (case side2 => exact HC0.out); rintro e w20 ⟨rfl, hb⟩; refine ⟨_, rfl, ?_⟩; have n0_ := Aside0.mk (Kd.R_below (by (with_reducible repeat (first | apply Kd.R_alloc | apply Kd.R_drewN | apply Kd.R_drew)); exact HO_8.out) hb); have n1_ := Aside0.mk (below_step (by with_reducible repeat (first | exact HB.out | apply below_alloc | apply pw_below_drewN | apply below_drew1)) hb); clear HO_8; clear HB; have HO_8 := n0_; have HB := n1_; clear n0_ n1_; (try clear hb); (try clear hb2); (try clear hk); (try clear hi)) | ((with_reducible refine gate_dst (N := 10) rfl ?_); refine box_event ?hg (N := 10) ?hd (cs := #[.int .i64 0, .int .i64 0, .string (⟨#[]⟩ : ByteArray)]) (t := 92) ?hr ?_; (case hd => rfl); (case hg => rfl); (case hr => first | (go_simp; done) | (go_simp; rfl)); intro gb405 hg w21 hbox hb; have n0_ := Aside0.mk (Kd.R_below (Kd.R_elderB (by (with_reducible repeat (first | apply Kd.R_alloc | apply Kd.R_drewN | apply Kd.R_drew)); exact HO_8.out) gb405 (Nat.le_of_eq hg.symm)) hb); have n1_ := Aside0.mk (below_step (by with_reducible repeat (first | exact HB.out | apply below_alloc | apply pw_below_drewN | apply below_drew1)) hb); have n2_ := Aside0.mk (hbox); have n3_ := Aside0.mk ((by rw [hg]; exact (below_size (by with_reducible repeat (first | exact HB.out | apply below_alloc | apply pw_below_drewN | apply below_drew1))) : w.heap.size ≤ gb405)); have n4_ := Aside0.mk ((by rw [hg]; exact (below_size (by with_reducible repeat (first | exact HB.out | apply below_alloc | apply pw_below_drewN | apply below_drew1))) : w.heap.size ≤ gb405)); clear HO_8; clear HB; have HO_8 := n0_; have HB := n1_; have BK405 := n2_; have GW405 := n3_; have GE405 := n4_; clear n0_ n1_ n2_ n3_ n4_; clear hb hbox hg; have hcz22 := fun i_ => blk_cell BK405.out i_; have hfz22 := fun i_ => blk_frozen BK405.out i_))
           go_ret3
           exact ⟨_, by first | rfl | (simp [errW_none, errW_some] <;> rfl) | (simp [*, errW_none, errW_some] <;> rfl), by first | exact Kd.R_nil _ _ _ _ _ | exact Kd.N_nil _ _ _ _ _ | exact Kd.V_nil _ _ _ _ _ | exact Kd.Q_nil _ _ _ _ _ | exact Kd.S_nil _ _ _ _ _, by with_reducible repeat (first | exact HB.out | apply below_alloc | apply pw_below_drewN | apply below_drew1 | refine below_set ?_ GE405.out)⟩
         ·rw [if_neg c12] at H
          have c12b0 : decide (x9_2 < (wrap64 (rd l0 a1))) = false := decide_eq_false c12
          clear c12
          simp only [Option.some.injEq, Prod.mk.injEq] at H
          obtain ⟨rfl, rfl, rfl⟩ := H
          go_wp2
          go_ret3
          exact ⟨_, by first | rfl | (simp [errW_none, errW_some] <;> rfl) | (simp [*, errW_none, errW_some] <;> rfl), by (with_reducible repeat (first | apply Kd.R_alloc | apply Kd.R_drewN | apply Kd.R_drew)); exact HO_8.out, by with_reducible repeat (first | exact HB.out | apply below_alloc | apply pw_below_drewN | apply below_drew1)⟩
      ·rw [if_neg c11] at H
       exact absurd H (by simp)
     ·rw [if_neg c10] at H
      exact absurd H (by simp)
 ·replace c4 := Bool.eq_false_iff.mpr c4
  subst c4
  rw [if_neg (show ¬ (false = true) by decide)] at H
  simp only [Option.some.injEq, Prod.mk.injEq] at H
  obtain ⟨rfl, rfl, rfl⟩ := H
  go_enter Tryz.func118, Tryz.ntmps118
  go_wp2_with (first | ((with_reducible refine gate_callee (f := 23) rfl ?_); refine goesL_ (some 16) rfl rfl Tryz.func23 (by kernel_rfl) rfl #[.int .i64 a1, .int .i64 0, .int .i64 (l0.length : Int)] rfl (by (try simp only [List.map_toArray, List.map_cons, List.map_nil]); first | done | rfl | (simp only [List.length_drop, List.length_take]; rfl)) ?_; (with_reducible refine (raddleref01_in.calls a1 0 (l0.length : Int) false _ A3.out).mono ?_); rintro e w' ⟨rfl, ⟨nd, rfl⟩⟩; refine ⟨_, rfl, ?_⟩))
  go_ret3
  exact ⟨_, by first | rfl | (simp [errW_none, errW_some] <;> rfl) | (simp [*, errW_none, errW_some] <;> rfl), by first | exact Kd.R_nil _ _ _ _ _ | exact Kd.N_nil _ _ _ _ _ | exact Kd.V_nil _ _ _ _ _ | exact Kd.Q_nil _ _ _ _ _ | exact Kd.S_nil _ _ _ _ _, by with_reducible repeat (first | exact HB.out | apply below_alloc | apply pw_below_drewN | apply below_drew1)⟩
end Go.Proofs.YtnbjflcfdncocaaGreat.M
namespace Go.Proofs.YtnbjflcfdncocaaGreat.M
open Go.RowKit Go.Proofs.YtnbjflcfdncocaaGreatW.PrintWords Go.Proofs.YtnbjflcfdncocaaGreatW.PrintLast Go.Proofs.YtnbjflcfdncocaaGreatW.PrintMore
def IsC (w0 W : World) (g : Nat) (B rest : List Int) (bad : Bool) : Prop :=
  Below w0.heap.size w0 W ∧ w0.heap.size ≤ g ∧ Bytes_ B ∧ B.length ≤ 65536 ∧ ∃ (A : Option Addr) (c at_ : Nat), W.heap[g]? = some (.cells #[.slice A B.length c, .int .i64 (at_ : Int), .bool bad] 85 (0, 0)) ∧
    Kd.C (Kd.int .u8) w0 A B.length B ∧ B.length ≤ c ∧ at_ ≤ B.length ∧ B.drop at_ = rest
theorem IsC.below {w0 W W1 : World} {g : Nat} {B rest : List Int} {bad : Bool} (h : IsC w0 W g B rest bad) (hb : Below W.heap.size W W1) : IsC w0 W1 g B rest bad := by
  obtain ⟨h0, hg, h2, h3, A, c, at_, hv, h4⟩ := h
  exact ⟨below_step h0 hb, hg, h2, h3, A, c, at_, blk_below hv hb, h4⟩
theorem IsC.alloc {w0 W : World} {g : Nat} {B rest : List Int} {bad : Bool} (h : IsC w0 W g B rest bad) (o : Obj) : IsC w0 (W.alloc o) g B rest bad := h.below (below_alloc (Below.refl _ _) o)
theorem IsC.bad {w0 W : World} {g : Nat} {B rest : List Int} {bad : Bool} (h : IsC w0 W g B rest bad) : IsC w0 (W.setCell ⟨g, 2, none⟩ (.bool true)) g B rest true := by
  obtain ⟨h0, hg, h2, h3, A, c, at_, hv, h4⟩ := h
  exact ⟨below_set h0 hg, hg, h2, h3, A, c, at_, blk_set hv 2 (.bool true), h4⟩
theorem IsC.far {w0 W : World} {g p : Nat} {B rest : List Int} {bad : Bool} (h : IsC w0 W g B rest bad) (hp : p ≠ g) (hb : w0.heap.size ≤ p) (i : Nat) (u : Value) : IsC w0 (W.setCell ⟨p, i, none⟩ u) g B rest bad := by
  obtain ⟨h0, hg, h2, h3, A, c, at_, hv, h4⟩ := h
  exact ⟨below_set h0 hb, hg, h2, h3, A, c, at_, (Below.heap_setCell W ⟨p, i, none⟩ u g (fun e => hp e.symm)).trans hv, h4⟩
theorem IsC.lt {w0 W : World} {g : Nat} {B rest : List Int} {bad : Bool} (h : IsC w0 W g B rest bad) : g < W.heap.size := by
  obtain ⟨_, _, _, _, _, _, _, hv, _⟩ := h
  exact blk_lt hv
theorem IsC.go {w0 W : World} {g : Nat} {B : List Int} {A : Option Addr} {c : Nat} {x : Int} {bad : Bool} {rest1 : List Int} {at1 : Nat} (h0 : Below w0.heap.size w0 W) (hg : w0.heap.size ≤ g) (h2 : Bytes_ B) (h3 : B.length ≤ 65536)
    (hv : W.heap[g]? = some (.cells #[.slice A B.length c, .int .i64 x, .bool bad] 85 (0, 0))) (h4 : Kd.C (Kd.int .u8) w0 A B.length B) (h5 : B.length ≤ c) (h6 : at1 ≤ B.length) (h7 : B.drop at1 = rest1) : IsC w0 (W.setCell ⟨g, 1, none⟩ (.int .i64 (at1 : Int))) g B rest1 bad :=
  ⟨below_set h0 hg, hg, h2, h3, A, c, at1, blk_set hv 1 (.int .i64 (at1 : Int)), h4, h5, h6, h7⟩
theorem IsC.grown {w0 W W1 : World} {g : Nat} {B rest : List Int} {bad : Bool} {row : Option Nat} (h : IsC w0 W g B rest bad) (hw : W.grownBy W1 row) (hr : row ≠ some g) (hb : ∀ k, row = some k → w0.heap.size ≤ k) : IsC w0 W1 g B rest bad := by
  obtain ⟨h0, hg, h2, h3, A, c, at_, hv, h4⟩ := h
  exact ⟨h0.grown hw (below_size h0) hb, hg, h2, h3, A, c, at_, blk_grown hv hw (fun e => hr e.symm), h4⟩
theorem IsC.bytes {w0 W : World} {g : Nat} {B rest : List Int} {bad : Bool} (h : IsC w0 W g B rest bad) : Bytes_ rest := by
  obtain ⟨_, _, h2, _, A, c, at_, _, _, _, _, hd⟩ := h
  rw [← hd]; exact Bytes_drop h2 at_
theorem i64_nat (n : Int) (h0 : -9223372036854775808 ≤ n) (h1 : n ≤ 9223372036854775807) : IntKind.i64.wrap n = n := (i64_w n).trans (wrap_in n h0 h1)
set_option maxHeartbeats 4000000 in
set_option maxRecDepth 100000 in
theorem C_num (w0 w : World) (g : Nat) (B rest : List Int) (bad : Bool) (h : IsC w0 w g B rest bad) (z : Int) (s : Nat) (hz : z = (s : Int)) (h1 : 1 ≤ s) (h7 : s ≤ 7) :
    Calls Tryz.prog 48 #[.pointer (some ⟨g, 0, none⟩), .int .i64 z] w fun en w' => en = .returned (.int .i64 (rnum s (rest, bad)).1) ∧ IsC w0 w' g B (rnum s (rest, bad)).2.1 (rnum s (rest, bad)).2.2 ∧ KeepBut w w' g none := by
  subst hz
  obtain ⟨h0, hg, h2, h3, A, c, at_, hv, hC, hc, ha, hd⟩ := h
  have hc0 : w.cell? ⟨g, 0, none⟩ = some (.slice A B.length c) := (blk_cell hv 0).trans rfl
  have hc1 : w.cell? ⟨g, 1, none⟩ = some (.int .i64 (at_ : Int)) := (blk_cell hv 1).trans rfl
  have hc2 : w.cell? ⟨g, 2, none⟩ = some (.bool bad) := (blk_cell hv 2).trans rfl
  have hf1 := blk_frozen hv 1
  have hf2 := blk_frozen hv 2
  have HC := Aside0.mk (Kd.C_below hC h0)
  have HC0 := Aside0.mk hC
  have Hc := Aside0.mk hc
  have HH := Aside0.mk h0
  have Hg := Aside0.mk hg
  have Hb := Aside0.mk h2
  have Hl := Aside0.mk h3
  have Hv := Aside0.mk hv
  have Ha := Aside0.mk ha
  have Hd := Aside0.mk hd
  have H7 := Aside0.mk h7
  have HR := Aside0.mk (show rest.length = B.length - at_ by rw [← hd]; simp)
  have gw1 : IntKind.i64.wrap ((B.length : Int) - (at_ : Int)) = (B.length : Int) - (at_ : Int) := i64_nat _ (by omega) (by omega)
  have gw2 : IntKind.i64.wrap ((at_ : Int) + (s : Int)) = (at_ : Int) + (s : Int) := i64_nat _ (by omega) (by omega)
  clear h0 hg h2 h3 hv hC hc ha hd h1 h7
  by_cases hb : bad = true
  · subst hb
    have HS := Aside0.mk (show rnum s (rest, true) = (0, (rest, true)) from by unfold rnum; rw [if_pos (by simp)])
    go_enter Tryz.func48, Tryz.ntmps48
    go_wp2
    go_quiet (fail)
    have dr : Below w.heap.size w (w.drewN nq) := pw_below_drewN (Below.refl _ w) nq
    have HH1 := Aside0.mk (below_step HH.out dr)
    have Hv1 := Aside0.mk (blk_below Hv.out dr)
    have hk0 := KeepBut.of_below (row := none) dr g
    have HK1 := Aside0.mk hk0
    clear hk0 dr
    go_wp2
    go_ret
    rw [HS.out]
    exact ⟨rfl, IsC.bad (bad := true) ⟨HH1.out, Hg.out, Hb.out, Hl.out, A, c, at_, Hv1.out, HC0.out, Hc.out, Ha.out, Hd.out⟩, HK1.out.set_ 2 (.bool true)⟩
  obtain rfl : bad = false := by simpa using hb
  clear hb
  by_cases hs : rest.length < s
  · have HS := Aside0.mk (show rnum s (rest, false) = (0, (rest, true)) from by unfold rnum; rw [if_pos (.inr hs)])
    have gl : decide ((B.length : Int) - (at_ : Int) < (s : Int)) = true := decide_eq_true (by have := HR.out; have := Ha.out; omega)
    clear hs
    go_enter Tryz.func48, Tryz.ntmps48
    go_wp2
    go_quiet (fail)
    have dr : Below w.heap.size w (w.drewN nq) := pw_below_drewN (Below.refl _ w) nq
    have HH1 := Aside0.mk (below_step HH.out dr)
    have Hv1 := Aside0.mk (blk_below Hv.out dr)
    have hk0 := KeepBut.of_below (row := none) dr g
    have HK1 := Aside0.mk hk0
    clear hk0 dr
    go_wp2
    go_ret
    rw [HS.out]
    exact ⟨rfl, IsC.bad (bad := false) ⟨HH1.out, Hg.out, Hb.out, Hl.out, A, c, at_, Hv1.out, HC0.out, Hc.out, Ha.out, Hd.out⟩, HK1.out.set_ 2 (.bool true)⟩
  · have HS := Aside0.mk (show rnum s (rest, false) = (numL (rest.take s), (rest.drop s, false)) from by unfold rnum; rw [if_neg (by rintro (h | h); cases h; exact hs h)])
    have HE := Aside0.mk (show at_ + s ≤ B.length ∧ B.drop (at_ + s) = rest.drop s from ⟨by have := HR.out; have := Ha.out; omega, by rw [← Hd.out, List.drop_drop]⟩)
    have gl : decide ((B.length : Int) - (at_ : Int) < (s : Int)) = false := decide_eq_false (by have := HR.out; have := Ha.out; omega)
    have hcutL : (B.take ((at_ : Int) + (s : Int)).toNat).drop ((at_ : Int)).toNat = rest.take s := by
      rw [show ((at_ : Int) + (s : Int)).toNat = at_ + s from by omega, Int.toNat_natCast, List.drop_take, Hd.out]
      congr 1; omega
    have hlen : (rest.take s).length = s := by rw [List.length_take]; omega
    obtain ⟨i0, hi0, _, hsz, _⟩ := info_parts info5
    obtain ⟨A', hcut, hA, hCl⟩ := print_mid_of (P := Tryz.prog) (Value.int .u8) 0 33 5 .i64 .i64 Tryz.underlying33 hi0 hsz A c B (at_ : Int) ((at_ : Int) + (s : Int)) (by omega) (by omega) (by have := HE.out.1; omega) Hc.out
    rw [hcutL, hlen, Int.toNat_natCast] at hcut hCl
    rw [hcutL] at hA
    have HA := Aside0.mk (fun (w : World) (h : Kd.C (Kd.int .u8) w A B.length B) => Kd.C_of_reads (h1 := fun _ => rfl) (hA w (Kd.reads_of_C h)))
    have HCl := Aside0.mk hCl
    have HN := Aside0.mk (refnum_eq (rest.take s) (Bytes_take (by rw [← Hd.out]; exact Bytes_drop Hb.out _) s) (by have := H7.out; omega) 10 (by omega))
    have HLen := Aside0.mk hlen
    have q1 := eq_true (show (0 : Int) ≤ (at_ : Int) by omega)
    have q2 := eq_true (show (at_ : Int) ≤ (at_ : Int) + (s : Int) by omega)
    have q3 := eq_true (show (at_ : Int) + (s : Int) ≤ (B.length : Int) by have := HE.out.1; omega)
    clear hs hcutL hlen hA hCl hi0 hsz
    go_enter Tryz.func48, Tryz.ntmps48
    go_wp2
    go_quiet (fail)
    obtain ⟨W1, hW1⟩ : ∃ W1, W1 = w.drewN nq := ⟨_, rfl⟩
    rw [← hW1]
    have dr : Below w.heap.size w W1 := by rw [hW1]; exact pw_below_drewN (Below.refl _ w) nq
    have HH1 := Aside0.mk (below_step HH.out dr)
    have hv1 := blk_below Hv.out dr
    have Hv1 := Aside0.mk hv1
    have HK1 := Aside0.mk (KeepBut.of_below (row := none) dr g)
    have HC1 := Aside0.mk (Kd.C_below HC.out dr)
    have hd0 : W1.cell? ⟨g, 0, none⟩ = some (.slice A B.length c) := (blk_cell hv1 0).trans rfl
    have hd1 : W1.cell? ⟨g, 1, none⟩ = some (.int .i64 (at_ : Int)) := (blk_cell hv1 1).trans rfl
    have he1 := blk_frozen hv1 1
    have QN := Aside0.mk (fun (m : Nat) => (show Calls Tryz.prog 90 #[.slice A' s (c - at_)] (W1.drewN m) (fun e w' => e = .returned (.int .i64 (numL (rest.take s))) ∧ ∃ n, w' = (W1.drewN m).drewN n) from by
      have h := raddleref01_num.calls 10 A' (c - at_) (rest.take s) (numL (rest.take s)) _ (HA.out _ (Kd.C_drewN HC1.out m)) (by rw [HLen.out]; exact HCl.out) HN.out
      rw [HLen.out] at h
      exact h.mono (fun e w' ⟨q1, n, hn⟩ => ⟨q1, n, hn⟩)))
    clear dr hv1 hW1 hc0 hc1 hc2 hf1 hf2
    go_wp2
    go_quiet ((go_at_call 90; exact Calls.quiet_of (v := .int .i64 (numL (rest.take s))) (QN.out _)))
    have dr : Below W1.heap.size W1 (W1.drewN nq) := pw_below_drewN (Below.refl _ W1) nq
    have HH2 := Aside0.mk (below_step HH1.out dr)
    have hv2 := blk_below Hv1.out dr
    have Hv2 := Aside0.mk hv2
    have HK2 := Aside0.mk (keep_then HK1.out (KeepBut.of_below (row := none) dr g))
    have gw3 : IntKind.i64.wrap ((at_ : Int) + (s : Int)) = ((at_ + s : Nat) : Int) := by rw [gw2]; omega
    clear dr hv2 gw2
    go_wp2
    go_ret
    rw [HS.out]
    exact ⟨rfl, IsC.go (bad := false) HH2.out Hg.out Hb.out Hl.out Hv2.out HC0.out Hc.out HE.out.1 HE.out.2, HK2.out.set_ 1 _⟩
set_option maxHeartbeats 4000000 in
set_option maxRecDepth 100000 in
theorem C_dot (w0 w : World) (g : Nat) (B rest : List Int) (bad : Bool) (h : IsC w0 w g B rest bad) :
    Calls Tryz.prog 91 #[.pointer (some ⟨g, 0, none⟩)] w fun en w' => en = .returned (.agg #[.int .i64 (rdot (rest, bad)).1.f0, .int .i64 (rdot (rest, bad)).1.f1]) ∧ IsC w0 w' g B (rdot (rest, bad)).2.1 (rdot (rest, bad)).2.2 ∧ KeepBut w w' g none := by
  have hgl : g < w.heap.size := h.lt
  have hne : w.heap.size ≠ g := by omega
  have H0 := Aside0.mk (h.alloc (.cells #[.int .i64 0, .int .i64 0] 46))
  have K0 := Aside0.mk (keep_alloc (KeepBut.refl w g none) (.cells #[.int .i64 0, .int .i64 0] 46))
  have D0 := Aside0.mk (heap_alloc_new w (.cells #[.int .i64 0, .int .i64 0] 46))
  have HZ := Aside0.mk (below_size h.1)
  have HNE := Aside0.mk hne
  clear h hgl hne
  go_enter Tryz.func91, Tryz.ntmps91
  go_wp2_with fail
  refine (C_num w0 _ g B rest bad H0.out 1 1 rfl (by omega) (by omega)).mono ?_
  rintro e w1 ⟨rfl, hi, hk⟩
  have D1 := Aside0.mk (hk.blk D0.out HNE.out (by simp))
  have H1 := Aside0.mk hi
  have K1 := Aside0.mk (keep_then K0.out hk)
  clear hi hk
  go_wp2_with fail
  refine (C_num w0 _ g B (rnum 1 (rest, bad)).2.1 (rnum 1 (rest, bad)).2.2 H1.out 4 4 rfl (by omega) (by omega)).mono ?_
  rintro e w2 ⟨rfl, hi, hk⟩
  have D2 := Aside0.mk (hk.blk D1.out HNE.out (by simp))
  have H2 := Aside0.mk hi
  have K2 := Aside0.mk (keep_then K1.out hk)
  clear hi hk
  have hcx := fun i => blk_cell D2.out i
  have hfx := fun i => blk_frozen D2.out i
  go_wp2
  refine bodyPost_ret (v := .agg #[.int .i64 (rnum 1 (rest, bad)).1, .int .i64 (rnum 4 (rnum 1 (rest, bad)).2).1]) ?_ rfl ⟨rfl, ((((H2.out).far HNE.out HZ.out 0 (.int .i64 (rnum 1 (rest, bad)).1))).far HNE.out HZ.out 1 (.int .i64 (rnum 4 (rnum 1 (rest, bad)).2).1)), (keep_far ((keep_far (K2.out) (p := ⟨w.heap.size, 0, none⟩) (Nat.le_refl _) (.int .i64 (rnum 1 (rest, bad)).1))) (p := ⟨w.heap.size, 1, none⟩) (Nat.le_refl _) (.int .i64 (rnum 4 (rnum 1 (rest, bad)).2).1))⟩
  exact results_cell_row (p := 2) (ty := 46) rfl _ _ w.heap.size 46 #[.int .i64 (rnum 1 (rest, bad)).1, .int .i64 (rnum 4 (rnum 1 (rest, bad)).2).1] (0, 0) _ rfl (blk_set (blk_set D2.out 0 (.int .i64 (rnum 1 (rest, bad)).1)) 1 (.int .i64 (rnum 4 (rnum 1 (rest, bad)).2).1)) Tryz.underlying46 rfl (by kernel_rfl)
set_option maxHeartbeats 4000000 in
set_option maxRecDepth 100000 in
theorem C_stamp (w0 w : World) (g : Nat) (B rest : List Int) (bad : Bool) (h : IsC w0 w g B rest bad) :
    Calls Tryz.prog 92 #[.pointer (some ⟨g, 0, none⟩)] w fun en w' => en = .returned (.agg #[.int .i64 (rstamp (rest, bad)).1.f0, .int .i64 (rstamp (rest, bad)).1.f1, .int .i64 (rstamp (rest, bad)).1.f2]) ∧ IsC w0 w' g B (rstamp (rest, bad)).2.1 (rstamp (rest, bad)).2.2 ∧ KeepBut w w' g none := by
  have hgl : g < w.heap.size := h.lt
  have hne : w.heap.size ≠ g := by omega
  have H0 := Aside0.mk (h.alloc (.cells #[.int .i64 0, .int .i64 0, .int .i64 0] 48))
  have K0 := Aside0.mk (keep_alloc (KeepBut.refl w g none) (.cells #[.int .i64 0, .int .i64 0, .int .i64 0] 48))
  have D0 := Aside0.mk (heap_alloc_new w (.cells #[.int .i64 0, .int .i64 0, .int .i64 0] 48))
  have HZ := Aside0.mk (below_size h.1)
  have HNE := Aside0.mk hne
  clear h hgl hne
  go_enter Tryz.func92, Tryz.ntmps92
  go_wp2_with fail
  refine (C_num w0 _ g B rest bad H0.out 6 6 rfl (by omega) (by omega)).mono ?_
  rintro e w1 ⟨rfl, hi, hk⟩
  have D1 := Aside0.mk (hk.blk D0.out HNE.out (by simp))
  have H1 := Aside0.mk hi
  have K1 := Aside0.mk (keep_then K0.out hk)
  clear hi hk
  go_wp2_with fail
  refine (C_num w0 _ g B (rnum 6 (rest, bad)).2.1 (rnum 6 (rest, bad)).2.2 H1.out 3 3 rfl (by omega) (by omega)).mono ?_
  rintro e w2 ⟨rfl, hi, hk⟩
  have D2 := Aside0.mk (hk.blk D1.out HNE.out (by simp))
  have H2 := Aside0.mk hi
  have K2 := Aside0.mk (keep_then K1.out hk)
  clear hi hk
  go_wp2_with fail
  refine (C_num w0 _ g B (rnum 3 (rnum 6 (rest, bad)).2).2.1 (rnum 3 (rnum 6 (rest, bad)).2).2.2 H2.out 1 1 rfl (by omega) (by omega)).mono ?_
  rintro e w3 ⟨rfl, hi, hk⟩
  have D3 := Aside0.mk (hk.blk D2.out HNE.out (by simp))
  have H3 := Aside0.mk hi
  have K3 := Aside0.mk (keep_then K2.out hk)
  clear hi hk
  have hcx := fun i => blk_cell D3.out i
  have hfx := fun i => blk_frozen D3.out i
  go_wp2
  refine bodyPost_ret (v := .agg #[.int .i64 (rnum 6 (rest, bad)).1, .int .i64 (rnum 3 (rnum 6 (rest, bad)).2).1, .int .i64 (rnum 1 (rnum 3 (rnum 6 (rest, bad)).2).2).1]) ?_ rfl ⟨rfl, ((((((H3.out).far HNE.out HZ.out 0 (.int .i64 (rnum 6 (rest, bad)).1))).far HNE.out HZ.out 1 (.int .i64 (rnum 3 (rnum 6 (rest, bad)).2).1))).far HNE.out HZ.out 2 (.int .i64 (rnum 1 (rnum 3 (rnum 6 (rest, bad)).2).2).1)), (keep_far ((keep_far ((keep_far (K3.out) (p := ⟨w.heap.size, 0, none⟩) (Nat.le_refl _) (.int .i64 (rnum 6 (rest, bad)).1))) (p := ⟨w.heap.size, 1, none⟩) (Nat.le_refl _) (.int .i64 (rnum 3 (rnum 6 (rest, bad)).2).1))) (p := ⟨w.heap.size, 2, none⟩) (Nat.le_refl _) (.int .i64 (rnum 1 (rnum 3 (rnum 6 (rest, bad)).2).2).1))⟩
  exact results_cell_row (p := 2) (ty := 48) rfl _ _ w.heap.size 48 #[.int .i64 (rnum 6 (rest, bad)).1, .int .i64 (rnum 3 (rnum 6 (rest, bad)).2).1, .int .i64 (rnum 1 (rnum 3 (rnum 6 (rest, bad)).2).2).1] (0, 0) _ rfl (blk_set (blk_set (blk_set D3.out 0 (.int .i64 (rnum 6 (rest, bad)).1)) 1 (.int .i64 (rnum 3 (rnum 6 (rest, bad)).2).1)) 2 (.int .i64 (rnum 1 (rnum 3 (rnum 6 (rest, bad)).2).2).1)) Tryz.underlying48 rfl (by kernel_rfl)
set_option maxHeartbeats 4000000 in
set_option maxRecDepth 100000 in
theorem C_text (w0 w : World) (g : Nat) (B rest : List Int) (bad : Bool) (h : IsC w0 w g B rest bad) :
    Calls Tryz.prog 93 #[.pointer (some ⟨g, 0, none⟩)] w fun en w' => en = .returned (.string (rtext (rest, bad)).1) ∧ IsC w0 w' g B (rtext (rest, bad)).2.1 (rtext (rest, bad)).2.2 ∧ KeepBut w w' g none := by
  obtain ⟨h0, hg, h2, h3, A, c, at_, hv, hC, hc, ha, hd⟩ := h
  have hc0 : w.cell? ⟨g, 0, none⟩ = some (.slice A B.length c) := (blk_cell hv 0).trans rfl
  have hc1 : w.cell? ⟨g, 1, none⟩ = some (.int .i64 (at_ : Int)) := (blk_cell hv 1).trans rfl
  have hc2 : w.cell? ⟨g, 2, none⟩ = some (.bool bad) := (blk_cell hv 2).trans rfl
  have hf1 := blk_frozen hv 1
  have hf2 := blk_frozen hv 2
  have HC := Aside0.mk (Kd.C_below hC h0)
  have HC0 := Aside0.mk hC
  have Hc := Aside0.mk hc
  have HH := Aside0.mk h0
  have Hg := Aside0.mk hg
  have Hb := Aside0.mk h2
  have Hl := Aside0.mk h3
  have Hv := Aside0.mk hv
  have Ha := Aside0.mk ha
  have Hd := Aside0.mk hd
  clear h0 hg h2 h3 hv hC hc ha hd
  by_cases hbd : bad = true
  · subst hbd
    have HS := Aside0.mk (show rtext (rest, true) = (⟨#[]⟩, (rest, true)) from by cases rest <;> simp [rtext])
    go_enter Tryz.func93, Tryz.ntmps93
    go_wp2
    go_ret
    rw [HS.out]
    exact ⟨rfl, ⟨HH.out, Hg.out, Hb.out, Hl.out, A, c, at_, Hv.out, HC0.out, Hc.out, Ha.out, Hd.out⟩, KeepBut.refl _ _ _⟩
  obtain rfl : bad = false := by simpa using hbd
  clear hbd
  rcases rest with _ | ⟨b, tl⟩
  · have HS := Aside0.mk (show rtext ([], false) = (⟨#[]⟩, ([], true)) from rfl)
    go_enter Tryz.func93, Tryz.ntmps93
    go_wp2
    go_quiet ((go_at_call 117; refine Calls.quiet_of (v := .tuple #[.string ⟨#[]⟩, .int .i64 0, .int .i64 3]) ((raddleref01_GetText.calls A c B (at_ : Int) ⟨#[]⟩ 0 3 _ (Kd.C_drewN HC.out _) Hc.out (refGetText_eq B [] at_ Hb.out Hl.out Ha.out Hd.out)).mono ?_); rintro e w1 ⟨rfl, ⟨m, hm⟩⟩; exact ⟨rfl, m, hm⟩))
    have dr : Below w.heap.size w (w.drewN nq) := pw_below_drewN (Below.refl _ w) nq
    have HH1 := Aside0.mk (below_step HH.out dr)
    have Hv1 := Aside0.mk (blk_below Hv.out dr)
    have hk0 := KeepBut.of_below (row := none) dr g
    have HK1 := Aside0.mk hk0
    clear hk0 dr
    go_wp2
    go_ret
    rw [HS.out]
    exact ⟨rfl, IsC.bad (bad := false) ⟨HH1.out, Hg.out, Hb.out, Hl.out, A, c, at_, Hv1.out, HC0.out, Hc.out, Ha.out, Hd.out⟩, HK1.out.set_ 2 (.bool true)⟩
  · by_cases hs : b > 24 ∨ (tl.length : Int) < b
    · have HS := Aside0.mk (show rtext (b :: tl, false) = (⟨#[]⟩, (b :: tl, true)) from by unfold rtext; simp only; rw [if_pos (.inr hs)])
      go_enter Tryz.func93, Tryz.ntmps93
      go_wp2
      go_quiet ((go_at_call 117; refine Calls.quiet_of (v := .tuple #[.string ⟨#[]⟩, .int .i64 0, .int .i64 3]) ((raddleref01_GetText.calls A c B (at_ : Int) ⟨#[]⟩ 0 3 _ (Kd.C_drewN HC.out _) Hc.out (by rw [refGetText_eq B (b :: tl) at_ Hb.out Hl.out Ha.out Hd.out]; simp only; rw [if_pos hs])).mono ?_); rintro e w1 ⟨rfl, ⟨m, hm⟩⟩; exact ⟨rfl, m, hm⟩))
      have dr : Below w.heap.size w (w.drewN nq) := pw_below_drewN (Below.refl _ w) nq
      have HH1 := Aside0.mk (below_step HH.out dr)
      have Hv1 := Aside0.mk (blk_below Hv.out dr)
      have hk0 := KeepBut.of_below (row := none) dr g
      have HK1 := Aside0.mk hk0
      clear hk0 dr
      go_wp2
      go_ret
      rw [HS.out]
      exact ⟨rfl, IsC.bad (bad := false) ⟨HH1.out, Hg.out, Hb.out, Hl.out, A, c, at_, Hv1.out, HC0.out, Hc.out, Ha.out, Hd.out⟩, HK1.out.set_ 2 (.bool true)⟩
    · have HS := Aside0.mk (show rtext (b :: tl, false) = (strOfNums (tl.take b.toNat), (tl.drop b.toNat, false)) from by unfold rtext; simp only; rw [if_neg (by rintro (h | h); cases h; exact hs h)])
      have hbb : Byte b := Hb.out b (by have : b ∈ B.drop at_ := by { rw [Hd.out]; simp }; exact List.mem_of_mem_drop this)
      unfold Byte at hbb
      have h5 : tl.length + 1 = B.length - at_ := by have := congrArg List.length Hd.out; simp at this; omega
      have h8 : B.drop (at_ + 1) = tl := by rw [← List.drop_drop, Hd.out]; rfl
      obtain ⟨at1, hat1⟩ : ∃ at1 : Nat, (at_ : Int) + 1 + b = (at1 : Int) := ⟨at_ + 1 + b.toNat, by omega⟩
      have HE := Aside0.mk (show at1 ≤ B.length ∧ B.drop at1 = tl.drop b.toNat from ⟨by have := Ha.out; omega, by rw [show at1 = at_ + 1 + b.toNat from by omega, ← List.drop_drop, h8]⟩)
      have HG := Aside0.mk (show raddleref01_GetText.f B (at_ : Int) = some (strOfNums (tl.take b.toNat), (at1 : Int), 0) from by rw [refGetText_eq B (b :: tl) at_ Hb.out Hl.out Ha.out Hd.out]; simp only; rw [if_neg hs, hat1])
      clear hbb h5 h8 hat1 hs
      go_enter Tryz.func93, Tryz.ntmps93
      go_wp2
      go_quiet ((go_at_call 117; refine Calls.quiet_of (v := .tuple #[.string (strOfNums (tl.take b.toNat)), .int .i64 (at1 : Int), .int .i64 0]) ((raddleref01_GetText.calls A c B (at_ : Int) (strOfNums (tl.take b.toNat)) (at1 : Int) 0 _ (Kd.C_drewN HC.out _) Hc.out HG.out).mono ?_); rintro e w1 ⟨rfl, ⟨m, hm⟩⟩; exact ⟨rfl, m, hm⟩))
      have dr : Below w.heap.size w (w.drewN nq) := pw_below_drewN (Below.refl _ w) nq
      have HH1 := Aside0.mk (below_step HH.out dr)
      have Hv1 := Aside0.mk (blk_below Hv.out dr)
      have hk0 := KeepBut.of_below (row := none) dr g
      have HK1 := Aside0.mk hk0
      clear hk0 dr
      go_wp2
      go_ret
      rw [HS.out]
      exact ⟨rfl, IsC.go (bad := false) HH1.out Hg.out Hb.out Hl.out Hv1.out HC0.out Hc.out HE.out.1 HE.out.2, HK1.out.set_ 1 _⟩
theorem rints_bad (r : List Int) : ∀ k, (rints k (r, true)).2 = (r, true)
  | 0 => rfl
  | k + 1 => by
    show (rnum 4 (rints k (r, true)).2).2 = _
    rw [rints_bad r k]; unfold rnum; rw [if_pos (by simp)]
theorem rnum_bad (s : Nat) {st : List Int × Bool} (h : st.2 = true) : (rnum s st).2 = st := by
  obtain ⟨r, b⟩ := st
  simp only at h
  subst h
  unfold rnum; rw [if_pos (by simp)]
theorem rints_later (q : List Int × Bool) (k : Nat) (h : (rints k q).2.2 = true) : ∀ m, k ≤ m → (rints m q).2 = (rints k q).2 := by
  intro m hm
  induction m with
  | zero => obtain rfl : k = 0 := by omega
            rfl
  | succ m ih =>
    rcases Nat.lt_or_ge m k with h1 | h1
    · obtain rfl : k = m + 1 := by omega
      rfl
    · show (rnum 4 (rints m q).2).2 = _
      rw [ih h1, rnum_bad 4 h]
set_option maxHeartbeats 4000000 in
set_option maxRecDepth 100000 in
theorem C_vector (w0 w : World) (g : Nat) (B rest : List Int) (bad : Bool) (h : IsC w0 w g B rest bad) :
    Calls Tryz.prog 49 #[.pointer (some ⟨g, 0, none⟩)] w fun en w' => ∃ v l, en = .returned v ∧ Kd.R (Kd.int .i64) 3 w' w.heap.size (fun k => k ≠ g) v l ∧ ((rnums (rest, bad)).2.2 = false → l = (rnums (rest, bad)).1) ∧
      IsC w0 w' g B (rnums (rest, bad)).2.1 (rnums (rest, bad)).2.2 ∧ KeepBut w w' g none := by
  have hgl : g < w.heap.size := h.lt
  have HGL := Aside0.mk hgl
  have H0 := Aside0.mk h
  have HB0 := Aside0.mk (below_size h.1)
  obtain ⟨q, hq⟩ : ∃ q, q = rnum 1 (rest, bad) := ⟨_, rfl⟩
  have HQ := Aside0.mk hq
  have HN := Aside0.mk (show 0 ≤ q.1 ∧ q.1 < 256 from by have := rnum_bound 1 (rest, bad) h.bytes; rw [← hq] at this; simpa using this)
  have HS := Aside0.mk (show rnums (rest, bad) = if q.1 > 5 then ([], (q.2.1, true)) else rints q.1.toNat q.2 from by unfold rnums rmany; rw [← hq]; split <;> rfl)
  clear h hgl hq
  obtain ⟨n, r1, b1⟩ := q
  by_cases hbq : (b1 || decide (n > 5)) = true
  · have HE := Aside0.mk (show (rnums (rest, bad)).2 = (r1, true) from by
      rw [HS.out]
      by_cases h5 : n > 5
      · rw [if_pos h5]
      · rw [if_neg h5]
        have hb : b1 = true := by simpa [h5] using hbq
        subst hb
        exact rints_bad _ _)
    clear HS
    cases b1
    · have h5 : n > 5 := by simpa using hbq
      have g5 : decide (5 < n) = true := decide_eq_true h5
      clear h5 hbq
      go_enter Tryz.func49, Tryz.ntmps49
      go_wp2_with fail
      refine (C_num w0 _ g B rest bad H0.out 1 1 rfl (by omega) (by omega)).mono ?_
      rintro e w1 ⟨rfl, hi, hk⟩
      rw [← HQ.out] at hi
      rw [← HQ.out]
      have K1 := Aside0.mk (hk.set_ 2 (.bool true))
      have H1 := Aside0.mk hi.bad
      obtain ⟨-, -, -, -, A, c, at_, hv, -⟩ := hi
      have hc2 : w1.cell? ⟨g, 2, none⟩ = some (.bool false) := (blk_cell hv 2).trans rfl
      have hf2 := blk_frozen hv 2
      have hd2 : (w1.setCell ⟨g, 2, none⟩ (.bool true)).cell? ⟨g, 2, none⟩ = some (.bool true) := (blk_cell (blk_set hv 2 (.bool true)) 2).trans rfl
      clear hk hv HQ
      go_wp2
      go_loopw [4, 5] (fun v4 v5 wr => v4 = .slice none 0 0 ∧ v5 = .int .i64 0 ∧ wr = w1.setCell ⟨g, 2, none⟩ (.bool true)) (fun _ _ _ => 0)
      case atStart => exact ⟨rfl, rfl, rfl⟩
      case round =>
        obtain ⟨rfl, rfl, rfl⟩ := hrel
        by_cases h0 : (0 : Int) < n
        · go_wp2
          go_ret
          rw [HE.out]
          first | exact ⟨_, [], rfl, Kd.R_nil _ _ _ _ _, (fun h => by cases h), H1.out, K1.out⟩ | exact ⟨_, rfl, [], Kd.R_nil _ _ _ _ _, (fun h => by cases h), H1.out, K1.out⟩
        · go_wp2
          go_ret
          rw [HE.out]
          first | exact ⟨_, [], rfl, Kd.R_nil _ _ _ _ _, (fun h => by cases h), H1.out, K1.out⟩ | exact ⟨_, rfl, [], Kd.R_nil _ _ _ _ _, (fun h => by cases h), H1.out, K1.out⟩
    · clear hbq
      go_enter Tryz.func49, Tryz.ntmps49
      go_wp2_with fail
      refine (C_num w0 _ g B rest bad H0.out 1 1 rfl (by omega) (by omega)).mono ?_
      rintro e w1 ⟨rfl, hi, hk⟩
      rw [← HQ.out] at hi
      rw [← HQ.out]
      have K1 := Aside0.mk (hk.set_ 2 (.bool true))
      have H1 := Aside0.mk hi.bad
      obtain ⟨-, -, -, -, A, c, at_, hv, -⟩ := hi
      have hc2 : w1.cell? ⟨g, 2, none⟩ = some (.bool true) := (blk_cell hv 2).trans rfl
      have hf2 := blk_frozen hv 2
      have hd2 : (w1.setCell ⟨g, 2, none⟩ (.bool true)).cell? ⟨g, 2, none⟩ = some (.bool true) := (blk_cell (blk_set hv 2 (.bool true)) 2).trans rfl
      clear hk hv HQ
      go_wp2
      go_loopw [4, 5] (fun v4 v5 wr => v4 = .slice none 0 0 ∧ v5 = .int .i64 0 ∧ wr = w1.setCell ⟨g, 2, none⟩ (.bool true)) (fun _ _ _ => 0)
      case atStart => exact ⟨rfl, rfl, rfl⟩
      case round =>
        obtain ⟨rfl, rfl, rfl⟩ := hrel
        by_cases h0 : (0 : Int) < n
        · go_wp2
          go_ret
          rw [HE.out]
          first | exact ⟨_, [], rfl, Kd.R_nil _ _ _ _ _, (fun h => by cases h), H1.out, K1.out⟩ | exact ⟨_, rfl, [], Kd.R_nil _ _ _ _ _, (fun h => by cases h), H1.out, K1.out⟩
        · go_wp2
          go_ret
          rw [HE.out]
          first | exact ⟨_, [], rfl, Kd.R_nil _ _ _ _ _, (fun h => by cases h), H1.out, K1.out⟩ | exact ⟨_, rfl, [], Kd.R_nil _ _ _ _ _, (fun h => by cases h), H1.out, K1.out⟩
  · have hb1 : b1 = false := by
      cases b1
      · rfl
      · simp at hbq
    subst hb1
    have h5 : ¬ n > 5 := by simpa using hbq
    have g5 : decide (5 < n) = false := decide_eq_false h5
    have HM := Aside0.mk (show n ≤ 5 by omega)
    have HE := Aside0.mk (show rnums (rest, bad) = rints n.toNat (r1, false) from by rw [HS.out, if_neg h5])
    clear h5 hbq HS
    go_enter Tryz.func49, Tryz.ntmps49
    go_wp2_with fail
    refine (C_num w0 _ g B rest bad H0.out 1 1 rfl (by omega) (by omega)).mono ?_
    rintro e w1 ⟨rfl, hi, hk⟩
    rw [← HQ.out] at hi
    rw [← HQ.out]
    obtain ⟨i1, i2, i3, i4, A, c, at_, hv, i5, i6, i7, i8⟩ := hi
    have H1 := Aside0.mk (show IsC w0 (w1.setCell ⟨g, 2, none⟩ (.bool false)) g B r1 false from ⟨below_set i1 i2, i2, i3, i4, A, c, at_, blk_set hv 2 (.bool false), i5, i6, i7, i8⟩)
    have K1 := Aside0.mk (hk.set_ 2 (.bool false))
    have hc2 : w1.cell? ⟨g, 2, none⟩ = some (.bool false) := (blk_cell hv 2).trans rfl
    have hf2 := blk_frozen hv 2
    clear hk hv HQ i1 i2 i3 i4 i5 i6 i7 i8
    go_wp2
    go_loopw [4, 5] (fun v4 v5 wr => ∃ k : Nat, k ≤ n.toNat ∧ v5 = .int .i64 k ∧ Aside0 (Kd.R (Kd.int .i64) 3 wr w.heap.size (fun k => k ≠ g) v4 (rints k (r1, false)).1) ∧ Aside0 (IsC w0 wr g B (rints k (r1, false)).2.1 (rints k (r1, false)).2.2) ∧ Aside0 (KeepBut w wr g none)) (fun _ v5 _ => n.toNat - (intOf v5).toNat)
    case atStart => exact ⟨0, by omega, rfl, ⟨Kd.R_nil _ _ _ _ _⟩, H1, K1⟩
    case round =>
      obtain ⟨k, hk, rfl, HO, HI, HK⟩ := hrel
      have hkm : (k : Int) ≤ 5 := by have := HM.out; omega
      by_cases hlt : (k : Int) < n
      · obtain ⟨L, hL⟩ : ∃ L, L = (rints k (r1, false)).1 := ⟨_, rfl⟩
        obtain ⟨rk, hrk⟩ : ∃ rk, rk = (rints k (r1, false)).2.1 := ⟨_, rfl⟩
        obtain ⟨bk, hbk⟩ : ∃ bk, bk = (rints k (r1, false)).2.2 := ⟨_, rfl⟩
        rw [← hL] at HO
        rw [← hrk, ← hbk] at HI
        have hi := HI.out
        obtain ⟨-, -, -, -, A, c, at_, hv, -⟩ := hi
        have hc2 : wr.cell? ⟨g, 2, none⟩ = some (.bool bk) := (blk_cell hv 2).trans rfl
        clear hv
        cases bk
        · have HT := Aside0.mk (show rints (k + 1) (r1, false) = (L ++ [(rnum 4 (rk, false)).1], (rnum 4 (rk, false)).2) from by
            show ((rints k (r1, false)).1 ++ [(rnum 4 (rints k (r1, false)).2).1], (rnum 4 (rints k (r1, false)).2).2) = _
            rw [show (rints k (r1, false)).2 = (rk, false) from by rw [hrk]; exact Prod.ext rfl hbk.symm, ← hL])
          have HLn := Aside0.mk (show L.length = k by rw [hL, rints_length])
          clear hL hrk hbk
          go_wp2_with fail
          refine (C_num w0 _ g B _ _ HI.out 4 4 rfl (by omega) (by omega)).mono ?_
          rintro e w2 ⟨rfl, hi, hk2⟩
          have H2 := Aside0.mk hi
          have K2 := Aside0.mk (keep_then HK.out hk2)
          have O2 := Aside0.mk (Kd.R_keep HO.out hk2 (fun _ h => h))
          clear hi hk2 hc2
          obtain ⟨x, hx⟩ : ∃ x, x = (rnum 4 (rk, false)).1 := ⟨_, rfl⟩
          rw [← hx] at HT
          rw [← hx]
          clear hx
          go_wp2_with (first | ((with_reducible refine gate_builtin (b := .append) (xs := #[.tmp 31, .tmp 34]) rfl ?_); at_builtin; refine Kd.R_append (Kd.int .i64) (w0 := w2) w.heap.size rfl (.tmp 31) (.tmp 34) 23 3 (.int .i64 0) 8 rfl Tryz.underlying23 info3 rfl (by decide) (by omega) u4 L x [.int .i64 x] (fun k => k ≠ g) (fun _ => False) rfl rfl rfl (fun _ hk => hk.elim) (fun k hk e_ => by have := H2.out.lt; omega) O2.out (Below.refl _ _) K2.out.1 (by have := HLn.out; omega) ?_; intro v3 w3 ho hb hgw hat; have O3 := Aside0.mk ho; have H3 := Aside0.mk (H2.out.grown hgw (fun e_ => O2.out.1 g e_ rfl) (fun k hk => by have := Kd.R_base O2.out k hk; have := HB0.out; omega)); have K3 := Aside0.mk (keep_grown K2.out hgw (fun k hk => Kd.R_base O2.out k hk)); clear ho hb hgw hat))
          go_roundw
          case rel => exact ⟨k + 1, by omega, by go_num, by rw [HT.out]; exact O3, by rw [HT.out]; exact H3, K3⟩
          case measure => simp [intOf]; omega
        · have HT := Aside0.mk (show (rnums (rest, bad)).2 = (rk, true) from by
            rw [HE.out, rints_later (r1, false) k hbk.symm n.toNat hk, hrk]
            exact Prod.ext rfl hbk.symm)
          clear hL hrk hbk
          go_wp2
          go_ret
          rw [HT.out]
          first | exact ⟨_, L, rfl, HO.out, (fun h => by cases h), HI.out, HK.out⟩ | exact ⟨_, rfl, L, HO.out, (fun h => by cases h), HI.out, HK.out⟩
      · obtain rfl : k = n.toNat := by have := HN.out; omega
        go_wp2
        go_ret
        rw [HE.out]
        first | exact ⟨_, _, rfl, HO.out, (fun _ => rfl), HI.out, HK.out⟩ | exact ⟨_, rfl, _, HO.out, (fun _ => rfl), HI.out, HK.out⟩
theorem refReadValue_eq (B rest : List Int) (at_ : Nat) (hb : Bytes_ B) (hl : B.length ≤ 65536) (ha : at_ ≤ B.length) (hd : B.drop at_ = rest) (k : Nat) (hk : 20 < k) :
    (rval rest = none ∧ ∃ e, e ≠ 0 ∧ raddleref01_ReadValue.f k B (at_ : Int) = some (0, 0, ⟨#[]⟩, 0, e)) ∨
    (∃ (v : Val) (tl : List Int) (at1 : Nat), rval rest = some (v, tl) ∧ at_ < at1 ∧ at1 ≤ B.length ∧ B.drop at1 = tl ∧ raddleref01_ReadValue.f k B (at_ : Int) = some (v.f0, v.f1, v.f2, (at1 : Int), 0)) := by
  unfold raddleref01_ReadValue.f
  rw [in_eq, Option.bind_some, if_pos (decide_eq_true (by omega))]
  have hr : rest.length = B.length - at_ := by rw [← hd]; simp
  rcases rest with _ | ⟨c, tl⟩
  · rw [if_pos (by simp at hr; omega)]
    exact .inl ⟨rfl, 3, by decide, rfl⟩
  · obtain ⟨a1, a2, a3, a4⟩ := at_cons hd
    have hcb : Byte c := hb c (by have : c ∈ B.drop at_ := by rw [hd]; simp
                                  exact List.mem_of_mem_drop this)
    unfold Byte at hcb
    rw [if_neg (by omega), if_pos (by omega), if_pos (by omega), a4, wrap_in c (by omega) (by omega), wrap_in ((at_ : Int) + 1) (by omega) (by omega), show (at_ : Int) + 1 = ((at_ + 1 : Nat) : Int) from by omega]
    by_cases h1 : c = 1
    · subst h1
      have e0 : rval (1 :: tl) = ok ⟨1, 0, ⟨#[]⟩⟩ tl := rfl
      have hg : goodV ⟨1, 0, ⟨#[]⟩⟩ := .inl ⟨rfl, rfl, by unfold ByteArray.toList; unfold ByteArray.toList.loop; rfl⟩
      rw [if_pos rfl, if_pos rfl, refV3, Option.bind_some, e0, decide_eq_true hg, if_pos rfl, ok_pos hg]
      exact .inr ⟨_, _, at_ + 1, rfl, by omega, by omega, a2, rfl⟩
    · rw [if_neg h1]
      by_cases h2 : c = 2
      · subst h2
        have e0 : rval (2 :: tl) = rval2 tl := rfl
        rw [if_pos rfl, e0]
        rcases tl with _ | ⟨b, t⟩
        · rw [refGet1_nil B (at_ + 1) hb hl (by omega) a2 k (by omega), Option.bind_some]
          exact .inl ⟨rfl, 3, by decide, by rw [if_neg (by decide)]⟩
        · obtain ⟨b1, b2, b3, b4⟩ := at_cons a2
          have e1 : rval2 (b :: t) = ok ⟨2, b, ⟨#[]⟩⟩ t := rfl
          rw [refGet1_cons B (at_ + 1) b t hb hl (by omega) a2 k (by omega), Option.bind_some, if_pos rfl, refV3, Option.bind_some, e1]
          by_cases hg : goodV ⟨2, b, ⟨#[]⟩⟩
          · rw [decide_eq_true hg, if_pos rfl, ok_pos hg]
            exact .inr ⟨_, _, at_ + 1 + 1, rfl, by omega, by omega, b2, rfl⟩
          · rw [decide_eq_false hg, if_neg (by decide), ok_neg hg]
            exact .inl ⟨rfl, 3, by decide, rfl⟩
      · rw [if_neg h2]
        by_cases h3 : c = 3
        · subst h3
          have e0 : rval (3 :: tl) = rval3 tl := rfl
          rw [if_pos rfl, e0, refGetInt_eq B tl (at_ + 1) hb hl (by omega) a2 k hk, Option.bind_some]
          rcases hg : gint tl with _ | ⟨n, t⟩
          · exact .inl ⟨by unfold rval3; rw [hg]; rfl, 3, by decide, rfl⟩
          · have e1 : rval3 tl = ok ⟨3, n, ⟨#[]⟩⟩ t := by unfold rval3; rw [hg]; rfl
            have h9 := gint_some hg
            simp only
            rw [if_pos trivial, refV3, Option.bind_some, e1]
            by_cases hq : goodV ⟨3, n, ⟨#[]⟩⟩
            · rw [decide_eq_true hq, if_pos rfl, ok_pos hq]
              exact .inr ⟨_, _, at_ + 1 + 9, rfl, by omega, by omega, by rw [← List.drop_drop, a2]; exact h9.2, rfl⟩
            · rw [decide_eq_false hq, if_neg (by decide), ok_neg hq]
              exact .inl ⟨rfl, 3, by decide, rfl⟩
        · rw [if_neg h3]
          by_cases h4 : c = 4
          · subst h4
            have e0 : rval (4 :: tl) = rval4 tl := rfl
            rw [if_pos rfl, e0, refGetText_eq B tl (at_ + 1) hb hl (by omega) a2, Option.bind_some]
            rcases tl with _ | ⟨b, t⟩
            · exact .inl ⟨rfl, 3, by decide, rfl⟩
            · obtain ⟨b1, b2, b3, b4⟩ := at_cons a2
              have hbb : Byte b := hb b (by have : b ∈ B.drop (at_ + 1) := by { rw [a2]; simp }; exact List.mem_of_mem_drop this)
              unfold Byte at hbb
              simp only
              by_cases h5 : b > 24 ∨ (t.length : Int) < b
              · rw [if_pos h5]
                exact .inl ⟨if_pos h5, 3, by decide, rfl⟩
              · have e1 : rval4 (b :: t) = ok ⟨4, 0, strOfNums (t.take b.toNat)⟩ (t.drop b.toNat) := if_neg h5
                rw [if_neg h5]
                simp only
                rw [if_pos trivial, refV3, Option.bind_some, e1]
                by_cases hq : goodV ⟨4, 0, strOfNums (t.take b.toNat)⟩
                · rw [decide_eq_true hq, if_pos rfl, ok_pos hq]
                  refine .inr ⟨_, _, at_ + 1 + 1 + b.toNat, rfl, by omega, by omega, by rw [← List.drop_drop, b2], ?_⟩
                  rw [show ((at_ + 1 : Nat) : Int) + 1 + b = ((at_ + 1 + 1 + b.toNat : Nat) : Int) from by omega]
                · rw [decide_eq_false hq, if_neg (by decide), ok_neg hq]
                  exact .inl ⟨rfl, 3, by decide, rfl⟩
          · have e0 : rval (c :: tl) = ok ⟨c, 0, ⟨#[]⟩⟩ tl := (if_neg h2).trans ((if_neg h3).trans (if_neg h4))
            have hq : ¬ goodV ⟨c, 0, ⟨#[]⟩⟩ := by
              rintro (h | h | h | h)
              · exact h1 h.1
              · exact h2 h.1
              · exact h3 h.1
              · exact h4 h.1
            rw [if_neg h4, if_neg (by decide), e0, ok_neg hq]
            exact .inl ⟨rfl, 3, by decide, rfl⟩
theorem refRow_l0 (B : List Int) (hb : Bytes_ B) (hl : B.length ≤ 65536) (m : Nat) (hm : m ≤ 12) : ∀ (d i k at_ : Nat) (acc : List Val) (rest : List Int), i + d = m → acc.length = i → at_ ≤ B.length → B.drop at_ = rest → d + 21 < k →
    (rvals d rest = none ∧ ∃ e, e ≠ 0 ∧ raddleref01_ReadRow.l0 k B (at_ : Int) (m : Int) acc (i : Int) = some ([], 0, e)) ∨
    (∃ (vs : List Val) (tl : List Int) (at1 : Nat), rvals d rest = some (vs, tl) ∧ at1 ≤ B.length ∧ B.drop at1 = tl ∧ raddleref01_ReadRow.l0 k B (at_ : Int) (m : Int) acc (i : Int) = some (acc ++ vs, (at1 : Int), 0)) := by
  intro d
  induction d with
  | zero =>
    intro i k at_ acc rest h1 h2 h3 h4 hk
    obtain ⟨k, rfl⟩ : ∃ m, k = m + 1 := ⟨k - 1, by omega⟩
    simp only [raddleref01_ReadRow.l0]
    refine .inr ⟨[], rest, at_, rfl, h3, h4, ?_⟩
    rw [if_neg (by omega), List.append_nil]
  | succ d ih =>
    intro i k at_ acc rest h1 h2 h3 h4 hk
    obtain ⟨k, rfl⟩ : ∃ m, k = m + 1 := ⟨k - 1, by omega⟩
    have hv := refReadValue_eq B rest at_ hb hl h3 h4 k (by omega)
    have e0 : rvals (d + 1) rest = (rval rest).bind fun p => (rvals d p.2).bind fun q => some (p.1 :: q.1, q.2) := rfl
    simp only [raddleref01_ReadRow.l0]
    rw [if_pos (by omega), e0]
    rcases hv with ⟨hr, e, he, hv⟩ | ⟨v, t, at1, hr, hlt, hle, hd1, hv⟩
    · rw [hr, hv, Option.bind_some, if_neg he]
      exact .inl ⟨rfl, 3, by decide, rfl⟩
    · have := ih (i + 1) k at1 (acc ++ [v]) t (by omega) (by simp [h2]) hle hd1 (by omega)
      rw [hr, hv, Option.bind_some, Option.bind_some, if_pos rfl, if_pos (by omega), wrap_in _ (by omega) (by omega), show (i : Int) + 1 = ((i + 1 : Nat) : Int) from by omega]
      rcases this with ⟨g0, e, he, g1⟩ | ⟨vs, tl, at2, g0, g1, g2, g3⟩
      · rw [g0]
        exact .inl ⟨rfl, e, he, g1⟩
      · rw [g0]
        refine .inr ⟨v :: vs, tl, at2, rfl, g1, g2, ?_⟩
        rw [List.append_assoc] at g3
        exact g3
theorem refRow_eq (B rest : List Int) (at_ : Nat) (hb : Bytes_ B) (hl : B.length ≤ 65536) (ha : at_ ≤ B.length) (hd : B.drop at_ = rest) (k : Nat) (hk : 40 < k) :
    (rrow rest = none ∧ ∃ e, e ≠ 0 ∧ raddleref01_ReadRow.f k B (at_ : Int) = some ([], 0, e)) ∨
    (∃ (vs : List Val) (tl : List Int) (at1 : Nat), rrow rest = some (vs, tl) ∧ at1 ≤ B.length ∧ B.drop at1 = tl ∧ raddleref01_ReadRow.f k B (at_ : Int) = some (vs, (at1 : Int), 0)) := by
  obtain ⟨k, rfl⟩ : ∃ m, k = m + 1 := ⟨k - 1, by omega⟩
  unfold raddleref01_ReadRow.f
  rw [in_eq, Option.bind_some, if_pos (decide_eq_true (by omega))]
  have hr : rest.length = B.length - at_ := by rw [← hd]; simp
  rcases rest with _ | ⟨c, tl⟩
  · rw [if_pos (by simp at hr; omega)]
    simp only [raddleref01_ReadRow.j0]
    exact .inl ⟨rfl, 3, by decide, by rw [if_pos trivial]⟩
  · obtain ⟨a1, a2, a3, a4⟩ := at_cons hd
    have hbb : Byte c := hb c (by have : c ∈ B.drop at_ := by { rw [hd]; simp }; exact List.mem_of_mem_drop this)
    unfold Byte at hbb
    rw [if_neg (by omega), if_pos (by omega), if_pos (by omega), a4, wrap_in c (by omega) (by omega)]
    simp only [raddleref01_ReadRow.j0]
    by_cases h : c > 12
    · rw [show decide (c > 12) = true from decide_eq_true h, if_pos rfl, show rrow (c :: tl) = none from if_pos h]
      exact .inl ⟨rfl, 3, by decide, rfl⟩
    · rw [show decide (c > 12) = false from decide_eq_false h, if_neg (by decide), if_pos (by omega), if_pos (by omega), a4, wrap_in c (by omega) (by omega), wrap_in ((at_ : Int) + 1) (by omega) (by omega), show rrow (c :: tl) = rvals c.toNat tl from if_neg h]
      have := refRow_l0 B hb hl c.toNat (by omega) c.toNat 0 k (at_ + 1) [] tl (by omega) rfl (by omega) a2 (by omega)
      rw [show ((c.toNat : Nat) : Int) = c from by omega, show ((0 : Nat) : Int) = 0 from rfl, show ((at_ + 1 : Nat) : Int) = (at_ : Int) + 1 from by omega] at this
      exact this
def crow (st : List Int × Bool) : List Val × (List Int × Bool) := if st.2 = true then ([], st) else match rrow st.1 with
  | none => ([], (st.1, true))
  | some (vs, tl) => (vs, (tl, false))
set_option maxHeartbeats 4000000 in
set_option maxRecDepth 100000 in
theorem C_row (w0 w : World) (g : Nat) (B rest : List Int) (bad : Bool) (h : IsC w0 w g B rest bad) :
    Calls Tryz.prog 94 #[.pointer (some ⟨g, 0, none⟩)] w fun en w' => ∃ v, en = .returned v ∧ Kd.R k92 92 w' w.heap.size (fun k => k ≠ g) v (crow (rest, bad)).1 ∧ IsC w0 w' g B (crow (rest, bad)).2.1 (crow (rest, bad)).2.2 ∧ KeepBut w w' g none := by
  have hgl : g < w.heap.size := h.lt
  obtain ⟨h0, hg, h2, h3, A, c, at_, hv, hC, hc, ha, hd⟩ := h
  have hs0 : w.cell? ⟨g, 0, none⟩ = some (.slice A B.length c) := (blk_cell hv 0).trans rfl
  have hs1 : w.cell? ⟨g, 1, none⟩ = some (.int .i64 (at_ : Int)) := (blk_cell hv 1).trans rfl
  have hc2 : w.cell? ⟨g, 2, none⟩ = some (.bool bad) := (blk_cell hv 2).trans rfl
  have hf1 := blk_frozen hv 1
  have hf2 := blk_frozen hv 2
  have HC := Aside0.mk (Kd.C_below hC h0)
  have HC0 := Aside0.mk hC
  have Hc := Aside0.mk hc
  have HH := Aside0.mk h0
  have Hg := Aside0.mk hg
  have Hb := Aside0.mk h2
  have Hl := Aside0.mk h3
  have Hv := Aside0.mk hv
  have Ha := Aside0.mk ha
  have Hd := Aside0.mk hd
  have HGL := Aside0.mk hgl
  clear h0 hg h2 h3 hv hC hc ha hd hgl
  by_cases hbd : bad = true
  · subst hbd
    have HS := Aside0.mk (show crow (rest, true) = ([], (rest, true)) from if_pos rfl)
    go_enter Tryz.func94, Tryz.ntmps94
    go_wp2
    go_ret
    rw [HS.out]
    first | exact ⟨_, rfl, Kd.R_nil _ _ _ _ _, ⟨HH.out, Hg.out, Hb.out, Hl.out, A, c, at_, Hv.out, HC0.out, Hc.out, Ha.out, Hd.out⟩, KeepBut.refl _ _ _⟩ | exact ⟨rfl, Kd.R_nil _ _ _ _ _, ⟨HH.out, Hg.out, Hb.out, Hl.out, A, c, at_, Hv.out, HC0.out, Hc.out, Ha.out, Hd.out⟩, KeepBut.refl _ _ _⟩
  obtain rfl : bad = false := by simpa using hbd
  clear hbd
  have HP : ∃ r1 r2 r3, raddleref01_ReadRow.f 100 B (at_ : Int) = some (r1, r2, r3) ∧ ((r1 = [] ∧ crow (rest, false) = ([], (rest, true)) ∧ r3 ≠ 0) ∨ (∃ (tl : List Int) (at1 : Nat), crow (rest, false) = (r1, (tl, false)) ∧ at1 ≤ B.length ∧ B.drop at1 = tl ∧ r2 = (at1 : Int) ∧ r3 = 0)) := by
    rcases refRow_eq B rest at_ Hb.out Hl.out Ha.out Hd.out 100 (by omega) with ⟨e0, e, he, e1⟩ | ⟨vs, tl, at1, e0, g1, g2, e1⟩
    · refine ⟨_, _, _, e1, .inl ⟨rfl, ?_, he⟩⟩
      unfold crow; rw [if_neg (show ¬ false = true by decide)]; simp only; rw [e0]
    · refine ⟨_, _, _, e1, .inr ⟨tl, at1, ?_, g1, g2, rfl, rfl⟩⟩
      unfold crow; rw [if_neg (show ¬ false = true by decide)]; simp only; rw [e0]
  obtain ⟨r1, r2, r3, hp, hr⟩ := HP
  have HP := Aside0.mk hp
  have HR := Aside0.mk hr
  clear hp hr
  go_enter Tryz.func94, Tryz.ntmps94
  go_wp2
  go_region_held3 (fun w' => w'.cell? ⟨g, 0, none⟩ = some (.slice A B.length c) ∧ w'.cell? ⟨g, 1, none⟩ = some (.int .i64 (at_ : Int))) (first | exact ⟨hs0, hs1⟩ | exact ⟨ht0, ht1⟩)
    (first | (go_at_call 118; refine (raddleref01_ReadRow.calls 100 A c B (at_ : Int) r1 r2 r3 _ (Kd.C_below HC.out (by first | exact Below.refl _ _ | exact below_drew (Below.refl _ _) | exact pw_below_drewN (Below.refl _ _) _)) Hc.out HP.out).mono ?_; rintro e w9 ⟨v9, rfl, ho, hb⟩; obtain ⟨A9, c9, rfl⟩ := Kd.R_slice ho; have HB9 := Aside0.mk (show Below w.heap.size w w9 from below_step (below_drew (Below.refl _ w)) hb); have O9 := Aside0.mk (show Kd.R k92 92 w9 w.heap.size (fun _ => True) (.slice A9 r1.length c9) r1 from ho); clear ho hb; have ht0 := pw_cell_below HB9.out hs0; have ht1 := pw_cell_below HB9.out hs1))
  have HK9 := Aside0.mk (KeepBut.of_below (row := none) HB9.out g)
  have HH9 := Aside0.mk (below_step HH.out HB9.out)
  have Hv9 := Aside0.mk (blk_below Hv.out HB9.out)
  have hv9 := Hv9.out
  have he2 : w9.cell? ⟨g, 2, none⟩ = some (.bool false) := (blk_cell hv9 2).trans rfl
  have he1 := blk_frozen hv9 1
  have hf9 := blk_frozen hv9 2
  have OR := Aside0.mk (Kd.R_elder0 O9.out HGL.out)
  clear hs0 hs1 hc2 hf1 hf2 hv9
  rcases HR.out with ⟨rfl, hn, h3⟩ | ⟨tl, at1, hn, g1, g2, rfl, rfl⟩
  · have g3 : (r3 != 0) = true := bne_iff_ne.2 h3
    have HS := Aside0.mk hn
    clear h3 hn HR HP
    go_wp2
    go_ret
    rw [HS.out]
    first | exact ⟨_, rfl, Kd.R_nil _ _ _ _ _, IsC.bad (bad := false) ⟨HH9.out, Hg.out, Hb.out, Hl.out, A, c, at_, Hv9.out, HC0.out, Hc.out, Ha.out, Hd.out⟩, HK9.out.set_ 2 (.bool true)⟩ | exact ⟨rfl, Kd.R_nil _ _ _ _ _, IsC.bad (bad := false) ⟨HH9.out, Hg.out, Hb.out, Hl.out, A, c, at_, Hv9.out, HC0.out, Hc.out, Ha.out, Hd.out⟩, HK9.out.set_ 2 (.bool true)⟩
  · have HS := Aside0.mk hn
    have HE := Aside0.mk (show at1 ≤ B.length ∧ B.drop at1 = tl from ⟨g1, g2⟩)
    clear hn HR HP g1 g2
    go_wp2
    go_ret
    rw [HS.out]
    first | exact ⟨_, rfl, Kd.R_far OR.out (p := ⟨g, 1, none⟩) (fun _ h => h) _, IsC.go (bad := false) HH9.out Hg.out Hb.out Hl.out Hv9.out HC0.out Hc.out HE.out.1 HE.out.2, HK9.out.set_ 1 _⟩ | exact ⟨rfl, Kd.R_far OR.out (p := ⟨g, 1, none⟩) (fun _ h => h) _, IsC.go (bad := false) HH9.out Hg.out Hb.out Hl.out Hv9.out HC0.out Hc.out HE.out.1 HE.out.2, HK9.out.set_ 1 _⟩
theorem rdl_bad (r : List Int) : rdl (r, true) = ([], (r, true)) := by
  unfold rdl rmany
  rw [show rnum 1 (r, true) = (0, (r, true)) from by unfold rnum; rw [if_pos (by simp)]]
  rw [if_neg (show ¬ (0 : Int) > 64 by decide)]
  rfl
theorem rtail_crow (h : Head × (List Int × Bool)) : (rtail h (rrow h.2.1)).2 = (rdl (crow h.2).2).2 ∧ ((rtail h (rrow h.2.1)).2.2 = false → (rtail h (rrow h.2.1)).1 = mkOp h.1 (crow h.2).1 (rdl (crow h.2).2).1) := by
  obtain ⟨a, r, b⟩ := h
  cases b with
  | true =>
    have e : crow (r, true) = ([], (r, true)) := if_pos rfl
    simp only
    rw [e]
    rcases hr : rrow r with _ | ⟨vs, tl⟩
    · exact ⟨by rw [rdl_bad]; rfl, fun h => by cases h⟩
    · exact ⟨by rw [rdl_bad]; rfl, fun h => by cases h⟩
  | false =>
    simp only
    rcases hr : rrow r with _ | ⟨vs, tl⟩
    · have e : crow (r, false) = ([], (r, true)) := by unfold crow; rw [if_neg (show ¬ false = true by decide)]; simp only; rw [hr]
      rw [e]
      exact ⟨by rw [rdl_bad]; rfl, fun h => by cases h⟩
    · have e : crow (r, false) = (vs, (tl, false)) := by unfold crow; rw [if_neg (show ¬ false = true by decide)]; simp only; rw [hr]
      rw [e]
      exact ⟨rfl, fun _ => rfl⟩
theorem rdot_bad {st : List Int × Bool} (h : st.2 = true) : (rdot st).2 = st := by
  unfold rdot
  have h1 := rnum_bad 1 h
  simp only
  rw [rnum_bad 4 (by rw [h1]; exact h), h1]
theorem rdots_later (q : List Int × Bool) (k : Nat) (h : (rdots k q).2.2 = true) : ∀ m, k ≤ m → (rdots m q).2 = (rdots k q).2 := by
  intro m hm
  induction m with
  | zero => obtain rfl : k = 0 := by omega
            rfl
  | succ m ih =>
    rcases Nat.lt_or_ge m k with h1 | h1
    · obtain rfl : k = m + 1 := by omega
      rfl
    · show (rdot (rdots m q).2).2 = _
      rw [ih h1, rdot_bad h]
theorem rstamp_bad {st : List Int × Bool} (h : st.2 = true) : (rstamp st).2 = st := by
  unfold rstamp
  have h1 := rnum_bad 6 h
  have h2 := rnum_bad 3 (st := (rnum 6 st).2) (by rw [h1]; exact h)
  simp only
  rw [rnum_bad 1 (by rw [h2, h1]; exact h), h2, h1]
theorem rtext_bad {st : List Int × Bool} (h : st.2 = true) : (rtext st).2.2 = true := by
  obtain ⟨r, b⟩ := st
  simp only at h
  subst h
  cases r <;> simp [rtext]
set_option maxHeartbeats 8000000 in
set_option maxRecDepth 100000 in
theorem C_op (w0 w : World) (g : Nat) (B rest : List Int) (bad : Bool) (h : IsC w0 w g B rest bad) :
    Calls Tryz.prog 50 #[.pointer (some ⟨g, 0, none⟩)] w fun en w' => ∃ (cs : List Value) (x : Opr), en = .returned (.agg cs.toArray) ∧ k52.M w' w.heap.size (fun k => k ≠ g) x cs ∧ ((rop (rest, bad)).2.2 = false → x = (rop (rest, bad)).1) ∧
      IsC w0 w' g B (rop (rest, bad)).2.1 (rop (rest, bad)).2.2 ∧ KeepBut w w' g none := by
  have hgl : g < w.heap.size := h.lt
  have hne : w.heap.size ≠ g := by omega
  have H0 := Aside0.mk (h.alloc (.cells #[.int .i64 0, .int .i64 0, .slice none 0 0, .int .i64 0, .int .i64 0, .int .i64 0, .int .i64 0, .int .i64 0, .string ⟨#[]⟩, .int .i64 0, .slice none 0 0, .slice none 0 0] 52))
  have K0 := Aside0.mk (keep_alloc (KeepBut.refl w g none) (.cells #[.int .i64 0, .int .i64 0, .slice none 0 0, .int .i64 0, .int .i64 0, .int .i64 0, .int .i64 0, .int .i64 0, .string ⟨#[]⟩, .int .i64 0, .slice none 0 0, .slice none 0 0] 52))
  have D0 := Aside0.mk (heap_alloc_new w (.cells #[.int .i64 0, .int .i64 0, .slice none 0 0, .int .i64 0, .int .i64 0, .int .i64 0, .int .i64 0, .int .i64 0, .string ⟨#[]⟩, .int .i64 0, .slice none 0 0, .slice none 0 0] 52))
  have HNE := Aside0.mk hne
  have HB0 := Aside0.mk (below_size h.1)
  clear h hgl hne
  obtain ⟨q1, hq1⟩ : ∃ q, q = rnum 1 (rest, bad) := ⟨_, rfl⟩
  obtain ⟨q2, hq2⟩ : ∃ q, q = rdot (q1.2.1, q1.2.2) := ⟨_, rfl⟩
  obtain ⟨q3, hq3⟩ : ∃ q, q = rnums (q2.2.1, q2.2.2) := ⟨_, rfl⟩
  obtain ⟨q4, hq4⟩ : ∃ q, q = rstamp (q3.2.1, q3.2.2) := ⟨_, rfl⟩
  obtain ⟨q5, hq5⟩ : ∃ q, q = rnum 1 (q4.2.1, q4.2.2) := ⟨_, rfl⟩
  obtain ⟨q6, hq6⟩ : ∃ q, q = rtext (q5.2.1, q5.2.2) := ⟨_, rfl⟩
  obtain ⟨q7, hq7⟩ : ∃ q, q = rnum 1 (q6.2.1, q6.2.2) := ⟨_, rfl⟩
  obtain ⟨q8, hq8⟩ : ∃ q, q = crow (q7.2.1, q7.2.2) := ⟨_, rfl⟩
  have HS := Aside0.mk (show (rop (rest, bad)).2 = (rdl q8.2).2 ∧ ((rop (rest, bad)).2.2 = false → (rop (rest, bad)).1 = mkOp ⟨q1.1, q2.1, q3.1, q4.1, q5.1, q6.1, q7.1⟩ q8.1 (rdl q8.2).1) from by
    have e : rop (rest, bad) = rtail (⟨q1.1, q2.1, q3.1, q4.1, q5.1, q6.1, q7.1⟩, q7.2) (rrow q7.2.1) := by rw [hq7, hq6, hq5, hq4, hq3, hq2, hq1]; rfl
    have := rtail_crow (⟨q1.1, q2.1, q3.1, q4.1, q5.1, q6.1, q7.1⟩, q7.2)
    rw [e, hq8]; exact this)
  have HF := Aside0.mk (show q8.2.2 = false → q3.2.2 = false from fun h8 => by
    have bad_of : ∀ {x : Bool}, (x = true → False) → x = false := fun {x} hx => by cases x <;> simp_all
    refine bad_of fun h3 => ?_
    have h4 : q4.2.2 = true := by rw [hq4, rstamp_bad (st := (q3.2.1, q3.2.2)) h3]; exact h3
    have h5 : q5.2.2 = true := by rw [hq5, rnum_bad 1 (st := (q4.2.1, q4.2.2)) h4]; exact h4
    have h6 : q6.2.2 = true := by rw [hq6]; exact rtext_bad (st := (q5.2.1, q5.2.2)) h5
    have h7 : q7.2.2 = true := by rw [hq7, rnum_bad 1 (st := (q6.2.1, q6.2.2)) h6]; exact h6
    have h8' : q8.2.2 = true := by rw [hq8]; unfold crow; rw [if_pos h7]; exact h7
    rw [h8] at h8'; cases h8')
  have HQ1 := Aside0.mk hq1
  have HQ2 := Aside0.mk hq2
  have HQ3 := Aside0.mk hq3
  have HQ4 := Aside0.mk hq4
  have HQ5 := Aside0.mk hq5
  have HQ6 := Aside0.mk hq6
  have HQ7 := Aside0.mk hq7
  have HQ8 := Aside0.mk hq8
  clear hq1 hq2 hq3 hq4 hq5 hq6 hq7 hq8
  go_enter Tryz.func50, Tryz.ntmps50
  go_wp2_with fail
  refine (C_num w0 _ g B rest bad H0.out 1 1 rfl (by omega) (by omega)).mono ?_
  rintro e w1 ⟨rfl, hi, hk⟩
  rw [← HQ1.out] at hi
  rw [← HQ1.out]
  have D1 := Aside0.mk (hk.blk D0.out HNE.out (by simp))
  have H1 := Aside0.mk hi
  have K1 := Aside0.mk (keep_then K0.out hk)
  clear hi hk HQ1
  go_wp2_with fail
  refine (C_dot w0 _ g B q1.2.1 q1.2.2 H1.out).mono ?_
  rintro e w2 ⟨rfl, hi, hk⟩
  rw [← HQ2.out] at hi
  rw [← HQ2.out]
  have D2 := Aside0.mk (hk.blk D1.out HNE.out (by simp))
  have H2 := Aside0.mk hi
  have K2 := Aside0.mk (keep_then K1.out hk)
  clear hi hk HQ2
  go_wp2_with fail
  refine (C_vector w0 _ g B q2.2.1 q2.2.2 H2.out).mono ?_
  rintro e w3 ⟨v3, l3, rfl, ho, he3, hi, hk⟩
  rw [← HQ3.out] at hi he3
  obtain ⟨Ad, cd, rfl⟩ := Kd.R_slice ho
  have O3 := Aside0.mk (Kd.R_lower ho (keep_size K2.out))
  have HD3 := Aside0.mk he3
  have D3 := Aside0.mk (hk.blk D2.out HNE.out (by simp))
  have H3 := Aside0.mk hi
  have K3 := Aside0.mk (keep_then K2.out hk)
  clear hi hk HQ3 ho he3
  go_wp2_with fail
  refine (C_stamp w0 _ g B q3.2.1 q3.2.2 H3.out).mono ?_
  rintro e w4 ⟨rfl, hi, hk⟩
  rw [← HQ4.out] at hi
  rw [← HQ4.out]
  have O4 := Aside0.mk (Kd.R_keep O3.out hk (fun _ h => h))
  have D4 := Aside0.mk (hk.blk D3.out HNE.out (by simp))
  have H4 := Aside0.mk hi
  have K4 := Aside0.mk (keep_then K3.out hk)
  clear hi hk HQ4
  go_wp2_with fail
  refine (C_num w0 _ g B q4.2.1 q4.2.2 H4.out 1 1 rfl (by omega) (by omega)).mono ?_
  rintro e w5 ⟨rfl, hi, hk⟩
  rw [← HQ5.out] at hi
  rw [← HQ5.out]
  have O5 := Aside0.mk (Kd.R_keep O4.out hk (fun _ h => h))
  have D5 := Aside0.mk (hk.blk D4.out HNE.out (by simp))
  have H5 := Aside0.mk hi
  have K5 := Aside0.mk (keep_then K4.out hk)
  clear hi hk HQ5
  go_wp2_with fail
  refine (C_text w0 _ g B q5.2.1 q5.2.2 H5.out).mono ?_
  rintro e w6 ⟨rfl, hi, hk⟩
  rw [← HQ6.out] at hi
  rw [← HQ6.out]
  have O6 := Aside0.mk (Kd.R_keep O5.out hk (fun _ h => h))
  have D6 := Aside0.mk (hk.blk D5.out HNE.out (by simp))
  have H6 := Aside0.mk hi
  have K6 := Aside0.mk (keep_then K5.out hk)
  clear hi hk HQ6
  go_wp2_with fail
  refine (C_num w0 _ g B q6.2.1 q6.2.2 H6.out 1 1 rfl (by omega) (by omega)).mono ?_
  rintro e w7 ⟨rfl, hi, hk⟩
  rw [← HQ7.out] at hi
  rw [← HQ7.out]
  have O7 := Aside0.mk (Kd.R_keep O6.out hk (fun _ h => h))
  have D7 := Aside0.mk (hk.blk D6.out HNE.out (by simp))
  have H7 := Aside0.mk hi
  have K7 := Aside0.mk (keep_then K6.out hk)
  clear hi hk HQ7
  go_wp2_with fail
  refine (C_row w0 _ g B q7.2.1 q7.2.2 H7.out).mono ?_
  rintro e w8 ⟨v8, rfl, ho, hi, hk⟩
  rw [← HQ8.out] at hi ho
  obtain ⟨A9, c9, rfl⟩ := Kd.R_slice ho
  have OV8 := Aside0.mk (Kd.R_lower ho (keep_size K7.out))
  have O8 := Aside0.mk (Kd.R_keep O7.out hk (fun _ h => h))
  have D8 := Aside0.mk (hk.blk D7.out HNE.out (by simp))
  have H8 := Aside0.mk hi
  have K8 := Aside0.mk (keep_then K7.out hk)
  clear hi hk HQ8 ho
  have K9 := Aside0.mk (keep_alloc K8.out (.cells #[.int .i64 q2.1.f0, .int .i64 q2.1.f1, .slice Ad l3.length cd, .int .i64 q4.1.f0, .int .i64 q4.1.f1, .int .i64 q4.1.f2, .int .i64 q1.1, .int .i64 q5.1, .string q6.1, .int .i64 q7.1, .slice A9 q8.1.length c9, .slice none 0 0] 52))
  have H9 := Aside0.mk (H8.out.alloc (.cells #[.int .i64 q2.1.f0, .int .i64 q2.1.f1, .slice Ad l3.length cd, .int .i64 q4.1.f0, .int .i64 q4.1.f1, .int .i64 q4.1.f2, .int .i64 q1.1, .int .i64 q5.1, .string q6.1, .int .i64 q7.1, .slice A9 q8.1.length c9, .slice none 0 0] 52))
  have X9 := Aside0.mk (heap_alloc_new w8 (.cells #[.int .i64 q2.1.f0, .int .i64 q2.1.f1, .slice Ad l3.length cd, .int .i64 q4.1.f0, .int .i64 q4.1.f1, .int .i64 q4.1.f2, .int .i64 q1.1, .int .i64 q5.1, .string q6.1, .int .i64 q7.1, .slice A9 q8.1.length c9, .slice none 0 0] 52))
  have D9 := Aside0.mk (blk_below D8.out (below_alloc (Below.refl _ w8) (.cells #[.int .i64 q2.1.f0, .int .i64 q2.1.f1, .slice Ad l3.length cd, .int .i64 q4.1.f0, .int .i64 q4.1.f1, .int .i64 q4.1.f2, .int .i64 q1.1, .int .i64 q5.1, .string q6.1, .int .i64 q7.1, .slice A9 q8.1.length c9, .slice none 0 0] 52)))
  have O9 := Aside0.mk (Kd.R_alloc O8.out (.cells #[.int .i64 q2.1.f0, .int .i64 q2.1.f1, .slice Ad l3.length cd, .int .i64 q4.1.f0, .int .i64 q4.1.f1, .int .i64 q4.1.f2, .int .i64 q1.1, .int .i64 q5.1, .string q6.1, .int .i64 q7.1, .slice A9 q8.1.length c9, .slice none 0 0] 52))
  have OV9 := Aside0.mk (Kd.R_alloc OV8.out (.cells #[.int .i64 q2.1.f0, .int .i64 q2.1.f1, .slice Ad l3.length cd, .int .i64 q4.1.f0, .int .i64 q4.1.f1, .int .i64 q4.1.f2, .int .i64 q1.1, .int .i64 q5.1, .string q6.1, .int .i64 q7.1, .slice A9 q8.1.length c9, .slice none 0 0] 52))
  have hxg : w8.heap.size ≠ g := by have := H8.out.lt; omega
  have hxr : w8.heap.size ≠ w.heap.size := by have := blk_lt D8.out; omega
  have hxw : w.heap.size ≤ w8.heap.size := keep_size K8.out
  go_wp2_with fail
  obtain ⟨w9, hw9⟩ : ∃ w9, w9 = w8.alloc (.cells #[.int .i64 q2.1.f0, .int .i64 q2.1.f1, .slice Ad l3.length cd, .int .i64 q4.1.f0, .int .i64 q4.1.f1, .int .i64 q4.1.f2, .int .i64 q1.1, .int .i64 q5.1, .string q6.1, .int .i64 q7.1, .slice A9 q8.1.length c9, .slice none 0 0] 52) := ⟨_, rfl⟩
  rw [← hw9] at K9 H9 X9 D9 O9 OV9
  rw [← hw9]
  obtain ⟨xb, hxb⟩ : ∃ xb, xb = w8.heap.size := ⟨_, rfl⟩
  rw [← hxb] at X9 hxg hxr hxw
  rw [← hxb]
  have HXG := Aside0.mk hxg
  have HXR := Aside0.mk hxr
  have HXW := Aside0.mk hxw
  clear hw9 hxb hxg hxr hxw D0 D1 D2 D3 D4 D5 D6 D7 D8 H0 H1 H2 H3 H4 H5 H6 H7 H8 K0 K1 K2 K3 K4 K5 K6 K7 K8 O3 O4 O5 O6 O7 O8 OV8
  obtain ⟨n, r1, b1, hq⟩ : ∃ n r1 b1, rnum 1 (q8.2.1, q8.2.2) = (n, (r1, b1)) := ⟨_, _, _, rfl⟩
  have HQ := Aside0.mk hq
  clear hq
  have HBY := Aside0.mk H9.out.bytes
  refine (C_num w0 _ g B _ _ H9.out 1 1 rfl (by omega) (by omega)).mono ?_
  rintro e w10 ⟨rfl, hi, hk⟩
  rw [HQ.out] at hi
  rw [HQ.out]
  have H10 := Aside0.mk hi
  have D10 := Aside0.mk (hk.blk D9.out HNE.out (by simp))
  have X10 := Aside0.mk (hk.blk X9.out HXG.out (by simp))
  have OD10 := Aside0.mk (Kd.R_keep O9.out hk (fun _ h => h))
  have OV10 := Aside0.mk (Kd.R_keep OV9.out hk (fun _ h => h))
  have K10 := Aside0.mk (keep_then K9.out hk)
  clear hi hk K9 H9 X9 D9 O9 OV9
  by_cases hbq : b1 = true ∨ n > 64
  · have HE := Aside0.mk (show rdl q8.2 = ([], (r1, true)) from by
      have hq : rnum 1 q8.2 = (n, (r1, b1)) := HQ.out
      unfold rdl rmany
      rw [hq]
      by_cases h5 : n > 64
      · rw [if_pos h5]; rfl
      · rcases hbq with rfl | h
        · have hz : n = 0 := by
            unfold rnum at hq
            by_cases hc : q8.2.2 = true ∨ q8.2.1.length < 1
            · rw [if_pos hc] at hq; exact (congrArg Prod.fst hq).symm
            · rw [if_neg hc] at hq; cases congrArg (fun p => p.2.2) hq
          subst hz
          rw [if_neg h5]; rfl
        · exact absurd h h5)
    have HST := Aside0.mk (show (rop (rest, bad)).2 = (r1, true) from by rw [HS.out.1, HE.out])
    have hi := H10.out
    obtain ⟨-, -, -, -, A, c, at_, hv, -⟩ := hi
    have hc2 : w10.cell? ⟨g, 2, none⟩ = some (.bool b1) := (blk_cell hv 2).trans rfl
    have hf2 := blk_frozen hv 2
    have g5 : b1 = false → decide (64 < n) = true := fun h => decide_eq_true (by rcases hbq with h1 | h1; rw [h] at h1; cases h1; exact h1)
    clear hbq HQ
    cases b1 with
    | false =>
      have g6 := g5 rfl
      clear g5
      have HT := Aside0.mk (H10.out.bad)
      have DT := Aside0.mk ((Below.heap_setCell w10 ⟨g, 2, none⟩ (.bool true) w.heap.size HNE.out).trans D10.out)
      have XT := Aside0.mk ((Below.heap_setCell w10 ⟨g, 2, none⟩ (.bool true) xb HXG.out).trans X10.out)
      have KT := Aside0.mk (K10.out.set_ 2 (.bool true))
      have ODT := Aside0.mk (Kd.R_far OD10.out (p := ⟨g, 2, none⟩) (fun _ h => h) (.bool true))
      have OVT := Aside0.mk (Kd.R_far OV10.out (p := ⟨g, 2, none⟩) (fun _ h => h) (.bool true))
      have hd2 : (w10.setCell ⟨g, 2, none⟩ (.bool true)).cell? ⟨g, 2, none⟩ = some (.bool true) := (blk_cell (blk_set hv 2 (.bool true)) 2).trans rfl
      clear hv
      go_wp2
      go_loopw [5] (fun v5 wr => v5 = .int .i64 0 ∧ wr = w10.setCell ⟨g, 2, none⟩ (.bool true)) (fun _ _ => 0)
      case atStart => exact ⟨rfl, rfl⟩
      case round =>
        obtain ⟨rfl, rfl⟩ := hrel
        clear hc2 hf2
        by_cases h0 : (0 : Int) < n
        · have hdc := fun i => blk_cell DT.out i
          have hdf := fun i => blk_frozen DT.out i
          have hxc := fun i => blk_cell XT.out i
          have hxf := fun i => blk_frozen XT.out i
          go_wp2
          rw [HST.out]
          first
          | refine bodyPost_ret (v := .agg #[.int .i64 q2.1.f0, .int .i64 q2.1.f1, .slice Ad l3.length cd, .int .i64 q4.1.f0, .int .i64 q4.1.f1, .int .i64 q4.1.f2, .int .i64 q1.1, .int .i64 q5.1, .string q6.1, .int .i64 q7.1, .slice A9 q8.1.length c9, .slice none 0 0]) ?_ rfl ⟨[.int .i64 q2.1.f0, .int .i64 q2.1.f1, .slice Ad l3.length cd, .int .i64 q4.1.f0, .int .i64 q4.1.f1, .int .i64 q4.1.f2, .int .i64 q1.1, .int .i64 q5.1, .string q6.1, .int .i64 q7.1, .slice A9 q8.1.length c9, .slice none 0 0], (mkOp ⟨q1.1, q2.1, l3, q4.1, q5.1, q6.1, q7.1⟩ q8.1 []), rfl, (k52_mkM _ _ _ _ (Kd.R_mono (Kd.R_step (Kd.R_types ODT.out DT.out (by decide)) (fun k hk _ => by repeat (first | refine heap_set ?_ hk.2 | rfl))) (fun _ hk => hk.1)) (Kd.R_mono (Kd.R_step (Kd.R_types OVT.out DT.out (by decide)) (fun k hk _ => by repeat (first | refine heap_set ?_ hk.2 | rfl))) (fun _ hk => hk.1)) (Kd.R_nil _ _ _ _ _)), (fun h => by cases h), ((((((((((((((((((((((((HT.out).far HNE.out HB0.out 0 (.int .i64 q2.1.f0))).far HNE.out HB0.out 1 (.int .i64 q2.1.f1))).far HNE.out HB0.out 2 (.slice Ad l3.length cd))).far HNE.out HB0.out 3 (.int .i64 q4.1.f0))).far HNE.out HB0.out 4 (.int .i64 q4.1.f1))).far HNE.out HB0.out 5 (.int .i64 q4.1.f2))).far HNE.out HB0.out 6 (.int .i64 q1.1))).far HNE.out HB0.out 7 (.int .i64 q5.1))).far HNE.out HB0.out 8 (.string q6.1))).far HNE.out HB0.out 9 (.int .i64 q7.1))).far HNE.out HB0.out 10 (.slice A9 q8.1.length c9))).far HNE.out HB0.out 11 (.slice none 0 0)), (keep_far ((keep_far ((keep_far ((keep_far ((keep_far ((keep_far ((keep_far ((keep_far ((keep_far ((keep_far ((keep_far ((keep_far (KT.out) (p := ⟨w.heap.size, 0, none⟩) (Nat.le_refl _) (.int .i64 q2.1.f0))) (p := ⟨w.heap.size, 1, none⟩) (Nat.le_refl _) (.int .i64 q2.1.f1))) (p := ⟨w.heap.size, 2, none⟩) (Nat.le_refl _) (.slice Ad l3.length cd))) (p := ⟨w.heap.size, 3, none⟩) (Nat.le_refl _) (.int .i64 q4.1.f0))) (p := ⟨w.heap.size, 4, none⟩) (Nat.le_refl _) (.int .i64 q4.1.f1))) (p := ⟨w.heap.size, 5, none⟩) (Nat.le_refl _) (.int .i64 q4.1.f2))) (p := ⟨w.heap.size, 6, none⟩) (Nat.le_refl _) (.int .i64 q1.1))) (p := ⟨w.heap.size, 7, none⟩) (Nat.le_refl _) (.int .i64 q5.1))) (p := ⟨w.heap.size, 8, none⟩) (Nat.le_refl _) (.string q6.1))) (p := ⟨w.heap.size, 9, none⟩) (Nat.le_refl _) (.int .i64 q7.1))) (p := ⟨w.heap.size, 10, none⟩) (Nat.le_refl _) (.slice A9 q8.1.length c9))) (p := ⟨w.heap.size, 11, none⟩) (Nat.le_refl _) (.slice none 0 0))⟩
          | refine bodyPost_ret (v := .agg #[.int .i64 q2.1.f0, .int .i64 q2.1.f1, .slice Ad l3.length cd, .int .i64 q4.1.f0, .int .i64 q4.1.f1, .int .i64 q4.1.f2, .int .i64 q1.1, .int .i64 q5.1, .string q6.1, .int .i64 q7.1, .slice A9 q8.1.length c9, .slice none 0 0]) ?_ rfl ⟨[.int .i64 q2.1.f0, .int .i64 q2.1.f1, .slice Ad l3.length cd, .int .i64 q4.1.f0, .int .i64 q4.1.f1, .int .i64 q4.1.f2, .int .i64 q1.1, .int .i64 q5.1, .string q6.1, .int .i64 q7.1, .slice A9 q8.1.length c9, .slice none 0 0], rfl, (mkOp ⟨q1.1, q2.1, l3, q4.1, q5.1, q6.1, q7.1⟩ q8.1 []), (k52_mkM _ _ _ _ (Kd.R_mono (Kd.R_step (Kd.R_types ODT.out DT.out (by decide)) (fun k hk _ => by repeat (first | refine heap_set ?_ hk.2 | rfl))) (fun _ hk => hk.1)) (Kd.R_mono (Kd.R_step (Kd.R_types OVT.out DT.out (by decide)) (fun k hk _ => by repeat (first | refine heap_set ?_ hk.2 | rfl))) (fun _ hk => hk.1)) (Kd.R_nil _ _ _ _ _)), (fun h => by cases h), ((((((((((((((((((((((((HT.out).far HNE.out HB0.out 0 (.int .i64 q2.1.f0))).far HNE.out HB0.out 1 (.int .i64 q2.1.f1))).far HNE.out HB0.out 2 (.slice Ad l3.length cd))).far HNE.out HB0.out 3 (.int .i64 q4.1.f0))).far HNE.out HB0.out 4 (.int .i64 q4.1.f1))).far HNE.out HB0.out 5 (.int .i64 q4.1.f2))).far HNE.out HB0.out 6 (.int .i64 q1.1))).far HNE.out HB0.out 7 (.int .i64 q5.1))).far HNE.out HB0.out 8 (.string q6.1))).far HNE.out HB0.out 9 (.int .i64 q7.1))).far HNE.out HB0.out 10 (.slice A9 q8.1.length c9))).far HNE.out HB0.out 11 (.slice none 0 0)), (keep_far ((keep_far ((keep_far ((keep_far ((keep_far ((keep_far ((keep_far ((keep_far ((keep_far ((keep_far ((keep_far ((keep_far (KT.out) (p := ⟨w.heap.size, 0, none⟩) (Nat.le_refl _) (.int .i64 q2.1.f0))) (p := ⟨w.heap.size, 1, none⟩) (Nat.le_refl _) (.int .i64 q2.1.f1))) (p := ⟨w.heap.size, 2, none⟩) (Nat.le_refl _) (.slice Ad l3.length cd))) (p := ⟨w.heap.size, 3, none⟩) (Nat.le_refl _) (.int .i64 q4.1.f0))) (p := ⟨w.heap.size, 4, none⟩) (Nat.le_refl _) (.int .i64 q4.1.f1))) (p := ⟨w.heap.size, 5, none⟩) (Nat.le_refl _) (.int .i64 q4.1.f2))) (p := ⟨w.heap.size, 6, none⟩) (Nat.le_refl _) (.int .i64 q1.1))) (p := ⟨w.heap.size, 7, none⟩) (Nat.le_refl _) (.int .i64 q5.1))) (p := ⟨w.heap.size, 8, none⟩) (Nat.le_refl _) (.string q6.1))) (p := ⟨w.heap.size, 9, none⟩) (Nat.le_refl _) (.int .i64 q7.1))) (p := ⟨w.heap.size, 10, none⟩) (Nat.le_refl _) (.slice A9 q8.1.length c9))) (p := ⟨w.heap.size, 11, none⟩) (Nat.le_refl _) (.slice none 0 0))⟩
          exact results_cell_row (p := 2) (ty := 52) rfl _ _ w.heap.size 52 #[.int .i64 q2.1.f0, .int .i64 q2.1.f1, .slice Ad l3.length cd, .int .i64 q4.1.f0, .int .i64 q4.1.f1, .int .i64 q4.1.f2, .int .i64 q1.1, .int .i64 q5.1, .string q6.1, .int .i64 q7.1, .slice A9 q8.1.length c9, .slice none 0 0] (0, 0) _ rfl (set12 DT.out _ _ _ _ _ _ _ _ _ _ _ _) Tryz.underlying52 rfl (by kernel_rfl)
        · have hdc := fun i => blk_cell DT.out i
          have hdf := fun i => blk_frozen DT.out i
          have hxc := fun i => blk_cell XT.out i
          have hxf := fun i => blk_frozen XT.out i
          go_wp2
          rw [HST.out]
          first
          | refine bodyPost_ret (v := .agg #[.int .i64 q2.1.f0, .int .i64 q2.1.f1, .slice Ad l3.length cd, .int .i64 q4.1.f0, .int .i64 q4.1.f1, .int .i64 q4.1.f2, .int .i64 q1.1, .int .i64 q5.1, .string q6.1, .int .i64 q7.1, .slice A9 q8.1.length c9, .slice none 0 0]) ?_ rfl ⟨[.int .i64 q2.1.f0, .int .i64 q2.1.f1, .slice Ad l3.length cd, .int .i64 q4.1.f0, .int .i64 q4.1.f1, .int .i64 q4.1.f2, .int .i64 q1.1, .int .i64 q5.1, .string q6.1, .int .i64 q7.1, .slice A9 q8.1.length c9, .slice none 0 0], (mkOp ⟨q1.1, q2.1, l3, q4.1, q5.1, q6.1, q7.1⟩ q8.1 []), rfl, (k52_mkM _ _ _ _ (Kd.R_mono (Kd.R_step (Kd.R_types ODT.out DT.out (by decide)) (fun k hk _ => by repeat (first | refine heap_set ?_ hk.2 | rfl))) (fun _ hk => hk.1)) (Kd.R_mono (Kd.R_step (Kd.R_types OVT.out DT.out (by decide)) (fun k hk _ => by repeat (first | refine heap_set ?_ hk.2 | rfl))) (fun _ hk => hk.1)) (Kd.R_nil _ _ _ _ _)), (fun h => by cases h), ((((((((((((((((((((((((HT.out).far HNE.out HB0.out 0 (.int .i64 q2.1.f0))).far HNE.out HB0.out 1 (.int .i64 q2.1.f1))).far HNE.out HB0.out 2 (.slice Ad l3.length cd))).far HNE.out HB0.out 3 (.int .i64 q4.1.f0))).far HNE.out HB0.out 4 (.int .i64 q4.1.f1))).far HNE.out HB0.out 5 (.int .i64 q4.1.f2))).far HNE.out HB0.out 6 (.int .i64 q1.1))).far HNE.out HB0.out 7 (.int .i64 q5.1))).far HNE.out HB0.out 8 (.string q6.1))).far HNE.out HB0.out 9 (.int .i64 q7.1))).far HNE.out HB0.out 10 (.slice A9 q8.1.length c9))).far HNE.out HB0.out 11 (.slice none 0 0)), (keep_far ((keep_far ((keep_far ((keep_far ((keep_far ((keep_far ((keep_far ((keep_far ((keep_far ((keep_far ((keep_far ((keep_far (KT.out) (p := ⟨w.heap.size, 0, none⟩) (Nat.le_refl _) (.int .i64 q2.1.f0))) (p := ⟨w.heap.size, 1, none⟩) (Nat.le_refl _) (.int .i64 q2.1.f1))) (p := ⟨w.heap.size, 2, none⟩) (Nat.le_refl _) (.slice Ad l3.length cd))) (p := ⟨w.heap.size, 3, none⟩) (Nat.le_refl _) (.int .i64 q4.1.f0))) (p := ⟨w.heap.size, 4, none⟩) (Nat.le_refl _) (.int .i64 q4.1.f1))) (p := ⟨w.heap.size, 5, none⟩) (Nat.le_refl _) (.int .i64 q4.1.f2))) (p := ⟨w.heap.size, 6, none⟩) (Nat.le_refl _) (.int .i64 q1.1))) (p := ⟨w.heap.size, 7, none⟩) (Nat.le_refl _) (.int .i64 q5.1))) (p := ⟨w.heap.size, 8, none⟩) (Nat.le_refl _) (.string q6.1))) (p := ⟨w.heap.size, 9, none⟩) (Nat.le_refl _) (.int .i64 q7.1))) (p := ⟨w.heap.size, 10, none⟩) (Nat.le_refl _) (.slice A9 q8.1.length c9))) (p := ⟨w.heap.size, 11, none⟩) (Nat.le_refl _) (.slice none 0 0))⟩
          | refine bodyPost_ret (v := .agg #[.int .i64 q2.1.f0, .int .i64 q2.1.f1, .slice Ad l3.length cd, .int .i64 q4.1.f0, .int .i64 q4.1.f1, .int .i64 q4.1.f2, .int .i64 q1.1, .int .i64 q5.1, .string q6.1, .int .i64 q7.1, .slice A9 q8.1.length c9, .slice none 0 0]) ?_ rfl ⟨[.int .i64 q2.1.f0, .int .i64 q2.1.f1, .slice Ad l3.length cd, .int .i64 q4.1.f0, .int .i64 q4.1.f1, .int .i64 q4.1.f2, .int .i64 q1.1, .int .i64 q5.1, .string q6.1, .int .i64 q7.1, .slice A9 q8.1.length c9, .slice none 0 0], rfl, (mkOp ⟨q1.1, q2.1, l3, q4.1, q5.1, q6.1, q7.1⟩ q8.1 []), (k52_mkM _ _ _ _ (Kd.R_mono (Kd.R_step (Kd.R_types ODT.out DT.out (by decide)) (fun k hk _ => by repeat (first | refine heap_set ?_ hk.2 | rfl))) (fun _ hk => hk.1)) (Kd.R_mono (Kd.R_step (Kd.R_types OVT.out DT.out (by decide)) (fun k hk _ => by repeat (first | refine heap_set ?_ hk.2 | rfl))) (fun _ hk => hk.1)) (Kd.R_nil _ _ _ _ _)), (fun h => by cases h), ((((((((((((((((((((((((HT.out).far HNE.out HB0.out 0 (.int .i64 q2.1.f0))).far HNE.out HB0.out 1 (.int .i64 q2.1.f1))).far HNE.out HB0.out 2 (.slice Ad l3.length cd))).far HNE.out HB0.out 3 (.int .i64 q4.1.f0))).far HNE.out HB0.out 4 (.int .i64 q4.1.f1))).far HNE.out HB0.out 5 (.int .i64 q4.1.f2))).far HNE.out HB0.out 6 (.int .i64 q1.1))).far HNE.out HB0.out 7 (.int .i64 q5.1))).far HNE.out HB0.out 8 (.string q6.1))).far HNE.out HB0.out 9 (.int .i64 q7.1))).far HNE.out HB0.out 10 (.slice A9 q8.1.length c9))).far HNE.out HB0.out 11 (.slice none 0 0)), (keep_far ((keep_far ((keep_far ((keep_far ((keep_far ((keep_far ((keep_far ((keep_far ((keep_far ((keep_far ((keep_far ((keep_far (KT.out) (p := ⟨w.heap.size, 0, none⟩) (Nat.le_refl _) (.int .i64 q2.1.f0))) (p := ⟨w.heap.size, 1, none⟩) (Nat.le_refl _) (.int .i64 q2.1.f1))) (p := ⟨w.heap.size, 2, none⟩) (Nat.le_refl _) (.slice Ad l3.length cd))) (p := ⟨w.heap.size, 3, none⟩) (Nat.le_refl _) (.int .i64 q4.1.f0))) (p := ⟨w.heap.size, 4, none⟩) (Nat.le_refl _) (.int .i64 q4.1.f1))) (p := ⟨w.heap.size, 5, none⟩) (Nat.le_refl _) (.int .i64 q4.1.f2))) (p := ⟨w.heap.size, 6, none⟩) (Nat.le_refl _) (.int .i64 q1.1))) (p := ⟨w.heap.size, 7, none⟩) (Nat.le_refl _) (.int .i64 q5.1))) (p := ⟨w.heap.size, 8, none⟩) (Nat.le_refl _) (.string q6.1))) (p := ⟨w.heap.size, 9, none⟩) (Nat.le_refl _) (.int .i64 q7.1))) (p := ⟨w.heap.size, 10, none⟩) (Nat.le_refl _) (.slice A9 q8.1.length c9))) (p := ⟨w.heap.size, 11, none⟩) (Nat.le_refl _) (.slice none 0 0))⟩
          exact results_cell_row (p := 2) (ty := 52) rfl _ _ w.heap.size 52 #[.int .i64 q2.1.f0, .int .i64 q2.1.f1, .slice Ad l3.length cd, .int .i64 q4.1.f0, .int .i64 q4.1.f1, .int .i64 q4.1.f2, .int .i64 q1.1, .int .i64 q5.1, .string q6.1, .int .i64 q7.1, .slice A9 q8.1.length c9, .slice none 0 0] (0, 0) _ rfl (set12 DT.out _ _ _ _ _ _ _ _ _ _ _ _) Tryz.underlying52 rfl (by kernel_rfl)
    | true =>
      clear g5
      have HT := Aside0.mk (H10.out.bad)
      have DT := Aside0.mk ((Below.heap_setCell w10 ⟨g, 2, none⟩ (.bool true) w.heap.size HNE.out).trans D10.out)
      have XT := Aside0.mk ((Below.heap_setCell w10 ⟨g, 2, none⟩ (.bool true) xb HXG.out).trans X10.out)
      have KT := Aside0.mk (K10.out.set_ 2 (.bool true))
      have ODT := Aside0.mk (Kd.R_far OD10.out (p := ⟨g, 2, none⟩) (fun _ h => h) (.bool true))
      have OVT := Aside0.mk (Kd.R_far OV10.out (p := ⟨g, 2, none⟩) (fun _ h => h) (.bool true))
      have hd2 : (w10.setCell ⟨g, 2, none⟩ (.bool true)).cell? ⟨g, 2, none⟩ = some (.bool true) := (blk_cell (blk_set hv 2 (.bool true)) 2).trans rfl
      clear hv
      go_wp2
      go_loopw [5] (fun v5 wr => v5 = .int .i64 0 ∧ wr = w10.setCell ⟨g, 2, none⟩ (.bool true)) (fun _ _ => 0)
      case atStart => exact ⟨rfl, rfl⟩
      case round =>
        obtain ⟨rfl, rfl⟩ := hrel
        clear hc2 hf2
        by_cases h0 : (0 : Int) < n
        · have hdc := fun i => blk_cell DT.out i
          have hdf := fun i => blk_frozen DT.out i
          have hxc := fun i => blk_cell XT.out i
          have hxf := fun i => blk_frozen XT.out i
          go_wp2
          rw [HST.out]
          first
          | refine bodyPost_ret (v := .agg #[.int .i64 q2.1.f0, .int .i64 q2.1.f1, .slice Ad l3.length cd, .int .i64 q4.1.f0, .int .i64 q4.1.f1, .int .i64 q4.1.f2, .int .i64 q1.1, .int .i64 q5.1, .string q6.1, .int .i64 q7.1, .slice A9 q8.1.length c9, .slice none 0 0]) ?_ rfl ⟨[.int .i64 q2.1.f0, .int .i64 q2.1.f1, .slice Ad l3.length cd, .int .i64 q4.1.f0, .int .i64 q4.1.f1, .int .i64 q4.1.f2, .int .i64 q1.1, .int .i64 q5.1, .string q6.1, .int .i64 q7.1, .slice A9 q8.1.length c9, .slice none 0 0], (mkOp ⟨q1.1, q2.1, l3, q4.1, q5.1, q6.1, q7.1⟩ q8.1 []), rfl, (k52_mkM _ _ _ _ (Kd.R_mono (Kd.R_step (Kd.R_types ODT.out DT.out (by decide)) (fun k hk _ => by repeat (first | refine heap_set ?_ hk.2 | rfl))) (fun _ hk => hk.1)) (Kd.R_mono (Kd.R_step (Kd.R_types OVT.out DT.out (by decide)) (fun k hk _ => by repeat (first | refine heap_set ?_ hk.2 | rfl))) (fun _ hk => hk.1)) (Kd.R_nil _ _ _ _ _)), (fun h => by cases h), ((((((((((((((((((((((((HT.out).far HNE.out HB0.out 0 (.int .i64 q2.1.f0))).far HNE.out HB0.out 1 (.int .i64 q2.1.f1))).far HNE.out HB0.out 2 (.slice Ad l3.length cd))).far HNE.out HB0.out 3 (.int .i64 q4.1.f0))).far HNE.out HB0.out 4 (.int .i64 q4.1.f1))).far HNE.out HB0.out 5 (.int .i64 q4.1.f2))).far HNE.out HB0.out 6 (.int .i64 q1.1))).far HNE.out HB0.out 7 (.int .i64 q5.1))).far HNE.out HB0.out 8 (.string q6.1))).far HNE.out HB0.out 9 (.int .i64 q7.1))).far HNE.out HB0.out 10 (.slice A9 q8.1.length c9))).far HNE.out HB0.out 11 (.slice none 0 0)), (keep_far ((keep_far ((keep_far ((keep_far ((keep_far ((keep_far ((keep_far ((keep_far ((keep_far ((keep_far ((keep_far ((keep_far (KT.out) (p := ⟨w.heap.size, 0, none⟩) (Nat.le_refl _) (.int .i64 q2.1.f0))) (p := ⟨w.heap.size, 1, none⟩) (Nat.le_refl _) (.int .i64 q2.1.f1))) (p := ⟨w.heap.size, 2, none⟩) (Nat.le_refl _) (.slice Ad l3.length cd))) (p := ⟨w.heap.size, 3, none⟩) (Nat.le_refl _) (.int .i64 q4.1.f0))) (p := ⟨w.heap.size, 4, none⟩) (Nat.le_refl _) (.int .i64 q4.1.f1))) (p := ⟨w.heap.size, 5, none⟩) (Nat.le_refl _) (.int .i64 q4.1.f2))) (p := ⟨w.heap.size, 6, none⟩) (Nat.le_refl _) (.int .i64 q1.1))) (p := ⟨w.heap.size, 7, none⟩) (Nat.le_refl _) (.int .i64 q5.1))) (p := ⟨w.heap.size, 8, none⟩) (Nat.le_refl _) (.string q6.1))) (p := ⟨w.heap.size, 9, none⟩) (Nat.le_refl _) (.int .i64 q7.1))) (p := ⟨w.heap.size, 10, none⟩) (Nat.le_refl _) (.slice A9 q8.1.length c9))) (p := ⟨w.heap.size, 11, none⟩) (Nat.le_refl _) (.slice none 0 0))⟩
          | refine bodyPost_ret (v := .agg #[.int .i64 q2.1.f0, .int .i64 q2.1.f1, .slice Ad l3.length cd, .int .i64 q4.1.f0, .int .i64 q4.1.f1, .int .i64 q4.1.f2, .int .i64 q1.1, .int .i64 q5.1, .string q6.1, .int .i64 q7.1, .slice A9 q8.1.length c9, .slice none 0 0]) ?_ rfl ⟨[.int .i64 q2.1.f0, .int .i64 q2.1.f1, .slice Ad l3.length cd, .int .i64 q4.1.f0, .int .i64 q4.1.f1, .int .i64 q4.1.f2, .int .i64 q1.1, .int .i64 q5.1, .string q6.1, .int .i64 q7.1, .slice A9 q8.1.length c9, .slice none 0 0], rfl, (mkOp ⟨q1.1, q2.1, l3, q4.1, q5.1, q6.1, q7.1⟩ q8.1 []), (k52_mkM _ _ _ _ (Kd.R_mono (Kd.R_step (Kd.R_types ODT.out DT.out (by decide)) (fun k hk _ => by repeat (first | refine heap_set ?_ hk.2 | rfl))) (fun _ hk => hk.1)) (Kd.R_mono (Kd.R_step (Kd.R_types OVT.out DT.out (by decide)) (fun k hk _ => by repeat (first | refine heap_set ?_ hk.2 | rfl))) (fun _ hk => hk.1)) (Kd.R_nil _ _ _ _ _)), (fun h => by cases h), ((((((((((((((((((((((((HT.out).far HNE.out HB0.out 0 (.int .i64 q2.1.f0))).far HNE.out HB0.out 1 (.int .i64 q2.1.f1))).far HNE.out HB0.out 2 (.slice Ad l3.length cd))).far HNE.out HB0.out 3 (.int .i64 q4.1.f0))).far HNE.out HB0.out 4 (.int .i64 q4.1.f1))).far HNE.out HB0.out 5 (.int .i64 q4.1.f2))).far HNE.out HB0.out 6 (.int .i64 q1.1))).far HNE.out HB0.out 7 (.int .i64 q5.1))).far HNE.out HB0.out 8 (.string q6.1))).far HNE.out HB0.out 9 (.int .i64 q7.1))).far HNE.out HB0.out 10 (.slice A9 q8.1.length c9))).far HNE.out HB0.out 11 (.slice none 0 0)), (keep_far ((keep_far ((keep_far ((keep_far ((keep_far ((keep_far ((keep_far ((keep_far ((keep_far ((keep_far ((keep_far ((keep_far (KT.out) (p := ⟨w.heap.size, 0, none⟩) (Nat.le_refl _) (.int .i64 q2.1.f0))) (p := ⟨w.heap.size, 1, none⟩) (Nat.le_refl _) (.int .i64 q2.1.f1))) (p := ⟨w.heap.size, 2, none⟩) (Nat.le_refl _) (.slice Ad l3.length cd))) (p := ⟨w.heap.size, 3, none⟩) (Nat.le_refl _) (.int .i64 q4.1.f0))) (p := ⟨w.heap.size, 4, none⟩) (Nat.le_refl _) (.int .i64 q4.1.f1))) (p := ⟨w.heap.size, 5, none⟩) (Nat.le_refl _) (.int .i64 q4.1.f2))) (p := ⟨w.heap.size, 6, none⟩) (Nat.le_refl _) (.int .i64 q1.1))) (p := ⟨w.heap.size, 7, none⟩) (Nat.le_refl _) (.int .i64 q5.1))) (p := ⟨w.heap.size, 8, none⟩) (Nat.le_refl _) (.string q6.1))) (p := ⟨w.heap.size, 9, none⟩) (Nat.le_refl _) (.int .i64 q7.1))) (p := ⟨w.heap.size, 10, none⟩) (Nat.le_refl _) (.slice A9 q8.1.length c9))) (p := ⟨w.heap.size, 11, none⟩) (Nat.le_refl _) (.slice none 0 0))⟩
          exact results_cell_row (p := 2) (ty := 52) rfl _ _ w.heap.size 52 #[.int .i64 q2.1.f0, .int .i64 q2.1.f1, .slice Ad l3.length cd, .int .i64 q4.1.f0, .int .i64 q4.1.f1, .int .i64 q4.1.f2, .int .i64 q1.1, .int .i64 q5.1, .string q6.1, .int .i64 q7.1, .slice A9 q8.1.length c9, .slice none 0 0] (0, 0) _ rfl (set12 DT.out _ _ _ _ _ _ _ _ _ _ _ _) Tryz.underlying52 rfl (by kernel_rfl)
        · have hdc := fun i => blk_cell DT.out i
          have hdf := fun i => blk_frozen DT.out i
          have hxc := fun i => blk_cell XT.out i
          have hxf := fun i => blk_frozen XT.out i
          go_wp2
          rw [HST.out]
          first
          | refine bodyPost_ret (v := .agg #[.int .i64 q2.1.f0, .int .i64 q2.1.f1, .slice Ad l3.length cd, .int .i64 q4.1.f0, .int .i64 q4.1.f1, .int .i64 q4.1.f2, .int .i64 q1.1, .int .i64 q5.1, .string q6.1, .int .i64 q7.1, .slice A9 q8.1.length c9, .slice none 0 0]) ?_ rfl ⟨[.int .i64 q2.1.f0, .int .i64 q2.1.f1, .slice Ad l3.length cd, .int .i64 q4.1.f0, .int .i64 q4.1.f1, .int .i64 q4.1.f2, .int .i64 q1.1, .int .i64 q5.1, .string q6.1, .int .i64 q7.1, .slice A9 q8.1.length c9, .slice none 0 0], (mkOp ⟨q1.1, q2.1, l3, q4.1, q5.1, q6.1, q7.1⟩ q8.1 []), rfl, (k52_mkM _ _ _ _ (Kd.R_mono (Kd.R_step (Kd.R_types ODT.out DT.out (by decide)) (fun k hk _ => by repeat (first | refine heap_set ?_ hk.2 | rfl))) (fun _ hk => hk.1)) (Kd.R_mono (Kd.R_step (Kd.R_types OVT.out DT.out (by decide)) (fun k hk _ => by repeat (first | refine heap_set ?_ hk.2 | rfl))) (fun _ hk => hk.1)) (Kd.R_nil _ _ _ _ _)), (fun h => by cases h), ((((((((((((((((((((((((HT.out).far HNE.out HB0.out 0 (.int .i64 q2.1.f0))).far HNE.out HB0.out 1 (.int .i64 q2.1.f1))).far HNE.out HB0.out 2 (.slice Ad l3.length cd))).far HNE.out HB0.out 3 (.int .i64 q4.1.f0))).far HNE.out HB0.out 4 (.int .i64 q4.1.f1))).far HNE.out HB0.out 5 (.int .i64 q4.1.f2))).far HNE.out HB0.out 6 (.int .i64 q1.1))).far HNE.out HB0.out 7 (.int .i64 q5.1))).far HNE.out HB0.out 8 (.string q6.1))).far HNE.out HB0.out 9 (.int .i64 q7.1))).far HNE.out HB0.out 10 (.slice A9 q8.1.length c9))).far HNE.out HB0.out 11 (.slice none 0 0)), (keep_far ((keep_far ((keep_far ((keep_far ((keep_far ((keep_far ((keep_far ((keep_far ((keep_far ((keep_far ((keep_far ((keep_far (KT.out) (p := ⟨w.heap.size, 0, none⟩) (Nat.le_refl _) (.int .i64 q2.1.f0))) (p := ⟨w.heap.size, 1, none⟩) (Nat.le_refl _) (.int .i64 q2.1.f1))) (p := ⟨w.heap.size, 2, none⟩) (Nat.le_refl _) (.slice Ad l3.length cd))) (p := ⟨w.heap.size, 3, none⟩) (Nat.le_refl _) (.int .i64 q4.1.f0))) (p := ⟨w.heap.size, 4, none⟩) (Nat.le_refl _) (.int .i64 q4.1.f1))) (p := ⟨w.heap.size, 5, none⟩) (Nat.le_refl _) (.int .i64 q4.1.f2))) (p := ⟨w.heap.size, 6, none⟩) (Nat.le_refl _) (.int .i64 q1.1))) (p := ⟨w.heap.size, 7, none⟩) (Nat.le_refl _) (.int .i64 q5.1))) (p := ⟨w.heap.size, 8, none⟩) (Nat.le_refl _) (.string q6.1))) (p := ⟨w.heap.size, 9, none⟩) (Nat.le_refl _) (.int .i64 q7.1))) (p := ⟨w.heap.size, 10, none⟩) (Nat.le_refl _) (.slice A9 q8.1.length c9))) (p := ⟨w.heap.size, 11, none⟩) (Nat.le_refl _) (.slice none 0 0))⟩
          | refine bodyPost_ret (v := .agg #[.int .i64 q2.1.f0, .int .i64 q2.1.f1, .slice Ad l3.length cd, .int .i64 q4.1.f0, .int .i64 q4.1.f1, .int .i64 q4.1.f2, .int .i64 q1.1, .int .i64 q5.1, .string q6.1, .int .i64 q7.1, .slice A9 q8.1.length c9, .slice none 0 0]) ?_ rfl ⟨[.int .i64 q2.1.f0, .int .i64 q2.1.f1, .slice Ad l3.length cd, .int .i64 q4.1.f0, .int .i64 q4.1.f1, .int .i64 q4.1.f2, .int .i64 q1.1, .int .i64 q5.1, .string q6.1, .int .i64 q7.1, .slice A9 q8.1.length c9, .slice none 0 0], rfl, (mkOp ⟨q1.1, q2.1, l3, q4.1, q5.1, q6.1, q7.1⟩ q8.1 []), (k52_mkM _ _ _ _ (Kd.R_mono (Kd.R_step (Kd.R_types ODT.out DT.out (by decide)) (fun k hk _ => by repeat (first | refine heap_set ?_ hk.2 | rfl))) (fun _ hk => hk.1)) (Kd.R_mono (Kd.R_step (Kd.R_types OVT.out DT.out (by decide)) (fun k hk _ => by repeat (first | refine heap_set ?_ hk.2 | rfl))) (fun _ hk => hk.1)) (Kd.R_nil _ _ _ _ _)), (fun h => by cases h), ((((((((((((((((((((((((HT.out).far HNE.out HB0.out 0 (.int .i64 q2.1.f0))).far HNE.out HB0.out 1 (.int .i64 q2.1.f1))).far HNE.out HB0.out 2 (.slice Ad l3.length cd))).far HNE.out HB0.out 3 (.int .i64 q4.1.f0))).far HNE.out HB0.out 4 (.int .i64 q4.1.f1))).far HNE.out HB0.out 5 (.int .i64 q4.1.f2))).far HNE.out HB0.out 6 (.int .i64 q1.1))).far HNE.out HB0.out 7 (.int .i64 q5.1))).far HNE.out HB0.out 8 (.string q6.1))).far HNE.out HB0.out 9 (.int .i64 q7.1))).far HNE.out HB0.out 10 (.slice A9 q8.1.length c9))).far HNE.out HB0.out 11 (.slice none 0 0)), (keep_far ((keep_far ((keep_far ((keep_far ((keep_far ((keep_far ((keep_far ((keep_far ((keep_far ((keep_far ((keep_far ((keep_far (KT.out) (p := ⟨w.heap.size, 0, none⟩) (Nat.le_refl _) (.int .i64 q2.1.f0))) (p := ⟨w.heap.size, 1, none⟩) (Nat.le_refl _) (.int .i64 q2.1.f1))) (p := ⟨w.heap.size, 2, none⟩) (Nat.le_refl _) (.slice Ad l3.length cd))) (p := ⟨w.heap.size, 3, none⟩) (Nat.le_refl _) (.int .i64 q4.1.f0))) (p := ⟨w.heap.size, 4, none⟩) (Nat.le_refl _) (.int .i64 q4.1.f1))) (p := ⟨w.heap.size, 5, none⟩) (Nat.le_refl _) (.int .i64 q4.1.f2))) (p := ⟨w.heap.size, 6, none⟩) (Nat.le_refl _) (.int .i64 q1.1))) (p := ⟨w.heap.size, 7, none⟩) (Nat.le_refl _) (.int .i64 q5.1))) (p := ⟨w.heap.size, 8, none⟩) (Nat.le_refl _) (.string q6.1))) (p := ⟨w.heap.size, 9, none⟩) (Nat.le_refl _) (.int .i64 q7.1))) (p := ⟨w.heap.size, 10, none⟩) (Nat.le_refl _) (.slice A9 q8.1.length c9))) (p := ⟨w.heap.size, 11, none⟩) (Nat.le_refl _) (.slice none 0 0))⟩
          exact results_cell_row (p := 2) (ty := 52) rfl _ _ w.heap.size 52 #[.int .i64 q2.1.f0, .int .i64 q2.1.f1, .slice Ad l3.length cd, .int .i64 q4.1.f0, .int .i64 q4.1.f1, .int .i64 q4.1.f2, .int .i64 q1.1, .int .i64 q5.1, .string q6.1, .int .i64 q7.1, .slice A9 q8.1.length c9, .slice none 0 0] (0, 0) _ rfl (set12 DT.out _ _ _ _ _ _ _ _ _ _ _ _) Tryz.underlying52 rfl (by kernel_rfl)
  · have hb1 : b1 = false := by
      cases b1
      · rfl
      · simp at hbq
    subst hb1
    have h5 : ¬ n > 64 := by simpa using hbq
    have g5 : decide (64 < n) = false := decide_eq_false h5
    have HM := Aside0.mk (show n ≤ 64 by omega)
    have HE := Aside0.mk (show rdl q8.2 = rdots n.toNat (r1, false) from by
      have hq : rnum 1 q8.2 = (n, (r1, false)) := HQ.out
      unfold rdl rmany
      rw [hq, if_neg h5])
    have HN := Aside0.mk (show 0 ≤ n from by
      have hq : rnum 1 (q8.2.1, q8.2.2) = (n, (r1, false)) := HQ.out
      rw [show n = (rnum 1 (q8.2.1, q8.2.2)).1 from by rw [hq]]
      exact (rnum_bound 1 _ HBY.out).1)
    have HL3 := Aside0.mk (show l3 = q3.1 from HD3.out (HF.out (by
      have hq : rnum 1 q8.2 = (n, (r1, false)) := HQ.out
      by_cases hb : q8.2.2 = true
      · have h1 := rnum_bad 1 hb
        rw [hq] at h1; rw [← h1]
      · simpa using hb)))
    clear h5 hbq
    have hi := H10.out
    obtain ⟨i1, i2, i3, i4, A, c, at_, hv, i5, i6, i7, i8⟩ := hi
    have H11 := Aside0.mk (show IsC w0 (w10.setCell ⟨g, 2, none⟩ (.bool false)) g B r1 false from ⟨below_set i1 i2, i2, i3, i4, A, c, at_, blk_set hv 2 (.bool false), i5, i6, i7, i8⟩)
    have K11 := Aside0.mk (K10.out.set_ 2 (.bool false))
    have D11 := Aside0.mk ((Below.heap_setCell w10 ⟨g, 2, none⟩ (.bool false) w.heap.size HNE.out).trans D10.out)
    have X11 := Aside0.mk ((Below.heap_setCell w10 ⟨g, 2, none⟩ (.bool false) xb HXG.out).trans X10.out)
    have OD11 := Aside0.mk (Kd.R_far OD10.out (p := ⟨g, 2, none⟩) (fun _ h => h) (.bool false))
    have OV11 := Aside0.mk (Kd.R_far OV10.out (p := ⟨g, 2, none⟩) (fun _ h => h) (.bool false))
    have hc2 : w10.cell? ⟨g, 2, none⟩ = some (.bool false) := (blk_cell hv 2).trans rfl
    have hf2 := blk_frozen hv 2
    clear hv i1 i2 i3 i4 i5 i6 i7 i8 H10 K10 D10 X10 OD10 OV10 HQ
    go_wp2
    go_loopw [5] (fun v5 wr => ∃ (k : Nat) (At : Option Addr) (ct : Nat), k ≤ n.toNat ∧ v5 = .int .i64 k ∧ Aside0 (IsC w0 wr g B (rdots k (r1, false)).2.1 (rdots k (r1, false)).2.2) ∧ Aside0 (KeepBut w wr g none) ∧ Aside0 (wr.heap[w.heap.size]? = some (.cells #[.int .i64 0, .int .i64 0, .slice none 0 0, .int .i64 0, .int .i64 0, .int .i64 0, .int .i64 0, .int .i64 0, .string ⟨#[]⟩, .int .i64 0, .slice none 0 0, .slice none 0 0] 52 (0, 0))) ∧ Aside0 (wr.heap[xb]? = some (.cells #[.int .i64 q2.1.f0, .int .i64 q2.1.f1, .slice Ad l3.length cd, .int .i64 q4.1.f0, .int .i64 q4.1.f1, .int .i64 q4.1.f2, .int .i64 q1.1, .int .i64 q5.1, .string q6.1, .int .i64 q7.1, .slice A9 q8.1.length c9, .slice At (rdots k (r1, false)).1.length ct] 52 (0, 0))) ∧ Aside0 (Kd.R (Kd.int .i64) 3 wr w.heap.size (fun k => k ≠ g) (.slice Ad l3.length cd) l3) ∧ Aside0 (Kd.R k92 92 wr w.heap.size (fun k => k ≠ g) (.slice A9 q8.1.length c9) q8.1) ∧ Aside0 (Kd.R k46 46 wr w.heap.size (fun k => k ≠ g) (.slice At (rdots k (r1, false)).1.length ct) (rdots k (r1, false)).1)) (fun v5 _ => n.toNat - (intOf v5).toNat)
    case atStart => exact ⟨0, none, 0, by omega, rfl, H11, K11, D11, X11, OD11, OV11, ⟨Kd.R_nil _ _ _ _ _⟩⟩
    case round =>
      obtain ⟨k, At, ct, hk, rfl, HI, HK, HD, HX, HOD, HOV, HOT⟩ := hrel
      clear hc2 hf2
      have hkm : (k : Int) ≤ 64 := by have := HM.out; omega
      by_cases hlt : (k : Int) < n
      · obtain ⟨L, hL⟩ : ∃ L, L = (rdots k (r1, false)).1 := ⟨_, rfl⟩
        obtain ⟨rk, hrk⟩ : ∃ rk, rk = (rdots k (r1, false)).2.1 := ⟨_, rfl⟩
        obtain ⟨bk, hbk⟩ : ∃ bk, bk = (rdots k (r1, false)).2.2 := ⟨_, rfl⟩
        rw [← hL] at HOT HX
        rw [← hrk, ← hbk] at HI
        have hi := HI.out
        obtain ⟨-, -, -, -, A, c, at_, hv, -⟩ := hi
        have hc2 : wr.cell? ⟨g, 2, none⟩ = some (.bool bk) := (blk_cell hv 2).trans rfl
        clear hv
        cases bk
        · have HLn := Aside0.mk (show L.length = k by rw [hL, rdots_length])
          have HRK := Aside0.mk (show (rdots k (r1, false)).2 = (rk, false) from by rw [hrk]; exact Prod.ext rfl hbk.symm)
          obtain ⟨q9, hq9⟩ : ∃ q, q = rdot (rk, false) := ⟨_, rfl⟩
          have HT := Aside0.mk (show rdots (k + 1) (r1, false) = (L ++ [q9.1], q9.2) from by
            show ((rdots k (r1, false)).1 ++ [(rdot (rdots k (r1, false)).2).1], (rdot (rdots k (r1, false)).2).2) = _
            rw [HRK.out, ← hL, hq9])
          have HQ9 := Aside0.mk hq9
          clear hL hrk hbk hq9
          have hxc := fun i => blk_cell HX.out i
          have hxf := fun i => blk_frozen HX.out i
          go_wp2_with fail
          go_region_law (first | (go_simp; go_at_call 91; refine (C_dot w0 _ g B _ _ (HI.out.below (by first | exact Below.refl _ _ | exact below_drew (Below.refl _ _)))).mono ?_; rintro e w12 ⟨rfl, hi, hk2⟩; rw [← HQ9.out] at hi; rw [← HQ9.out]; have H12 := Aside0.mk hi; have hk3 : KeepBut wr w12 g none := hk2; have K12 := Aside0.mk (keep_then HK.out hk3); have D12 := Aside0.mk (hk3.blk HD.out HNE.out (by simp)); have X12 := Aside0.mk (hk3.blk HX.out HXG.out (by simp)); have OD12 := Aside0.mk (Kd.R_keep HOD.out hk3 (fun _ h => h)); have OV12 := Aside0.mk (Kd.R_keep HOV.out hk3 (fun _ h => h)); have OT12 := Aside0.mk (Kd.R_keep HOT.out hk3 (fun _ h => h)); have hxc2 := fun i => blk_cell X12.out i; have hxf2 := fun i => blk_frozen X12.out i; have X12a := Aside0.mk (blk_below X12.out (below_alloc (Below.refl _ w12) (.cells #[.int .i64 q9.1.f0, .int .i64 q9.1.f1] 46))); have hxc2a := fun i => blk_cell X12a.out i; clear hi hk2 hk3 X12a) | (refine Kd.R_append_step k46 (w0 := w12) w.heap.size rfl (.tmp 49) (.tmp 52) 50 46 (.agg #[.int .i64 0, .int .i64 0]) 16 rfl Tryz.underlying50 rinfo46 rfl (by decide) (by omega) (.slice At L.length ct) L q9.1 [.int .i64 q9.1.f0, .int .i64 q9.1.f1] (fun k => k ≠ g) (fun _ => False) rfl rfl (k46_mkM _ _ _ _) (fun _ hk => hk.elim) (fun k hk e_ => by have := H12.out.lt; omega) OT12.out (Below.refl _ _) K12.out.1 (by have := HLn.out; omega) ?_; intro v3 w13 ho hb hgw hat; obtain ⟨A3, c3, rfl⟩ := Kd.R_slice ho; have O13 := Aside0.mk ho; have H13 := Aside0.mk (H12.out.grown hgw (fun e_ => OT12.out.1 g e_ rfl) (fun k hk => by have := Kd.R_base OT12.out k hk; have := HB0.out; omega)); have K13 := Aside0.mk (keep_grown K12.out hgw (fun k hk => Kd.R_base OT12.out k hk)); have D13 := Aside0.mk (blk_grown D12.out hgw (Kd.R_ne OT12.out D12.out (by decide))); have X13 := Aside0.mk (blk_grown X12.out hgw (Kd.R_ne OT12.out X12.out (by decide))); have OD13 := Aside0.mk (Kd.R_over OD12.out OT12.out (by decide) hgw); have OV13 := Aside0.mk (Kd.R_over OV12.out OT12.out (by decide) hgw); have hxc3 := fun i => blk_cell X13.out i; have hxf3 := fun i => blk_frozen X13.out i; clear ho hb hgw hat hxc2 hxf2 hxc2a))
          all_goals (go_wp2; go_roundw)
          case rel => exact ⟨k + 1, A3, c3, by omega, by go_num, by rw [HT.out]; exact ⟨H13.out.far HXG.out (by have := HXW.out; have := HB0.out; omega) 11 (.slice A3 (L.length + 1) c3)⟩, ⟨keep_far K13.out (p := ⟨xb, 11, none⟩) HXW.out (.slice A3 (L.length + 1) c3)⟩, ⟨(Below.heap_setCell w13 ⟨xb, 11, none⟩ (.slice A3 (L.length + 1) c3) w.heap.size (fun e_ => HXR.out e_.symm)).trans D13.out⟩, by rw [HT.out, show (L ++ [q9.1]).length = L.length + 1 from by simp]; exact ⟨blk_set X13.out 11 (.slice A3 (L.length + 1) c3)⟩, ⟨Kd.R_set OD13.out X13.out (by decide) 11 (.slice A3 (L.length + 1) c3)⟩, ⟨Kd.R_set OV13.out X13.out (by decide) 11 (.slice A3 (L.length + 1) c3)⟩, by rw [HT.out]; exact ⟨Kd.R_set O13.out X13.out (by decide) 11 (.slice A3 (L.length + 1) c3)⟩⟩
          case measure => simp [intOf]; omega
          case rel => exact ⟨k + 1, A3, c3, by omega, by go_num, by rw [HT.out]; exact ⟨H13.out.far HXG.out (by have := HXW.out; have := HB0.out; omega) 11 (.slice A3 (L.length + 1) c3)⟩, ⟨keep_far K13.out (p := ⟨xb, 11, none⟩) HXW.out (.slice A3 (L.length + 1) c3)⟩, ⟨(Below.heap_setCell w13 ⟨xb, 11, none⟩ (.slice A3 (L.length + 1) c3) w.heap.size (fun e_ => HXR.out e_.symm)).trans D13.out⟩, by rw [HT.out, show (L ++ [q9.1]).length = L.length + 1 from by simp]; exact ⟨blk_set X13.out 11 (.slice A3 (L.length + 1) c3)⟩, ⟨Kd.R_set OD13.out X13.out (by decide) 11 (.slice A3 (L.length + 1) c3)⟩, ⟨Kd.R_set OV13.out X13.out (by decide) 11 (.slice A3 (L.length + 1) c3)⟩, by rw [HT.out]; exact ⟨Kd.R_set O13.out X13.out (by decide) 11 (.slice A3 (L.length + 1) c3)⟩⟩
          case measure => simp [intOf]; omega
          case rel => exact ⟨k + 1, A3, c3, by omega, by go_num, by rw [HT.out]; exact ⟨H13.out.far HXG.out (by have := HXW.out; have := HB0.out; omega) 11 (.slice A3 (L.length + 1) c3)⟩, ⟨keep_far K13.out (p := ⟨xb, 11, none⟩) HXW.out (.slice A3 (L.length + 1) c3)⟩, ⟨(Below.heap_setCell w13 ⟨xb, 11, none⟩ (.slice A3 (L.length + 1) c3) w.heap.size (fun e_ => HXR.out e_.symm)).trans D13.out⟩, by rw [HT.out, show (L ++ [q9.1]).length = L.length + 1 from by simp]; exact ⟨blk_set X13.out 11 (.slice A3 (L.length + 1) c3)⟩, ⟨Kd.R_set OD13.out X13.out (by decide) 11 (.slice A3 (L.length + 1) c3)⟩, ⟨Kd.R_set OV13.out X13.out (by decide) 11 (.slice A3 (L.length + 1) c3)⟩, by rw [HT.out]; exact ⟨Kd.R_set O13.out X13.out (by decide) 11 (.slice A3 (L.length + 1) c3)⟩⟩
          case measure => simp [intOf]; omega
        · have HST := Aside0.mk (show (rop (rest, bad)).2 = (rk, true) from by
            rw [HS.out.1, HE.out, rdots_later (r1, false) k hbk.symm n.toNat hk, hrk]
            exact Prod.ext rfl hbk.symm)
          clear hL hrk hbk
          have hdc := fun i => blk_cell HD.out i
          have hdf := fun i => blk_frozen HD.out i
          have hxc := fun i => blk_cell HX.out i
          have hxf := fun i => blk_frozen HX.out i
          go_wp2
          rw [HST.out]
          first
          | refine bodyPost_ret (v := .agg #[.int .i64 q2.1.f0, .int .i64 q2.1.f1, .slice Ad l3.length cd, .int .i64 q4.1.f0, .int .i64 q4.1.f1, .int .i64 q4.1.f2, .int .i64 q1.1, .int .i64 q5.1, .string q6.1, .int .i64 q7.1, .slice A9 q8.1.length c9, .slice At L.length ct]) ?_ rfl ⟨[.int .i64 q2.1.f0, .int .i64 q2.1.f1, .slice Ad l3.length cd, .int .i64 q4.1.f0, .int .i64 q4.1.f1, .int .i64 q4.1.f2, .int .i64 q1.1, .int .i64 q5.1, .string q6.1, .int .i64 q7.1, .slice A9 q8.1.length c9, .slice At L.length ct], (mkOp ⟨q1.1, q2.1, l3, q4.1, q5.1, q6.1, q7.1⟩ q8.1 L), rfl, (k52_mkM _ _ _ _ (Kd.R_mono (Kd.R_step (Kd.R_types HOD.out HD.out (by decide)) (fun k hk _ => by repeat (first | refine heap_set ?_ hk.2 | rfl))) (fun _ hk => hk.1)) (Kd.R_mono (Kd.R_step (Kd.R_types HOV.out HD.out (by decide)) (fun k hk _ => by repeat (first | refine heap_set ?_ hk.2 | rfl))) (fun _ hk => hk.1)) (Kd.R_mono (Kd.R_step (Kd.R_types HOT.out HD.out (by decide)) (fun k hk _ => by repeat (first | refine heap_set ?_ hk.2 | rfl))) (fun _ hk => hk.1))), (fun h => by cases h), ((((((((((((((((((((((((HI.out).far HNE.out HB0.out 0 (.int .i64 q2.1.f0))).far HNE.out HB0.out 1 (.int .i64 q2.1.f1))).far HNE.out HB0.out 2 (.slice Ad l3.length cd))).far HNE.out HB0.out 3 (.int .i64 q4.1.f0))).far HNE.out HB0.out 4 (.int .i64 q4.1.f1))).far HNE.out HB0.out 5 (.int .i64 q4.1.f2))).far HNE.out HB0.out 6 (.int .i64 q1.1))).far HNE.out HB0.out 7 (.int .i64 q5.1))).far HNE.out HB0.out 8 (.string q6.1))).far HNE.out HB0.out 9 (.int .i64 q7.1))).far HNE.out HB0.out 10 (.slice A9 q8.1.length c9))).far HNE.out HB0.out 11 (.slice At L.length ct)), (keep_far ((keep_far ((keep_far ((keep_far ((keep_far ((keep_far ((keep_far ((keep_far ((keep_far ((keep_far ((keep_far ((keep_far (HK.out) (p := ⟨w.heap.size, 0, none⟩) (Nat.le_refl _) (.int .i64 q2.1.f0))) (p := ⟨w.heap.size, 1, none⟩) (Nat.le_refl _) (.int .i64 q2.1.f1))) (p := ⟨w.heap.size, 2, none⟩) (Nat.le_refl _) (.slice Ad l3.length cd))) (p := ⟨w.heap.size, 3, none⟩) (Nat.le_refl _) (.int .i64 q4.1.f0))) (p := ⟨w.heap.size, 4, none⟩) (Nat.le_refl _) (.int .i64 q4.1.f1))) (p := ⟨w.heap.size, 5, none⟩) (Nat.le_refl _) (.int .i64 q4.1.f2))) (p := ⟨w.heap.size, 6, none⟩) (Nat.le_refl _) (.int .i64 q1.1))) (p := ⟨w.heap.size, 7, none⟩) (Nat.le_refl _) (.int .i64 q5.1))) (p := ⟨w.heap.size, 8, none⟩) (Nat.le_refl _) (.string q6.1))) (p := ⟨w.heap.size, 9, none⟩) (Nat.le_refl _) (.int .i64 q7.1))) (p := ⟨w.heap.size, 10, none⟩) (Nat.le_refl _) (.slice A9 q8.1.length c9))) (p := ⟨w.heap.size, 11, none⟩) (Nat.le_refl _) (.slice At L.length ct))⟩
          | refine bodyPost_ret (v := .agg #[.int .i64 q2.1.f0, .int .i64 q2.1.f1, .slice Ad l3.length cd, .int .i64 q4.1.f0, .int .i64 q4.1.f1, .int .i64 q4.1.f2, .int .i64 q1.1, .int .i64 q5.1, .string q6.1, .int .i64 q7.1, .slice A9 q8.1.length c9, .slice At L.length ct]) ?_ rfl ⟨[.int .i64 q2.1.f0, .int .i64 q2.1.f1, .slice Ad l3.length cd, .int .i64 q4.1.f0, .int .i64 q4.1.f1, .int .i64 q4.1.f2, .int .i64 q1.1, .int .i64 q5.1, .string q6.1, .int .i64 q7.1, .slice A9 q8.1.length c9, .slice At L.length ct], rfl, (mkOp ⟨q1.1, q2.1, l3, q4.1, q5.1, q6.1, q7.1⟩ q8.1 L), (k52_mkM _ _ _ _ (Kd.R_mono (Kd.R_step (Kd.R_types HOD.out HD.out (by decide)) (fun k hk _ => by repeat (first | refine heap_set ?_ hk.2 | rfl))) (fun _ hk => hk.1)) (Kd.R_mono (Kd.R_step (Kd.R_types HOV.out HD.out (by decide)) (fun k hk _ => by repeat (first | refine heap_set ?_ hk.2 | rfl))) (fun _ hk => hk.1)) (Kd.R_mono (Kd.R_step (Kd.R_types HOT.out HD.out (by decide)) (fun k hk _ => by repeat (first | refine heap_set ?_ hk.2 | rfl))) (fun _ hk => hk.1))), (fun h => by cases h), ((((((((((((((((((((((((HI.out).far HNE.out HB0.out 0 (.int .i64 q2.1.f0))).far HNE.out HB0.out 1 (.int .i64 q2.1.f1))).far HNE.out HB0.out 2 (.slice Ad l3.length cd))).far HNE.out HB0.out 3 (.int .i64 q4.1.f0))).far HNE.out HB0.out 4 (.int .i64 q4.1.f1))).far HNE.out HB0.out 5 (.int .i64 q4.1.f2))).far HNE.out HB0.out 6 (.int .i64 q1.1))).far HNE.out HB0.out 7 (.int .i64 q5.1))).far HNE.out HB0.out 8 (.string q6.1))).far HNE.out HB0.out 9 (.int .i64 q7.1))).far HNE.out HB0.out 10 (.slice A9 q8.1.length c9))).far HNE.out HB0.out 11 (.slice At L.length ct)), (keep_far ((keep_far ((keep_far ((keep_far ((keep_far ((keep_far ((keep_far ((keep_far ((keep_far ((keep_far ((keep_far ((keep_far (HK.out) (p := ⟨w.heap.size, 0, none⟩) (Nat.le_refl _) (.int .i64 q2.1.f0))) (p := ⟨w.heap.size, 1, none⟩) (Nat.le_refl _) (.int .i64 q2.1.f1))) (p := ⟨w.heap.size, 2, none⟩) (Nat.le_refl _) (.slice Ad l3.length cd))) (p := ⟨w.heap.size, 3, none⟩) (Nat.le_refl _) (.int .i64 q4.1.f0))) (p := ⟨w.heap.size, 4, none⟩) (Nat.le_refl _) (.int .i64 q4.1.f1))) (p := ⟨w.heap.size, 5, none⟩) (Nat.le_refl _) (.int .i64 q4.1.f2))) (p := ⟨w.heap.size, 6, none⟩) (Nat.le_refl _) (.int .i64 q1.1))) (p := ⟨w.heap.size, 7, none⟩) (Nat.le_refl _) (.int .i64 q5.1))) (p := ⟨w.heap.size, 8, none⟩) (Nat.le_refl _) (.string q6.1))) (p := ⟨w.heap.size, 9, none⟩) (Nat.le_refl _) (.int .i64 q7.1))) (p := ⟨w.heap.size, 10, none⟩) (Nat.le_refl _) (.slice A9 q8.1.length c9))) (p := ⟨w.heap.size, 11, none⟩) (Nat.le_refl _) (.slice At L.length ct))⟩
          exact results_cell_row (p := 2) (ty := 52) rfl _ _ w.heap.size 52 #[.int .i64 q2.1.f0, .int .i64 q2.1.f1, .slice Ad l3.length cd, .int .i64 q4.1.f0, .int .i64 q4.1.f1, .int .i64 q4.1.f2, .int .i64 q1.1, .int .i64 q5.1, .string q6.1, .int .i64 q7.1, .slice A9 q8.1.length c9, .slice At L.length ct] (0, 0) _ rfl (set12 HD.out _ _ _ _ _ _ _ _ _ _ _ _) Tryz.underlying52 rfl (by kernel_rfl)
      · obtain rfl : k = n.toNat := by have := HN.out; omega
        have HST := Aside0.mk (show (rop (rest, bad)).2 = ((rdots n.toNat (r1, false)).2.1, (rdots n.toNat (r1, false)).2.2) from by rw [HS.out.1, HE.out])
        have HFX := Aside0.mk (show (rdots n.toNat (r1, false)).2.2 = false → mkOp ⟨q1.1, q2.1, l3, q4.1, q5.1, q6.1, q7.1⟩ q8.1 (rdots n.toNat (r1, false)).1 = (rop (rest, bad)).1 from fun h => by
          rw [HS.out.2 (by rw [HS.out.1, HE.out]; exact h), HE.out, HL3.out])
        have hdc := fun i => blk_cell HD.out i
        have hdf := fun i => blk_frozen HD.out i
        have hxc := fun i => blk_cell HX.out i
        have hxf := fun i => blk_frozen HX.out i
        go_wp2
        rw [HST.out]
        first
        | refine bodyPost_ret (v := .agg #[.int .i64 q2.1.f0, .int .i64 q2.1.f1, .slice Ad l3.length cd, .int .i64 q4.1.f0, .int .i64 q4.1.f1, .int .i64 q4.1.f2, .int .i64 q1.1, .int .i64 q5.1, .string q6.1, .int .i64 q7.1, .slice A9 q8.1.length c9, .slice At (rdots n.toNat (r1, false)).1.length ct]) ?_ rfl ⟨[.int .i64 q2.1.f0, .int .i64 q2.1.f1, .slice Ad l3.length cd, .int .i64 q4.1.f0, .int .i64 q4.1.f1, .int .i64 q4.1.f2, .int .i64 q1.1, .int .i64 q5.1, .string q6.1, .int .i64 q7.1, .slice A9 q8.1.length c9, .slice At (rdots n.toNat (r1, false)).1.length ct], (mkOp ⟨q1.1, q2.1, l3, q4.1, q5.1, q6.1, q7.1⟩ q8.1 (rdots n.toNat (r1, false)).1), rfl, (k52_mkM _ _ _ _ (Kd.R_mono (Kd.R_step (Kd.R_types HOD.out HD.out (by decide)) (fun k hk _ => by repeat (first | refine heap_set ?_ hk.2 | rfl))) (fun _ hk => hk.1)) (Kd.R_mono (Kd.R_step (Kd.R_types HOV.out HD.out (by decide)) (fun k hk _ => by repeat (first | refine heap_set ?_ hk.2 | rfl))) (fun _ hk => hk.1)) (Kd.R_mono (Kd.R_step (Kd.R_types HOT.out HD.out (by decide)) (fun k hk _ => by repeat (first | refine heap_set ?_ hk.2 | rfl))) (fun _ hk => hk.1))), HFX.out, ((((((((((((((((((((((((HI.out).far HNE.out HB0.out 0 (.int .i64 q2.1.f0))).far HNE.out HB0.out 1 (.int .i64 q2.1.f1))).far HNE.out HB0.out 2 (.slice Ad l3.length cd))).far HNE.out HB0.out 3 (.int .i64 q4.1.f0))).far HNE.out HB0.out 4 (.int .i64 q4.1.f1))).far HNE.out HB0.out 5 (.int .i64 q4.1.f2))).far HNE.out HB0.out 6 (.int .i64 q1.1))).far HNE.out HB0.out 7 (.int .i64 q5.1))).far HNE.out HB0.out 8 (.string q6.1))).far HNE.out HB0.out 9 (.int .i64 q7.1))).far HNE.out HB0.out 10 (.slice A9 q8.1.length c9))).far HNE.out HB0.out 11 (.slice At (rdots n.toNat (r1, false)).1.length ct)), (keep_far ((keep_far ((keep_far ((keep_far ((keep_far ((keep_far ((keep_far ((keep_far ((keep_far ((keep_far ((keep_far ((keep_far (HK.out) (p := ⟨w.heap.size, 0, none⟩) (Nat.le_refl _) (.int .i64 q2.1.f0))) (p := ⟨w.heap.size, 1, none⟩) (Nat.le_refl _) (.int .i64 q2.1.f1))) (p := ⟨w.heap.size, 2, none⟩) (Nat.le_refl _) (.slice Ad l3.length cd))) (p := ⟨w.heap.size, 3, none⟩) (Nat.le_refl _) (.int .i64 q4.1.f0))) (p := ⟨w.heap.size, 4, none⟩) (Nat.le_refl _) (.int .i64 q4.1.f1))) (p := ⟨w.heap.size, 5, none⟩) (Nat.le_refl _) (.int .i64 q4.1.f2))) (p := ⟨w.heap.size, 6, none⟩) (Nat.le_refl _) (.int .i64 q1.1))) (p := ⟨w.heap.size, 7, none⟩) (Nat.le_refl _) (.int .i64 q5.1))) (p := ⟨w.heap.size, 8, none⟩) (Nat.le_refl _) (.string q6.1))) (p := ⟨w.heap.size, 9, none⟩) (Nat.le_refl _) (.int .i64 q7.1))) (p := ⟨w.heap.size, 10, none⟩) (Nat.le_refl _) (.slice A9 q8.1.length c9))) (p := ⟨w.heap.size, 11, none⟩) (Nat.le_refl _) (.slice At (rdots n.toNat (r1, false)).1.length ct))⟩
        | refine bodyPost_ret (v := .agg #[.int .i64 q2.1.f0, .int .i64 q2.1.f1, .slice Ad l3.length cd, .int .i64 q4.1.f0, .int .i64 q4.1.f1, .int .i64 q4.1.f2, .int .i64 q1.1, .int .i64 q5.1, .string q6.1, .int .i64 q7.1, .slice A9 q8.1.length c9, .slice At (rdots n.toNat (r1, false)).1.length ct]) ?_ rfl ⟨[.int .i64 q2.1.f0, .int .i64 q2.1.f1, .slice Ad l3.length cd, .int .i64 q4.1.f0, .int .i64 q4.1.f1, .int .i64 q4.1.f2, .int .i64 q1.1, .int .i64 q5.1, .string q6.1, .int .i64 q7.1, .slice A9 q8.1.length c9, .slice At (rdots n.toNat (r1, false)).1.length ct], rfl, (mkOp ⟨q1.1, q2.1, l3, q4.1, q5.1, q6.1, q7.1⟩ q8.1 (rdots n.toNat (r1, false)).1), (k52_mkM _ _ _ _ (Kd.R_mono (Kd.R_step (Kd.R_types HOD.out HD.out (by decide)) (fun k hk _ => by repeat (first | refine heap_set ?_ hk.2 | rfl))) (fun _ hk => hk.1)) (Kd.R_mono (Kd.R_step (Kd.R_types HOV.out HD.out (by decide)) (fun k hk _ => by repeat (first | refine heap_set ?_ hk.2 | rfl))) (fun _ hk => hk.1)) (Kd.R_mono (Kd.R_step (Kd.R_types HOT.out HD.out (by decide)) (fun k hk _ => by repeat (first | refine heap_set ?_ hk.2 | rfl))) (fun _ hk => hk.1))), HFX.out, ((((((((((((((((((((((((HI.out).far HNE.out HB0.out 0 (.int .i64 q2.1.f0))).far HNE.out HB0.out 1 (.int .i64 q2.1.f1))).far HNE.out HB0.out 2 (.slice Ad l3.length cd))).far HNE.out HB0.out 3 (.int .i64 q4.1.f0))).far HNE.out HB0.out 4 (.int .i64 q4.1.f1))).far HNE.out HB0.out 5 (.int .i64 q4.1.f2))).far HNE.out HB0.out 6 (.int .i64 q1.1))).far HNE.out HB0.out 7 (.int .i64 q5.1))).far HNE.out HB0.out 8 (.string q6.1))).far HNE.out HB0.out 9 (.int .i64 q7.1))).far HNE.out HB0.out 10 (.slice A9 q8.1.length c9))).far HNE.out HB0.out 11 (.slice At (rdots n.toNat (r1, false)).1.length ct)), (keep_far ((keep_far ((keep_far ((keep_far ((keep_far ((keep_far ((keep_far ((keep_far ((keep_far ((keep_far ((keep_far ((keep_far (HK.out) (p := ⟨w.heap.size, 0, none⟩) (Nat.le_refl _) (.int .i64 q2.1.f0))) (p := ⟨w.heap.size, 1, none⟩) (Nat.le_refl _) (.int .i64 q2.1.f1))) (p := ⟨w.heap.size, 2, none⟩) (Nat.le_refl _) (.slice Ad l3.length cd))) (p := ⟨w.heap.size, 3, none⟩) (Nat.le_refl _) (.int .i64 q4.1.f0))) (p := ⟨w.heap.size, 4, none⟩) (Nat.le_refl _) (.int .i64 q4.1.f1))) (p := ⟨w.heap.size, 5, none⟩) (Nat.le_refl _) (.int .i64 q4.1.f2))) (p := ⟨w.heap.size, 6, none⟩) (Nat.le_refl _) (.int .i64 q1.1))) (p := ⟨w.heap.size, 7, none⟩) (Nat.le_refl _) (.int .i64 q5.1))) (p := ⟨w.heap.size, 8, none⟩) (Nat.le_refl _) (.string q6.1))) (p := ⟨w.heap.size, 9, none⟩) (Nat.le_refl _) (.int .i64 q7.1))) (p := ⟨w.heap.size, 10, none⟩) (Nat.le_refl _) (.slice A9 q8.1.length c9))) (p := ⟨w.heap.size, 11, none⟩) (Nat.le_refl _) (.slice At (rdots n.toNat (r1, false)).1.length ct))⟩
        exact results_cell_row (p := 2) (ty := 52) rfl _ _ w.heap.size 52 #[.int .i64 q2.1.f0, .int .i64 q2.1.f1, .slice Ad l3.length cd, .int .i64 q4.1.f0, .int .i64 q4.1.f1, .int .i64 q4.1.f2, .int .i64 q1.1, .int .i64 q5.1, .string q6.1, .int .i64 q7.1, .slice A9 q8.1.length c9, .slice At (rdots n.toNat (r1, false)).1.length ct] (0, 0) _ rfl (set12 HD.out _ _ _ _ _ _ _ _ _ _ _ _) Tryz.underlying52 rfl (by kernel_rfl)
end Go.Proofs.YtnbjflcfdncocaaGreat.M
