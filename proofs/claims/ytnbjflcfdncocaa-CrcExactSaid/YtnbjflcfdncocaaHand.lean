/- Contracts of crc.steps, crc.Sum, slices.Clone at bytes and raddlelaw02.wakes, walked by hand: what each returns, for every input; the memory that was there stays. -/
import Derived.Test.YtnbjflcfdncocaaProg
import Derived.Test.YtnbjflcfdncocaaWMore
import Derived.Deep.WholeRow
import Derived.WalkSpells
import Derived.Lib.SlBytesConst
namespace Go.Proofs.Ytnbjflcfdncocaa.Q
open Go.RowKit Go.Proofs.YtnbjflcfdncocaaW.PrintWords Go.Proofs.YtnbjflcfdncocaaW.PrintLast Go.Proofs.YtnbjflcfdncocaaW.PrintMore

/-- One bit's step of the register. -/
def bst (r : Int) : Int := if bits .and .u32 r 1 = 1 then bits .xor .u32 (r / 2) 2197175160 else r / 2
def it : Nat → Int → Int
  | 0, r => r
  | m + 1, r => bst (it m r)
theorem wf_xor (a b : Int) : 0 ≤ bits .xor .u32 a b ∧ bits .xor .u32 a b < 4294967296 := by
  unfold bits; rw [IntKind.wrap_u32]; omega
theorem bst_range (r : Int) (h0 : 0 ≤ r) (h1 : r < 4294967296) : 0 ≤ bst r ∧ bst r < 4294967296 := by
  unfold bst; split
  · exact wf_xor _ _
  · omega
theorem it_range (r : Int) (h0 : 0 ≤ r) (h1 : r < 4294967296) : ∀ m, 0 ≤ it m r ∧ it m r < 4294967296
  | 0 => ⟨h0, h1⟩
  | m + 1 => bst_range _ (it_range r h0 h1 m).1 (it_range r h0 h1 m).2

def cellsT (k : Nat) : Array Value := Array.ofFn (n := 16) fun j => .int .u32 (if j.val < k then it 4 j.val else 0)
theorem cellsT_size (k : Nat) : (cellsT k).size = 16 := by simp [cellsT]
theorem cellsT_one (k : Nat) : (cellsT k).all (·.oneCell') = true := by
  rw [Array.all_eq_true]
  intro i hi
  simp [cellsT, Value.oneCell']
theorem cellsT_set (k : Nat) (_hk : k < 16) : (cellsT k).setIfInBounds k (.int .u32 (it 4 k)) = cellsT (k + 1) := by
  apply Array.ext
  · simp [cellsT]
  · intro i h1 h2
    rw [Array.getElem_setIfInBounds (by simpa using h1)]
    by_cases h : k = i
    · subst h; simp [cellsT]
    · rw [if_neg h]
      by_cases h3 : i < k
      · simp [cellsT, h3, show i < k + 1 by omega]
      · simp [cellsT, h3, show ¬ i < k + 1 by omega]
theorem cellsT_0 : cellsT 0 = #[Value.int IntKind.u32 0, Value.int IntKind.u32 0, Value.int IntKind.u32 0, Value.int IntKind.u32 0,
      Value.int IntKind.u32 0, Value.int IntKind.u32 0, Value.int IntKind.u32 0, Value.int IntKind.u32 0,
      Value.int IntKind.u32 0, Value.int IntKind.u32 0, Value.int IntKind.u32 0, Value.int IntKind.u32 0,
      Value.int IntKind.u32 0, Value.int IntKind.u32 0, Value.int IntKind.u32 0, Value.int IntKind.u32 0] := by rfl
def Odd1 (r : Int) : Prop := bits .and .u32 r 1 = 1
set_option maxHeartbeats 400000 in
theorem steps_calls (w : World) :
    Calls Try.prog 27 #[] w fun e w' => e = .returned (.agg (cellsT 16)) ∧ w' = w.alloc (.cells (cellsT 16) 56) := by
  go_enter Try.func27, Try.ntmps27
  go_wp2
  go_loopw [4] (fun v4 wr => ∃ k : Nat, k ≤ 16 ∧ v4 = .int .i64 k ∧ wr = w.alloc (.cells (cellsT k) 56)) (fun v4 _ => 16 - (intOf v4).toNat)
  case atStart => exact ⟨0, by omega, rfl, by rw [cellsT_0]⟩
  case round =>
    obtain ⟨k, hk, rfl, rfl⟩ := hrel
    by_cases hlt : k < 16
    · go_wp2
      go_loop [2, 9] (fun v2 v9 => ∃ m : Nat, m ≤ 4 ∧ v9 = .int .i64 m ∧ v2 = .int .u32 (it m k)) (fun _ v9 => 4 - (intOf v9).toNat)
      case atStart => exact ⟨0, by omega, rfl, rfl⟩
      case round =>
        obtain ⟨m, hm, rfl, rfl⟩ := hrel
        by_cases hlt2 : m < 4
        · have hr := it_range k (by omega) (by omega) m
          obtain ⟨h0, h1⟩ := hr
          obtain ⟨x, hx⟩ : ∃ x, x = it m k := ⟨_, rfl⟩
          rw [← hx] at h0 h1 ⊢
          have HX := Aside0.mk hx
          clear hx
          by_cases ho : bits .and .u32 x 1 = 1
          · have hb : (bits .and .u32 x 1 == 1) = true := beq_iff_eq.2 ho
            have HO := Aside0.mk ho
            clear ho
            go_wp2
            go_round
            case rel => exact ⟨m + 1, by omega, by go_num, by show _ = Value.int .u32 (bst (it m k)); rw [← HX.out]; unfold bst; rw [if_pos HO.out]⟩
            case measure => simp [intOf]; omega
          · have hb : (bits .and .u32 x 1 == 1) = false := beq_eq_false_iff_ne.2 ho
            have HO := Aside0.mk ho
            clear ho
            go_wp2
            go_round
            case rel => exact ⟨m + 1, by omega, by go_num, by show _ = Value.int .u32 (bst (it m k)); rw [← HX.out]; unfold bst; rw [if_neg HO.out]⟩
            case measure => simp [intOf]; omega
        · obtain rfl : m = 4 := by omega
          have hs := cellsT_size k
          have hc : (w.alloc (.cells (cellsT k) 56)).cell? ⟨w.heap.size, k, none⟩ = some (.int .u32 0) := by
            rw [cell_of_row _ _ k _ _ _ (heap_alloc_new w _)]
            simp [cellsT, hlt]
          have hS : w.alloc (.cells ((cellsT k).setIfInBounds k (.int .u32 (it 4 k))) 56) = w.alloc (.cells (cellsT (k + 1)) 56) := by
            rw [cellsT_set k hlt]
          have HS := Aside0.mk hS
          clear hS
          go_wp2
          go_roundw
          case rel => exact ⟨k + 1, by omega, by go_num, HS.out⟩
          case measure => simp [intOf]; omega
    · obtain rfl : k = 16 := by omega
      have HI := Aside0.mk (show (Try.prog.info? 56).map (·.size) = some (cellsT 16).size by rw [cellsT_size]; kernel_rfl)
      go_wp2_with (first
        | (refine wpList_load_row rfl 56 (.tmp 0) rfl w.heap.size rfl 56 (cellsT 16) (0, 0) _ (heap_alloc_new w _) Try.underlying56 rfl HI.out ?_)
        | (refine wpList_store_row rfl 56 (.tmp 0) (.tmp 24) rfl w.heap.size (cellsT 16) rfl rfl 56 (cellsT 16) (heap_alloc_new w _) HI.out rfl (cellsT_one 16) ?_; rw [World.setRow_alloc_new]))
      refine bodyPost_ret (v := .agg (cellsT 16)) ?_ rfl ⟨rfl, rfl⟩
      exact results_cell_row (p := 0) (ty := 56) rfl _ _ w.heap.size 56 (cellsT 16) (0, 0) _ rfl (heap_alloc_new w _) Try.underlying56 rfl HI.out

theorem cellsT_get (x : Nat) (h : x < 16) : (cellsT 16)[x]? = some (.int .u32 (it 4 x)) := by
  simp [cellsT, h]
theorem and15 (r : Int) (h0 : 0 ≤ r) (h1 : r < 4294967296) : bits .and .u32 r 15 = r % 16 :=
  bits_mask .u32 32 (by decide) (fun n h0 h1 => by rw [IntKind.wrap_u32]; omega) 4 (by decide) r h0 h1

/-- Four bits' step, eight bits' step, the sum. -/
def nib (r : Int) : Int := bits .xor .u32 (r / 16) (it 4 (r % 16))
def byt (r c : Int) : Int := nib (nib (bits .xor .u32 r (c % 4294967296)))
def crcI (l : List Int) : Int := bits .xor .u32 (l.foldl byt 4294967295) 4294967295
def crc_Sum.f (l0 : List Int) : Option Int := some (crcI l0)
theorem xcell {W : World} {g : Nat} (hG : W.heap[g]? = some (.cells (cellsT 16) 56)) {x : Int} (hx : 0 ≤ x ∧ x < 4294967296) :
    0 ≤ bits .and .u32 x 15 ∧ bits .and .u32 x 15 < 16 ∧ W.cell? ⟨g, (bits .and .u32 x 15).toNat, none⟩ = some (.int .u32 (it 4 (x % 16))) := by
  rw [and15 x hx.1 hx.2]
  refine ⟨by omega, by omega, ?_⟩
  rw [blk_cell hG, cellsT_get _ (by omega), Int.toNat_of_nonneg (by omega)]
theorem nib_range (r : Int) : 0 ≤ nib r ∧ nib r < 4294967296 := wf_xor _ _
theorem fold_range (l : List Int) (r : Int) (h0 : 0 ≤ r) (h1 : r < 4294967296) : 0 ≤ l.foldl byt r ∧ l.foldl byt r < 4294967296 := by
  induction l generalizing r with
  | nil => exact ⟨h0, h1⟩
  | cons c l ih => exact ih _ (nib_range _).1 (nib_range _).2
theorem fold_snoc (l : List Int) (k : Nat) (h : k < l.length) (r : Int) : (l.take (k + 1)).foldl byt r = byt ((l.take k).foldl byt r) (l.getD k 0) := by
  rw [List.take_succ_eq_append_getElem h, List.foldl_append]
  simp [List.getD_eq_getElem?_getD, h]

set_option maxHeartbeats 400000 in
theorem crc_Sum.calls (A0 : Option Addr) (c0 : Nat) (l0 : List Int) (r : Int) (w : World) (hr0 : Kd.C (Kd.int .u8) w A0 l0.length l0) (hc0 : l0.length ≤ c0) (h : crc_Sum.f l0 = some r) :
    Calls Try.prog 11 #[.slice A0 l0.length c0] w fun e w' => e = .returned (.int .u32 r) ∧ Below w.heap.size w w' := by
  obtain rfl := Option.some.inj h
  clear h
  have HR0 := Aside0.mk hr0
  have HC0 := Aside0.mk hc0
  have hm : l0.length ≤ 9223372036854775807 := hr0.2.1
  clear hr0 hc0
  have HI := Aside0.mk (show (Try.prog.info? 56).map (·.size) = some (cellsT 16).size by rw [cellsT_size]; kernel_rfl)
  go_enter Try.func11, Try.ntmps11
  have HE := Aside0.mk (show ((w.alloc (.cells (cellsT 16) 56)).alloc (.cells (cellsT 0) 56)).setRow (w.heap.size + 1) (cellsT 16) = (w.alloc (.cells (cellsT 16) 56)).alloc (.cells (cellsT 16) 56) by
    have := World.setRow_alloc_new (w.alloc (.cells (cellsT 16) 56)) (cellsT 0) (cellsT 16) 56
    simpa using this)
  rw [cellsT_0] at HE
  go_wp2_with (first
    | (go_at_call 27; refine (steps_calls _).mono ?_; rintro e w1 ⟨rfl, rfl⟩)
    | (refine wpList_store_row rfl 56 (.tmp 3) (.tmp 7) rfl (w.heap.size + 1) (cellsT 16) rfl rfl 56 _ (heap_alloc2_new w _ _) HI.out rfl (cellsT_one 16) ?_; rw [HE.out]))
  obtain ⟨W, hW⟩ : ∃ W, W = (w.alloc (.cells (cellsT 16) 56)).alloc (.cells (cellsT 16) 56) := ⟨_, rfl⟩
  rw [← hW]
  have HB := Aside0.mk (show Below w.heap.size w W from hW ▸ ((Below.refl _ _).alloc (Nat.le_refl _) _).alloc (by simp) _)
  have HR1 := Aside0.mk (show Kd.C (Kd.int .u8) W A0 l0.length l0 from Kd.C_below HR0.out HB.out)
  have HG := Aside0.mk (show W.heap[w.heap.size + 1]? = some (.cells (cellsT 16) 56) from hW ▸ heap_alloc2_new w _ _)
  clear hW HE HR0 HI
  go_loop [4, 10] (fun v4 v10 => ∃ k : Nat, k ≤ l0.length ∧ v10 = .int .i64 k ∧ v4 = .int .u32 ((l0.take k).foldl byt 4294967295)) (fun _ v10 => l0.length - (intOf v10).toNat)
  case atStart => exact ⟨0, by omega, rfl, rfl⟩
  case round =>
    obtain ⟨k, hk, rfl, rfl⟩ := hrel
    by_cases hlt : k < l0.length
    · have hs := fold_snoc l0 k hlt 4294967295
      have hr := fold_range (l0.take k) 4294967295 (by omega) (by omega)
      obtain ⟨x, hx⟩ : ∃ x, x = (l0.take k).foldl byt 4294967295 := ⟨_, rfl⟩
      rw [← hx] at hs hr ⊢
      have HS := Aside0.mk hs
      have HX := Aside0.mk hr
      clear hs hx
      obtain ⟨ad, e, hcell⟩ := Kd.at_int HR1.out (k : Int) (by omega) (by omega)
      subst e
      rw [Int.toNat_natCast] at hcell
      have hrd : rd l0 (k : Int) = l0.getD k 0 := by simp [rd]
      rw [hrd] at hcell
      obtain ⟨c, hc⟩ : ∃ c, c = l0.getD k 0 := ⟨_, rfl⟩
      rw [← hc] at hcell HS
      have HC := Aside0.mk hc
      clear hc hrd
      have ha := xcell HG.out (x := bits .xor .u32 x (c % 4294967296)) (wf_xor _ _)
      obtain ⟨a0, a1, a2⟩ := ha
      have hb := xcell HG.out (x := nib (bits .xor .u32 x (c % 4294967296))) (nib_range _)
      unfold nib at hb
      obtain ⟨b0, b1, b2⟩ := hb
      go_wp2
      go_round
      case rel => exact ⟨k + 1, by omega, by go_num, by rw [HS.out]; rfl⟩
      case measure => simp [intOf]; omega
    · obtain rfl : k = l0.length := by omega
      go_wp2
      go_ret
      refine ⟨?_, HB.out⟩
      simp [crcI]

theorem hinfo5 : (Try.prog.info? 5).map (fun i => (i.zero, i.size, i.bytes)) = some (some (.int .u8 0), 1, 1) := by kernel_rfl
def slices_Clone_byte_byte.f (l0 : List Int) : Option (List Int) := if l0.length < 140737488355328 then some l0 else none
set_option maxHeartbeats 400000 in
set_option maxRecDepth 100000 in
theorem slices_Clone_byte_byte.calls (A0 : Option Addr) (c0 : Nat) (l0 : List Int) (r : List Int) (w : World) (hr0 : Kd.C (Kd.int .u8) w A0 l0.length l0) (hc0 : l0.length ≤ c0) (h : slices_Clone_byte_byte.f l0 = some r) :
    Calls Try.prog 28 #[.slice A0 l0.length c0] w fun e w' => ∃ v0_ : Value, e = .returned (v0_) ∧ Kd.R (Kd.int .u8) 5 w' w.heap.size (fun _ => True) v0_ r ∧ Below w.heap.size w w' := by
  unfold slices_Clone_byte_byte.f at h
  by_cases hl : l0.length < 140737488355328
  case neg => rw [if_neg hl] at h; cases h
  rw [if_pos hl] at h
  obtain rfl := Option.some.inj h
  clear h
  have HR0 := Aside0.mk hr0
  have HC0 := Aside0.mk hc0
  have HL := Aside0.mk hl
  have HB := Aside0.mk (Below.refl w.heap.size w)
  have h0 := hr0.2.2
  clear hr0 hc0 hl
  rcases A0 with _ | ad
  · have hz : l0 = [] := by
      cases l0 with
      | nil => rfl
      | cons a l => obtain ⟨ad, h, _⟩ := h0 (by simp); cases h
    subst hz
    clear h0
    have hq := fun (v : World) => Lib.run_eql_slice_nil (P := Try.prog) v 22 5 none 0 c0 0 0 Try.underlying22
    go_enter Try.func28, Try.ntmps28
    go_wp2
    go_ret
    exact ⟨_, rfl, Kd.R_nil _ _ _ _ _, HB.out⟩
  · clear h0
    have hq := fun (v : World) => Lib.run_eql_slice_nil (P := Try.prog) v 22 5 (some ad) l0.length c0 0 0 Try.underlying22
    have HO := Aside0.mk (show Kd.R (Kd.int .u8) 5 (w.alloc (.cells #[] 5)) w.heap.size (fun _ => True) (.slice (some ⟨w.heap.size, 0, none⟩) 0 0) ([] : List Int) from ⟨fun _ _ => trivial, [], ⟨rfl, .inr ⟨w.heap.size, 0, #[], rfl, Nat.le_refl _, heap_alloc_new w _, Nat.le_refl _, by simp [maxLen], rfl, rfl⟩⟩, Reps.none _ _⟩)
    have HR1 := Aside0.mk (show Kd.C (Kd.int .u8) (w.alloc (.cells #[] 5)) (some ad) l0.length l0 from Kd.C_alloc HR0.out _)
    have HB1 := Aside0.mk (show Below w.heap.size w (w.alloc (.cells #[] 5)) from below_alloc HB.out _)
    go_enter Try.func28, Try.ntmps28
    go_wp2_with (first | ((with_reducible refine gate_builtin (b := .append) (xs := #[.tmp 5, .tmp 6]) rfl ?_); at_builtin; refine Kd.R_append_rows (Kd.int .u8) (w0 := w) w.heap.size rfl (.tmp 5) (.tmp 6) 22 5 (.int .u8 0) 1 rfl Try.underlying22 hinfo5 rfl (by decide) (by omega) (.slice (some ⟨w.heap.size, 0, none⟩) 0 0) ([] : List Int) l0 _ _ _ (fun _ => True) (fun _ => False) rfl rfl HO.out HR1.out (fun _ _ h => h) (fun _ h => h.elim) (fun _ _ => trivial) HB1.out (below_size HB1.out) ?aL ?_; (case aL => have := HL.out; simp; omega); intro v105 w3 ho hb hg hat; have HO1 := Aside0.mk ho; have HB2 := Aside0.mk hb; clear ho hb hg hat))
    go_ret
    exact ⟨_, rfl, HO1.out, HB2.out⟩

def raddlelaw02_wakes.f : Option Bool := some true
theorem crc_check : crcI [49, 50, 51, 52, 53, 54, 55, 56, 57] = 3808858755 := by decide +kernel
theorem nine (j : Nat) (hj : j < 9) : (#[Value.int IntKind.u8 49, Value.int IntKind.u8 50, Value.int IntKind.u8 51, Value.int IntKind.u8 52, Value.int IntKind.u8 53, Value.int IntKind.u8 54, Value.int IntKind.u8 55, Value.int IntKind.u8 56, Value.int IntKind.u8 57] : Array Value)[j]? = some (.int .u8 (([49, 50, 51, 52, 53, 54, 55, 56, 57] : List Int).getD j 0)) := by
  rcases j with _ | _ | _ | _ | _ | _ | _ | _ | _ | j <;> first | rfl | omega
set_option maxHeartbeats 400000 in
set_option maxRecDepth 100000 in
theorem raddlelaw02_wakes.calls (r : Bool) (w : World) (h : raddlelaw02_wakes.f = some r) :
    Calls Try.prog 12 #[] w fun e w' => e = .returned (.bool r) ∧ Below w.heap.size w w' := by
  obtain rfl := Option.some.inj h
  clear h
  have kc := fun (w : World) (C : Array Value) (n c : Nat) => Lib.run_convert_bytes_const (P := Try.prog) w 22 5 C n c Try.underlying22 Try.underlying5
  go_enter Try.func12, Try.ntmps12
  go_wp2_with (first | (go_at_call 11; refine (crc_Sum.calls (some ⟨w.heap.size, 0, none⟩) 9 [49, 50, 51, 52, 53, 54, 55, 56, 57] _ _ ?h1 (by decide) rfl).mono ?_; (case h1 => exact Kd.C_of_reads (d := (0 : Int)) (h1 := fun _ => rfl) ⟨rfl, by decide, fun _ => ⟨_, rfl, fun j hj => by rw [add_plain, cell_of_row _ _ j _ 5 (9, 10) (heap_alloc_new w _)]; exact nine j hj⟩⟩); rintro e w1 ⟨rfl, hb⟩; rw [crc_check]; have HB := Aside0.mk hb; clear hb))
  go_ret
  exact ⟨rfl, below_step (below_alloc (Below.refl _ _) _) HB.out⟩
end Go.Proofs.Ytnbjflcfdncocaa.Q
