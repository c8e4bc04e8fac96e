/- The law MsgKinds of the program's messages holds for every input (its row stands in the last of these texts): part 2 of 6. -/
import Derived.Test.YtnbjflcfdncocaaGreatMsgKinds1
import Derived.Deep.RegionHeld3
import Derived.Test.YtnbjflcfdncocaaGreatProg
import Derived.Below
import Derived.Deep.Draws
import Derived.Deep.AppendLies
import Derived.Maps.AppendAt
import Derived.OwnWalk
import Derived.Laws.BytesArg
import Derived.Laws.MakeOwn
import Derived.Laws.OwnMore
import Derived.Deep.OwnRows
import Derived.Tactics
import Derived.Lib.ConvBytes
import Derived.Laws.Slices
import Derived.WalkKit
import Derived.KernelRfl
import Derived.RowKit3
import Derived.Deep.LoopGhost
import Derived.Deep.QuietTactic
import Derived.BigQuiet
import Derived.WideLaws
import Derived.Deep.DeepCutAuto
import Derived.Deep.CutBlock
import Derived.Laws.Rows
import Derived.Lib.AppendStr
import Derived.ArgAppend
import Derived.Laws.IdiomCopy
import Derived.OrdersHeld
import Derived.Laws.BitsLemmas
import Derived.RowKit
import Derived.Deep.WholeRow
import Derived.WalkSpells
import Derived.Lib.SlBytesConst
namespace Go.Proofs.YtnbjflcfdncocaaGreat.M
open Go.RowKit
def ordOk (md : Region.Mode) (ops : Array Oper) : List Bool → Nat → Array Bool → Bool
  | [], i, listed => (Region.ready md ops listed).isEmpty && i == ops.size
  | b :: fl, i, listed => (Region.ready md ops listed).contains i && (if b then Region.ready md ops listed == [i] else Region.free md ops listed i) && ordOk md ops fl (i + 1) (listed.setIfInBounds i true)
def wpOrd (P : Program) (ops : Array Oper) (Q : Exit → Act → World → Prop) (S : World → Prop) : List Oper → List Bool → Act → World → Prop
  | [], [], a, w => Q .normal a w
  | o :: rest, false :: fl, a, w => ∃ v, YieldsIf P ops S o v a ∧ wpOrd P ops Q S rest fl (a.put o.dst v) w
  | o :: rest, true :: fl, a, w => if Region.wanted o (yielded ops a.tmps) = true then Oper.wp P o a w (fun a' w' => S w' ∧ wpOrd P ops Q S rest fl a' w') Q else wpOrd P ops Q S rest fl (a.put o.dst undef) w
  | _, _, _, _ => False
section
variable {P : Program} {ops : Array Oper} {Q : Exit → Act → World → Prop} {md : Region.Mode} {S : World → Prop}
theorem ord_held (hs : Region.noSelect ops = true) (hQ : ∀ c (a : Act) d v w, Q (.panic c) (a.put d v) w → Q (.panic c) a w) :
    ∀ (fl : List Bool) (rest : List Oper) (i : Nat) (listed : Array Bool) (a : Act) (w : World), rest = ops.toList.drop i → ordOk md ops fl i listed = true → S w → wpOrd P ops Q S rest fl a w → wpAnyH P md ops Q S fl.length listed a w
  | [], rest, i, listed, a, w, hr, hok, hS, h => by
    unfold ordOk at hok
    rw [Bool.and_eq_true, List.isEmpty_iff] at hok
    cases rest with
    | nil => exact ⟨hok.1, h⟩
    | cons o rest => exact h.elim
  | b :: fl, rest, i, listed, a, w, hr, hok, hS, h => by
    cases rest with
    | nil => cases b <;> exact h.elim
    | cons o rest =>
      unfold ordOk at hok
      simp only [Bool.and_eq_true] at hok
      obtain ⟨⟨h1, h2⟩, h3⟩ := hok
      have hi : ops[i]? = some o := by
        have : (ops.toList.drop i)[0]? = some o := by rw [← hr]; rfl
        rw [List.getElem?_drop] at this
        simpa using this
      have hd : rest = ops.toList.drop (i + 1) := by
        have := congrArg List.tail hr
        rw [List.tail_drop] at this
        exact this
      cases b with
      | false =>
        simp only [Bool.false_eq_true, if_false] at h2
        obtain ⟨v, hy, h⟩ := h
        exact wpAnyH_take hi hs h2 h1 (fun c a w => hQ c a _ _ w) hy hS (ord_held hs hQ fl rest (i + 1) _ _ _ hd h3 hS h)
      | true =>
        simp only [if_true] at h2
        have h2 : Region.ready md ops listed = [i] := by simpa using h2
        refine wpAnyH_all h2 (by simp) (fun j hj => ?_)
        obtain rfl : j = i := by simpa using hj
        unfold wpOp
        rw [hi]
        unfold wpOrd at h
        simp only
        split
        · rename_i hw
          rw [if_pos hw] at h
          exact .inl (Oper.wp_mono (K := fun a' w' => S w' ∧ wpOrd P ops Q S rest fl a' w') (fun a' w' h' => ⟨h'.1, ord_held hs hQ fl rest (j + 1) _ _ _ hd h3 h'.1 h'.2⟩) h)
        · rename_i hw
          rw [if_neg hw] at h
          exact ⟨hS, ord_held hs hQ fl rest (j + 1) _ _ _ hd h3 hS h⟩
theorem wp_ord {id : Nat} {a : Act} {w : World} (fl : List Bool) (hm : P.follows .mixedOrders = true) (hs : (Region.noSelect ops && fl.length == ops.size && ordOk .any ops fl 0 (Array.replicate ops.size false)) = true)
    (hQ : ∀ c (a : Act) d v w, Q (.panic c) (a.put d v) w → Q (.panic c) a w) (hS : S w.drew) (h : S w.drew → wpOrd P ops Q S ops.toList fl a w.drew) : (Code.region id ops true).wp P Q a w := by
  simp only [Bool.and_eq_true, beq_iff_eq] at hs
  refine wp_region_held_drew (S := S) hm hS (fun hS => ?_)
  rw [← hs.1.2]
  have := ord_held (md := .any) hs.1.1 hQ fl ops.toList 0 _ a w.drew rfl hs.2 hS (h hS)
  rw [← hs.1.2] at this
  exact this
theorem ord_take {o : Oper} {rest : List Oper} {fl : List Bool} {v : Value} {a : Act} {w : World} (hw : Region.wanted o (yielded ops a.tmps) = true) (hy : ∀ w, S w → (execOp a.eval o).run P w = .ok (.value v) w) (h : wpOrd P ops Q S rest fl (a.put o.dst v) w) : wpOrd P ops Q S (o :: rest) (false :: fl) a w :=
  ⟨v, .inl ⟨hw, hy⟩, h⟩
theorem ord_skip {o : Oper} {rest : List Oper} {fl : List Bool} {a : Act} {w : World} (hw : Region.wanted o (yielded ops a.tmps) = false) (h : wpOrd P ops Q S rest fl (a.put o.dst undef) w) : wpOrd P ops Q S (o :: rest) (false :: fl) a w :=
  ⟨undef, .inr ⟨hw, rfl⟩, h⟩
theorem ord_pass {o : Oper} {rest : List Oper} {fl : List Bool} {a : Act} {w : World} (hw : Region.wanted o (yielded ops a.tmps) = false) (h : wpOrd P ops Q S rest fl (a.put o.dst undef) w) : wpOrd P ops Q S (o :: rest) (true :: fl) a w := by
  unfold wpOrd
  rw [if_neg (by rw [hw]; decide)]
  exact h
theorem ord_call {o : Oper} {rest : List Oper} {fl : List Bool} {a : Act} {w : World} (hw : Region.wanted o (yielded ops a.tmps) = true)
    (h : ∀ K' : Act → World → Prop, Shut (∀ a w, S w → (S w → wpOrd P ops Q S rest fl a w) → K' a w) → Oper.wp P o a w K' Q) : wpOrd P ops Q S (o :: rest) (true :: fl) a w := by
  unfold wpOrd
  rw [if_pos hw]
  exact h (fun a' w' => S w' ∧ wpOrd P ops Q S rest fl a' w') (fun a w h1 h2 => ⟨h1, h2 h1⟩)
theorem ord_done {a : Act} {w : World} (h : Q .normal a w) : wpOrd P ops Q S [] [] a w := h
end
end Go.Proofs.YtnbjflcfdncocaaGreat.M
namespace Go.Proofs.YtnbjflcfdncocaaGreat.M
open Go.RowKit Go.Proofs.YtnbjflcfdncocaaGreatW.PrintWords Go.Proofs.YtnbjflcfdncocaaGreatW.PrintLast Go.Proofs.YtnbjflcfdncocaaGreatW.PrintMore
def One (w : World) (a : Obj) (W : World) : Prop := Below w.heap.size w W ∧ W.heap[w.heap.size]? = some a
theorem One.start (w : World) (a : Obj) : ∃ W, W = w.alloc a ∧ Aside0 (One w a W) := ⟨_, rfl, ⟨below_alloc (Below.refl _ w) _, heap_alloc_new w _⟩⟩
theorem One.step {w W W' : World} {a : Obj} (h : One w a W) (hb : Below W.heap.size W W') : One w a W' := ⟨below_step h.1 hb, blk_below h.2 hb⟩
theorem One.drew {w W : World} {a : Obj} (h : One w a W) : One w a W.drew := ⟨below_drew h.1, h.2⟩
def Two (w : World) (a b : Obj) (W : World) : Prop := Below w.heap.size w W ∧ W.heap[w.heap.size]? = some a ∧ W.heap[w.heap.size + 1]? = some b
theorem Two.start (w : World) (a b : Obj) : ∃ W, W = (w.alloc a).alloc b ∧ Aside0 (Two w a b W) :=
  ⟨_, rfl, ⟨below_alloc (below_alloc (Below.refl _ w) _) _, blk_alloc (heap_alloc_new w _) _, by have := heap_alloc_new (w.alloc a) b; simpa using this⟩⟩
theorem Two.step {w W W' : World} {a b : Obj} (h : Two w a b W) (hb : Below W.heap.size W W') : Two w a b W' := ⟨below_step h.1 hb, blk_below h.2.1 hb, blk_below h.2.2 hb⟩
theorem Two.drew {w W : World} {a b : Obj} (h : Two w a b W) : Two w a b W.drew := ⟨below_drew h.1, h.2⟩
def Zero (w W : World) : Prop := Below w.heap.size w W
theorem Zero.start (w : World) : Zero w w := Below.refl _ w
theorem Zero.step {w W W' : World} (h : Zero w W) (hb : Below W.heap.size W W') : Zero w W' := below_step h hb
theorem Zero.drew {w W : World} (h : Zero w W) : Zero w W.drew := below_drew h
end Go.Proofs.YtnbjflcfdncocaaGreat.M
namespace Go.Proofs.YtnbjflcfdncocaaGreat.M
open Go.RowKit Go.Proofs.YtnbjflcfdncocaaGreatW.PrintWords Go.Proofs.YtnbjflcfdncocaaGreatW.PrintLast Go.Proofs.YtnbjflcfdncocaaGreatW.PrintMore
attribute [local go_sem] max2_int min2_int max_two min_two max_three min_three max_four min_four
set_option linter.unusedVariables false
set_option linter.unusedSimpArgs false
theorem info3 : (Tryz.prog.info? 3).map (fun i => (i.zero, i.size, i.bytes)) = some (some (.int .i64 0), 1, 8) := by kernel_rfl
theorem info5 : (Tryz.prog.info? 5).map (fun i => (i.zero, i.size, i.bytes)) = some (some (.int .u8 0), 1, 1) := by kernel_rfl
theorem info46 : (Tryz.prog.info? 46).map (fun i => (i.zero, i.size, i.bytes)) = some (some (.agg #[(.int .i64 0), (.int .i64 0)]), 2, 16) := by kernel_rfl
theorem info52 : (Tryz.prog.info? 52).map (fun i => (i.zero, i.size, i.bytes)) = some (some (.agg #[(.int .i64 0), (.int .i64 0), (.slice none 0 0), (.int .i64 0), (.int .i64 0), (.int .i64 0), (.int .i64 0), (.int .i64 0), (.string ⟨#[]⟩), (.int .i64 0), (.slice none 0 0), (.slice none 0 0)]), 12, 152) := by kernel_rfl
theorem info92 : (Tryz.prog.info? 92).map (fun i => (i.zero, i.size, i.bytes)) = some (some (.agg #[(.int .i64 0), (.int .i64 0), (.string ⟨#[]⟩)]), 3, 32) := by kernel_rfl
structure S56 where
 f0 : (List Int)
def z56 : S56 := ⟨([] : List Int)⟩
def k56 : Kd S56 := Kd.iso (Kd.slice 3 (Kd.int .i64)) (fun x : S56 => x.f0)
theorem k56_open {w : World} {x : S56} {cs : List Value} (h : k56.K w x cs) : ∃ A0 c0, cs = [.slice A0 x.f0.length c0] ∧ x.f0.length ≤ c0 ∧ (Kd.int .i64).C w A0 x.f0.length x.f0 := by
 obtain ⟨A0, c0, rfl, l0, g0⟩ := h
 exact ⟨A0, c0, rfl, l0, g0⟩
theorem k56_mk (w : World) (x : S56) {A0 : Option Addr} {c0 : Nat} (l0 : x.f0.length ≤ c0) (g0 : (Kd.int .i64).C w A0 x.f0.length x.f0) : k56.K w x [.slice A0 x.f0.length c0] := ⟨A0, c0, rfl, l0, g0⟩
def rd_T56 (xs : List S56) (i : Int) : S56 := xs.getD i.toNat z56
theorem at_T56 {w : World} {A : Option Addr} {n : Nat} {xs : List S56} (h : Kd.C k56 w A n xs) (i : Int) (h0 : 0 ≤ i) (h1 : i < n) : ∃ ad A0 c0, A = some ad ∧ w.cell? (ad.add i.toNat) = some (.slice A0 (rd_T56 xs i).f0.length c0) ∧ (rd_T56 xs i).f0.length ≤ c0 ∧ (Kd.int .i64).C w A0 (rd_T56 xs i).f0.length (rd_T56 xs i).f0 := by
 obtain ⟨ad, c, e, _, hK, hc0⟩ := Kd.C_get h z56 i h0 h1
 have hc : ∀ j u, c[j]? = some u → w.cell? (ad.add (i.toNat * 1 + j)) = some u := hc0
 obtain ⟨A0, c0, rfl, l0, g0⟩ := k56_open hK
 exact ⟨ad, A0, c0, e, by have hq := hc 0 _ rfl; rwa [Nat.mul_one, Nat.add_zero] at hq, l0, g0⟩
structure S46 where
 f0 : Int
 f1 : Int
def z46 : S46 := ⟨(0 : Int), (0 : Int)⟩
def k46 : Kd S46 := Kd.iso (Kd.pair (Kd.int .i64) (Kd.int .i64)) (fun x : S46 => (x.f0, x.f1))
theorem k46_open {w : World} {x : S46} {cs : List Value} (h : k46.K w x cs) : cs = [.int .i64 x.f0, .int .i64 x.f1] := by
 obtain ⟨_, _, rfl, rfl, rfl⟩ := h
 exact rfl
theorem k46_openM {w : World} {base : Nat} {ok : Nat → Prop} {x : S46} {cs : List Value} (h : k46.M w base ok x cs) : cs = [.int .i64 x.f0, .int .i64 x.f1] := by
 obtain ⟨_, _, rfl, rfl, rfl⟩ := h
 exact rfl
theorem k46_mkM (w : World) (base : Nat) (ok : Nat → Prop) (x : S46)  : k46.M w base ok x [.int .i64 x.f0, .int .i64 x.f1] := ⟨[.int .i64 x.f0], [.int .i64 x.f1], rfl, rfl, rfl⟩
def rd_T46 (xs : List S46) (i : Int) : S46 := xs.getD i.toNat z46
theorem at_T46 {w : World} {A : Option Addr} {n : Nat} {xs : List S46} (h : Kd.C k46 w A n xs) (i : Int) (h0 : 0 ≤ i) (h1 : i < n) : ∃ ad , A = some ad ∧ w.cell? (ad.add (i.toNat * 2)) = some (.int .i64 (rd_T46 xs i).f0) ∧ w.cell? ⟨(ad.add (i.toNat * 2)).block, (ad.add (i.toNat * 2)).off + 1, none⟩ = some (.int .i64 (rd_T46 xs i).f1) := by
 obtain ⟨ad, c, e, _, hK, hc0⟩ := Kd.C_get h z46 i h0 h1
 have hc : ∀ j u, c[j]? = some u → w.cell? (ad.add (i.toNat * 2 + j)) = some u := hc0
 obtain rfl := k46_open hK
 exact ⟨ad, e, hc 0 _ rfl, by rw [← add_field _ _ 1 (by omega)]; exact hc 1 _ rfl⟩
structure S48 where
 f0 : Int
 f1 : Int
 f2 : Int
def z48 : S48 := ⟨(0 : Int), (0 : Int), (0 : Int)⟩
def k48 : Kd S48 := Kd.iso (Kd.pair (Kd.int .i64) (Kd.pair (Kd.int .i64) (Kd.int .i64))) (fun x : S48 => (x.f0, x.f1, x.f2))
theorem k48_open {w : World} {x : S48} {cs : List Value} (h : k48.K w x cs) : cs = [.int .i64 x.f0, .int .i64 x.f1, .int .i64 x.f2] := by
 obtain ⟨_, _, rfl, rfl, ⟨_, _, rfl, rfl, rfl⟩⟩ := h
 exact rfl
theorem k48_openM {w : World} {base : Nat} {ok : Nat → Prop} {x : S48} {cs : List Value} (h : k48.M w base ok x cs) : cs = [.int .i64 x.f0, .int .i64 x.f1, .int .i64 x.f2] := by
 obtain ⟨_, _, rfl, rfl, ⟨_, _, rfl, rfl, rfl⟩⟩ := h
 exact rfl
theorem k48_mkM (w : World) (base : Nat) (ok : Nat → Prop) (x : S48)  : k48.M w base ok x [.int .i64 x.f0, .int .i64 x.f1, .int .i64 x.f2] := ⟨[.int .i64 x.f0], [.int .i64 x.f1, .int .i64 x.f2], rfl, rfl, ⟨[.int .i64 x.f1], [.int .i64 x.f2], rfl, rfl, rfl⟩⟩
structure S92 where
 f0 : Int
 f1 : Int
 f2 : ByteArray
def z92 : S92 := ⟨(0 : Int), (0 : Int), (⟨#[]⟩ : ByteArray)⟩
def k92 : Kd S92 := Kd.iso (Kd.pair (Kd.int .i64) (Kd.pair (Kd.int .i64) Kd.string)) (fun x : S92 => (x.f0, x.f1, x.f2))
theorem k92_open {w : World} {x : S92} {cs : List Value} (h : k92.K w x cs) : cs = [.int .i64 x.f0, .int .i64 x.f1, .string x.f2] := by
 obtain ⟨_, _, rfl, rfl, ⟨_, _, rfl, rfl, rfl⟩⟩ := h
 exact rfl
theorem k92_mkM (w : World) (base : Nat) (ok : Nat → Prop) (x : S92)  : k92.M w base ok x [.int .i64 x.f0, .int .i64 x.f1, .string x.f2] := ⟨[.int .i64 x.f0], [.int .i64 x.f1, .string x.f2], rfl, rfl, ⟨[.int .i64 x.f1], [.string x.f2], rfl, rfl, rfl⟩⟩
def rd_T92 (xs : List S92) (i : Int) : S92 := xs.getD i.toNat z92
theorem at_T92 {w : World} {A : Option Addr} {n : Nat} {xs : List S92} (h : Kd.C k92 w A n xs) (i : Int) (h0 : 0 ≤ i) (h1 : i < n) : ∃ ad , A = some ad ∧ w.cell? (ad.add (i.toNat * 3)) = some (.int .i64 (rd_T92 xs i).f0) ∧ w.cell? ⟨(ad.add (i.toNat * 3)).block, (ad.add (i.toNat * 3)).off + 1, none⟩ = some (.int .i64 (rd_T92 xs i).f1) ∧ w.cell? ⟨(ad.add (i.toNat * 3)).block, (ad.add (i.toNat * 3)).off + 2, none⟩ = some (.string (rd_T92 xs i).f2) := by
 obtain ⟨ad, c, e, _, hK, hc0⟩ := Kd.C_get h z92 i h0 h1
 have hc : ∀ j u, c[j]? = some u → w.cell? (ad.add (i.toNat * 3 + j)) = some u := hc0
 obtain rfl := k92_open hK
 exact ⟨ad, e, hc 0 _ rfl, by rw [← add_field _ _ 1 (by omega)]; exact hc 1 _ rfl, by rw [← add_field _ _ 2 (by omega)]; exact hc 2 _ rfl⟩
structure S52 where
 f0 : S46
 f1 : (List Int)
 f2 : S48
 f3 : Int
 f4 : Int
 f5 : ByteArray
 f6 : Int
 f7 : (List S92)
 f8 : (List S46)
def z52 : S52 := ⟨z46, ([] : List Int), z48, (0 : Int), (0 : Int), (⟨#[]⟩ : ByteArray), (0 : Int), ([] : List S92), ([] : List S46)⟩
def k52 : Kd S52 := Kd.iso (Kd.pair k46 (Kd.pair (Kd.slice 3 (Kd.int .i64)) (Kd.pair k48 (Kd.pair (Kd.int .i64) (Kd.pair (Kd.int .i64) (Kd.pair Kd.string (Kd.pair (Kd.int .i64) (Kd.pair (Kd.slice 92 k92) (Kd.slice 46 k46))))))))) (fun x : S52 => (x.f0, x.f1, x.f2, x.f3, x.f4, x.f5, x.f6, x.f7, x.f8))
theorem k52_open {w : World} {x : S52} {cs : List Value} (h : k52.K w x cs) : ∃ A2 c2 A10 c10 A11 c11, cs = [.int .i64 x.f0.f0, .int .i64 x.f0.f1, .slice A2 x.f1.length c2, .int .i64 x.f2.f0, .int .i64 x.f2.f1, .int .i64 x.f2.f2, .int .i64 x.f3, .int .i64 x.f4, .string x.f5, .int .i64 x.f6, .slice A10 x.f7.length c10, .slice A11 x.f8.length c11] ∧ x.f1.length ≤ c2 ∧ (Kd.int .i64).C w A2 x.f1.length x.f1 ∧ x.f7.length ≤ c10 ∧ k92.C w A10 x.f7.length x.f7 ∧ x.f8.length ≤ c11 ∧ k46.C w A11 x.f8.length x.f8 := by
 obtain ⟨_, _, rfl, s0, ⟨_, _, rfl, ⟨A2, c2, rfl, l2, g2⟩, ⟨_, _, rfl, s3, ⟨_, _, rfl, rfl, ⟨_, _, rfl, rfl, ⟨_, _, rfl, rfl, ⟨_, _, rfl, rfl, ⟨_, _, rfl, ⟨A10, c10, rfl, l10, g10⟩, ⟨A11, c11, rfl, l11, g11⟩⟩⟩⟩⟩⟩⟩⟩⟩ := h
 obtain rfl := k46_open s0
 obtain rfl := k48_open s3
 exact ⟨A2, c2, A10, c10, A11, c11, rfl, l2, g2, l10, g10, l11, g11⟩
theorem k52_openM {w : World} {base : Nat} {ok : Nat → Prop} {x : S52} {cs : List Value} (h : k52.M w base ok x cs) : ∃ v2 v10 v11, cs = [.int .i64 x.f0.f0, .int .i64 x.f0.f1, v2, .int .i64 x.f2.f0, .int .i64 x.f2.f1, .int .i64 x.f2.f2, .int .i64 x.f3, .int .i64 x.f4, .string x.f5, .int .i64 x.f6, v10, v11] ∧ (Kd.int .i64).R 3 w base ok v2 x.f1 ∧ k92.R 92 w base ok v10 x.f7 ∧ k46.R 46 w base ok v11 x.f8 := by
 obtain ⟨_, _, rfl, s0, ⟨_, _, rfl, ⟨v2, rfl, g2⟩, ⟨_, _, rfl, s3, ⟨_, _, rfl, rfl, ⟨_, _, rfl, rfl, ⟨_, _, rfl, rfl, ⟨_, _, rfl, rfl, ⟨_, _, rfl, ⟨v10, rfl, g10⟩, ⟨v11, rfl, g11⟩⟩⟩⟩⟩⟩⟩⟩⟩ := h
 obtain rfl := k46_openM s0
 obtain rfl := k48_openM s3
 exact ⟨v2, v10, v11, rfl, g2, g10, g11⟩
theorem k52_mkM (w : World) (base : Nat) (ok : Nat → Prop) (x : S52) {v2 : Value} (g2 : (Kd.int .i64).R 3 w base ok v2 x.f1) {v10 : Value} (g10 : k92.R 92 w base ok v10 x.f7) {v11 : Value} (g11 : k46.R 46 w base ok v11 x.f8) : k52.M w base ok x [.int .i64 x.f0.f0, .int .i64 x.f0.f1, v2, .int .i64 x.f2.f0, .int .i64 x.f2.f1, .int .i64 x.f2.f2, .int .i64 x.f3, .int .i64 x.f4, .string x.f5, .int .i64 x.f6, v10, v11] := ⟨[.int .i64 x.f0.f0, .int .i64 x.f0.f1], [v2, .int .i64 x.f2.f0, .int .i64 x.f2.f1, .int .i64 x.f2.f2, .int .i64 x.f3, .int .i64 x.f4, .string x.f5, .int .i64 x.f6, v10, v11], rfl, (k46_mkM w base ok x.f0 ), ⟨[v2], [.int .i64 x.f2.f0, .int .i64 x.f2.f1, .int .i64 x.f2.f2, .int .i64 x.f3, .int .i64 x.f4, .string x.f5, .int .i64 x.f6, v10, v11], rfl, ⟨v2, rfl, g2⟩, ⟨[.int .i64 x.f2.f0, .int .i64 x.f2.f1, .int .i64 x.f2.f2], [.int .i64 x.f3, .int .i64 x.f4, .string x.f5, .int .i64 x.f6, v10, v11], rfl, (k48_mkM w base ok x.f2 ), ⟨[.int .i64 x.f3], [.int .i64 x.f4, .string x.f5, .int .i64 x.f6, v10, v11], rfl, rfl, ⟨[.int .i64 x.f4], [.string x.f5, .int .i64 x.f6, v10, v11], rfl, rfl, ⟨[.string x.f5], [.int .i64 x.f6, v10, v11], rfl, rfl, ⟨[.int .i64 x.f6], [v10, v11], rfl, rfl, ⟨[v10], [v11], rfl, ⟨v10, rfl, g10⟩, ⟨v11, rfl, g11⟩⟩⟩⟩⟩⟩⟩⟩⟩
theorem k52_openF {W : World} {ok : Nat → Prop} {x : S52} {cs : List Value} (h : Kd.FK k52 W ok x cs) : ∃ A2 c2 A10 c10 A11 c11, cs = [.int .i64 x.f0.f0, .int .i64 x.f0.f1, .slice A2 x.f1.length c2, .int .i64 x.f2.f0, .int .i64 x.f2.f1, .int .i64 x.f2.f2, .int .i64 x.f3, .int .i64 x.f4, .string x.f5, .int .i64 x.f6, .slice A10 x.f7.length c10, .slice A11 x.f8.length c11] ∧ x.f1.length ≤ c2 ∧ Kd.F (Kd.int .i64) W ok A2 x.f1.length x.f1 ∧ x.f7.length ≤ c10 ∧ Kd.F k92 W ok A10 x.f7.length x.f7 ∧ x.f8.length ≤ c11 ∧ Kd.F k46 W ok A11 x.f8.length x.f8 := by
 obtain ⟨A2, c2, A10, c10, A11, c11, rfl, l2, _, l10, _, l11, _⟩ := k52_open (Kd.FK_now h)
 exact ⟨A2, c2, A10, c10, A11, c11, rfl, l2, (fun W' hW => by obtain ⟨A2_, c2_, A10_, c10_, A11_, c11_, he, l2_, g2_, l10_, g10_, l11_, g11_⟩ := k52_open (h W' hW); injection (Option.some.inj (show some (Value.slice A2 x.f1.length c2) = some (Value.slice A2_ x.f1.length c2_) from congrArg (fun l => l[2]?) he)) with ha_ _ _; rw [ha_]; exact g2_), l10, (fun W' hW => by obtain ⟨A2_, c2_, A10_, c10_, A11_, c11_, he, l2_, g2_, l10_, g10_, l11_, g11_⟩ := k52_open (h W' hW); injection (Option.some.inj (show some (Value.slice A10 x.f7.length c10) = some (Value.slice A10_ x.f7.length c10_) from congrArg (fun l => l[10]?) he)) with ha_ _ _; rw [ha_]; exact g10_), l11, (fun W' hW => by obtain ⟨A2_, c2_, A10_, c10_, A11_, c11_, he, l2_, g2_, l10_, g10_, l11_, g11_⟩ := k52_open (h W' hW); injection (Option.some.inj (show some (Value.slice A11 x.f8.length c11) = some (Value.slice A11_ x.f8.length c11_) from congrArg (fun l => l[11]?) he)) with ha_ _ _; rw [ha_]; exact g11_)⟩
def rd_T52 (xs : List S52) (i : Int) : S52 := xs.getD i.toNat z52
theorem at_T52 {w : World} {A : Option Addr} {n : Nat} {xs : List S52} (h : Kd.C k52 w A n xs) (i : Int) (h0 : 0 ≤ i) (h1 : i < n) : ∃ ad A2 c2 A10 c10 A11 c11, A = some ad ∧ w.cell? (ad.add (i.toNat * 12)) = some (.int .i64 (rd_T52 xs i).f0.f0) ∧ w.cell? ⟨(ad.add (i.toNat * 12)).block, (ad.add (i.toNat * 12)).off + 1, none⟩ = some (.int .i64 (rd_T52 xs i).f0.f1) ∧ w.cell? ⟨(ad.add (i.toNat * 12)).block, (ad.add (i.toNat * 12)).off + 2, none⟩ = some (.slice A2 (rd_T52 xs i).f1.length c2) ∧ w.cell? ⟨(ad.add (i.toNat * 12)).block, (ad.add (i.toNat * 12)).off + 3, none⟩ = some (.int .i64 (rd_T52 xs i).f2.f0) ∧ w.cell? ⟨(ad.add (i.toNat * 12)).block, (ad.add (i.toNat * 12)).off + 4, none⟩ = some (.int .i64 (rd_T52 xs i).f2.f1) ∧ w.cell? ⟨(ad.add (i.toNat * 12)).block, (ad.add (i.toNat * 12)).off + 5, none⟩ = some (.int .i64 (rd_T52 xs i).f2.f2) ∧ w.cell? ⟨(ad.add (i.toNat * 12)).block, (ad.add (i.toNat * 12)).off + 6, none⟩ = some (.int .i64 (rd_T52 xs i).f3) ∧ w.cell? ⟨(ad.add (i.toNat * 12)).block, (ad.add (i.toNat * 12)).off + 7, none⟩ = some (.int .i64 (rd_T52 xs i).f4) ∧ w.cell? ⟨(ad.add (i.toNat * 12)).block, (ad.add (i.toNat * 12)).off + 8, none⟩ = some (.string (rd_T52 xs i).f5) ∧ w.cell? ⟨(ad.add (i.toNat * 12)).block, (ad.add (i.toNat * 12)).off + 9, none⟩ = some (.int .i64 (rd_T52 xs i).f6) ∧ w.cell? ⟨(ad.add (i.toNat * 12)).block, (ad.add (i.toNat * 12)).off + 10, none⟩ = some (.slice A10 (rd_T52 xs i).f7.length c10) ∧ w.cell? ⟨(ad.add (i.toNat * 12)).block, (ad.add (i.toNat * 12)).off + 11, none⟩ = some (.slice A11 (rd_T52 xs i).f8.length c11) ∧ (rd_T52 xs i).f1.length ≤ c2 ∧ (Kd.int .i64).C w A2 (rd_T52 xs i).f1.length (rd_T52 xs i).f1 ∧ (rd_T52 xs i).f7.length ≤ c10 ∧ k92.C w A10 (rd_T52 xs i).f7.length (rd_T52 xs i).f7 ∧ (rd_T52 xs i).f8.length ≤ c11 ∧ k46.C w A11 (rd_T52 xs i).f8.length (rd_T52 xs i).f8 := by
 obtain ⟨ad, c, e, _, hK, hc0⟩ := Kd.C_get h z52 i h0 h1
 have hc : ∀ j u, c[j]? = some u → w.cell? (ad.add (i.toNat * 12 + j)) = some u := hc0
 obtain ⟨A2, c2, A10, c10, A11, c11, rfl, l2, g2, l10, g10, l11, g11⟩ := k52_open hK
 exact ⟨ad, A2, c2, A10, c10, A11, c11, e, hc 0 _ rfl, by rw [← add_field _ _ 1 (by omega)]; exact hc 1 _ rfl, by rw [← add_field _ _ 2 (by omega)]; exact hc 2 _ rfl, by rw [← add_field _ _ 3 (by omega)]; exact hc 3 _ rfl, by rw [← add_field _ _ 4 (by omega)]; exact hc 4 _ rfl, by rw [← add_field _ _ 5 (by omega)]; exact hc 5 _ rfl, by rw [← add_field _ _ 6 (by omega)]; exact hc 6 _ rfl, by rw [← add_field _ _ 7 (by omega)]; exact hc 7 _ rfl, by rw [← add_field _ _ 8 (by omega)]; exact hc 8 _ rfl, by rw [← add_field _ _ 9 (by omega)]; exact hc 9 _ rfl, by rw [← add_field _ _ 10 (by omega)]; exact hc 10 _ rfl, by rw [← add_field _ _ 11 (by omega)]; exact hc 11 _ rfl, l2, g2, l10, g10, l11, g11⟩
structure S26 where
 f0 : Int
 f1 : Int
 f2 : Int
 f3 : (List Int)
 f4 : (List Int)
 f5 : (List S52)
def k26 : Kd S26 := Kd.iso (Kd.pair (Kd.int .i64) (Kd.pair (Kd.int .i64) (Kd.pair (Kd.int .i64) (Kd.pair (Kd.slice 3 (Kd.int .i64)) (Kd.pair (Kd.slice 3 (Kd.int .i64)) (Kd.slice 52 k52)))))) (fun x : S26 => (x.f0, x.f1, x.f2, x.f3, x.f4, x.f5))
theorem k26_open {w : World} {x : S26} {cs : List Value} (h : k26.K w x cs) : ∃ A3 c3 A4 c4 A5 c5, cs = [.int .i64 x.f0, .int .i64 x.f1, .int .i64 x.f2, .slice A3 x.f3.length c3, .slice A4 x.f4.length c4, .slice A5 x.f5.length c5] ∧ x.f3.length ≤ c3 ∧ (Kd.int .i64).C w A3 x.f3.length x.f3 ∧ x.f4.length ≤ c4 ∧ (Kd.int .i64).C w A4 x.f4.length x.f4 ∧ x.f5.length ≤ c5 ∧ k52.C w A5 x.f5.length x.f5 := by
 obtain ⟨_, _, rfl, rfl, ⟨_, _, rfl, rfl, ⟨_, _, rfl, rfl, ⟨_, _, rfl, ⟨A3, c3, rfl, l3, g3⟩, ⟨_, _, rfl, ⟨A4, c4, rfl, l4, g4⟩, ⟨A5, c5, rfl, l5, g5⟩⟩⟩⟩⟩⟩ := h
 exact ⟨A3, c3, A4, c4, A5, c5, rfl, l3, g3, l4, g4, l5, g5⟩
end Go.Proofs.YtnbjflcfdncocaaGreat.M
namespace Go.Proofs.YtnbjflcfdncocaaGreat.M
open Go.RowKit Go.Proofs.YtnbjflcfdncocaaGreatW.PrintWords Go.Proofs.YtnbjflcfdncocaaGreatW.PrintLast Go.Proofs.YtnbjflcfdncocaaGreatW.PrintMore
def idxF {α : Type} (p : α → Bool) : Nat → List α → Int
  | _, [] => -1
  | i, x :: l => if p x then (i : Int) else idxF p (i + 1) l
theorem idxF_any {α : Type} (p : α → Bool) : ∀ (l : List α) (i : Nat), decide (0 ≤ idxF p i l) = l.any p
  | [], _ => by simp [idxF]
  | x :: l, i => by
    unfold idxF
    cases h : p x
    · rw [if_neg (by decide), idxF_any p l (i + 1), List.any_cons, h, Bool.false_or]
    · rw [if_pos rfl, List.any_cons, h, Bool.true_or]; exact decide_eq_true (by omega)
theorem idxF_drop {α : Type} (p : α → Bool) (z : α) (l : List α) (k : Nat) (h : k < l.length) : idxF p k (l.drop k) = if p (l.getD k z) then (k : Int) else idxF p (k + 1) (l.drop (k + 1)) := by
  rw [List.drop_eq_getElem_cons h]
  simp [idxF, h]
theorem idxF_end {α : Type} (p : α → Bool) (l : List α) (k : Nat) : idxF p k (l.drop l.length) = -1 := by
  rw [List.drop_length]; rfl
def allF {α β : Type} (p : α → β → Bool) : List α → List β → Bool
  | [], [] => true
  | x :: a, y :: b => p x y && allF p a b
  | _, _ => false
theorem allF_length {α β : Type} (p : α → β → Bool) : ∀ (a : List α) (b : List β), a.length ≠ b.length → allF p a b = false
  | [], [], h => absurd rfl h
  | [], _ :: _, _ => rfl
  | _ :: _, [], _ => rfl
  | x :: a, y :: b, h => by
    simp only [allF, allF_length p a b (by simpa using h), Bool.and_false]
theorem allF_drop {α β : Type} (p : α → β → Bool) (z : α) (u : β) (a : List α) (b : List β) (k : Nat) (ha : k < a.length) (hb : k < b.length) : allF p (a.drop k) (b.drop k) = (p (a.getD k z) (b.getD k u) && allF p (a.drop (k + 1)) (b.drop (k + 1))) := by
  rw [List.drop_eq_getElem_cons ha, List.drop_eq_getElem_cons hb]
  simp [allF, ha, hb]
theorem allF_end {α β : Type} (p : α → β → Bool) (a : List α) (b : List β) (h : a.length = b.length) : allF p (a.drop a.length) (b.drop a.length) = true := by
  rw [List.drop_length, h, List.drop_length]; rfl
theorem rd_getD (l : List Int) (k : Nat) : rd l (k : Int) = l.getD k 0 := by simp [rd]
set_option maxHeartbeats 1000000 in
set_option maxRecDepth 100000 in
theorem IndexFunc_int (F : Nat) (eg : ∀ args (W : World), (callFunc F args).run Tryz.prog W = .ok (.enter F args) W) (p : Int → Bool) (hF : ∀ (x : Int) (W : World), Calls Tryz.prog F #[.int .i64 x] W fun e w' => e = .returned (.bool (p x)) ∧ Below W.heap.size W w')
    (A0 : Option Addr) (c0 : Nat) (l0 : List Int) (w : World) (hr0 : Kd.C (Kd.int .i64) w A0 l0.length l0) :
    Calls Tryz.prog 105 #[.slice A0 l0.length c0, .func (.func F) #[] #[]] w fun e w' => e = .returned (.int .i64 (idxF p 0 l0)) ∧ Below w.heap.size w w' := by
  have HR := Aside0.mk hr0
  have HF := Aside0.mk hF
  have hm : l0.length ≤ 9223372036854775807 := hr0.2.1
  clear hr0 hF
  go_enter Tryz.func105, Tryz.ntmps105
  go_wp2
  go_loopw [8] (fun v wr => ∃ k : Nat, k ≤ l0.length ∧ v = .int .i64 k ∧ Aside0 (Below w.heap.size w wr) ∧ Aside0 (idxF p 0 l0 = idxF p k (l0.drop k))) (fun v _ => l0.length - (intOf v).toNat)
  case atStart => exact ⟨0, by omega, rfl, ⟨Below.refl _ _⟩, ⟨rfl⟩⟩
  case round =>
    obtain ⟨k, hk, rfl, HD, HP⟩ := hrel
    by_cases hlt : k < l0.length
    · obtain ⟨ad, e, hc0⟩ := Kd.at_int (Kd.C_below HR.out HD.out) (k : Int) (by omega) (by omega)
      subst e
      rw [Int.toNat_natCast] at hc0
      have HI := Aside0.mk (idxF_drop p 0 l0 k hlt)
      rw [rd_getD] at hc0
      obtain ⟨x, hx⟩ : ∃ x, x = l0.getD k 0 := ⟨_, rfl⟩
      rw [← hx] at hc0 HI
      clear hx
      obtain ⟨b, hb⟩ : ∃ b, b = p x := ⟨_, rfl⟩
      have hF := HF.out x
      rw [← hb] at hF HI
      have HF2 := Aside0.mk hF
      clear hb hF
      cases b
      · go_wp2_with (refine (HF2.out _).mono ?_; rintro e w' ⟨rfl, hb2⟩; have HD2 := Aside0.mk hb2; clear hb2)
        go_roundw
        case rel => exact ⟨k + 1, by omega, by go_num, ⟨below_step HD.out HD2.out⟩, ⟨by rw [HP.out, HI.out]; rfl⟩⟩
        case measure => simp [intOf]; omega
      · go_wp2_with (refine (HF2.out _).mono ?_; rintro e w' ⟨rfl, hb2⟩; have HD2 := Aside0.mk hb2; clear hb2)
        go_ret
        exact ⟨by rw [HP.out, HI.out]; rfl, below_step HD.out HD2.out⟩
    · obtain rfl : k = l0.length := by omega
      go_wp2
      go_ret
      exact ⟨by rw [HP.out, idxF_end]; rfl, HD.out⟩
set_option maxHeartbeats 1000000 in
set_option maxRecDepth 100000 in
theorem ContainsFunc_int (F : Nat) (eg : ∀ args (W : World), (callFunc F args).run Tryz.prog W = .ok (.enter F args) W) (p : Int → Bool) (hF : ∀ (x : Int) (W : World), Calls Tryz.prog F #[.int .i64 x] W fun e w' => e = .returned (.bool (p x)) ∧ Below W.heap.size W w')
    (A0 : Option Addr) (c0 : Nat) (l0 : List Int) (w : World) (hr0 : Kd.C (Kd.int .i64) w A0 l0.length l0) :
    Calls Tryz.prog 76 #[.slice A0 l0.length c0, .func (.func F) #[] #[]] w fun e w' => e = .returned (.bool (l0.any p)) ∧ Below w.heap.size w w' := by
  have HR := Aside0.mk hr0
  have HF := Aside0.mk hF
  have EG := Aside0.mk eg
  clear hr0 hF eg
  obtain ⟨b, hb⟩ : ∃ b, b = decide (0 ≤ idxF p 0 l0) := ⟨_, rfl⟩
  rw [← idxF_any p l0 0, ← hb]
  have HB := Aside0.mk hb
  clear hb
  go_enter Tryz.func76, Tryz.ntmps76
  go_wp2_with (go_at_call 105; refine (IndexFunc_int F EG.out p HF.out _ _ l0 _ HR.out).mono ?_; rintro e w' ⟨rfl, hb2⟩; have HD2 := Aside0.mk hb2; clear hb2)
  go_ret
  exact ⟨by rw [HB.out]; rfl, HD2.out⟩
set_option maxHeartbeats 1000000 in
set_option maxRecDepth 100000 in
theorem IndexFunc_Value (F : Nat) (eg : ∀ args (W : World), (callFunc F args).run Tryz.prog W = .ok (.enter F args) W) (p : S92 → Bool) (hF : ∀ (x : S92) (W : World), Calls Tryz.prog F #[.agg #[.int .i64 x.f0, .int .i64 x.f1, .string x.f2]] W fun e w' => e = .returned (.bool (p x)) ∧ Below W.heap.size W w')
    (A0 : Option Addr) (c0 : Nat) (l0 : List S92) (w : World) (hr0 : Kd.C k92 w A0 l0.length l0) :
    Calls Tryz.prog 134 #[.slice A0 l0.length c0, .func (.func F) #[] #[]] w fun e w' => e = .returned (.int .i64 (idxF p 0 l0)) ∧ Below w.heap.size w w' := by
  have HR := Aside0.mk hr0
  have HF := Aside0.mk hF
  have hm : l0.length ≤ 9223372036854775807 := hr0.2.1
  clear hr0 hF
  go_enter Tryz.func134, Tryz.ntmps134
  go_wp2
  go_loopw [8] (fun v wr => ∃ k : Nat, k ≤ l0.length ∧ v = .int .i64 k ∧ Aside0 (Below w.heap.size w wr) ∧ Aside0 (idxF p 0 l0 = idxF p k (l0.drop k))) (fun v _ => l0.length - (intOf v).toNat)
  case atStart => exact ⟨0, by omega, rfl, ⟨Below.refl _ _⟩, ⟨rfl⟩⟩
  case round =>
    obtain ⟨k, hk, rfl, HD, HP⟩ := hrel
    by_cases hlt : k < l0.length
    · obtain ⟨ad, e, hc0, hc1, hc2⟩ := at_T92 (Kd.C_below HR.out HD.out) (k : Int) (by omega) (by omega)
      subst e
      rw [Int.toNat_natCast] at hc0 hc1 hc2
      have HI := Aside0.mk (idxF_drop p z92 l0 k hlt)
      have hrd : rd_T92 l0 (k : Int) = l0.getD k z92 := by simp [rd_T92]
      rw [hrd] at hc0 hc1 hc2
      obtain ⟨x, hx⟩ : ∃ x, x = l0.getD k z92 := ⟨_, rfl⟩
      rw [← hx] at hc0 hc1 hc2 HI
      clear hrd
      clear hx
      obtain ⟨b, hb⟩ : ∃ b, b = p x := ⟨_, rfl⟩
      have hF := HF.out x
      rw [← hb] at hF HI
      have HF2 := Aside0.mk hF
      clear hb hF
      cases b
      · go_wp2_with (refine (HF2.out _).mono ?_; rintro e w' ⟨rfl, hb2⟩; have HD2 := Aside0.mk hb2; clear hb2)
        go_roundw
        case rel => exact ⟨k + 1, by omega, by go_num, ⟨below_step HD.out HD2.out⟩, ⟨by rw [HP.out, HI.out]; rfl⟩⟩
        case measure => simp [intOf]; omega
      · go_wp2_with (refine (HF2.out _).mono ?_; rintro e w' ⟨rfl, hb2⟩; have HD2 := Aside0.mk hb2; clear hb2)
        go_ret
        exact ⟨by rw [HP.out, HI.out]; rfl, below_step HD.out HD2.out⟩
    · obtain rfl : k = l0.length := by omega
      go_wp2
      go_ret
      exact ⟨by rw [HP.out, idxF_end]; rfl, HD.out⟩
set_option maxHeartbeats 1000000 in
set_option maxRecDepth 100000 in
theorem ContainsFunc_Value (F : Nat) (eg : ∀ args (W : World), (callFunc F args).run Tryz.prog W = .ok (.enter F args) W) (p : S92 → Bool) (hF : ∀ (x : S92) (W : World), Calls Tryz.prog F #[.agg #[.int .i64 x.f0, .int .i64 x.f1, .string x.f2]] W fun e w' => e = .returned (.bool (p x)) ∧ Below W.heap.size W w')
    (A0 : Option Addr) (c0 : Nat) (l0 : List S92) (w : World) (hr0 : Kd.C k92 w A0 l0.length l0) :
    Calls Tryz.prog 119 #[.slice A0 l0.length c0, .func (.func F) #[] #[]] w fun e w' => e = .returned (.bool (l0.any p)) ∧ Below w.heap.size w w' := by
  have HR := Aside0.mk hr0
  have HF := Aside0.mk hF
  have EG := Aside0.mk eg
  clear hr0 hF eg
  obtain ⟨b, hb⟩ : ∃ b, b = decide (0 ≤ idxF p 0 l0) := ⟨_, rfl⟩
  rw [← idxF_any p l0 0, ← hb]
  have HB := Aside0.mk hb
  clear hb
  go_enter Tryz.func119, Tryz.ntmps119
  go_wp2_with (go_at_call 134; refine (IndexFunc_Value F EG.out p HF.out _ _ l0 _ HR.out).mono ?_; rintro e w' ⟨rfl, hb2⟩; have HD2 := Aside0.mk hb2; clear hb2)
  go_ret
  exact ⟨by rw [HB.out]; rfl, HD2.out⟩
set_option maxHeartbeats 1000000 in
set_option maxRecDepth 100000 in
theorem IndexFunc_Table (F : Nat) (eg : ∀ args (W : World), (callFunc F args).run Tryz.prog W = .ok (.enter F args) W) (p : S56 → Bool) (hF : ∀ (x : S56) (W : World), ∀ (A1 : Option Addr) (c1 : Nat), x.f0.length ≤ c1 → Kd.C (Kd.int .i64) W A1 x.f0.length x.f0 → Calls Tryz.prog F #[.agg #[.slice A1 x.f0.length c1]] W fun e w' => e = .returned (.bool (p x)) ∧ Below W.heap.size W w')
    (A0 : Option Addr) (c0 : Nat) (l0 : List S56) (w : World) (hr0 : Kd.C k56 w A0 l0.length l0) :
    Calls Tryz.prog 104 #[.slice A0 l0.length c0, .func (.func F) #[] #[]] w fun e w' => e = .returned (.int .i64 (idxF p 0 l0)) ∧ Below w.heap.size w w' := by
  have HR := Aside0.mk hr0
  have HF := Aside0.mk hF
  have hm : l0.length ≤ 9223372036854775807 := hr0.2.1
  clear hr0 hF
  go_enter Tryz.func104, Tryz.ntmps104
  go_wp2
  go_loopw [8] (fun v wr => ∃ k : Nat, k ≤ l0.length ∧ v = .int .i64 k ∧ Aside0 (Below w.heap.size w wr) ∧ Aside0 (idxF p 0 l0 = idxF p k (l0.drop k))) (fun v _ => l0.length - (intOf v).toNat)
  case atStart => exact ⟨0, by omega, rfl, ⟨Below.refl _ _⟩, ⟨rfl⟩⟩
  case round =>
    obtain ⟨k, hk, rfl, HD, HP⟩ := hrel
    by_cases hlt : k < l0.length
    · obtain ⟨ad, A1, c1, e, hc0, hl1, hr1⟩ := at_T56 (Kd.C_below HR.out HD.out) (k : Int) (by omega) (by omega)
      subst e
      rw [Int.toNat_natCast] at hc0
      have HI := Aside0.mk (idxF_drop p z56 l0 k hlt)
      have hrd : rd_T56 l0 (k : Int) = l0.getD k z56 := by simp [rd_T56]
      rw [hrd] at hc0 hl1 hr1
      obtain ⟨x, hx⟩ : ∃ x, x = l0.getD k z56 := ⟨_, rfl⟩
      rw [← hx] at hc0 hl1 hr1 HI
      clear hrd
      have HL1 := Aside0.mk hl1
      have HR1 := Aside0.mk hr1
      clear hl1 hr1
      clear hx
      obtain ⟨b, hb⟩ : ∃ b, b = p x := ⟨_, rfl⟩
      have hF := HF.out x
      rw [← hb] at hF HI
      have HF2 := Aside0.mk hF
      clear hb hF
      cases b
      · go_wp2_with (refine (HF2.out _ A1 c1 HL1.out HR1.out).mono ?_; rintro e w' ⟨rfl, hb2⟩; have HD2 := Aside0.mk hb2; clear hb2)
        go_roundw
        case rel => exact ⟨k + 1, by omega, by go_num, ⟨below_step HD.out HD2.out⟩, ⟨by rw [HP.out, HI.out]; rfl⟩⟩
        case measure => simp [intOf]; omega
      · go_wp2_with (refine (HF2.out _ A1 c1 HL1.out HR1.out).mono ?_; rintro e w' ⟨rfl, hb2⟩; have HD2 := Aside0.mk hb2; clear hb2)
        go_ret
        exact ⟨by rw [HP.out, HI.out]; rfl, below_step HD.out HD2.out⟩
    · obtain rfl : k = l0.length := by omega
      go_wp2
      go_ret
      exact ⟨by rw [HP.out, idxF_end]; rfl, HD.out⟩
set_option maxHeartbeats 1000000 in
set_option maxRecDepth 100000 in
theorem ContainsFunc_Table (F : Nat) (eg : ∀ args (W : World), (callFunc F args).run Tryz.prog W = .ok (.enter F args) W) (p : S56 → Bool) (hF : ∀ (x : S56) (W : World), ∀ (A1 : Option Addr) (c1 : Nat), x.f0.length ≤ c1 → Kd.C (Kd.int .i64) W A1 x.f0.length x.f0 → Calls Tryz.prog F #[.agg #[.slice A1 x.f0.length c1]] W fun e w' => e = .returned (.bool (p x)) ∧ Below W.heap.size W w')
    (A0 : Option Addr) (c0 : Nat) (l0 : List S56) (w : World) (hr0 : Kd.C k56 w A0 l0.length l0) :
    Calls Tryz.prog 74 #[.slice A0 l0.length c0, .func (.func F) #[] #[]] w fun e w' => e = .returned (.bool (l0.any p)) ∧ Below w.heap.size w w' := by
  have HR := Aside0.mk hr0
  have HF := Aside0.mk hF
  have EG := Aside0.mk eg
  clear hr0 hF eg
  obtain ⟨b, hb⟩ : ∃ b, b = decide (0 ≤ idxF p 0 l0) := ⟨_, rfl⟩
  rw [← idxF_any p l0 0, ← hb]
  have HB := Aside0.mk hb
  clear hb
  go_enter Tryz.func74, Tryz.ntmps74
  go_wp2_with (go_at_call 104; refine (IndexFunc_Table F EG.out p HF.out _ _ l0 _ HR.out).mono ?_; rintro e w' ⟨rfl, hb2⟩; have HD2 := Aside0.mk hb2; clear hb2)
  go_ret
  exact ⟨by rw [HB.out]; rfl, HD2.out⟩
set_option maxHeartbeats 1000000 in
set_option maxRecDepth 100000 in
theorem EqualFunc_int_int (F : Nat) (eg : ∀ args (W : World), (callFunc F args).run Tryz.prog W = .ok (.enter F args) W) (p : Int → Int → Bool) (hF : ∀ (x : Int) (y : Int) (W : World), Calls Tryz.prog F #[.int .i64 x, .int .i64 y] W fun e w' => e = .returned (.bool (p x y)) ∧ Below W.heap.size W w')
    (A0 : Option Addr) (c0 : Nat) (l0 : List Int) (A1 : Option Addr) (c1 : Nat) (l1 : List Int) (w : World) (hr0 : Kd.C (Kd.int .i64) w A0 l0.length l0) (hr1 : Kd.C (Kd.int .i64) w A1 l1.length l1) :
    Calls Tryz.prog 129 #[.slice A0 l0.length c0, .slice A1 l1.length c1, .func (.func F) #[] #[]] w fun e w' => e = .returned (.bool (allF p l0 l1)) ∧ Below w.heap.size w w' := by
  have HR := Aside0.mk hr0
  have HS := Aside0.mk hr1
  have HF := Aside0.mk hF
  have hm : l0.length ≤ 9223372036854775807 := hr0.2.1
  clear hr0 hr1 hF
  by_cases hl : l0.length = l1.length
  · have hl2 : (l0.length == l1.length) = true := beq_iff_eq.2 hl
    have hl3 : ((l0.length : Int) == (l1.length : Int)) = true := beq_iff_eq.2 (by omega)
    have hl4 : ((l0.length : Int) != (l1.length : Int)) = false := bne_eq_false_iff_eq.2 (by omega)
    have HL := Aside0.mk hl
    have hle : l0.length ≤ l1.length := by omega
    clear hl
    go_enter Tryz.func129, Tryz.ntmps129
    go_wp2
    clear hl2 hl3 hl4
    go_loopw [17] (fun v wr => ∃ k : Nat, k ≤ l0.length ∧ v = .int .i64 k ∧ Aside0 (Below w.heap.size w wr) ∧ Aside0 (allF p l0 l1 = allF p (l0.drop k) (l1.drop k))) (fun v _ => l0.length - (intOf v).toNat)
    case atStart => exact ⟨0, by omega, rfl, ⟨Below.refl _ _⟩, ⟨rfl⟩⟩
    case round =>
      obtain ⟨k, hk, rfl, HD, HP⟩ := hrel
      by_cases hlt : k < l0.length
      · obtain ⟨ad, e, hc0⟩ := Kd.at_int (Kd.C_below HR.out HD.out) (k : Int) (by omega) (by omega)
        subst e
        obtain ⟨ad2, e, hd0⟩ := Kd.at_int (Kd.C_below HS.out HD.out) (k : Int) (by omega) (by omega)
        subst e
        rw [Int.toNat_natCast] at hc0 hd0
        have hlt2 : k < l1.length := by omega
        have HI := Aside0.mk (allF_drop p 0 0 l0 l1 k hlt hlt2)
        rw [rd_getD] at hc0
        rw [rd_getD] at hd0
        obtain ⟨x, hx⟩ : ∃ x, x = l0.getD k 0 := ⟨_, rfl⟩
        obtain ⟨y, hy⟩ : ∃ y, y = l1.getD k 0 := ⟨_, rfl⟩
        rw [← hx] at hc0 HI
        rw [← hy] at hd0 HI
        clear hx hy
        obtain ⟨b, hb⟩ : ∃ b, b = p x y := ⟨_, rfl⟩
        have hF := HF.out x y
        rw [← hb] at hF HI
        have HF2 := Aside0.mk hF
        clear hb hF
        cases b
        · go_wp2_with (refine (HF2.out _).mono ?_; rintro e w' ⟨rfl, hb2⟩; have HD2 := Aside0.mk hb2; clear hb2)
          go_ret
          exact ⟨by rw [HP.out, HI.out]; rfl, below_step HD.out HD2.out⟩
        · go_wp2_with (refine (HF2.out _).mono ?_; rintro e w' ⟨rfl, hb2⟩; have HD2 := Aside0.mk hb2; clear hb2)
          go_roundw
          case rel => exact ⟨k + 1, by omega, by go_num, ⟨below_step HD.out HD2.out⟩, ⟨by rw [HP.out, HI.out]; rfl⟩⟩
          case measure => simp [intOf]; omega
      · obtain rfl : k = l0.length := by omega
        go_wp2
        go_ret
        exact ⟨by rw [HP.out, allF_end p l0 l1 HL.out]; rfl, HD.out⟩
  · have hl2 : (l0.length == l1.length) = false := beq_eq_false_iff_ne.2 hl
    have hl3 : ((l0.length : Int) == (l1.length : Int)) = false := beq_eq_false_iff_ne.2 (by omega)
    have hl4 : ((l0.length : Int) != (l1.length : Int)) = true := bne_iff_ne.2 (by omega)
    have HL := Aside0.mk hl
    go_enter Tryz.func129, Tryz.ntmps129
    go_wp2
    go_ret
    exact ⟨by rw [allF_length p l0 l1 HL.out]; rfl, Below.refl _ _⟩
set_option maxHeartbeats 1000000 in
set_option maxRecDepth 100000 in
theorem EqualFunc_Value_int (F : Nat) (eg : ∀ args (W : World), (callFunc F args).run Tryz.prog W = .ok (.enter F args) W) (p : S92 → Int → Bool) (hF : ∀ (x : S92) (y : Int) (W : World), Calls Tryz.prog F #[.agg #[.int .i64 x.f0, .int .i64 x.f1, .string x.f2], .int .i64 y] W fun e w' => e = .returned (.bool (p x y)) ∧ Below W.heap.size W w')
    (A0 : Option Addr) (c0 : Nat) (l0 : List S92) (A1 : Option Addr) (c1 : Nat) (l1 : List Int) (w : World) (hr0 : Kd.C k92 w A0 l0.length l0) (hr1 : Kd.C (Kd.int .i64) w A1 l1.length l1) :
    Calls Tryz.prog 145 #[.slice A0 l0.length c0, .slice A1 l1.length c1, .func (.func F) #[] #[]] w fun e w' => e = .returned (.bool (allF p l0 l1)) ∧ Below w.heap.size w w' := by
  have HR := Aside0.mk hr0
  have HS := Aside0.mk hr1
  have HF := Aside0.mk hF
  have hm : l0.length ≤ 9223372036854775807 := hr0.2.1
  clear hr0 hr1 hF
  by_cases hl : l0.length = l1.length
  · have hl2 : (l0.length == l1.length) = true := beq_iff_eq.2 hl
    have hl3 : ((l0.length : Int) == (l1.length : Int)) = true := beq_iff_eq.2 (by omega)
    have hl4 : ((l0.length : Int) != (l1.length : Int)) = false := bne_eq_false_iff_eq.2 (by omega)
    have HL := Aside0.mk hl
    have hle : l0.length ≤ l1.length := by omega
    clear hl
    go_enter Tryz.func145, Tryz.ntmps145
    go_wp2
    clear hl2 hl3 hl4
    go_loopw [17] (fun v wr => ∃ k : Nat, k ≤ l0.length ∧ v = .int .i64 k ∧ Aside0 (Below w.heap.size w wr) ∧ Aside0 (allF p l0 l1 = allF p (l0.drop k) (l1.drop k))) (fun v _ => l0.length - (intOf v).toNat)
    case atStart => exact ⟨0, by omega, rfl, ⟨Below.refl _ _⟩, ⟨rfl⟩⟩
    case round =>
      obtain ⟨k, hk, rfl, HD, HP⟩ := hrel
      by_cases hlt : k < l0.length
      · obtain ⟨ad, e, hc0, hc1, hc2⟩ := at_T92 (Kd.C_below HR.out HD.out) (k : Int) (by omega) (by omega)
        subst e
        obtain ⟨ad2, e, hd0⟩ := Kd.at_int (Kd.C_below HS.out HD.out) (k : Int) (by omega) (by omega)
        subst e
        rw [Int.toNat_natCast] at hc0 hc1 hc2 hd0
        have hlt2 : k < l1.length := by omega
        have HI := Aside0.mk (allF_drop p z92 0 l0 l1 k hlt hlt2)
        have hrd : rd_T92 l0 (k : Int) = l0.getD k z92 := by simp [rd_T92]
        rw [hrd] at hc0 hc1 hc2
        clear hrd
        rw [rd_getD] at hd0
        obtain ⟨x, hx⟩ : ∃ x, x = l0.getD k z92 := ⟨_, rfl⟩
        obtain ⟨y, hy⟩ : ∃ y, y = l1.getD k 0 := ⟨_, rfl⟩
        rw [← hx] at hc0 hc1 hc2 HI
        rw [← hy] at hd0 HI
        clear hx hy
        have hd1 := fun (o : Obj) => pw_cell_below (below_alloc (Below.refl wr.heap.size wr) o) hd0
        obtain ⟨b, hb⟩ : ∃ b, b = p x y := ⟨_, rfl⟩
        have hF := HF.out x y
        rw [← hb] at hF HI
        have HF2 := Aside0.mk hF
        clear hb hF
        cases b
        · go_wp2_with (refine (HF2.out _).mono ?_; rintro e w' ⟨rfl, hb2⟩; have HD2 := Aside0.mk hb2; clear hb2)
          go_ret
          exact ⟨by rw [HP.out, HI.out]; rfl, below_step (below_alloc HD.out _) HD2.out⟩
        · go_wp2_with (refine (HF2.out _).mono ?_; rintro e w' ⟨rfl, hb2⟩; have HD2 := Aside0.mk hb2; clear hb2)
          go_roundw
          case rel => exact ⟨k + 1, by omega, by go_num, ⟨below_step (below_alloc HD.out _) HD2.out⟩, ⟨by rw [HP.out, HI.out]; rfl⟩⟩
          case measure => simp [intOf]; omega
      · obtain rfl : k = l0.length := by omega
        go_wp2
        go_ret
        exact ⟨by rw [HP.out, allF_end p l0 l1 HL.out]; rfl, HD.out⟩
  · have hl2 : (l0.length == l1.length) = false := beq_eq_false_iff_ne.2 hl
    have hl3 : ((l0.length : Int) == (l1.length : Int)) = false := beq_eq_false_iff_ne.2 (by omega)
    have hl4 : ((l0.length : Int) != (l1.length : Int)) = true := bne_iff_ne.2 (by omega)
    have HL := Aside0.mk hl
    go_enter Tryz.func145, Tryz.ntmps145
    go_wp2
    go_ret
    exact ⟨by rw [allF_length p l0 l1 HL.out]; rfl, Below.refl _ _⟩
end Go.Proofs.YtnbjflcfdncocaaGreat.M
namespace Go.Proofs.YtnbjflcfdncocaaGreat.M
open Go.RowKit Go.Proofs.YtnbjflcfdncocaaGreatW.PrintWords Go.Proofs.YtnbjflcfdncocaaGreatW.PrintLast Go.Proofs.YtnbjflcfdncocaaGreatW.PrintMore
attribute [local go_sem] max2_int min2_int max_two min_two max_three min_three max_four min_four
set_option linter.unusedVariables false
set_option linter.unusedSimpArgs false
def op_Forms_1.f (l0_0 : List Int) : Option (Bool) := if (l0_0.length : Int) < 1 then (some true) else (some (decide ((l0_0.length : Int) > 4)))
set_option maxHeartbeats 8000000 in
set_option maxRecDepth 100000 in
theorem op_Forms_1.calls (A0_0 : Option Addr) (c0_0 : Nat) (l0_0 : List Int) (r : Bool) (w : World) (hr0_0 : Kd.C (Kd.int .i64) w A0_0 l0_0.length l0_0) (hc0_0 : l0_0.length ≤ c0_0) (h : op_Forms_1.f l0_0 = some r) :
  Calls Tryz.prog 75 #[.agg #[.slice A0_0 l0_0.length c0_0]] w fun e w' => e = .returned (.bool r) ∧ Below w.heap.size w w' := by
 have hu56 := Tryz.underlying56
 have HR0_0 := Aside0.mk hr0_0
 have HC0_0 := Aside0.mk hc0_0
 clear hr0_0 hc0_0
 have HB := Aside0.mk (Below.refl w.heap.size w)
 have H : (if (l0_0.length : Int) < 1 then (some true) else (some (decide ((l0_0.length : Int) > 4)))) = some r := h
 clear h
 by_cases c2 : (l0_0.length : Int) < 1
 ·rw [if_pos c2] at H
  have c2b0 : decide ((l0_0.length : Int) < 1) = true := decide_eq_true c2
  have c2b1 : decide (l0_0.length < 1) = true := decide_eq_true (by omega)
  clear c2
  obtain rfl := Option.some.inj H
  go_enter Tryz.func75, Tryz.ntmps75
  go_wp2_with (first | ((with_reducible refine gate_dst (N := 1) rfl ?_); (try (refine gate_guard (by rfl) ?_; dsimp only)); refine box_event ?hg (N := 1) ?hd (cs := #[.slice A0_0 l0_0.length c0_0]) (t := 56) ?hr ?_; (case hd => rfl); (case hg => rfl); (case hr => first | (go_simp; done) | (go_simp; rfl)); intro gb101 hg w3 hbox hb; have n0_ := Aside0.mk (below_step (by with_reducible repeat (first | exact HB.out | apply below_alloc | apply pw_below_drewN | apply below_drew1)) hb); have n1_ := Aside0.mk (hbox); have n2_ := Aside0.mk ((by rw [hg]; exact (below_size (by with_reducible repeat (first | exact HB.out | apply below_alloc | apply pw_below_drewN | apply below_drew1))) : w.heap.size ≤ gb101)); have n3_ := Aside0.mk ((by rw [hg]; exact (below_size (by with_reducible repeat (first | exact HB.out | apply below_alloc | apply pw_below_drewN | apply below_drew1))) : w.heap.size ≤ gb101)); clear HB; have HB := n0_; have BK101 := n1_; have GW101 := n2_; have GE101 := n3_; clear n0_ n1_ n2_ n3_; clear hb hbox hg; have hcz4_0 : w3.cell? ⟨gb101, 0, none⟩ = some (.slice A0_0 l0_0.length c0_0) := (blk_cell BK101.out 0).trans rfl; have hfz4_0 := blk_frozen BK101.out 0))
  go_ret
  exact ⟨by first | rfl | (simp [errW_none, errW_some] <;> rfl) | (simp [*, errW_none, errW_some] <;> rfl), by with_reducible repeat (first | exact HB.out | apply below_alloc | apply pw_below_drewN | apply below_drew1 | refine below_set ?_ GE101.out)⟩
 ·rw [if_neg c2] at H
  have c2b0 : decide ((l0_0.length : Int) < 1) = false := decide_eq_false c2
  have c2b1 : decide (l0_0.length < 1) = false := decide_eq_false (by omega)
  clear c2
  obtain rfl := Option.some.inj H
  go_enter Tryz.func75, Tryz.ntmps75
  go_wp2_with (first | ((with_reducible refine gate_dst (N := 1) rfl ?_); (try (refine gate_guard (by rfl) ?_; dsimp only)); refine box_event ?hg (N := 1) ?hd (cs := #[.slice A0_0 l0_0.length c0_0]) (t := 56) ?hr ?_; (case hd => rfl); (case hg => rfl); (case hr => first | (go_simp; done) | (go_simp; rfl)); intro gb101 hg w5 hbox hb; have n0_ := Aside0.mk (below_step (by with_reducible repeat (first | exact HB.out | apply below_alloc | apply pw_below_drewN | apply below_drew1)) hb); have n1_ := Aside0.mk (hbox); have n2_ := Aside0.mk ((by rw [hg]; exact (below_size (by with_reducible repeat (first | exact HB.out | apply below_alloc | apply pw_below_drewN | apply below_drew1))) : w.heap.size ≤ gb101)); have n3_ := Aside0.mk ((by rw [hg]; exact (below_size (by with_reducible repeat (first | exact HB.out | apply below_alloc | apply pw_below_drewN | apply below_drew1))) : w.heap.size ≤ gb101)); clear HB; have HB := n0_; have BK101 := n1_; have GW101 := n2_; have GE101 := n3_; clear n0_ n1_ n2_ n3_; clear hb hbox hg; have hcz6_0 : w5.cell? ⟨gb101, 0, none⟩ = some (.slice A0_0 l0_0.length c0_0) := (blk_cell BK101.out 0).trans rfl; have hfz6_0 := blk_frozen BK101.out 0))
  go_ret
  exact ⟨by first | rfl | (simp [errW_none, errW_some] <;> rfl) | (simp [*, errW_none, errW_some] <;> rfl), by with_reducible repeat (first | exact HB.out | apply below_alloc | apply pw_below_drewN | apply below_drew1 | refine below_set ?_ GE101.out)⟩
end Go.Proofs.YtnbjflcfdncocaaGreat.M
namespace Go.Proofs.YtnbjflcfdncocaaGreat.M
open Go.RowKit Go.Proofs.YtnbjflcfdncocaaGreatW.PrintWords Go.Proofs.YtnbjflcfdncocaaGreatW.PrintLast Go.Proofs.YtnbjflcfdncocaaGreatW.PrintMore
def contains_Forms_1.p (x : S56) : Bool := (op_Forms_1.f x.f0).getD false
theorem contains_Forms_1.p_eq (x : S56) : op_Forms_1.f x.f0 = some (contains_Forms_1.p x) := by
  have h : (op_Forms_1.f x.f0).isSome = true := by
    unfold op_Forms_1.f; split <;> rfl
  unfold contains_Forms_1.p
  obtain ⟨b, hb⟩ := Option.isSome_iff_exists.1 h
  rw [hb]; rfl
def contains_Forms_1.f (l0 : List S56) : Option Bool := some (l0.any contains_Forms_1.p)
theorem contains_Forms_1.calls (A0 : Option Addr) (c0 : Nat) (l0 : List S56) (r : Bool) (w : World) (hr0 : Kd.C k56 w A0 l0.length l0) (_hc0 : l0.length ≤ c0) (h : contains_Forms_1.f l0 = some r) :
    Calls Tryz.prog 74 #[.slice A0 l0.length c0, .func (.func 75) #[] #[]] w fun e w' => e = .returned (.bool r) ∧ Below w.heap.size w w' := by
  obtain rfl := Option.some.inj h
  exact ContainsFunc_Table 75 (enters_ Tryz.func75 (by kernel_rfl) (by kernel_rfl)) contains_Forms_1.p (fun x W A1 c1 hl1 hr1 => (op_Forms_1.calls A1 c1 x.f0 _ W hr1 hl1 (contains_Forms_1.p_eq x)).mono fun e w' ⟨he, hd⟩ => ⟨he, hd⟩) A0 c0 l0 w hr0
end Go.Proofs.YtnbjflcfdncocaaGreat.M
namespace Go.Proofs.YtnbjflcfdncocaaGreat.M
open Go.RowKit Go.Proofs.YtnbjflcfdncocaaGreatW.PrintWords Go.Proofs.YtnbjflcfdncocaaGreatW.PrintLast Go.Proofs.YtnbjflcfdncocaaGreatW.PrintMore
attribute [local go_sem] max2_int min2_int max_two min_two max_three min_three max_four min_four
set_option linter.unusedVariables false
set_option linter.unusedSimpArgs false
def op_Forms_2.f (a0 : Int) : Option (Bool) := if a0 < 2 then (some true) else (some (decide (a0 > 4)))
set_option maxHeartbeats 8000000 in
set_option maxRecDepth 100000 in
theorem op_Forms_2.calls (a0 : Int) (r : Bool) (w : World) (h : op_Forms_2.f a0 = some r) :
  Calls Tryz.prog 77 #[.int .i64 a0] w fun e w' => e = .returned (.bool r) ∧ Drawn0 w w' := by
 have H : (if a0 < 2 then (some true) else (some (decide (a0 > 4)))) = some r := h
 clear h
 by_cases c2 : a0 < 2
 ·rw [if_pos c2] at H
  have c2b0 : decide (a0 < 2) = true := decide_eq_true c2
  clear c2
  obtain rfl := Option.some.inj H
  go_enter Tryz.func77, Tryz.ntmps77
  go_wp2
  go_ret
  exact ⟨by first | rfl | (simp; done) | (simp [*]; done), by repeat (first | exact Drawn0.refl _ | apply Drawn0.step)⟩
 ·rw [if_neg c2] at H
  have c2b0 : decide (a0 < 2) = false := decide_eq_false c2
  clear c2
  obtain rfl := Option.some.inj H
  go_enter Tryz.func77, Tryz.ntmps77
  go_wp2
  go_ret
  exact ⟨by first | rfl | (simp; done) | (simp [*]; done), by repeat (first | exact Drawn0.refl _ | apply Drawn0.step)⟩
end Go.Proofs.YtnbjflcfdncocaaGreat.M
namespace Go.Proofs.YtnbjflcfdncocaaGreat.M
open Go.RowKit Go.Proofs.YtnbjflcfdncocaaGreatW.PrintWords Go.Proofs.YtnbjflcfdncocaaGreatW.PrintLast Go.Proofs.YtnbjflcfdncocaaGreatW.PrintMore
def contains_Forms_2.p (x : Int) : Bool := (op_Forms_2.f x).getD false
theorem contains_Forms_2.p_eq (x : Int) : op_Forms_2.f x = some (contains_Forms_2.p x) := by
  have h : (op_Forms_2.f x).isSome = true := by
    unfold op_Forms_2.f; split <;> rfl
  unfold contains_Forms_2.p
  obtain ⟨b, hb⟩ := Option.isSome_iff_exists.1 h
  rw [hb]; rfl
def contains_Forms_2.f (l0 : List Int) : Option Bool := some (l0.any contains_Forms_2.p)
theorem contains_Forms_2.calls (A0 : Option Addr) (c0 : Nat) (l0 : List Int) (r : Bool) (w : World) (hr0 : Kd.C (Kd.int .i64) w A0 l0.length l0) (_hc0 : l0.length ≤ c0) (h : contains_Forms_2.f l0 = some r) :
    Calls Tryz.prog 76 #[.slice A0 l0.length c0, .func (.func 77) #[] #[]] w fun e w' => e = .returned (.bool r) ∧ Below w.heap.size w w' := by
  obtain rfl := Option.some.inj h
  exact ContainsFunc_int 77 (enters_ Tryz.func77 (by kernel_rfl) (by kernel_rfl)) contains_Forms_2.p (fun x W => (op_Forms_2.calls x _ W (contains_Forms_2.p_eq x)).mono fun e w' ⟨he, hd⟩ => ⟨he, hd.below⟩) A0 c0 l0 w hr0
end Go.Proofs.YtnbjflcfdncocaaGreat.M
namespace Go.Proofs.YtnbjflcfdncocaaGreat.M
open Go.RowKit Go.Proofs.YtnbjflcfdncocaaGreatW.PrintWords Go.Proofs.YtnbjflcfdncocaaGreatW.PrintLast Go.Proofs.YtnbjflcfdncocaaGreatW.PrintMore
attribute [local go_sem] max2_int min2_int max_two min_two max_three min_three max_four min_four
set_option linter.unusedVariables false
set_option linter.unusedSimpArgs false
mutual
def op_Forms.j0 : Nat → List (S56) → Bool → Option (Int)
 | 0, _, _ => none
 | k + 1, x0, x12 => if x12 = true then (some 2) else ((contains_Forms_1.f x0).bind fun t102 => (if t102 = true then (some 2) else (op_Forms.l0 k x0 (x0.length : Int) 0)))
def op_Forms.l0 : Nat → List (S56) → Int → Int → Option (Int)
 | 0, _, _, _ => none
 | k + 1, x15, x16, x17 => if x17 < x16 then (if 0 ≤ x17 then (if x17 < (x15.length : Int) then ((contains_Forms_2.f ((rd_T56 x15 x17).f0)).bind fun t105 => (if t105 = true then (some 10) else (op_Forms.l0 k x15 x16 (wrap64 (x17 + 1))))) else (none)) else (none)) else (some 0)
end
def op_Forms.f (k : Nat) (l0 : List (S56)) : Option (Int) := if (l0.length : Int) < 1 then (op_Forms.j0 k l0 true) else (op_Forms.j0 k l0 (decide ((l0.length : Int) > 3)))
set_option maxHeartbeats 8000000 in
set_option maxRecDepth 100000 in
theorem op_Forms.calls (k : Nat) (A0 : Option Addr) (c0 : Nat) (l0 : List (S56)) (r : Int) (w : World) (hr0 : Kd.C k56 w A0 l0.length l0) (hc0 : l0.length ≤ c0) (h : op_Forms.f k l0 = some r) :
  Calls Tryz.prog 39 #[.slice A0 l0.length c0] w fun e w' => e = .returned (.int .i64 r) ∧ Below w.heap.size w w' := by
 have hu56 := Tryz.underlying56
 have HR0 := Aside0.mk hr0
 have HC0 := Aside0.mk hc0
 clear hr0 hc0
 have HB := Aside0.mk (Below.refl w.heap.size w)
 have H : (if (l0.length : Int) < 1 then (op_Forms.j0 k l0 true) else (op_Forms.j0 k l0 (decide ((l0.length : Int) > 3)))) = some r := h
 clear h
 have HC2 := Aside0.mk H
 clear H
 go_enter Tryz.func39, Tryz.ntmps39
 go_upto_region 1 with (fail)
 go_cut [12] (fun v12 wc => ∃ (kq : Nat) (x12_1 : Bool), v12 = .bool x12_1 ∧ Aside0 (op_Forms.j0 kq l0 x12_1 = some r) ∧ Aside0 (kq ≤ k) ∧ Aside0 (Below w.heap.size w wc))
 case first =>
  have H := HC2.out
  clear HC2
  by_cases c3 : (l0.length : Int) < 1
  ·rw [if_pos c3] at H
   have c3b0 : decide ((l0.length : Int) < 1) = true := decide_eq_true c3
   have c3b1 : decide (l0.length < 1) = true := decide_eq_true (by omega)
   clear c3
   (first | rw [c3b0] | (simp only [i64_w, i32_w]; rw [c3b0]) | skip)
   have H' := Aside0.mk H
   clear H
   go_wp2
   go_meet
   case rel => exact ⟨_, (true), (by first | rfl | (simp; done) | (simp [*]; done)), H', ⟨by first | omega | exact Nat.le_refl _⟩, ⟨by with_reducible repeat (first | exact HB.out | apply below_alloc | apply pw_below_drewN | apply below_drew1)⟩⟩
  ·rw [if_neg c3] at H
   have c3b0 : decide ((l0.length : Int) < 1) = false := decide_eq_false c3
   have c3b1 : decide (l0.length < 1) = false := decide_eq_false (by omega)
   clear c3
   (first | rw [c3b0] | (simp only [i64_w, i32_w]; rw [c3b0]) | skip)
   have H' := Aside0.mk H
   clear H
   go_wp2
   go_meet
   case rel => exact ⟨_, (decide ((l0.length : Int) > 3)), (by first | rfl | (simp; done) | (simp [*]; done)), H', ⟨by first | omega | exact Nat.le_refl _⟩, ⟨by with_reducible repeat (first | exact HB.out | apply below_alloc | apply pw_below_drewN | apply below_drew1)⟩⟩
 case rest =>
  clear HC2
  try clear p2
  try clear c3
  try clear c3b0
  try clear c3b1
  obtain ⟨kq, x12_1, rfl, HA, HJ1, HB⟩ := hcut
  cases kq with
  | zero => exact absurd HA.out (by simp [op_Forms.j0])
  | succ kj1 =>
   have H := HA.out
   clear HA
   simp only [op_Forms.j0] at H
   by_cases c4 : x12_1 = true
   ·subst c4
    rw [if_pos rfl] at H
    obtain rfl := Option.some.inj H
    go_wp2
    go_ret
    exact ⟨by first | rfl | (simp [errW_none, errW_some] <;> rfl) | (simp [*, errW_none, errW_some] <;> rfl), by with_reducible repeat (first | exact HB.out | apply below_alloc | apply pw_below_drewN | apply below_drew1)⟩
   ·replace c4 := Bool.eq_false_iff.mpr c4
    subst c4
    rw [if_neg (show ¬ (false = true) by decide)] at H
    replace H := Option.bind_eq_some_iff.mp H
    obtain ⟨t102, A50, H⟩ := H
    try dsimp only at H
    have A5 := Aside0.mk A50
    clear A50
    by_cases c6 : t102 = true
    ·subst c6
     rw [if_pos rfl] at H
     obtain rfl := Option.some.inj H
     go_wp2_with (first | (go_at_call 74; (with_reducible refine (contains_Forms_1.calls _ _ l0 true _ ?side1 ?side2 A5.out).mono ?_); (case side1 => repeat (first | exact (Kd.C_below HR0.out HB.out) | (with_reducible refine Kd.C_alloc ?_ _) | (with_reducible refine Kd.C_drewN ?_ _) | (with_reducible refine Kd.C_drew ?_))); (case side2 => exact HC0.out); rintro e w7 ⟨rfl, hb⟩; have n0_ := Aside0.mk (below_step (by with_reducible repeat (first | exact HB.out | apply below_alloc | apply pw_below_drewN | apply below_drew1)) hb); clear HB; have HB := n0_; clear n0_; (try clear hb); (try clear hb2); (try clear hk); (try clear hi)))
     go_ret
     exact ⟨by first | rfl | (simp [errW_none, errW_some] <;> rfl) | (simp [*, errW_none, errW_some] <;> rfl), by with_reducible repeat (first | exact HB.out | apply below_alloc | apply pw_below_drewN | apply below_drew1)⟩
    ·replace c6 := Bool.eq_false_iff.mpr c6
     subst c6
     rw [if_neg (show ¬ (false = true) by decide)] at H
     have H' := Aside0.mk H
     clear H
     go_wp2_with (first | (go_at_call 74; (with_reducible refine (contains_Forms_1.calls _ _ l0 false _ ?side1 ?side2 A5.out).mono ?_); (case side1 => repeat (first | exact (Kd.C_below HR0.out HB.out) | (with_reducible refine Kd.C_alloc ?_ _) | (with_reducible refine Kd.C_drewN ?_ _) | (with_reducible refine Kd.C_drew ?_))); (case side2 => exact HC0.out); rintro e w8 ⟨rfl, hb⟩; have n0_ := Aside0.mk (below_step (by with_reducible repeat (first | exact HB.out | apply below_alloc | apply pw_below_drewN | apply below_drew1)) hb); clear HB; have HB := n0_; clear n0_; (try clear hb); (try clear hb2); (try clear hk); (try clear hi)))
     go_loopg [17] kj1 (fun kq v17 w' => ∃ (x17_2 : Int), v17 = .int .i64 x17_2 ∧ Aside0 (op_Forms.l0 kq l0 (l0.length : Int) x17_2 = some r) ∧ Aside0 (kq ≤ kj1) ∧ Aside0 (Below w.heap.size w w'))
     case atStart => exact ⟨(0), (by first | rfl | (simp; done) | (simp [*]; done)), H', ⟨Nat.le_refl _⟩, ⟨by with_reducible repeat (first | exact HB.out | apply below_alloc | apply pw_below_drewN | apply below_drew1)⟩⟩
     case round =>
      clear H'
      try clear p2
      try clear c3
      try clear c3b0
      try clear c3b1
      try clear c4
      try clear c6
      try clear p2
      obtain ⟨x17_2, rfl, HA, HK2, HB⟩ := hrel
      cases gk with
      | zero => exact absurd HA.out (by simp [op_Forms.l0])
      | succ k2 =>
       have H := HA.out
       clear HA
       simp only [op_Forms.l0] at H
       by_cases c9 : x17_2 < (l0.length : Int)
       ·rw [if_pos c9] at H
        have c9b0 : decide (x17_2 < (l0.length : Int)) = true := decide_eq_true c9
        clear c9
        by_cases c10 : 0 ≤ x17_2
        ·rw [if_pos c10] at H
         have c10b0 : decide (0 ≤ x17_2) = true := decide_eq_true c10
         clear c10
         by_cases c11 : x17_2 < (l0.length : Int)
         ·rw [if_pos c11] at H
          have c11b0 : decide (x17_2 < (l0.length : Int)) = true := decide_eq_true c11
          clear c11
          replace H := Option.bind_eq_some_iff.mp H
          obtain ⟨t105, A120, H⟩ := H
          try dsimp only at H
          have A12 := Aside0.mk A120
          clear A120
          by_cases c13 : t105 = true
          ·subst c13
           rw [if_pos rfl] at H
           obtain rfl := Option.some.inj H
           have p103 : 0 ≤ (x17_2 : Int) := of_decide_eq_true (by first | (with_reducible assumption) | assumption)
           have q103 : x17_2 < (l0.length : Int) := of_decide_eq_true (by first | (with_reducible assumption) | assumption)
           obtain ⟨ad103, A103_0, c103_0, e103, hx103_0, hl103_0, hi103_0⟩ := at_T56 HR0.out x17_2 p103 q103
           cases e103
           replace hx103_0 := (HB.out.cell (World.block_lt_of_cell? w _ hx103_0)).trans hx103_0
           have HR103_0 := Aside0.mk hi103_0
           have HC103_0 := Aside0.mk hl103_0
           clear hi103_0 hl103_0
           replace p103 := eq_true p103
           replace q103 := eq_true q103
           go_wp2_with (first | ((with_reducible refine gate_dst (N := 4) rfl ?_); (try (refine gate_guard (by rfl) ?_; dsimp only)); refine box_event ?hg (N := 4) ?hd (cs := #[.slice none 0 0]) (t := 56) ?hr ?_; (case hd => rfl); (case hg => rfl); (case hr => first | (go_simp; done) | (go_simp; rfl)); intro gb104 hg w14 hbox hb; have n0_ := Aside0.mk (below_step (by with_reducible repeat (first | exact HB.out | apply below_alloc | apply pw_below_drewN | apply below_drew1)) hb); have n1_ := Aside0.mk (hbox); have n2_ := Aside0.mk ((by rw [hg]; exact (below_size (by with_reducible repeat (first | exact HB.out | apply below_alloc | apply pw_below_drewN | apply below_drew1))) : w.heap.size ≤ gb104)); have n3_ := Aside0.mk ((by rw [hg]; exact (below_size (by with_reducible repeat (first | exact HB.out | apply below_alloc | apply pw_below_drewN | apply below_drew1))) : w.heap.size ≤ gb104)); clear HB; have HB := n0_; have BK104 := n1_; have GW104 := n2_; have GE104 := n3_; clear n0_ n1_ n2_ n3_; clear hb hbox hg; have hcz15_0 : w14.cell? ⟨gb104, 0, none⟩ = some (.slice none 0 0) := (blk_cell BK104.out 0).trans rfl; have hfz15_0 := blk_frozen BK104.out 0) | (go_at_call 76; (with_reducible refine (contains_Forms_2.calls _ _ ((rd_T56 l0 x17_2).f0) true _ ?side1 ?side2 A12.out).mono ?_); (case side1 => exact Kd.C_below HR103_0.out (by with_reducible repeat (first | exact HB.out | apply below_alloc | apply pw_below_drewN | apply below_drew1 | refine below_set ?_ GE104.out))); (case side2 => exact HC103_0.out); rintro e w16 ⟨rfl, hb⟩; have n0_ := Aside0.mk (blk_below (g := gb104) (o := .cells #[.slice A103_0 ((rd_T56 l0 x17_2).f0).length c103_0] 56 (0, 0)) (by (with_reducible repeat (first | refine blk_drewN ?_ _ | refine blk_drew ?_ | refine blk_alloc ?_ _)); refine blk_put (cs := #[.slice none 0 0]) ?_ 0 _ rfl; (with_reducible repeat (first | refine blk_drewN ?_ _ | refine blk_drew ?_ | refine blk_alloc ?_ _)); exact BK104.out) hb); have n1_ := Aside0.mk (below_step (by with_reducible repeat (first | exact HB.out | apply below_alloc | apply pw_below_drewN | apply below_drew1 | refine below_set ?_ GE104.out)) hb); clear BK104; clear HB; have BK104 := n0_; have HB := n1_; clear n0_ n1_; (try clear hb); (try clear hb2); (try clear hk); (try clear hi)))
           go_ret
           exact ⟨by first | rfl | (simp [errW_none, errW_some] <;> rfl) | (simp [*, errW_none, errW_some] <;> rfl), by with_reducible repeat (first | exact HB.out | apply below_alloc | apply pw_below_drewN | apply below_drew1 | refine below_set ?_ GE104.out)⟩
          ·replace c13 := Bool.eq_false_iff.mpr c13
           subst c13
           rw [if_neg (show ¬ (false = true) by decide)] at H
           have H' := Aside0.mk H
           clear H
           have p103 : 0 ≤ (x17_2 : Int) := of_decide_eq_true (by first | (with_reducible assumption) | assumption)
           have q103 : x17_2 < (l0.length : Int) := of_decide_eq_true (by first | (with_reducible assumption) | assumption)
           obtain ⟨ad103, A103_0, c103_0, e103, hx103_0, hl103_0, hi103_0⟩ := at_T56 HR0.out x17_2 p103 q103
           cases e103
           replace hx103_0 := (HB.out.cell (World.block_lt_of_cell? w _ hx103_0)).trans hx103_0
           have HR103_0 := Aside0.mk hi103_0
           have HC103_0 := Aside0.mk hl103_0
           clear hi103_0 hl103_0
           replace p103 := eq_true p103
           replace q103 := eq_true q103
           go_wp2_with (first | ((with_reducible refine gate_dst (N := 4) rfl ?_); (try (refine gate_guard (by rfl) ?_; dsimp only)); refine box_event ?hg (N := 4) ?hd (cs := #[.slice none 0 0]) (t := 56) ?hr ?_; (case hd => rfl); (case hg => rfl); (case hr => first | (go_simp; done) | (go_simp; rfl)); intro gb104 hg w17 hbox hb; have n0_ := Aside0.mk (below_step (by with_reducible repeat (first | exact HB.out | apply below_alloc | apply pw_below_drewN | apply below_drew1)) hb); have n1_ := Aside0.mk (hbox); have n2_ := Aside0.mk ((by rw [hg]; exact (below_size (by with_reducible repeat (first | exact HB.out | apply below_alloc | apply pw_below_drewN | apply below_drew1))) : w.heap.size ≤ gb104)); have n3_ := Aside0.mk ((by rw [hg]; exact (below_size (by with_reducible repeat (first | exact HB.out | apply below_alloc | apply pw_below_drewN | apply below_drew1))) : w.heap.size ≤ gb104)); clear HB; have HB := n0_; have BK104 := n1_; have GW104 := n2_; have GE104 := n3_; clear n0_ n1_ n2_ n3_; clear hb hbox hg; have hcz18_0 : w17.cell? ⟨gb104, 0, none⟩ = some (.slice none 0 0) := (blk_cell BK104.out 0).trans rfl; have hfz18_0 := blk_frozen BK104.out 0) | (go_at_call 76; (with_reducible refine (contains_Forms_2.calls _ _ ((rd_T56 l0 x17_2).f0) false _ ?side1 ?side2 A12.out).mono ?_); (case side1 => exact Kd.C_below HR103_0.out (by with_reducible repeat (first | exact HB.out | apply below_alloc | apply pw_below_drewN | apply below_drew1 | refine below_set ?_ GE104.out))); (case side2 => exact HC103_0.out); rintro e w19 ⟨rfl, hb⟩; have n0_ := Aside0.mk (blk_below (g := gb104) (o := .cells #[.slice A103_0 ((rd_T56 l0 x17_2).f0).length c103_0] 56 (0, 0)) (by (with_reducible repeat (first | refine blk_drewN ?_ _ | refine blk_drew ?_ | refine blk_alloc ?_ _)); refine blk_put (cs := #[.slice none 0 0]) ?_ 0 _ rfl; (with_reducible repeat (first | refine blk_drewN ?_ _ | refine blk_drew ?_ | refine blk_alloc ?_ _)); exact BK104.out) hb); have n1_ := Aside0.mk (below_step (by with_reducible repeat (first | exact HB.out | apply below_alloc | apply pw_below_drewN | apply below_drew1 | refine below_set ?_ GE104.out)) hb); clear BK104; clear HB; have BK104 := n0_; have HB := n1_; clear n0_ n1_; (try clear hb); (try clear hb2); (try clear hk); (try clear hi)))
           go_roundg k2
           case measure => have := HJ1.out; have := HK2.out; omega
           case rel => exact ⟨(wrap64 (x17_2 + 1)), (by first | rfl | (simp; done) | (simp [*]; done)), H', ⟨by have := HJ1.out; have := HK2.out; omega⟩, ⟨by with_reducible repeat (first | exact HB.out | apply below_alloc | apply pw_below_drewN | apply below_drew1 | refine below_set ?_ GE104.out)⟩⟩
         ·rw [if_neg c11] at H
          exact absurd H (by simp)
        ·rw [if_neg c10] at H
         exact absurd H (by simp)
       ·rw [if_neg c9] at H
        have c9b0 : decide (x17_2 < (l0.length : Int)) = false := decide_eq_false c9
        clear c9
        obtain rfl := Option.some.inj H
        go_wp2
        go_ret
        exact ⟨by first | rfl | (simp [errW_none, errW_some] <;> rfl) | (simp [*, errW_none, errW_some] <;> rfl), by with_reducible repeat (first | exact HB.out | apply below_alloc | apply pw_below_drewN | apply below_drew1)⟩
def dot_Check_1.f (a0 : Int) : Option (Bool) := if a0 < 0 then (some true) else (some (decide (a0 > 1073741824)))
set_option maxHeartbeats 8000000 in
set_option maxRecDepth 100000 in
theorem dot_Check_1.calls (a0 : Int) (r : Bool) (w : World) (h : dot_Check_1.f a0 = some r) :
  Calls Tryz.prog 128 #[.int .i64 a0] w fun e w' => e = .returned (.bool r) ∧ Drawn0 w w' := by
 have H : (if a0 < 0 then (some true) else (some (decide (a0 > 1073741824)))) = some r := h
 clear h
 by_cases c2 : a0 < 0
 ·rw [if_pos c2] at H
  have c2b0 : decide (a0 < 0) = true := decide_eq_true c2
  clear c2
  obtain rfl := Option.some.inj H
  go_enter Tryz.func128, Tryz.ntmps128
  go_wp2
  go_ret
  exact ⟨by first | rfl | (simp; done) | (simp [*]; done), by repeat (first | exact Drawn0.refl _ | apply Drawn0.step)⟩
 ·rw [if_neg c2] at H
  have c2b0 : decide (a0 < 0) = false := decide_eq_false c2
  clear c2
  obtain rfl := Option.some.inj H
  go_enter Tryz.func128, Tryz.ntmps128
  go_wp2
  go_ret
  exact ⟨by first | rfl | (simp; done) | (simp [*]; done), by repeat (first | exact Drawn0.refl _ | apply Drawn0.step)⟩
end Go.Proofs.YtnbjflcfdncocaaGreat.M
namespace Go.Proofs.YtnbjflcfdncocaaGreat.M
open Go.RowKit Go.Proofs.YtnbjflcfdncocaaGreatW.PrintWords Go.Proofs.YtnbjflcfdncocaaGreatW.PrintLast Go.Proofs.YtnbjflcfdncocaaGreatW.PrintMore
def bst (r : Int) : Int := if bits .and .u32 r 1 = 1 then bits .xor .u32 (r / 2) 2197175160 else r / 2
def it : Nat → Int → Int
  | 0, r => r
  | m + 1, r => bst (it m r)
theorem wf_xor (a b : Int) : 0 ≤ bits .xor .u32 a b ∧ bits .xor .u32 a b < 4294967296 := by
  unfold bits; rw [IntKind.wrap_u32]; omega
theorem bst_range (r : Int) (h0 : 0 ≤ r) (h1 : r < 4294967296) : 0 ≤ bst r ∧ bst r < 4294967296 := by
  unfold bst; split
  · exact wf_xor _ _
  · omega
theorem it_range (r : Int) (h0 : 0 ≤ r) (h1 : r < 4294967296) : ∀ m, 0 ≤ it m r ∧ it m r < 4294967296
  | 0 => ⟨h0, h1⟩
  | m + 1 => bst_range _ (it_range r h0 h1 m).1 (it_range r h0 h1 m).2
def cellsT (k : Nat) : Array Value := Array.ofFn (n := 16) fun j => .int .u32 (if j.val < k then it 4 j.val else 0)
theorem cellsT_size (k : Nat) : (cellsT k).size = 16 := by simp [cellsT]
theorem cellsT_one (k : Nat) : (cellsT k).all (·.oneCell') = true := by
  rw [Array.all_eq_true]
  intro i hi
  simp [cellsT, Value.oneCell']
theorem cellsT_set (k : Nat) (_hk : k < 16) : (cellsT k).setIfInBounds k (.int .u32 (it 4 k)) = cellsT (k + 1) := by
  apply Array.ext
  · simp [cellsT]
  · intro i h1 h2
    rw [Array.getElem_setIfInBounds (by simpa using h1)]
    by_cases h : k = i
    · subst h; simp [cellsT]
    · rw [if_neg h]
      by_cases h3 : i < k
      · simp [cellsT, h3, show i < k + 1 by omega]
      · simp [cellsT, h3, show ¬ i < k + 1 by omega]
theorem cellsT_0 : cellsT 0 = #[Value.int IntKind.u32 0, Value.int IntKind.u32 0, Value.int IntKind.u32 0, Value.int IntKind.u32 0,
      Value.int IntKind.u32 0, Value.int IntKind.u32 0, Value.int IntKind.u32 0, Value.int IntKind.u32 0,
      Value.int IntKind.u32 0, Value.int IntKind.u32 0, Value.int IntKind.u32 0, Value.int IntKind.u32 0,
      Value.int IntKind.u32 0, Value.int IntKind.u32 0, Value.int IntKind.u32 0, Value.int IntKind.u32 0] := by rfl
set_option maxHeartbeats 400000 in
theorem steps_calls (w : World) :
    Calls Tryz.prog 102 #[] w fun e w' => e = .returned (.agg (cellsT 16)) ∧ w' = w.alloc (.cells (cellsT 16) 131) := by
  go_enter Tryz.func102, Tryz.ntmps102
  go_wp2
  go_loopw [4] (fun v4 wr => ∃ k : Nat, k ≤ 16 ∧ v4 = .int .i64 k ∧ wr = w.alloc (.cells (cellsT k) 131)) (fun v4 _ => 16 - (intOf v4).toNat)
  case atStart => exact ⟨0, by omega, rfl, by rw [cellsT_0]⟩
  case round =>
    obtain ⟨k, hk, rfl, rfl⟩ := hrel
    by_cases hlt : k < 16
    · go_wp2
      go_loop [2, 9] (fun v2 v9 => ∃ m : Nat, m ≤ 4 ∧ v9 = .int .i64 m ∧ v2 = .int .u32 (it m k)) (fun _ v9 => 4 - (intOf v9).toNat)
      case atStart => exact ⟨0, by omega, rfl, rfl⟩
      case round =>
        obtain ⟨m, hm, rfl, rfl⟩ := hrel
        by_cases hlt2 : m < 4
        · have hr := it_range k (by omega) (by omega) m
          obtain ⟨h0, h1⟩ := hr
          obtain ⟨x, hx⟩ : ∃ x, x = it m k := ⟨_, rfl⟩
          rw [← hx] at h0 h1 ⊢
          have HX := Aside0.mk hx
          clear hx
          by_cases ho : bits .and .u32 x 1 = 1
          · have hb : (bits .and .u32 x 1 == 1) = true := beq_iff_eq.2 ho
            have HO := Aside0.mk ho
            clear ho
            go_wp2
            go_round
            case rel => exact ⟨m + 1, by omega, by go_num, by show _ = Value.int .u32 (bst (it m k)); rw [← HX.out]; unfold bst; rw [if_pos HO.out]⟩
            case measure => simp [intOf]; omega
          · have hb : (bits .and .u32 x 1 == 1) = false := beq_eq_false_iff_ne.2 ho
            have HO := Aside0.mk ho
            clear ho
            go_wp2
            go_round
            case rel => exact ⟨m + 1, by omega, by go_num, by show _ = Value.int .u32 (bst (it m k)); rw [← HX.out]; unfold bst; rw [if_neg HO.out]⟩
            case measure => simp [intOf]; omega
        · obtain rfl : m = 4 := by omega
          have hs := cellsT_size k
          have hc : (w.alloc (.cells (cellsT k) 131)).cell? ⟨w.heap.size, k, none⟩ = some (.int .u32 0) := by
            rw [cell_of_row _ _ k _ _ _ (heap_alloc_new w _)]
            simp [cellsT, hlt]
          have hS : w.alloc (.cells ((cellsT k).setIfInBounds k (.int .u32 (it 4 k))) 131) = w.alloc (.cells (cellsT (k + 1)) 131) := by
            rw [cellsT_set k hlt]
          have HS := Aside0.mk hS
          clear hS
          go_wp2
          go_roundw
          case rel => exact ⟨k + 1, by omega, by go_num, HS.out⟩
          case measure => simp [intOf]; omega
    · obtain rfl : k = 16 := by omega
      have HI := Aside0.mk (show (Tryz.prog.info? 131).map (·.size) = some (cellsT 16).size by rw [cellsT_size]; kernel_rfl)
      go_wp2_with (first
        | (refine wpList_load_row rfl 131 (.tmp 0) rfl w.heap.size rfl 131 (cellsT 16) (0, 0) _ (heap_alloc_new w _) Tryz.underlying131 rfl HI.out ?_)
        | (refine wpList_store_row rfl 131 (.tmp 0) (.tmp 24) rfl w.heap.size (cellsT 16) rfl rfl 131 (cellsT 16) (heap_alloc_new w _) HI.out rfl (cellsT_one 16) ?_; rw [World.setRow_alloc_new]))
      refine bodyPost_ret (v := .agg (cellsT 16)) ?_ rfl ⟨rfl, rfl⟩
      exact results_cell_row (p := 0) (ty := 131) rfl _ _ w.heap.size 131 (cellsT 16) (0, 0) _ rfl (heap_alloc_new w _) Tryz.underlying131 rfl HI.out
theorem cellsT_get (x : Nat) (h : x < 16) : (cellsT 16)[x]? = some (.int .u32 (it 4 x)) := by
  simp [cellsT, h]
theorem and15 (r : Int) (h0 : 0 ≤ r) (h1 : r < 4294967296) : bits .and .u32 r 15 = r % 16 :=
  bits_mask .u32 32 (by decide) (fun n h0 h1 => by rw [IntKind.wrap_u32]; omega) 4 (by decide) r h0 h1
def nib (r : Int) : Int := bits .xor .u32 (r / 16) (it 4 (r % 16))
def byt (r c : Int) : Int := nib (nib (bits .xor .u32 r (c % 4294967296)))
def crcI (l : List Int) : Int := bits .xor .u32 (l.foldl byt 4294967295) 4294967295
def crc_Sum.f (l0 : List Int) : Option Int := some (crcI l0)
theorem xcell {W : World} {g : Nat} (hG : W.heap[g]? = some (.cells (cellsT 16) 131)) {x : Int} (hx : 0 ≤ x ∧ x < 4294967296) :
    0 ≤ bits .and .u32 x 15 ∧ bits .and .u32 x 15 < 16 ∧ W.cell? ⟨g, (bits .and .u32 x 15).toNat, none⟩ = some (.int .u32 (it 4 (x % 16))) := by
  rw [and15 x hx.1 hx.2]
  refine ⟨by omega, by omega, ?_⟩
  rw [blk_cell hG, cellsT_get _ (by omega), Int.toNat_of_nonneg (by omega)]
theorem nib_range (r : Int) : 0 ≤ nib r ∧ nib r < 4294967296 := wf_xor _ _
theorem fold_range (l : List Int) (r : Int) (h0 : 0 ≤ r) (h1 : r < 4294967296) : 0 ≤ l.foldl byt r ∧ l.foldl byt r < 4294967296 := by
  induction l generalizing r with
  | nil => exact ⟨h0, h1⟩
  | cons c l ih => exact ih _ (nib_range _).1 (nib_range _).2
theorem fold_snoc (l : List Int) (k : Nat) (h : k < l.length) (r : Int) : (l.take (k + 1)).foldl byt r = byt ((l.take k).foldl byt r) (l.getD k 0) := by
  rw [List.take_succ_eq_append_getElem h, List.foldl_append]
  simp [List.getD_eq_getElem?_getD, h]
set_option maxHeartbeats 400000 in
theorem crc_Sum.calls (A0 : Option Addr) (c0 : Nat) (l0 : List Int) (r : Int) (w : World) (hr0 : Kd.C (Kd.int .u8) w A0 l0.length l0) (hc0 : l0.length ≤ c0) (h : crc_Sum.f l0 = some r) :
    Calls Tryz.prog 65 #[.slice A0 l0.length c0] w fun e w' => e = .returned (.int .u32 r) ∧ Below w.heap.size w w' := by
  obtain rfl := Option.some.inj h
  clear h
  have HR0 := Aside0.mk hr0
  have HC0 := Aside0.mk hc0
  have hm : l0.length ≤ 9223372036854775807 := hr0.2.1
  clear hr0 hc0
  have HI := Aside0.mk (show (Tryz.prog.info? 131).map (·.size) = some (cellsT 16).size by rw [cellsT_size]; kernel_rfl)
  go_enter Tryz.func65, Tryz.ntmps65
  have HE := Aside0.mk (show ((w.alloc (.cells (cellsT 16) 131)).alloc (.cells (cellsT 0) 131)).setRow (w.heap.size + 1) (cellsT 16) = (w.alloc (.cells (cellsT 16) 131)).alloc (.cells (cellsT 16) 131) by
    have := World.setRow_alloc_new (w.alloc (.cells (cellsT 16) 131)) (cellsT 0) (cellsT 16) 131
    simpa using this)
  rw [cellsT_0] at HE
  go_wp2_with (first
    | (go_at_call 102; refine (steps_calls _).mono ?_; rintro e w1 ⟨rfl, rfl⟩)
    | (refine wpList_store_row rfl 131 (.tmp 3) (.tmp 7) rfl (w.heap.size + 1) (cellsT 16) rfl rfl 131 _ (heap_alloc2_new w _ _) HI.out rfl (cellsT_one 16) ?_; rw [HE.out]))
  obtain ⟨W, hW⟩ : ∃ W, W = (w.alloc (.cells (cellsT 16) 131)).alloc (.cells (cellsT 16) 131) := ⟨_, rfl⟩
  rw [← hW]
  have HB := Aside0.mk (show Below w.heap.size w W from hW ▸ ((Below.refl _ _).alloc (Nat.le_refl _) _).alloc (by simp) _)
  have HR1 := Aside0.mk (show Kd.C (Kd.int .u8) W A0 l0.length l0 from Kd.C_below HR0.out HB.out)
  have HG := Aside0.mk (show W.heap[w.heap.size + 1]? = some (.cells (cellsT 16) 131) from hW ▸ heap_alloc2_new w _ _)
  clear hW HE HR0 HI
  go_loop [4, 10] (fun v4 v10 => ∃ k : Nat, k ≤ l0.length ∧ v10 = .int .i64 k ∧ v4 = .int .u32 ((l0.take k).foldl byt 4294967295)) (fun _ v10 => l0.length - (intOf v10).toNat)
  case atStart => exact ⟨0, by omega, rfl, rfl⟩
  case round =>
    obtain ⟨k, hk, rfl, rfl⟩ := hrel
    by_cases hlt : k < l0.length
    · have hs := fold_snoc l0 k hlt 4294967295
      have hr := fold_range (l0.take k) 4294967295 (by omega) (by omega)
      obtain ⟨x, hx⟩ : ∃ x, x = (l0.take k).foldl byt 4294967295 := ⟨_, rfl⟩
      rw [← hx] at hs hr ⊢
      have HS := Aside0.mk hs
      have HX := Aside0.mk hr
      clear hs hx
      obtain ⟨ad, e, hcell⟩ := Kd.at_int HR1.out (k : Int) (by omega) (by omega)
      subst e
      rw [Int.toNat_natCast] at hcell
      have hrd : rd l0 (k : Int) = l0.getD k 0 := by simp [rd]
      rw [hrd] at hcell
      obtain ⟨c, hc⟩ : ∃ c, c = l0.getD k 0 := ⟨_, rfl⟩
      rw [← hc] at hcell HS
      have HC := Aside0.mk hc
      clear hc hrd
      have ha := xcell HG.out (x := bits .xor .u32 x (c % 4294967296)) (wf_xor _ _)
      obtain ⟨a0, a1, a2⟩ := ha
      have hb := xcell HG.out (x := nib (bits .xor .u32 x (c % 4294967296))) (nib_range _)
      unfold nib at hb
      obtain ⟨b0, b1, b2⟩ := hb
      go_wp2
      go_round
      case rel => exact ⟨k + 1, by omega, by go_num, by rw [HS.out]; rfl⟩
      case measure => simp [intOf]; omega
    · obtain rfl : k = l0.length := by omega
      go_wp2
      go_ret
      refine ⟨?_, HB.out⟩
      simp [crcI]
theorem hinfo5 : (Tryz.prog.info? 5).map (fun i => (i.zero, i.size, i.bytes)) = some (some (.int .u8 0), 1, 1) := by kernel_rfl
def slices_Clone_byte_byte.f (l0 : List Int) : Option (List Int) := if l0.length < 140737488355328 then some l0 else none
set_option maxHeartbeats 400000 in
set_option maxRecDepth 100000 in
theorem slices_Clone_byte_byte.calls (A0 : Option Addr) (c0 : Nat) (l0 : List Int) (r : List Int) (w : World) (hr0 : Kd.C (Kd.int .u8) w A0 l0.length l0) (hc0 : l0.length ≤ c0) (h : slices_Clone_byte_byte.f l0 = some r) :
    Calls Tryz.prog 66 #[.slice A0 l0.length c0] w fun e w' => ∃ v0_ : Value, e = .returned (v0_) ∧ Kd.R (Kd.int .u8) 5 w' w.heap.size (fun _ => True) v0_ r ∧ Below w.heap.size w w' := by
  unfold slices_Clone_byte_byte.f at h
  by_cases hl : l0.length < 140737488355328
  case neg => rw [if_neg hl] at h; cases h
  rw [if_pos hl] at h
  obtain rfl := Option.some.inj h
  clear h
  have HR0 := Aside0.mk hr0
  have HC0 := Aside0.mk hc0
  have HL := Aside0.mk hl
  have HB := Aside0.mk (Below.refl w.heap.size w)
  have h0 := hr0.2.2
  clear hr0 hc0 hl
  rcases A0 with _ | ad
  · have hz : l0 = [] := by
      cases l0 with
      | nil => rfl
      | cons a l => obtain ⟨ad, h, _⟩ := h0 (by simp); cases h
    subst hz
    clear h0
    have hq := fun (v : World) => Lib.run_eql_slice_nil (P := Tryz.prog) v 33 5 none 0 c0 0 0 Tryz.underlying33
    go_enter Tryz.func66, Tryz.ntmps66
    go_wp2
    go_ret
    exact ⟨_, rfl, Kd.R_nil _ _ _ _ _, HB.out⟩
  · clear h0
    have hq := fun (v : World) => Lib.run_eql_slice_nil (P := Tryz.prog) v 33 5 (some ad) l0.length c0 0 0 Tryz.underlying33
    have HO := Aside0.mk (show Kd.R (Kd.int .u8) 5 (w.alloc (.cells #[] 5)) w.heap.size (fun _ => True) (.slice (some ⟨w.heap.size, 0, none⟩) 0 0) ([] : List Int) from ⟨fun _ _ => trivial, [], ⟨rfl, .inr ⟨w.heap.size, 0, #[], rfl, Nat.le_refl _, heap_alloc_new w _, Nat.le_refl _, by simp [maxLen], rfl, rfl⟩⟩, Reps.none _ _⟩)
    have HR1 := Aside0.mk (show Kd.C (Kd.int .u8) (w.alloc (.cells #[] 5)) (some ad) l0.length l0 from Kd.C_alloc HR0.out _)
    have HB1 := Aside0.mk (show Below w.heap.size w (w.alloc (.cells #[] 5)) from below_alloc HB.out _)
    go_enter Tryz.func66, Tryz.ntmps66
    go_wp2_with (first | ((with_reducible refine gate_builtin (b := .append) (xs := #[.tmp 5, .tmp 6]) rfl ?_); at_builtin; refine Kd.R_append_rows (Kd.int .u8) (w0 := w) w.heap.size rfl (.tmp 5) (.tmp 6) 33 5 (.int .u8 0) 1 rfl Tryz.underlying33 hinfo5 rfl (by decide) (by omega) (.slice (some ⟨w.heap.size, 0, none⟩) 0 0) ([] : List Int) l0 _ _ _ (fun _ => True) (fun _ => False) rfl rfl HO.out HR1.out (fun _ _ h => h) (fun _ h => h.elim) (fun _ _ => trivial) HB1.out (below_size HB1.out) ?aL ?_; (case aL => have := HL.out; simp; omega); intro v105 w3 ho hb hg hat; have HO1 := Aside0.mk ho; have HB2 := Aside0.mk hb; clear ho hb hg hat))
    go_ret
    exact ⟨_, rfl, HO1.out, HB2.out⟩
end Go.Proofs.YtnbjflcfdncocaaGreat.M
namespace Go.Proofs.YtnbjflcfdncocaaGreat.M
open Go.RowKit Go.Proofs.YtnbjflcfdncocaaGreatW.PrintWords Go.Proofs.YtnbjflcfdncocaaGreatW.PrintLast Go.Proofs.YtnbjflcfdncocaaGreatW.PrintMore
attribute [local go_sem] max2_int min2_int max_two min_two max_three min_three max_four min_four
set_option linter.unusedVariables false
set_option linter.unusedSimpArgs false
def crc_Seal.f (l0 : List Int) : Option (List Int × Int) := if (l0.length : Int) > 65532 then (some (([] : List Int), 2)) else ((crc_Sum.f l0).bind fun t233 => ((slices_Clone_byte_byte.f l0).bind fun t234 => ((some (([(t233) % 256, (t233 / 256) % 256, (t233 / 65536) % 256, (t233 / 16777216) % 256] : List Int) : List Int)).bind fun y237 => (if t234.length + y237.length < 140737488355328 then (some ((t234 ++ y237), 0)) else (none)))))
set_option maxHeartbeats 8000000 in
set_option maxRecDepth 100000 in
theorem crc_Seal.calls (A0 : Option Addr) (c0 : Nat) (l0 : List Int) (r1 : List Int) (r2 : Int) (w : World) (hr0 : Kd.C (Kd.int .u8) w A0 l0.length l0) (hc0 : l0.length ≤ c0) (h : crc_Seal.f l0 = some (r1, r2)) :
  Calls Tryz.prog 31 #[.slice A0 l0.length c0] w fun e w' => ∃ v0_ : Value, e = .returned (.tuple #[v0_, .int .i64 r2]) ∧ Kd.R (Kd.int .u8) 5 w' w.heap.size (fun _ => True) v0_ r1 ∧ Below w.heap.size w w' := by
 have HR0 := Aside0.mk hr0
 have HC0 := Aside0.mk hc0
 clear hr0 hc0
 have HB := Aside0.mk (Below.refl w.heap.size w)
 have H : (if (l0.length : Int) > 65532 then (some (([] : List Int), 2)) else ((crc_Sum.f l0).bind fun t233 => ((slices_Clone_byte_byte.f l0).bind fun t234 => ((some (([(t233) % 256, (t233 / 256) % 256, (t233 / 65536) % 256, (t233 / 16777216) % 256] : List Int) : List Int)).bind fun y237 => (if t234.length + y237.length < 140737488355328 then (some ((t234 ++ y237), 0)) else (none)))))) = some (r1, r2) := h
 clear h
 by_cases c2 : (l0.length : Int) > 65532
 ·rw [if_pos c2] at H
  have c2b0 : decide (65532 < (l0.length : Int)) = true := decide_eq_true c2
  have c2b1 : decide (65532 < l0.length) = true := decide_eq_true (by omega)
  clear c2
  simp only [Option.some.injEq, Prod.mk.injEq] at H
  obtain ⟨rfl, rfl⟩ := H
  go_enter Tryz.func31, Tryz.ntmps31
  go_wp2
  go_ret2
  exact ⟨_, by first | rfl | (simp [errW_none, errW_some] <;> rfl) | (simp [*, errW_none, errW_some] <;> rfl), by first | exact Kd.R_nil _ _ _ _ _ | exact Kd.N_nil _ _ _ _ _ | exact Kd.V_nil _ _ _ _ _ | exact Kd.Q_nil _ _ _ _ _ | exact Kd.S_nil _ _ _ _ _, by with_reducible repeat (first | exact HB.out | apply below_alloc | apply pw_below_drewN | apply below_drew1)⟩
 ·rw [if_neg c2] at H
  have c2b0 : decide (65532 < (l0.length : Int)) = false := decide_eq_false c2
  have c2b1 : decide (65532 < l0.length) = false := decide_eq_false (by omega)
  clear c2
  replace H := Option.bind_eq_some_iff.mp H
  obtain ⟨t233, A30, H⟩ := H
  try dsimp only at H
  have A3 := Aside0.mk A30
  clear A30
  replace H := Option.bind_eq_some_iff.mp H
  obtain ⟨t234, A40, H⟩ := H
  try dsimp only at H
  have A4 := Aside0.mk A40
  clear A40
  obtain ⟨y237, hy237⟩ : ∃ y_ : List Int, y_ = (([(t233) % 256, (t233 / 256) % 256, (t233 / 65536) % 256, (t233 / 16777216) % 256] : List Int)) := ⟨_, rfl⟩
  replace H : (if t234.length + y237.length < 140737488355328 then (some ((t234 ++ y237), 0)) else (none)) = some (r1, r2) := by first | (rw [hy237]; with_reducible exact H) | (have H2_ := (Option.bind_some _ _).symm.trans H; rw [hy237]; with_reducible exact H2_) | (have H2_ := (Option.bind_some _ _).symm.trans H; with_reducible exact H2_) | with_reducible exact H | (rw [hy237]; exact H) | exact H
  have Ny237 := Aside0.mk hy237
  clear hy237
  by_cases c5 : t234.length + y237.length < 140737488355328
  ·rw [if_pos c5] at H
   have LMc5 := Aside0.mk c5
   clear c5
   obtain ⟨y240, hy240⟩ : ∃ y_ : List Int, y_ = (t234 ++ y237) := ⟨_, rfl⟩
   replace H : (some (y240, 0)) = some (r1, r2) := by first | (rw [hy240]; with_reducible exact H) | (have H2_ := (Option.bind_some _ _).symm.trans H; rw [hy240]; with_reducible exact H2_) | (have H2_ := (Option.bind_some _ _).symm.trans H; with_reducible exact H2_) | with_reducible exact H | (rw [hy240]; exact H) | exact H
   have Ny240 := Aside0.mk hy240
   clear hy240
   simp only [Option.some.injEq, Prod.mk.injEq] at H
   obtain ⟨rfl, rfl⟩ := H
   go_enter Tryz.func31, Tryz.ntmps31
   go_wp2_with (first | ((with_reducible refine gate_callee (f := 65) rfl ?_); refine goesL_ (some 9) rfl rfl Tryz.func65 (by kernel_rfl) rfl #[.slice A0 l0.length c0] rfl (by (try simp only [List.map_toArray, List.map_cons, List.map_nil]); first | done | rfl | (simp only [List.length_drop, List.length_take]; rfl)) ?_; (with_reducible refine (crc_Sum.calls _ _ l0 t233 _ ?side1 ?side2 A3.out).mono ?_); (case side1 => repeat (first | exact HR0.out | (with_reducible refine Kd.C_alloc ?_ _) | (with_reducible refine Kd.C_drewN ?_ _) | (with_reducible refine Kd.C_drew ?_))); (case side2 => exact HC0.out); rintro e w6 ⟨rfl, hb⟩; refine ⟨_, rfl, ?_⟩; have n0_ := Aside0.mk (below_step (by with_reducible repeat (first | exact HB.out | apply below_alloc | apply pw_below_drewN | apply below_drew1)) hb); clear HB; have HB := n0_; clear n0_; (try clear hb); (try clear hb2); (try clear hk); (try clear hi)) | ((with_reducible refine gate_callee (f := 66) rfl ?_); refine goesL_ (some 11) rfl rfl Tryz.func66 (by kernel_rfl) rfl #[.slice A0 l0.length c0] rfl (by (try simp only [List.map_toArray, List.map_cons, List.map_nil]); first | done | rfl | (simp only [List.length_drop, List.length_take]; rfl)) ?_; (with_reducible refine (slices_Clone_byte_byte.calls _ _ l0 t234 _ ?side1 ?side2 A4.out).mono ?_); (case side1 => repeat (first | exact (Kd.C_below HR0.out HB.out) | (with_reducible refine Kd.C_alloc ?_ _) | (with_reducible refine Kd.C_drewN ?_ _) | (with_reducible refine Kd.C_drew ?_))); (case side2 => exact HC0.out); rintro e w7 ⟨v235, rfl, ho0, hb⟩; refine ⟨_, rfl, ?_⟩; have n0_ := Aside0.mk (Kd.R_lower ho0 (below_size (by with_reducible repeat (first | exact HB.out | apply below_alloc | apply pw_below_drewN | apply below_drew1)))); have n1_ := Aside0.mk (below_step (by with_reducible repeat (first | exact HB.out | apply below_alloc | apply pw_below_drewN | apply below_drew1)) hb); clear HB; have HO236 := n0_; have HB := n1_; clear n0_ n1_; (try clear hb); (try clear hb2); (try clear hk); (try clear hi); (try clear ho0)) | ((with_reducible refine gate_dst (N := 23) rfl ?_); refine Kd.R_lit (Kd.int .u8) _ 5 ?hg (N := 23) ?hd (xs := ([(t233) % 256, (t233 / 256) % 256, (t233 / 65536) % 256, (t233 / 16777216) % 256] : List Int)) (inner := [.int .u8 ((t233) % 256), .int .u8 ((t233 / 256) % 256), .int .u8 ((t233 / 65536) % 256), .int .u8 ((t233 / 16777216) % 256)]) (ok := fun _ => True) (okp := fun _ => True) ?hr ?hp (fun _ hk => hk) trivial (Below.refl _ _) (Nat.le_refl _) (by simp) ?_; (case hd => rfl); (case hg => rfl); (case hr => first | (go_simp; done) | (go_simp; rfl)); (case hp => exact (Reps.one (show Kd.M (Kd.int .u8) _ _ _ ((t233) % 256) [.int .u8 ((t233) % 256)] from rfl) (Reps.one (show Kd.M (Kd.int .u8) _ _ _ ((t233 / 256) % 256) [.int .u8 ((t233 / 256) % 256)] from rfl) (Reps.one (show Kd.M (Kd.int .u8) _ _ _ ((t233 / 65536) % 256) [.int .u8 ((t233 / 65536) % 256)] from rfl) (Reps.one (show Kd.M (Kd.int .u8) _ _ _ ((t233 / 16777216) % 256) [.int .u8 ((t233 / 16777216) % 256)] from rfl) (Reps.none _ _)))))); intro v238 w8 ho9 hb hg_ hnew_; clear hg_ hnew_; (first | rw [← Ny237.out] at ho9 | (simp only [Int.reduceToNat] at ho9; rw [← Ny237.out] at ho9)); have n0_ := Aside0.mk (Kd.R_elder' (by (with_reducible repeat (first | apply Kd.R_alloc | apply Kd.R_drewN | apply Kd.R_drew)); exact HO236.out) (Kd.R_base ho9) hb); have n1_ := Aside0.mk (Kd.R_lower (Kd.R_new' ho9 (Kd.R_lt (by (with_reducible repeat (first | apply Kd.R_alloc | apply Kd.R_drewN | apply Kd.R_drew)); exact HO236.out))) (below_size (by with_reducible repeat (first | exact HB.out | apply below_alloc | apply pw_below_drewN | apply below_drew1)))); have n2_ := Aside0.mk (below_step (by with_reducible repeat (first | exact HB.out | apply below_alloc | apply pw_below_drewN | apply below_drew1)) hb); clear HO236; clear HB; have HO236 := n0_; have HO239 := n1_; have HB := n2_; clear n0_ n1_ n2_; clear hb ho9; obtain ⟨Ao11, co11, eo11⟩ := Kd.R_slice HO239.out; subst eo11) | ((with_reducible refine gate_builtin (b := .append) (xs := #[.tmp 11, .tmp 23]) rfl ?_); at_builtin; refine Kd.R_append_rows (Kd.int .u8) (w0 := w) w.heap.size rfl (.tmp 11) (.tmp 23) 33 5 (.int .u8 0) 1 rfl Tryz.underlying33 info5 rfl (by decide) (by omega) v235 t234 y237 _ _ _ (fun k_ => some k_ ≠ (.slice Ao11 y237.length co11 : Value).ownBlock) (fun _ => False) rfl rfl ?aO ?aR (fun _ _ h => h) (fun _ h => h.elim) ?aF ?aB ?aS ?aL ?_; (case aR => repeat (first | exact (Kd.R_reads' HO239.out).2.2 | (with_reducible refine Kd.C_alloc ?_ _) | (with_reducible refine Kd.C_drewN ?_ _) | (with_reducible refine Kd.C_drew ?_))); (case aB => exact (by with_reducible repeat (first | exact HB.out | apply below_alloc | apply pw_below_drewN | apply below_drew1))); (case aF => exact (fun k_ hk => Kd.fresh' (Kd.R_lt (by (with_reducible repeat (first | apply Kd.R_alloc | apply Kd.R_drewN | apply Kd.R_drew)); exact HO239.out)) k_ hk)); (case aO => exact (by (with_reducible repeat (first | apply Kd.R_alloc | apply Kd.R_drewN | apply Kd.R_drew)); exact Kd.R_mono HO236.out (fun _ hk => hk.2))); (case aS => exact (below_size (by with_reducible repeat (first | exact HB.out | apply below_alloc | apply pw_below_drewN | apply below_drew1)))); (case aL => have := LMc5.out; omega); intro v241 w10 ho hb hg hat; rw [← Ny240.out] at ho; have n0_ := Aside0.mk (Kd.R_after (ok := (fun _ => True)) (by (with_reducible repeat (first | apply Kd.R_alloc | apply Kd.R_drewN | apply Kd.R_drew)); exact HO239.out) hg hat); have n1_ := Aside0.mk (hb); have n2_ := Aside0.mk (ho); clear HO239; clear HB; clear HO236; have HO239 := n0_; have HB := n1_; have HO242 := n2_; clear n0_ n1_ n2_; clear ho hb hg hat))
   go_ret2
   exact ⟨_, by first | rfl | (simp [errW_none, errW_some] <;> rfl) | (simp [*, errW_none, errW_some] <;> rfl), by (with_reducible repeat (first | apply Kd.R_alloc | apply Kd.R_drewN | apply Kd.R_drew)); exact Kd.R_mono HO242.out (fun _ hk => trivial), by with_reducible repeat (first | exact HB.out | apply below_alloc | apply pw_below_drewN | apply below_drew1)⟩
  ·rw [if_neg c5] at H
   exact absurd H (by simp)
def raddlekeep_Bytes.l0 : Nat → List Int → List Int → Int → Option (Bool)
 | 0, _, _, _ => none
 | k + 1, x0, x1, x5 => if x5 < (x0.length : Int) then (if 0 ≤ x5 then (if x5 < (x1.length : Int) then (if (rd x0 x5) = (rd x1 x5) then (raddlekeep_Bytes.l0 k x0 x1 (wrap64 (x5 + 1))) else (some false)) else (none)) else (none)) else (some true)
def raddlekeep_Bytes.f (k : Nat) (l0 : List Int) (l1 : List Int) : Option (Bool) := if (l0.length : Int) = (l1.length : Int) then (raddlekeep_Bytes.l0 k l0 l1 0) else (some false)
set_option maxHeartbeats 8000000 in
set_option maxRecDepth 100000 in
theorem raddlekeep_Bytes.calls (k : Nat) (A0 : Option Addr) (c0 : Nat) (l0 : List Int) (A1 : Option Addr) (c1 : Nat) (l1 : List Int) (r : Bool) (w : World) (hr0 : Kd.C (Kd.int .u8) w A0 l0.length l0) (hc0 : l0.length ≤ c0) (hr1 : Kd.C (Kd.int .u8) w A1 l1.length l1) (hc1 : l1.length ≤ c1) (h : raddlekeep_Bytes.f k l0 l1 = some r) :
  Calls Tryz.prog 14 #[.slice A0 l0.length c0, .slice A1 l1.length c1] w fun e w' => e = .returned (.bool r) ∧ Drawn0 w w' := by
 have HR0 := Aside0.mk hr0
 have HC0 := Aside0.mk hc0
 clear hr0 hc0
 have HR1 := Aside0.mk hr1
 have HC1 := Aside0.mk hc1
 clear hr1 hc1
 have H : (if (l0.length : Int) = (l1.length : Int) then (raddlekeep_Bytes.l0 k l0 l1 0) else (some false)) = some r := h
 clear h
 by_cases c3 : (l0.length : Int) = (l1.length : Int)
 ·rw [if_pos c3] at H
  have c3b0 : ((l0.length : Int) == (l1.length : Int)) = true := beq_iff_eq.mpr c3
  have c3b1 : ((l0.length : Int) != (l1.length : Int)) = false := bne_eq_false_iff_eq.mpr c3
  have c3b2 : (l0.length == l1.length) = true := by first | simpa using c3 | (simp at c3 ⊢; omega)
  clear c3
  have H' := Aside0.mk H
  clear H
  go_enter Tryz.func14, Tryz.ntmps14
  go_wp2
  repeat (go_quiet (fail); try go_wp2)
  go_loopg [5] k (fun kq v5 w' => ∃ (x5_1 : Int), v5 = .int .i64 x5_1 ∧ Aside0 (raddlekeep_Bytes.l0 kq l0 l1 x5_1 = some r) ∧ Aside0 (kq ≤ k) ∧ Drawn0 w w')
  case atStart => exact ⟨(0), (by first | rfl | (simp; done) | (simp [*]; done)), H', ⟨Nat.le_refl _⟩, by repeat (first | exact Drawn0.refl _ | apply Drawn0.step)⟩
  case round =>
   clear H'
   try clear c1
   try clear p2
   try clear c3
   try clear c3b0
   try clear c3b1
   try clear c3b2
   obtain ⟨x5_1, rfl, HA, HK1, ⟨m1, rfl⟩⟩ := hrel
   cases gk with
   | zero => exact absurd HA.out (by simp [raddlekeep_Bytes.l0])
   | succ k1 =>
    have H := HA.out
    clear HA
    simp only [raddlekeep_Bytes.l0] at H
    by_cases c4 : x5_1 < (l0.length : Int)
    ·rw [if_pos c4] at H
     have c4b0 : decide (x5_1 < (l0.length : Int)) = true := decide_eq_true c4
     clear c4
     by_cases c5 : 0 ≤ x5_1
     ·rw [if_pos c5] at H
      have c5b0 : decide (0 ≤ x5_1) = true := decide_eq_true c5
      clear c5
      by_cases c6 : x5_1 < (l1.length : Int)
      ·rw [if_pos c6] at H
       have c6b0 : decide (x5_1 < (l1.length : Int)) = true := decide_eq_true c6
       clear c6
       by_cases c7 : (rd l0 x5_1) = (rd l1 x5_1)
       ·rw [if_pos c7] at H
        have c7b0 : ((rd l0 x5_1) == (rd l1 x5_1)) = true := beq_iff_eq.mpr c7
        have c7b1 : ((rd l0 x5_1) != (rd l1 x5_1)) = false := bne_eq_false_iff_eq.mpr c7
        clear c7
        have H' := Aside0.mk H
        clear H
        have p243 : 0 ≤ (x5_1 : Int) := of_decide_eq_true (by first | (with_reducible assumption) | assumption)
        have q243 : x5_1 < (l0.length : Int) := of_decide_eq_true (by first | (with_reducible assumption) | assumption)
        obtain ⟨ad243, e243, hx243_0⟩ := Kd.at_int HR0.out x5_1 p243 q243
        cases e243
        replace p243 := eq_true p243
        replace q243 := eq_true q243
        have p244 : 0 ≤ (x5_1 : Int) := of_decide_eq_true (by first | (with_reducible assumption) | assumption)
        have q244 : x5_1 < (l1.length : Int) := of_decide_eq_true (by first | (with_reducible assumption) | assumption)
        obtain ⟨ad244, e244, hx244_0⟩ := Kd.at_int HR1.out x5_1 p244 q244
        cases e244
        replace p244 := eq_true p244
        replace q244 := eq_true q244
        go_wp2
        repeat (go_quiet (fail); try go_wp2)
        go_roundg k1
        case measure => have := HK1.out; omega
        case rel => exact ⟨(wrap64 (x5_1 + 1)), (by first | rfl | (simp; done) | (simp [*]; done)), H', ⟨by have := HK1.out; omega⟩, by repeat (first | exact Drawn0.refl _ | apply Drawn0.step)⟩
       ·rw [if_neg c7] at H
        have c7b0 : ((rd l0 x5_1) == (rd l1 x5_1)) = false := beq_eq_false_iff_ne.mpr c7
        have c7b1 : ((rd l0 x5_1) != (rd l1 x5_1)) = true := bne_iff_ne.mpr c7
        obtain rfl := Option.some.inj H
        have p243 : 0 ≤ (x5_1 : Int) := of_decide_eq_true (by first | (with_reducible assumption) | assumption)
        have q243 : x5_1 < (l0.length : Int) := of_decide_eq_true (by first | (with_reducible assumption) | assumption)
        obtain ⟨ad243, e243, hx243_0⟩ := Kd.at_int HR0.out x5_1 p243 q243
        cases e243
        replace p243 := eq_true p243
        replace q243 := eq_true q243
        have p244 : 0 ≤ (x5_1 : Int) := of_decide_eq_true (by first | (with_reducible assumption) | assumption)
        have q244 : x5_1 < (l1.length : Int) := of_decide_eq_true (by first | (with_reducible assumption) | assumption)
        obtain ⟨ad244, e244, hx244_0⟩ := Kd.at_int HR1.out x5_1 p244 q244
        cases e244
        replace p244 := eq_true p244
        replace q244 := eq_true q244
        go_wp2
        repeat (go_quiet (fail); try go_wp2)
        go_ret
        exact ⟨by first | rfl | (simp; done) | (simp [*]; done), by repeat (first | exact Drawn0.refl _ | apply Drawn0.step)⟩
      ·rw [if_neg c6] at H
       exact absurd H (by simp)
     ·rw [if_neg c5] at H
      exact absurd H (by simp)
    ·rw [if_neg c4] at H
     have c4b0 : decide (x5_1 < (l0.length : Int)) = false := decide_eq_false c4
     clear c4
     obtain rfl := Option.some.inj H
     go_wp2
     repeat (go_quiet (fail); try go_wp2)
     go_ret
     exact ⟨by first | rfl | (simp; done) | (simp [*]; done), by repeat (first | exact Drawn0.refl _ | apply Drawn0.step)⟩
 ·rw [if_neg c3] at H
  have c3b0 : ((l0.length : Int) == (l1.length : Int)) = false := beq_eq_false_iff_ne.mpr c3
  have c3b1 : ((l0.length : Int) != (l1.length : Int)) = true := bne_iff_ne.mpr c3
  have c3b2 : (l0.length == l1.length) = false := by first | simpa using c3 | (simp at c3 ⊢; omega)
  obtain rfl := Option.some.inj H
  go_enter Tryz.func14, Tryz.ntmps14
  go_wp2
  repeat (go_quiet (fail); try go_wp2)
  go_ret
  exact ⟨by first | rfl | (simp; done) | (simp [*]; done), by repeat (first | exact Drawn0.refl _ | apply Drawn0.step)⟩
def raddlekeep_Ints.l0 : Nat → List Int → List Int → Int → Option (Bool)
 | 0, _, _, _ => none
 | k + 1, x0, x1, x5 => if x5 < (x0.length : Int) then (if 0 ≤ x5 then (if x5 < (x1.length : Int) then (if (rd x0 x5) = (rd x1 x5) then (raddlekeep_Ints.l0 k x0 x1 (wrap64 (x5 + 1))) else (some false)) else (none)) else (none)) else (some true)
def raddlekeep_Ints.f (k : Nat) (l0 : List Int) (l1 : List Int) : Option (Bool) := if (l0.length : Int) = (l1.length : Int) then (raddlekeep_Ints.l0 k l0 l1 0) else (some false)
set_option maxHeartbeats 8000000 in
set_option maxRecDepth 100000 in
theorem raddlekeep_Ints.calls (k : Nat) (A0 : Option Addr) (c0 : Nat) (l0 : List Int) (A1 : Option Addr) (c1 : Nat) (l1 : List Int) (r : Bool) (w : World) (hr0 : Kd.C (Kd.int .i64) w A0 l0.length l0) (hc0 : l0.length ≤ c0) (hr1 : Kd.C (Kd.int .i64) w A1 l1.length l1) (hc1 : l1.length ≤ c1) (h : raddlekeep_Ints.f k l0 l1 = some r) :
  Calls Tryz.prog 41 #[.slice A0 l0.length c0, .slice A1 l1.length c1] w fun e w' => e = .returned (.bool r) ∧ Drawn0 w w' := by
 have HR0 := Aside0.mk hr0
 have HC0 := Aside0.mk hc0
 clear hr0 hc0
 have HR1 := Aside0.mk hr1
 have HC1 := Aside0.mk hc1
 clear hr1 hc1
 have H : (if (l0.length : Int) = (l1.length : Int) then (raddlekeep_Ints.l0 k l0 l1 0) else (some false)) = some r := h
 clear h
 by_cases c3 : (l0.length : Int) = (l1.length : Int)
 ·rw [if_pos c3] at H
  have c3b0 : ((l0.length : Int) == (l1.length : Int)) = true := beq_iff_eq.mpr c3
  have c3b1 : ((l0.length : Int) != (l1.length : Int)) = false := bne_eq_false_iff_eq.mpr c3
  have c3b2 : (l0.length == l1.length) = true := by first | simpa using c3 | (simp at c3 ⊢; omega)
  clear c3
  have H' := Aside0.mk H
  clear H
  go_enter Tryz.func41, Tryz.ntmps41
  go_wp2
  repeat (go_quiet (fail); try go_wp2)
  go_loopg [5] k (fun kq v5 w' => ∃ (x5_1 : Int), v5 = .int .i64 x5_1 ∧ Aside0 (raddlekeep_Ints.l0 kq l0 l1 x5_1 = some r) ∧ Aside0 (kq ≤ k) ∧ Drawn0 w w')
  case atStart => exact ⟨(0), (by first | rfl | (simp; done) | (simp [*]; done)), H', ⟨Nat.le_refl _⟩, by repeat (first | exact Drawn0.refl _ | apply Drawn0.step)⟩
  case round =>
   clear H'
   try clear c1
   try clear p2
   try clear c3
   try clear c3b0
   try clear c3b1
   try clear c3b2
   obtain ⟨x5_1, rfl, HA, HK1, ⟨m1, rfl⟩⟩ := hrel
   cases gk with
   | zero => exact absurd HA.out (by simp [raddlekeep_Ints.l0])
   | succ k1 =>
    have H := HA.out
    clear HA
    simp only [raddlekeep_Ints.l0] at H
    by_cases c4 : x5_1 < (l0.length : Int)
    ·rw [if_pos c4] at H
     have c4b0 : decide (x5_1 < (l0.length : Int)) = true := decide_eq_true c4
     clear c4
     by_cases c5 : 0 ≤ x5_1
     ·rw [if_pos c5] at H
      have c5b0 : decide (0 ≤ x5_1) = true := decide_eq_true c5
      clear c5
      by_cases c6 : x5_1 < (l1.length : Int)
      ·rw [if_pos c6] at H
       have c6b0 : decide (x5_1 < (l1.length : Int)) = true := decide_eq_true c6
       clear c6
       by_cases c7 : (rd l0 x5_1) = (rd l1 x5_1)
       ·rw [if_pos c7] at H
        have c7b0 : ((rd l0 x5_1) == (rd l1 x5_1)) = true := beq_iff_eq.mpr c7
        have c7b1 : ((rd l0 x5_1) != (rd l1 x5_1)) = false := bne_eq_false_iff_eq.mpr c7
        clear c7
        have H' := Aside0.mk H
        clear H
        have p245 : 0 ≤ (x5_1 : Int) := of_decide_eq_true (by first | (with_reducible assumption) | assumption)
        have q245 : x5_1 < (l0.length : Int) := of_decide_eq_true (by first | (with_reducible assumption) | assumption)
        obtain ⟨ad245, e245, hx245_0⟩ := Kd.at_int HR0.out x5_1 p245 q245
        cases e245
        replace p245 := eq_true p245
        replace q245 := eq_true q245
        have p246 : 0 ≤ (x5_1 : Int) := of_decide_eq_true (by first | (with_reducible assumption) | assumption)
        have q246 : x5_1 < (l1.length : Int) := of_decide_eq_true (by first | (with_reducible assumption) | assumption)
        obtain ⟨ad246, e246, hx246_0⟩ := Kd.at_int HR1.out x5_1 p246 q246
        cases e246
        replace p246 := eq_true p246
        replace q246 := eq_true q246
        go_wp2
        repeat (go_quiet (fail); try go_wp2)
        go_roundg k1
        case measure => have := HK1.out; omega
        case rel => exact ⟨(wrap64 (x5_1 + 1)), (by first | rfl | (simp; done) | (simp [*]; done)), H', ⟨by have := HK1.out; omega⟩, by repeat (first | exact Drawn0.refl _ | apply Drawn0.step)⟩
       ·rw [if_neg c7] at H
        have c7b0 : ((rd l0 x5_1) == (rd l1 x5_1)) = false := beq_eq_false_iff_ne.mpr c7
        have c7b1 : ((rd l0 x5_1) != (rd l1 x5_1)) = true := bne_iff_ne.mpr c7
        obtain rfl := Option.some.inj H
        have p245 : 0 ≤ (x5_1 : Int) := of_decide_eq_true (by first | (with_reducible assumption) | assumption)
        have q245 : x5_1 < (l0.length : Int) := of_decide_eq_true (by first | (with_reducible assumption) | assumption)
        obtain ⟨ad245, e245, hx245_0⟩ := Kd.at_int HR0.out x5_1 p245 q245
        cases e245
        replace p245 := eq_true p245
        replace q245 := eq_true q245
        have p246 : 0 ≤ (x5_1 : Int) := of_decide_eq_true (by first | (with_reducible assumption) | assumption)
        have q246 : x5_1 < (l1.length : Int) := of_decide_eq_true (by first | (with_reducible assumption) | assumption)
        obtain ⟨ad246, e246, hx246_0⟩ := Kd.at_int HR1.out x5_1 p246 q246
        cases e246
        replace p246 := eq_true p246
        replace q246 := eq_true q246
        go_wp2
        repeat (go_quiet (fail); try go_wp2)
        go_ret
        exact ⟨by first | rfl | (simp; done) | (simp [*]; done), by repeat (first | exact Drawn0.refl _ | apply Drawn0.step)⟩
      ·rw [if_neg c6] at H
       exact absurd H (by simp)
     ·rw [if_neg c5] at H
      exact absurd H (by simp)
    ·rw [if_neg c4] at H
     have c4b0 : decide (x5_1 < (l0.length : Int)) = false := decide_eq_false c4
     clear c4
     obtain rfl := Option.some.inj H
     go_wp2
     repeat (go_quiet (fail); try go_wp2)
     go_ret
     exact ⟨by first | rfl | (simp; done) | (simp [*]; done), by repeat (first | exact Drawn0.refl _ | apply Drawn0.step)⟩
 ·rw [if_neg c3] at H
  have c3b0 : ((l0.length : Int) == (l1.length : Int)) = false := beq_eq_false_iff_ne.mpr c3
  have c3b1 : ((l0.length : Int) != (l1.length : Int)) = true := bne_iff_ne.mpr c3
  have c3b2 : (l0.length == l1.length) = false := by first | simpa using c3 | (simp at c3 ⊢; omega)
  obtain rfl := Option.some.inj H
  go_enter Tryz.func41, Tryz.ntmps41
  go_wp2
  repeat (go_quiet (fail); try go_wp2)
  go_ret
  exact ⟨by first | rfl | (simp; done) | (simp [*]; done), by repeat (first | exact Drawn0.refl _ | apply Drawn0.step)⟩
def raddlekeep_Dot.f (a0_0 : Int) (a0_1 : Int) (a1_0 : Int) (a1_1 : Int) : Option (Bool) := if a0_0 = a1_0 then (some (a0_1 == a1_1)) else (some false)
set_option maxHeartbeats 8000000 in
set_option maxRecDepth 100000 in
theorem raddlekeep_Dot.calls (a0_0 : Int) (a0_1 : Int) (a1_0 : Int) (a1_1 : Int) (r : Bool) (w : World) (h : raddlekeep_Dot.f a0_0 a0_1 a1_0 a1_1 = some r) :
  Calls Tryz.prog 110 #[.agg #[.int .i64 a0_0, .int .i64 a0_1], .agg #[.int .i64 a1_0, .int .i64 a1_1]] w fun e w' => e = .returned (.bool r) ∧ Below w.heap.size w w' := by
 unfold raddlekeep_Dot.f at h
 by_cases c0 : a0_0 = a1_0
 case neg =>
  rw [if_neg c0] at h
  have g0 : (a0_0 == a1_0) = false := beq_eq_false_iff_ne.2 c0; have g0' : (a0_0 != a1_0) = true := bne_iff_ne.2 c0
  clear c0
  obtain rfl := Option.some.inj h
  go_enter Tryz.func110, Tryz.ntmps110
  go_wp2_with fail
  go_ret
  exact ⟨by first | rfl | (simp [*]; done), below_alloc (below_alloc (Below.refl _ w) _) _⟩
 rw [if_pos c0] at h
 have g0 : (a0_0 == a1_0) = true := beq_iff_eq.2 c0; have g0' : (a0_0 != a1_0) = false := bne_eq_false_iff_eq.2 c0
 clear c0
 obtain rfl := Option.some.inj h
 go_enter Tryz.func110, Tryz.ntmps110
 go_wp2_with fail
 go_ret
 exact ⟨by first | rfl | (simp [*]; done), below_alloc (below_alloc (Below.refl _ w) _) _⟩
def raddlekeep_Stamp.f (a0_0 : Int) (a0_1 : Int) (a0_2 : Int) (a1_0 : Int) (a1_1 : Int) (a1_2 : Int) : Option (Bool) := if a0_0 = a1_0 then (if a0_1 = a1_1 then (some (a0_2 == a1_2)) else (some false)) else (some false)
set_option maxHeartbeats 8000000 in
set_option maxRecDepth 100000 in
theorem raddlekeep_Stamp.calls (a0_0 : Int) (a0_1 : Int) (a0_2 : Int) (a1_0 : Int) (a1_1 : Int) (a1_2 : Int) (r : Bool) (w : World) (h : raddlekeep_Stamp.f a0_0 a0_1 a0_2 a1_0 a1_1 a1_2 = some r) :
  Calls Tryz.prog 111 #[.agg #[.int .i64 a0_0, .int .i64 a0_1, .int .i64 a0_2], .agg #[.int .i64 a1_0, .int .i64 a1_1, .int .i64 a1_2]] w fun e w' => e = .returned (.bool r) ∧ Below w.heap.size w w' := by
 unfold raddlekeep_Stamp.f at h
 by_cases c0 : a0_0 = a1_0
 case neg =>
  rw [if_neg c0] at h
  have g0 : (a0_0 == a1_0) = false := beq_eq_false_iff_ne.2 c0; have g0' : (a0_0 != a1_0) = true := bne_iff_ne.2 c0
  clear c0
  obtain rfl := Option.some.inj h
  go_enter Tryz.func111, Tryz.ntmps111
  go_wp2_with fail
  go_ret
  exact ⟨by first | rfl | (simp [*]; done), below_alloc (below_alloc (Below.refl _ w) _) _⟩
 rw [if_pos c0] at h
 have g0 : (a0_0 == a1_0) = true := beq_iff_eq.2 c0; have g0' : (a0_0 != a1_0) = false := bne_eq_false_iff_eq.2 c0
 clear c0
 by_cases c1 : a0_1 = a1_1
 case neg =>
  rw [if_neg c1] at h
  have g1 : (a0_1 == a1_1) = false := beq_eq_false_iff_ne.2 c1; have g1' : (a0_1 != a1_1) = true := bne_iff_ne.2 c1
  clear c1
  obtain rfl := Option.some.inj h
  go_enter Tryz.func111, Tryz.ntmps111
  go_wp2_with fail
  go_ret
  exact ⟨by first | rfl | (simp [*]; done), below_alloc (below_alloc (Below.refl _ w) _) _⟩
 rw [if_pos c1] at h
 have g1 : (a0_1 == a1_1) = true := beq_iff_eq.2 c1; have g1' : (a0_1 != a1_1) = false := bne_eq_false_iff_eq.2 c1
 clear c1
 obtain rfl := Option.some.inj h
 go_enter Tryz.func111, Tryz.ntmps111
 go_wp2_with fail
 go_ret
 exact ⟨by first | rfl | (simp [*]; done), below_alloc (below_alloc (Below.refl _ w) _) _⟩
def raddlekeep_Value.f (a0_0 : Int) (a0_1 : Int) (a0_2 : ByteArray) (a1_0 : Int) (a1_1 : Int) (a1_2 : ByteArray) : Option (Bool) := if a0_0 = a1_0 then (if a0_1 = a1_1 then (some (a0_2.toList == a1_2.toList)) else (some false)) else (some false)
set_option maxHeartbeats 8000000 in
set_option maxRecDepth 100000 in
theorem raddlekeep_Value.calls (a0_0 : Int) (a0_1 : Int) (a0_2 : ByteArray) (a1_0 : Int) (a1_1 : Int) (a1_2 : ByteArray) (r : Bool) (w : World) (h : raddlekeep_Value.f a0_0 a0_1 a0_2 a1_0 a1_1 a1_2 = some r) :
  Calls Tryz.prog 131 #[.agg #[.int .i64 a0_0, .int .i64 a0_1, .string a0_2], .agg #[.int .i64 a1_0, .int .i64 a1_1, .string a1_2]] w fun e w' => e = .returned (.bool r) ∧ Below w.heap.size w w' := by
 unfold raddlekeep_Value.f at h
 by_cases c0 : a0_0 = a1_0
 case neg =>
  rw [if_neg c0] at h
  have g0 : (a0_0 == a1_0) = false := beq_eq_false_iff_ne.2 c0; have g0' : (a0_0 != a1_0) = true := bne_iff_ne.2 c0
  clear c0
  obtain rfl := Option.some.inj h
  go_enter Tryz.func131, Tryz.ntmps131
  go_wp2_with fail
  go_ret
  exact ⟨by first | rfl | (simp [*]; done), below_alloc (below_alloc (Below.refl _ w) _) _⟩
 rw [if_pos c0] at h
 have g0 : (a0_0 == a1_0) = true := beq_iff_eq.2 c0; have g0' : (a0_0 != a1_0) = false := bne_eq_false_iff_eq.2 c0
 clear c0
 by_cases c1 : a0_1 = a1_1
 case neg =>
  rw [if_neg c1] at h
  have g1 : (a0_1 == a1_1) = false := beq_eq_false_iff_ne.2 c1; have g1' : (a0_1 != a1_1) = true := bne_iff_ne.2 c1
  clear c1
  obtain rfl := Option.some.inj h
  go_enter Tryz.func131, Tryz.ntmps131
  go_wp2_with fail
  go_ret
  exact ⟨by first | rfl | (simp [*]; done), below_alloc (below_alloc (Below.refl _ w) _) _⟩
 rw [if_pos c1] at h
 have g1 : (a0_1 == a1_1) = true := beq_iff_eq.2 c1; have g1' : (a0_1 != a1_1) = false := bne_eq_false_iff_eq.2 c1
 clear c1
 obtain rfl := Option.some.inj h
 go_enter Tryz.func131, Tryz.ntmps131
 go_wp2_with fail
 go_ret
 exact ⟨by first | rfl | (simp [*]; done), below_alloc (below_alloc (Below.refl _ w) _) _⟩
def raddlekeep_Row.l0 : Nat → List (S92) → List (S92) → Int → Option (Bool)
 | 0, _, _, _ => none
 | k + 1, x0, x1, x5 => if x5 < (x0.length : Int) then (if 0 ≤ x5 then (if x5 < (x1.length : Int) then ((raddlekeep_Value.f ((rd_T92 x0 x5).f0) ((rd_T92 x0 x5).f1) ((rd_T92 x0 x5).f2) ((rd_T92 x1 x5).f0) ((rd_T92 x1 x5).f1) ((rd_T92 x1 x5).f2)).bind fun t255 => (if t255 = true then (raddlekeep_Row.l0 k x0 x1 (wrap64 (x5 + 1))) else (some false))) else (none)) else (none)) else (some true)
def raddlekeep_Row.f (k : Nat) (l0 : List (S92)) (l1 : List (S92)) : Option (Bool) := if (l0.length : Int) = (l1.length : Int) then (raddlekeep_Row.l0 k l0 l1 0) else (some false)
set_option maxHeartbeats 8000000 in
set_option maxRecDepth 100000 in
theorem raddlekeep_Row.calls (k : Nat) (A0 : Option Addr) (c0 : Nat) (l0 : List (S92)) (A1 : Option Addr) (c1 : Nat) (l1 : List (S92)) (r : Bool) (w : World) (hr0 : Kd.C k92 w A0 l0.length l0) (hc0 : l0.length ≤ c0) (hr1 : Kd.C k92 w A1 l1.length l1) (hc1 : l1.length ≤ c1) (h : raddlekeep_Row.f k l0 l1 = some r) :
  Calls Tryz.prog 112 #[.slice A0 l0.length c0, .slice A1 l1.length c1] w fun e w' => e = .returned (.bool r) ∧ Below w.heap.size w w' := by
 have HR0 := Aside0.mk (And.intro hr0 hc0); have HR1 := Aside0.mk (And.intro hr1 hc1); have hmx := Kd.C_max hr0
 clear hr0 hc0 hr1 hc1
 unfold raddlekeep_Row.f at h
 by_cases c : (l0.length : Int) = (l1.length : Int)
 case neg => (rw [if_neg c] at h; obtain rfl := Option.some.inj h; have g : ((l0.length : Int) != (l1.length : Int)) = true := bne_iff_ne.2 c; clear c; go_enter Tryz.func112, Tryz.ntmps112; go_wp2_with fail; go_ret; exact ⟨rfl, Below.refl _ _⟩)
 rw [if_pos c] at h; have g : ((l0.length : Int) != (l1.length : Int)) = false := bne_eq_false_iff_eq.2 c
 have HL := Aside0.mk c; have H := Aside0.mk h; clear h c
 go_enter Tryz.func112, Tryz.ntmps112
 go_wp2
 go_loopw [5] (fun v wr => ∃ i kk : Nat, i ≤ l0.length ∧ v = .int .i64 i ∧ Aside0 (Below w.heap.size w wr) ∧ Aside0 (raddlekeep_Row.l0 kk l0 l1 (i : Int) = some r)) (fun v _ => l0.length - (intOf v).toNat)
 case atStart => exact ⟨0, k, by omega, rfl, ⟨Below.refl _ _⟩, H⟩
 case round =>
  clear H g
  obtain ⟨i, kk, hi, rfl, HB, H⟩ := hrel
  obtain ⟨kk, rfl⟩ : ∃ m, kk = m + 1 := by cases kk with | zero => (have := H.out; simp [raddlekeep_Row.l0] at this) | succ m => exact ⟨m, rfl⟩
  have h := H.out; clear H
  simp only [raddlekeep_Row.l0] at h
  by_cases hlt : i < l0.length
  case neg => (rw [if_neg (by omega)] at h; obtain rfl := Option.some.inj h; go_wp2; go_ret; exact ⟨rfl, HB.out⟩)
  have hl1 : i < l1.length := by have := HL.out; omega
  rw [if_pos (by omega), if_pos (by omega), if_pos (by omega)] at h
  obtain ⟨b, hb, h⟩ := Option.bind_eq_some_iff.1 h
  obtain ⟨ad, eA, x0, x1, x2⟩ := at_T92 HR0.out.1 (i : Int) (by omega) (by omega)
  subst eA
  obtain ⟨bd, eB, y0, y1, y2⟩ := at_T92 HR1.out.1 (i : Int) (by omega) (by omega)
  subst eB
  rw [Int.toNat_natCast] at x0 x1 x2 y0 y1 y2
  obtain ⟨x, ex⟩ : ∃ x, x = rd_T92 l0 (i : Int) := ⟨_, rfl⟩; obtain ⟨y, ey⟩ : ∃ y, y = rd_T92 l1 (i : Int) := ⟨_, rfl⟩
  rw [← ex] at hb x0 x1 x2; rw [← ey] at hb y0 y1 y2
  clear ex ey
  replace x0 := pw_cell_below HB.out x0; have HX0 := Aside0.mk x0; clear x0
  replace x1 := pw_cell_below HB.out x1; have HX1 := Aside0.mk x1; clear x1
  replace x2 := pw_cell_below HB.out x2; have HX2 := Aside0.mk x2; clear x2
  replace y0 := pw_cell_below HB.out y0; have HY0 := Aside0.mk y0; clear y0
  replace y1 := pw_cell_below HB.out y1; have HY1 := Aside0.mk y1; clear y1
  replace y2 := pw_cell_below HB.out y2; have HY2 := Aside0.mk y2; clear y2
  have HV := Aside0.mk hb; have HN := Aside0.mk h; clear hb h
  have t0 := eq_true (show (0 : Int) ≤ (i : Int) by omega); have t1 := eq_true (show (i : Int) < (l0.length : Int) by omega); have t2 := eq_true (show (i : Int) < (l1.length : Int) by omega); have t3 : decide (i < l0.length) = true := decide_eq_true hlt
  go_wp2_with fail
  have HI := Aside0.mk (Zero.start wr)
  refine wp_ord (S := Zero wr) [false, false, false, false, false, false, false, false, true, false] (by kernel_rfl) (by kernel_rfl) (fun _ _ d _ _ h => by cases d <;> exact h) ?_ (fun hHeld => ?_)
  ·(first | exact HI.out.drew | exact HI.out)
  replace HI := Aside0.mk hHeld; clear hHeld
  iterate 8 (refine ord_take (v := ?_) (by rfl) ?_ ?_; rotate_left; (focus (intro w' hSw; have x0 := pw_cell_below hSw HX0.out; have x1 := pw_cell_below hSw HX1.out; have x2 := pw_cell_below hSw HX2.out; have y0 := pw_cell_below hSw HY0.out; have y1 := pw_cell_below hSw HY1.out; have y2 := pw_cell_below hSw HY2.out; go_simp; (try with_reducible rfl); done)); try simp only [Act.put, List.setIfInBounds_toArray, List.set_cons_zero, List.set_cons_succ])
  refine ord_call (by rfl) (fun K hK => ?_)
  go_simp; go_at_call 131
  refine (raddlekeep_Value.calls x.f0 x.f1 x.f2 y.f0 y.f1 y.f2 b _ HV.out).mono ?_; rintro e w1 ⟨rfl, hb⟩; replace HI := Aside0.mk (HI.out.step (by first | exact hb | exact hb.below)); clear hb
  refine hK.out _ _ ?_ (fun hHeld => ?_)
  ·(first | exact HI.out.drew | exact HI.out)
  clear hK K
  try simp only [Act.put, List.setIfInBounds_toArray, List.set_cons_zero, List.set_cons_succ]
  clear hHeld
  cases b with
  | true =>
   have h := HN.out; rw [if_pos rfl] at h; have H := Aside0.mk h; clear h HN
   (refine ord_take (v := ?_) (by rfl) ?_ ?_; rotate_left; (focus (intro w' hSw; have x0 := pw_cell_below hSw HX0.out; have x1 := pw_cell_below hSw HX1.out; have x2 := pw_cell_below hSw HX2.out; have y0 := pw_cell_below hSw HY0.out; have y1 := pw_cell_below hSw HY1.out; have y2 := pw_cell_below hSw HY2.out; go_simp; (try with_reducible rfl); done)); try simp only [Act.put, List.setIfInBounds_toArray, List.set_cons_zero, List.set_cons_succ])
   refine ord_done ?_
   have hw : IntKind.i64.wrap ((i : Int) + 1) = ((i + 1 : Nat) : Int) := (i64_w _).trans ((show wrap64 ((i : Int) + 1) = (i : Int) + 1 from by unfold wrap64; omega).trans (by omega))
   have hw2 : wrap64 ((i : Int) + 1) = ((i + 1 : Nat) : Int) := (i64_w _).symm.trans hw
   rw [hw2] at H; clear hw2
   go_wp2
   go_roundw
   case rel => exact ⟨i + 1, kk, by omega, rfl, ⟨below_step HB.out HI.out⟩, H⟩
   case measure => simp [intOf]; omega
  | false =>
   have h := HN.out; rw [if_neg (by decide)] at h; obtain rfl := Option.some.inj h; clear h HN
   (refine ord_take (v := ?_) (by rfl) ?_ ?_; rotate_left; (focus (intro w' hSw; have x0 := pw_cell_below hSw HX0.out; have x1 := pw_cell_below hSw HX1.out; have x2 := pw_cell_below hSw HX2.out; have y0 := pw_cell_below hSw HY0.out; have y1 := pw_cell_below hSw HY1.out; have y2 := pw_cell_below hSw HY2.out; go_simp; (try with_reducible rfl); done)); try simp only [Act.put, List.setIfInBounds_toArray, List.set_cons_zero, List.set_cons_succ])
   refine ord_done ?_
   go_wp2
   go_ret
   exact ⟨rfl, below_step HB.out HI.out⟩
def raddlekeep_Dots.l0 : Nat → List (S46) → List (S46) → Int → Option (Bool)
 | 0, _, _, _ => none
 | k + 1, x0, x1, x5 => if x5 < (x0.length : Int) then (if 0 ≤ x5 then (if x5 < (x1.length : Int) then ((raddlekeep_Dot.f ((rd_T46 x0 x5).f0) ((rd_T46 x0 x5).f1) ((rd_T46 x1 x5).f0) ((rd_T46 x1 x5).f1)).bind fun t258 => (if t258 = true then (raddlekeep_Dots.l0 k x0 x1 (wrap64 (x5 + 1))) else (some false))) else (none)) else (none)) else (some true)
def raddlekeep_Dots.f (k : Nat) (l0 : List (S46)) (l1 : List (S46)) : Option (Bool) := if (l0.length : Int) = (l1.length : Int) then (raddlekeep_Dots.l0 k l0 l1 0) else (some false)
set_option maxHeartbeats 8000000 in
set_option maxRecDepth 100000 in
theorem raddlekeep_Dots.calls (k : Nat) (A0 : Option Addr) (c0 : Nat) (l0 : List (S46)) (A1 : Option Addr) (c1 : Nat) (l1 : List (S46)) (r : Bool) (w : World) (hr0 : Kd.C k46 w A0 l0.length l0) (hc0 : l0.length ≤ c0) (hr1 : Kd.C k46 w A1 l1.length l1) (hc1 : l1.length ≤ c1) (h : raddlekeep_Dots.f k l0 l1 = some r) :
  Calls Tryz.prog 113 #[.slice A0 l0.length c0, .slice A1 l1.length c1] w fun e w' => e = .returned (.bool r) ∧ Below w.heap.size w w' := by
 have HR0 := Aside0.mk (And.intro hr0 hc0); have HR1 := Aside0.mk (And.intro hr1 hc1); have hmx := Kd.C_max hr0
 clear hr0 hc0 hr1 hc1
 unfold raddlekeep_Dots.f at h
 by_cases c : (l0.length : Int) = (l1.length : Int)
 case neg => (rw [if_neg c] at h; obtain rfl := Option.some.inj h; have g : ((l0.length : Int) != (l1.length : Int)) = true := bne_iff_ne.2 c; clear c; go_enter Tryz.func113, Tryz.ntmps113; go_wp2_with fail; go_ret; exact ⟨rfl, Below.refl _ _⟩)
 rw [if_pos c] at h; have g : ((l0.length : Int) != (l1.length : Int)) = false := bne_eq_false_iff_eq.2 c
 have HL := Aside0.mk c; have H := Aside0.mk h; clear h c
 go_enter Tryz.func113, Tryz.ntmps113
 go_wp2
 go_loopw [5] (fun v wr => ∃ i kk : Nat, i ≤ l0.length ∧ v = .int .i64 i ∧ Aside0 (Below w.heap.size w wr) ∧ Aside0 (raddlekeep_Dots.l0 kk l0 l1 (i : Int) = some r)) (fun v _ => l0.length - (intOf v).toNat)
 case atStart => exact ⟨0, k, by omega, rfl, ⟨Below.refl _ _⟩, H⟩
 case round =>
  clear H g
  obtain ⟨i, kk, hi, rfl, HB, H⟩ := hrel
  obtain ⟨kk, rfl⟩ : ∃ m, kk = m + 1 := by cases kk with | zero => (have := H.out; simp [raddlekeep_Dots.l0] at this) | succ m => exact ⟨m, rfl⟩
  have h := H.out; clear H
  simp only [raddlekeep_Dots.l0] at h
  by_cases hlt : i < l0.length
  case neg => (rw [if_neg (by omega)] at h; obtain rfl := Option.some.inj h; go_wp2; go_ret; exact ⟨rfl, HB.out⟩)
  have hl1 : i < l1.length := by have := HL.out; omega
  rw [if_pos (by omega), if_pos (by omega), if_pos (by omega)] at h
  obtain ⟨b, hb, h⟩ := Option.bind_eq_some_iff.1 h
  obtain ⟨ad, eA, x0, x1⟩ := at_T46 HR0.out.1 (i : Int) (by omega) (by omega)
  subst eA
  obtain ⟨bd, eB, y0, y1⟩ := at_T46 HR1.out.1 (i : Int) (by omega) (by omega)
  subst eB
  rw [Int.toNat_natCast] at x0 x1 y0 y1
  obtain ⟨x, ex⟩ : ∃ x, x = rd_T46 l0 (i : Int) := ⟨_, rfl⟩; obtain ⟨y, ey⟩ : ∃ y, y = rd_T46 l1 (i : Int) := ⟨_, rfl⟩
  rw [← ex] at hb x0 x1; rw [← ey] at hb y0 y1
  clear ex ey
  replace x0 := pw_cell_below HB.out x0; have HX0 := Aside0.mk x0; clear x0
  replace x1 := pw_cell_below HB.out x1; have HX1 := Aside0.mk x1; clear x1
  replace y0 := pw_cell_below HB.out y0; have HY0 := Aside0.mk y0; clear y0
  replace y1 := pw_cell_below HB.out y1; have HY1 := Aside0.mk y1; clear y1
  have HV := Aside0.mk hb; have HN := Aside0.mk h; clear hb h
  have t0 := eq_true (show (0 : Int) ≤ (i : Int) by omega); have t1 := eq_true (show (i : Int) < (l0.length : Int) by omega); have t2 := eq_true (show (i : Int) < (l1.length : Int) by omega); have t3 : decide (i < l0.length) = true := decide_eq_true hlt
  go_wp2_with fail
  have HI := Aside0.mk (Zero.start wr)
  refine wp_ord (S := Zero wr) [false, false, false, false, false, false, false, false, true, false] (by kernel_rfl) (by kernel_rfl) (fun _ _ d _ _ h => by cases d <;> exact h) ?_ (fun hHeld => ?_)
  ·(first | exact HI.out.drew | exact HI.out)
  replace HI := Aside0.mk hHeld; clear hHeld
  iterate 8 (refine ord_take (v := ?_) (by rfl) ?_ ?_; rotate_left; (focus (intro w' hSw; have x0 := pw_cell_below hSw HX0.out; have x1 := pw_cell_below hSw HX1.out; have y0 := pw_cell_below hSw HY0.out; have y1 := pw_cell_below hSw HY1.out; go_simp; (try with_reducible rfl); done)); try simp only [Act.put, List.setIfInBounds_toArray, List.set_cons_zero, List.set_cons_succ])
  refine ord_call (by rfl) (fun K hK => ?_)
  go_simp; go_at_call 110
  refine (raddlekeep_Dot.calls x.f0 x.f1 y.f0 y.f1 b _ HV.out).mono ?_; rintro e w1 ⟨rfl, hb⟩; replace HI := Aside0.mk (HI.out.step (by first | exact hb | exact hb.below)); clear hb
  refine hK.out _ _ ?_ (fun hHeld => ?_)
  ·(first | exact HI.out.drew | exact HI.out)
  clear hK K
  try simp only [Act.put, List.setIfInBounds_toArray, List.set_cons_zero, List.set_cons_succ]
  clear hHeld
  cases b with
  | true =>
   have h := HN.out; rw [if_pos rfl] at h; have H := Aside0.mk h; clear h HN
   (refine ord_take (v := ?_) (by rfl) ?_ ?_; rotate_left; (focus (intro w' hSw; have x0 := pw_cell_below hSw HX0.out; have x1 := pw_cell_below hSw HX1.out; have y0 := pw_cell_below hSw HY0.out; have y1 := pw_cell_below hSw HY1.out; go_simp; (try with_reducible rfl); done)); try simp only [Act.put, List.setIfInBounds_toArray, List.set_cons_zero, List.set_cons_succ])
   refine ord_done ?_
   have hw : IntKind.i64.wrap ((i : Int) + 1) = ((i + 1 : Nat) : Int) := (i64_w _).trans ((show wrap64 ((i : Int) + 1) = (i : Int) + 1 from by unfold wrap64; omega).trans (by omega))
   have hw2 : wrap64 ((i : Int) + 1) = ((i + 1 : Nat) : Int) := (i64_w _).symm.trans hw
   rw [hw2] at H; clear hw2
   go_wp2
   go_roundw
   case rel => exact ⟨i + 1, kk, by omega, rfl, ⟨below_step HB.out HI.out⟩, H⟩
   case measure => simp [intOf]; omega
  | false =>
   have h := HN.out; rw [if_neg (by decide)] at h; obtain rfl := Option.some.inj h; clear h HN
   (refine ord_take (v := ?_) (by rfl) ?_ ?_; rotate_left; (focus (intro w' hSw; have x0 := pw_cell_below hSw HX0.out; have x1 := pw_cell_below hSw HX1.out; have y0 := pw_cell_below hSw HY0.out; have y1 := pw_cell_below hSw HY1.out; go_simp; (try with_reducible rfl); done)); try simp only [Act.put, List.setIfInBounds_toArray, List.set_cons_zero, List.set_cons_succ])
   refine ord_done ?_
   go_wp2
   go_ret
   exact ⟨rfl, below_step HB.out HI.out⟩
def raddlekeep_Op.f (k : Nat) (a0_0 : Int) (a0_1 : Int) (l0_2 : List Int) (a0_3 : Int) (a0_4 : Int) (a0_5 : Int) (a0_6 : Int) (a0_7 : Int) (a0_8 : ByteArray) (a0_9 : Int) (l0_10 : List (S92)) (l0_11 : List (S46)) (a1_0 : Int) (a1_1 : Int) (l1_2 : List Int) (a1_3 : Int) (a1_4 : Int) (a1_5 : Int) (a1_6 : Int) (a1_7 : Int) (a1_8 : ByteArray) (a1_9 : Int) (l1_10 : List (S92)) (l1_11 : List (S46)) : Option (Bool) := (raddlekeep_Dot.f a0_0 a0_1 a1_0 a1_1).bind fun t261 => (if t261 = true then ((raddlekeep_Ints.f k l0_2 l1_2).bind fun t262 => (if t262 = true then ((raddlekeep_Stamp.f a0_3 a0_4 a0_5 a1_3 a1_4 a1_5).bind fun t263 => (if t263 = true then (if a0_6 = a1_6 then (if a0_7 = a1_7 then (if a0_8.toList = a1_8.toList then (if a0_9 = a1_9 then ((raddlekeep_Row.f k l0_10 l1_10).bind fun t264 => (if t264 = true then ((raddlekeep_Dots.f k l0_11 l1_11).bind fun t265 => (some t265)) else (some false))) else (some false)) else (some false)) else (some false)) else (some false)) else (some false))) else (some false))) else (some false))
set_option maxHeartbeats 8000000 in
set_option maxRecDepth 100000 in
theorem raddlekeep_Op.calls (k : Nat) (a0_0 : Int) (a0_1 : Int) (A0_2 : Option Addr) (c0_2 : Nat) (l0_2 : List Int) (a0_3 : Int) (a0_4 : Int) (a0_5 : Int) (a0_6 : Int) (a0_7 : Int) (a0_8 : ByteArray) (a0_9 : Int) (A0_10 : Option Addr) (c0_10 : Nat) (l0_10 : List (S92)) (A0_11 : Option Addr) (c0_11 : Nat) (l0_11 : List (S46)) (a1_0 : Int) (a1_1 : Int) (A1_2 : Option Addr) (c1_2 : Nat) (l1_2 : List Int) (a1_3 : Int) (a1_4 : Int) (a1_5 : Int) (a1_6 : Int) (a1_7 : Int) (a1_8 : ByteArray) (a1_9 : Int) (A1_10 : Option Addr) (c1_10 : Nat) (l1_10 : List (S92)) (A1_11 : Option Addr) (c1_11 : Nat) (l1_11 : List (S46)) (r : Bool) (w : World) (hr0_2 : Kd.C (Kd.int .i64) w A0_2 l0_2.length l0_2) (hc0_2 : l0_2.length ≤ c0_2) (hr0_10 : Kd.C k92 w A0_10 l0_10.length l0_10) (hc0_10 : l0_10.length ≤ c0_10) (hr0_11 : Kd.C k46 w A0_11 l0_11.length l0_11) (hc0_11 : l0_11.length ≤ c0_11) (hr1_2 : Kd.C (Kd.int .i64) w A1_2 l1_2.length l1_2) (hc1_2 : l1_2.length ≤ c1_2) (hr1_10 : Kd.C k92 w A1_10 l1_10.length l1_10) (hc1_10 : l1_10.length ≤ c1_10) (hr1_11 : Kd.C k46 w A1_11 l1_11.length l1_11) (hc1_11 : l1_11.length ≤ c1_11) (h : raddlekeep_Op.f k a0_0 a0_1 l0_2 a0_3 a0_4 a0_5 a0_6 a0_7 a0_8 a0_9 l0_10 l0_11 a1_0 a1_1 l1_2 a1_3 a1_4 a1_5 a1_6 a1_7 a1_8 a1_9 l1_10 l1_11 = some r) :
  Calls Tryz.prog 82 #[.agg #[.int .i64 a0_0, .int .i64 a0_1, .slice A0_2 l0_2.length c0_2, .int .i64 a0_3, .int .i64 a0_4, .int .i64 a0_5, .int .i64 a0_6, .int .i64 a0_7, .string a0_8, .int .i64 a0_9, .slice A0_10 l0_10.length c0_10, .slice A0_11 l0_11.length c0_11], .agg #[.int .i64 a1_0, .int .i64 a1_1, .slice A1_2 l1_2.length c1_2, .int .i64 a1_3, .int .i64 a1_4, .int .i64 a1_5, .int .i64 a1_6, .int .i64 a1_7, .string a1_8, .int .i64 a1_9, .slice A1_10 l1_10.length c1_10, .slice A1_11 l1_11.length c1_11]] w fun e w' => e = .returned (.bool r) ∧ Below w.heap.size w w' := by
 have HR0_2 := Aside0.mk (And.intro hr0_2 hc0_2)
 have HR0_10 := Aside0.mk (And.intro hr0_10 hc0_10)
 have HR0_11 := Aside0.mk (And.intro hr0_11 hc0_11)
 have HR1_2 := Aside0.mk (And.intro hr1_2 hc1_2)
 have HR1_10 := Aside0.mk (And.intro hr1_10 hc1_10)
 have HR1_11 := Aside0.mk (And.intro hr1_11 hc1_11)
 clear hr0_2 hc0_2 hr0_10 hc0_10 hr0_11 hc0_11 hr1_2 hc1_2 hr1_10 hc1_10 hr1_11 hc1_11
 unfold raddlekeep_Op.f at h
 obtain ⟨b0, hb0, h⟩ := Option.bind_eq_some_iff.1 h; have H := Aside0.mk h; have Hb0 := Aside0.mk hb0; clear h hb0
 go_enter Tryz.func82, Tryz.ntmps82
 go_wp2_with fail
 obtain ⟨W, hW, HI⟩ := Two.start w (.cells #[.int .i64 a0_0, .int .i64 a0_1, .slice A0_2 l0_2.length c0_2, .int .i64 a0_3, .int .i64 a0_4, .int .i64 a0_5, .int .i64 a0_6, .int .i64 a0_7, .string a0_8, .int .i64 a0_9, .slice A0_10 l0_10.length c0_10, .slice A0_11 l0_11.length c0_11] 52) (.cells #[.int .i64 a1_0, .int .i64 a1_1, .slice A1_2 l1_2.length c1_2, .int .i64 a1_3, .int .i64 a1_4, .int .i64 a1_5, .int .i64 a1_6, .int .i64 a1_7, .string a1_8, .int .i64 a1_9, .slice A1_10 l1_10.length c1_10, .slice A1_11 l1_11.length c1_11] 52)
 rw [← hW]; clear hW
 have hk0 := fun i => blk_cell HI.out.2.1 i; have hk1 := fun i => blk_cell HI.out.2.2 i
 refine (raddlekeep_Dot.calls a0_0 a0_1 a1_0 a1_1 b0 _  Hb0.out).mono ?_
 rintro e w1 ⟨rfl, hb⟩
 clear hk0 hk1; replace HI := Aside0.mk (HI.out.step (by first | exact hb | exact hb.below)); clear hb
 have hk0 := fun i => blk_cell HI.out.2.1 i; have hk1 := fun i => blk_cell HI.out.2.2 i
 have h := H.out; clear H
 cases b0 with
 | false => (obtain rfl := Option.some.inj h; go_wp2_with fail; go_ret; exact ⟨rfl, HI.out.1⟩)
 | true =>
 rw [if_pos rfl] at h
 obtain ⟨b1, hb1, h⟩ := Option.bind_eq_some_iff.1 h; have H := Aside0.mk h; have Hb1 := Aside0.mk hb1; clear h hb1
 go_wp2_with fail
 refine (raddlekeep_Ints.calls k A0_2 c0_2 l0_2 A1_2 c1_2 l1_2 b1 _ (Kd.C_below HR0_2.out.1 HI.out.1) HR0_2.out.2 (Kd.C_below HR1_2.out.1 HI.out.1) HR1_2.out.2 Hb1.out).mono ?_
 rintro e w1 ⟨rfl, hb⟩
 clear hk0 hk1; replace HI := Aside0.mk (HI.out.step (by first | exact hb | exact hb.below)); clear hb
 have hk0 := fun i => blk_cell HI.out.2.1 i; have hk1 := fun i => blk_cell HI.out.2.2 i
 have h := H.out; clear H
 cases b1 with
 | false => (obtain rfl := Option.some.inj h; go_wp2_with fail; go_ret; exact ⟨rfl, HI.out.1⟩)
 | true =>
 rw [if_pos rfl] at h
 obtain ⟨b2, hb2, h⟩ := Option.bind_eq_some_iff.1 h; have H := Aside0.mk h; have Hb2 := Aside0.mk hb2; clear h hb2
 go_wp2_with fail
 refine (raddlekeep_Stamp.calls a0_3 a0_4 a0_5 a1_3 a1_4 a1_5 b2 _  Hb2.out).mono ?_
 rintro e w1 ⟨rfl, hb⟩
 clear hk0 hk1; replace HI := Aside0.mk (HI.out.step (by first | exact hb | exact hb.below)); clear hb
 have hk0 := fun i => blk_cell HI.out.2.1 i; have hk1 := fun i => blk_cell HI.out.2.2 i
 have h := H.out; clear H
 cases b2 with
 | false => (obtain rfl := Option.some.inj h; go_wp2_with fail; go_ret; exact ⟨rfl, HI.out.1⟩)
 | true =>
 rw [if_pos rfl] at h
 by_cases c : a0_6 = a1_6
 case neg => (rw [if_neg c] at h; obtain rfl := Option.some.inj h; have g : (a0_6 == a1_6) = false := beq_eq_false_iff_ne.2 c; clear c; go_wp2_with fail; go_ret; exact ⟨rfl, HI.out.1⟩)
 rw [if_pos c] at h; have g6 : (a0_6 == a1_6) = true := beq_iff_eq.2 c; clear c
 by_cases c : a0_7 = a1_7
 case neg => (rw [if_neg c] at h; obtain rfl := Option.some.inj h; have g : (a0_7 == a1_7) = false := beq_eq_false_iff_ne.2 c; clear c; go_wp2_with fail; go_ret; exact ⟨rfl, HI.out.1⟩)
 rw [if_pos c] at h; have g7 : (a0_7 == a1_7) = true := beq_iff_eq.2 c; clear c
 by_cases c : a0_8.toList = a1_8.toList
 case neg => (rw [if_neg c] at h; obtain rfl := Option.some.inj h; have g : (a0_8.toList == a1_8.toList) = false := beq_eq_false_iff_ne.2 c; clear c; go_wp2_with fail; go_ret; exact ⟨rfl, HI.out.1⟩)
 rw [if_pos c] at h; have g8 : (a0_8.toList == a1_8.toList) = true := beq_iff_eq.2 c; clear c
 by_cases c : a0_9 = a1_9
 case neg => (rw [if_neg c] at h; obtain rfl := Option.some.inj h; have g : (a0_9 == a1_9) = false := beq_eq_false_iff_ne.2 c; clear c; go_wp2_with fail; go_ret; exact ⟨rfl, HI.out.1⟩)
 rw [if_pos c] at h; have g9 : (a0_9 == a1_9) = true := beq_iff_eq.2 c; clear c
 obtain ⟨b7, hb7, h⟩ := Option.bind_eq_some_iff.1 h; have H := Aside0.mk h; have Hb7 := Aside0.mk hb7; clear h hb7
 go_wp2_with fail
 refine (raddlekeep_Row.calls k A0_10 c0_10 l0_10 A1_10 c1_10 l1_10 b7 _ (Kd.C_below HR0_10.out.1 HI.out.1) HR0_10.out.2 (Kd.C_below HR1_10.out.1 HI.out.1) HR1_10.out.2 Hb7.out).mono ?_
 rintro e w1 ⟨rfl, hb⟩
 clear hk0 hk1; replace HI := Aside0.mk (HI.out.step (by first | exact hb | exact hb.below)); clear hb
 have hk0 := fun i => blk_cell HI.out.2.1 i; have hk1 := fun i => blk_cell HI.out.2.2 i
 have h := H.out; clear H
 cases b7 with
 | false => (obtain rfl := Option.some.inj h; go_wp2_with fail; go_ret; exact ⟨rfl, HI.out.1⟩)
 | true =>
 rw [if_pos rfl] at h
 obtain ⟨b8, hb8, h⟩ := Option.bind_eq_some_iff.1 h; have H := Aside0.mk h; have Hb8 := Aside0.mk hb8; clear h hb8
 obtain rfl := Option.some.inj H.out; clear H
 go_wp2_with fail
 refine (raddlekeep_Dots.calls k A0_11 c0_11 l0_11 A1_11 c1_11 l1_11 b8 _ (Kd.C_below HR0_11.out.1 HI.out.1) HR0_11.out.2 (Kd.C_below HR1_11.out.1 HI.out.1) HR1_11.out.2 Hb8.out).mono ?_
 rintro e w1 ⟨rfl, hb⟩
 clear hk0 hk1; replace HI := Aside0.mk (HI.out.step (by first | exact hb | exact hb.below)); clear hb
 have hk0 := fun i => blk_cell HI.out.2.1 i; have hk1 := fun i => blk_cell HI.out.2.2 i
 cases b8 <;> (go_wp2_with fail; go_ret; exact ⟨rfl, HI.out.1⟩)
def raddlekeep_Ops.l0 : Nat → List (S52) → List (S52) → Int → Option (Bool)
 | 0, _, _, _ => none
 | k + 1, x0, x1, x5 => if x5 < (x0.length : Int) then (if 0 ≤ x5 then (if x5 < (x1.length : Int) then ((raddlekeep_Op.f k ((rd_T52 x0 x5).f0.f0) ((rd_T52 x0 x5).f0.f1) ((rd_T52 x0 x5).f1) ((rd_T52 x0 x5).f2.f0) ((rd_T52 x0 x5).f2.f1) ((rd_T52 x0 x5).f2.f2) ((rd_T52 x0 x5).f3) ((rd_T52 x0 x5).f4) ((rd_T52 x0 x5).f5) ((rd_T52 x0 x5).f6) ((rd_T52 x0 x5).f7) ((rd_T52 x0 x5).f8) ((rd_T52 x1 x5).f0.f0) ((rd_T52 x1 x5).f0.f1) ((rd_T52 x1 x5).f1) ((rd_T52 x1 x5).f2.f0) ((rd_T52 x1 x5).f2.f1) ((rd_T52 x1 x5).f2.f2) ((rd_T52 x1 x5).f3) ((rd_T52 x1 x5).f4) ((rd_T52 x1 x5).f5) ((rd_T52 x1 x5).f6) ((rd_T52 x1 x5).f7) ((rd_T52 x1 x5).f8)).bind fun t268 => (if t268 = true then (raddlekeep_Ops.l0 k x0 x1 (wrap64 (x5 + 1))) else (some false))) else (none)) else (none)) else (some true)
def raddlekeep_Ops.f (k : Nat) (l0 : List (S52)) (l1 : List (S52)) : Option (Bool) := if (l0.length : Int) = (l1.length : Int) then (raddlekeep_Ops.l0 k l0 l1 0) else (some false)
set_option maxHeartbeats 8000000 in
set_option maxRecDepth 100000 in
theorem raddlekeep_Ops.calls (k : Nat) (A0 : Option Addr) (c0 : Nat) (l0 : List (S52)) (A1 : Option Addr) (c1 : Nat) (l1 : List (S52)) (r : Bool) (w : World) (hr0 : Kd.C k52 w A0 l0.length l0) (hc0 : l0.length ≤ c0) (hr1 : Kd.C k52 w A1 l1.length l1) (hc1 : l1.length ≤ c1) (h : raddlekeep_Ops.f k l0 l1 = some r) :
  Calls Tryz.prog 42 #[.slice A0 l0.length c0, .slice A1 l1.length c1] w fun e w' => e = .returned (.bool r) ∧ Below w.heap.size w w' := by
 have HR0 := Aside0.mk (And.intro hr0 hc0); have HR1 := Aside0.mk (And.intro hr1 hc1); have hmx := Kd.C_max hr0
 clear hr0 hc0 hr1 hc1
 unfold raddlekeep_Ops.f at h
 by_cases c : (l0.length : Int) = (l1.length : Int)
 case neg => (rw [if_neg c] at h; obtain rfl := Option.some.inj h; have g : ((l0.length : Int) != (l1.length : Int)) = true := bne_iff_ne.2 c; clear c; go_enter Tryz.func42, Tryz.ntmps42; go_wp2_with fail; go_ret; exact ⟨rfl, Below.refl _ _⟩)
 rw [if_pos c] at h; have g : ((l0.length : Int) != (l1.length : Int)) = false := bne_eq_false_iff_eq.2 c
 have HL := Aside0.mk c; have H := Aside0.mk h; clear h c
 go_enter Tryz.func42, Tryz.ntmps42
 go_wp2
 go_loopw [5] (fun v wr => ∃ i kk : Nat, i ≤ l0.length ∧ v = .int .i64 i ∧ Aside0 (Below w.heap.size w wr) ∧ Aside0 (raddlekeep_Ops.l0 kk l0 l1 (i : Int) = some r)) (fun v _ => l0.length - (intOf v).toNat)
 case atStart => exact ⟨0, k, by omega, rfl, ⟨Below.refl _ _⟩, H⟩
 case round =>
  clear H g
  obtain ⟨i, kk, hi, rfl, HB, H⟩ := hrel
  obtain ⟨kk, rfl⟩ : ∃ m, kk = m + 1 := by cases kk with | zero => (have := H.out; simp [raddlekeep_Ops.l0] at this) | succ m => exact ⟨m, rfl⟩
  have h := H.out; clear H
  simp only [raddlekeep_Ops.l0] at h
  by_cases hlt : i < l0.length
  case neg => (rw [if_neg (by omega)] at h; obtain rfl := Option.some.inj h; go_wp2; go_ret; exact ⟨rfl, HB.out⟩)
  have hl1 : i < l1.length := by have := HL.out; omega
  rw [if_pos (by omega), if_pos (by omega), if_pos (by omega)] at h
  obtain ⟨b, hb, h⟩ := Option.bind_eq_some_iff.1 h
  obtain ⟨ad, P2, P2c, P10, P10c, P11, P11c, eA, x0, x1, x2, x3, x4, x5, x6, x7, x8, x9, x10, x11, xl2, xq2, xl10, xq10, xl11, xq11⟩ := at_T52 HR0.out.1 (i : Int) (by omega) (by omega)
  subst eA
  obtain ⟨bd, Q2, Q2c, Q10, Q10c, Q11, Q11c, eB, y0, y1, y2, y3, y4, y5, y6, y7, y8, y9, y10, y11, yl2, yq2, yl10, yq10, yl11, yq11⟩ := at_T52 HR1.out.1 (i : Int) (by omega) (by omega)
  subst eB
  rw [Int.toNat_natCast] at x0 x1 x2 x3 x4 x5 x6 x7 x8 x9 x10 x11 y0 y1 y2 y3 y4 y5 y6 y7 y8 y9 y10 y11
  obtain ⟨x, ex⟩ : ∃ x, x = rd_T52 l0 (i : Int) := ⟨_, rfl⟩; obtain ⟨y, ey⟩ : ∃ y, y = rd_T52 l1 (i : Int) := ⟨_, rfl⟩
  rw [← ex] at hb x0 x1 x2 x3 x4 x5 x6 x7 x8 x9 x10 x11 xl2 xq2 xl10 xq10 xl11 xq11; rw [← ey] at hb y0 y1 y2 y3 y4 y5 y6 y7 y8 y9 y10 y11 yl2 yq2 yl10 yq10 yl11 yq11
  clear ex ey
  replace x0 := pw_cell_below HB.out x0; have HX0 := Aside0.mk x0; clear x0
  replace x1 := pw_cell_below HB.out x1; have HX1 := Aside0.mk x1; clear x1
  replace x2 := pw_cell_below HB.out x2; have HX2 := Aside0.mk x2; clear x2
  replace x3 := pw_cell_below HB.out x3; have HX3 := Aside0.mk x3; clear x3
  replace x4 := pw_cell_below HB.out x4; have HX4 := Aside0.mk x4; clear x4
  replace x5 := pw_cell_below HB.out x5; have HX5 := Aside0.mk x5; clear x5
  replace x6 := pw_cell_below HB.out x6; have HX6 := Aside0.mk x6; clear x6
  replace x7 := pw_cell_below HB.out x7; have HX7 := Aside0.mk x7; clear x7
  replace x8 := pw_cell_below HB.out x8; have HX8 := Aside0.mk x8; clear x8
  replace x9 := pw_cell_below HB.out x9; have HX9 := Aside0.mk x9; clear x9
  replace x10 := pw_cell_below HB.out x10; have HX10 := Aside0.mk x10; clear x10
  replace x11 := pw_cell_below HB.out x11; have HX11 := Aside0.mk x11; clear x11
  replace y0 := pw_cell_below HB.out y0; have HY0 := Aside0.mk y0; clear y0
  replace y1 := pw_cell_below HB.out y1; have HY1 := Aside0.mk y1; clear y1
  replace y2 := pw_cell_below HB.out y2; have HY2 := Aside0.mk y2; clear y2
  replace y3 := pw_cell_below HB.out y3; have HY3 := Aside0.mk y3; clear y3
  replace y4 := pw_cell_below HB.out y4; have HY4 := Aside0.mk y4; clear y4
  replace y5 := pw_cell_below HB.out y5; have HY5 := Aside0.mk y5; clear y5
  replace y6 := pw_cell_below HB.out y6; have HY6 := Aside0.mk y6; clear y6
  replace y7 := pw_cell_below HB.out y7; have HY7 := Aside0.mk y7; clear y7
  replace y8 := pw_cell_below HB.out y8; have HY8 := Aside0.mk y8; clear y8
  replace y9 := pw_cell_below HB.out y9; have HY9 := Aside0.mk y9; clear y9
  replace y10 := pw_cell_below HB.out y10; have HY10 := Aside0.mk y10; clear y10
  replace y11 := pw_cell_below HB.out y11; have HY11 := Aside0.mk y11; clear y11
  have HQx2 := Aside0.mk (And.intro xq2 xl2); clear xq2 xl2
  have HQx10 := Aside0.mk (And.intro xq10 xl10); clear xq10 xl10
  have HQx11 := Aside0.mk (And.intro xq11 xl11); clear xq11 xl11
  have HQy2 := Aside0.mk (And.intro yq2 yl2); clear yq2 yl2
  have HQy10 := Aside0.mk (And.intro yq10 yl10); clear yq10 yl10
  have HQy11 := Aside0.mk (And.intro yq11 yl11); clear yq11 yl11
  have HV := Aside0.mk hb; have HN := Aside0.mk h; clear hb h
  have t0 := eq_true (show (0 : Int) ≤ (i : Int) by omega); have t1 := eq_true (show (i : Int) < (l0.length : Int) by omega); have t2 := eq_true (show (i : Int) < (l1.length : Int) by omega); have t3 : decide (i < l0.length) = true := decide_eq_true hlt
  go_wp2_with fail
  have HI := Aside0.mk (Zero.start wr)
  refine wp_ord (S := Zero wr) [false, false, false, false, false, false, false, false, true, false] (by kernel_rfl) (by kernel_rfl) (fun _ _ d _ _ h => by cases d <;> exact h) ?_ (fun hHeld => ?_)
  ·(first | exact HI.out.drew | exact HI.out)
  replace HI := Aside0.mk hHeld; clear hHeld
  iterate 8 (refine ord_take (v := ?_) (by rfl) ?_ ?_; rotate_left; (focus (intro w' hSw; have x0 := pw_cell_below hSw HX0.out; have x1 := pw_cell_below hSw HX1.out; have x2 := pw_cell_below hSw HX2.out; have x3 := pw_cell_below hSw HX3.out; have x4 := pw_cell_below hSw HX4.out; have x5 := pw_cell_below hSw HX5.out; have x6 := pw_cell_below hSw HX6.out; have x7 := pw_cell_below hSw HX7.out; have x8 := pw_cell_below hSw HX8.out; have x9 := pw_cell_below hSw HX9.out; have x10 := pw_cell_below hSw HX10.out; have x11 := pw_cell_below hSw HX11.out; have y0 := pw_cell_below hSw HY0.out; have y1 := pw_cell_below hSw HY1.out; have y2 := pw_cell_below hSw HY2.out; have y3 := pw_cell_below hSw HY3.out; have y4 := pw_cell_below hSw HY4.out; have y5 := pw_cell_below hSw HY5.out; have y6 := pw_cell_below hSw HY6.out; have y7 := pw_cell_below hSw HY7.out; have y8 := pw_cell_below hSw HY8.out; have y9 := pw_cell_below hSw HY9.out; have y10 := pw_cell_below hSw HY10.out; have y11 := pw_cell_below hSw HY11.out; go_simp; (try with_reducible rfl); done)); try simp only [Act.put, List.setIfInBounds_toArray, List.set_cons_zero, List.set_cons_succ])
  refine ord_call (by rfl) (fun K hK => ?_)
  go_simp; go_at_call 82
  refine (raddlekeep_Op.calls kk x.f0.f0 x.f0.f1 P2 P2c x.f1 x.f2.f0 x.f2.f1 x.f2.f2 x.f3 x.f4 x.f5 x.f6 P10 P10c x.f7 P11 P11c x.f8 y.f0.f0 y.f0.f1 Q2 Q2c y.f1 y.f2.f0 y.f2.f1 y.f2.f2 y.f3 y.f4 y.f5 y.f6 Q10 Q10c y.f7 Q11 Q11c y.f8 b _ (Kd.C_below HQx2.out.1 (below_step HB.out HI.out)) HQx2.out.2 (Kd.C_below HQx10.out.1 (below_step HB.out HI.out)) HQx10.out.2 (Kd.C_below HQx11.out.1 (below_step HB.out HI.out)) HQx11.out.2 (Kd.C_below HQy2.out.1 (below_step HB.out HI.out)) HQy2.out.2 (Kd.C_below HQy10.out.1 (below_step HB.out HI.out)) HQy10.out.2 (Kd.C_below HQy11.out.1 (below_step HB.out HI.out)) HQy11.out.2 HV.out).mono ?_; rintro e w1 ⟨rfl, hb⟩; replace HI := Aside0.mk (HI.out.step (by first | exact hb | exact hb.below)); clear hb
  refine hK.out _ _ ?_ (fun hHeld => ?_)
  ·(first | exact HI.out.drew | exact HI.out)
  clear hK K
  try simp only [Act.put, List.setIfInBounds_toArray, List.set_cons_zero, List.set_cons_succ]
  clear hHeld
  cases b with
  | true =>
   have h := HN.out; rw [if_pos rfl] at h; have H := Aside0.mk h; clear h HN
   (refine ord_take (v := ?_) (by rfl) ?_ ?_; rotate_left; (focus (intro w' hSw; have x0 := pw_cell_below hSw HX0.out; have x1 := pw_cell_below hSw HX1.out; have x2 := pw_cell_below hSw HX2.out; have x3 := pw_cell_below hSw HX3.out; have x4 := pw_cell_below hSw HX4.out; have x5 := pw_cell_below hSw HX5.out; have x6 := pw_cell_below hSw HX6.out; have x7 := pw_cell_below hSw HX7.out; have x8 := pw_cell_below hSw HX8.out; have x9 := pw_cell_below hSw HX9.out; have x10 := pw_cell_below hSw HX10.out; have x11 := pw_cell_below hSw HX11.out; have y0 := pw_cell_below hSw HY0.out; have y1 := pw_cell_below hSw HY1.out; have y2 := pw_cell_below hSw HY2.out; have y3 := pw_cell_below hSw HY3.out; have y4 := pw_cell_below hSw HY4.out; have y5 := pw_cell_below hSw HY5.out; have y6 := pw_cell_below hSw HY6.out; have y7 := pw_cell_below hSw HY7.out; have y8 := pw_cell_below hSw HY8.out; have y9 := pw_cell_below hSw HY9.out; have y10 := pw_cell_below hSw HY10.out; have y11 := pw_cell_below hSw HY11.out; go_simp; (try with_reducible rfl); done)); try simp only [Act.put, List.setIfInBounds_toArray, List.set_cons_zero, List.set_cons_succ])
   refine ord_done ?_
   have hw : IntKind.i64.wrap ((i : Int) + 1) = ((i + 1 : Nat) : Int) := (i64_w _).trans ((show wrap64 ((i : Int) + 1) = (i : Int) + 1 from by unfold wrap64; omega).trans (by omega))
   have hw2 : wrap64 ((i : Int) + 1) = ((i + 1 : Nat) : Int) := (i64_w _).symm.trans hw
   rw [hw2] at H; clear hw2
   go_wp2
   go_roundw
   case rel => exact ⟨i + 1, kk, by omega, rfl, ⟨below_step HB.out HI.out⟩, H⟩
   case measure => simp [intOf]; omega
  | false =>
   have h := HN.out; rw [if_neg (by decide)] at h; obtain rfl := Option.some.inj h; clear h HN
   (refine ord_take (v := ?_) (by rfl) ?_ ?_; rotate_left; (focus (intro w' hSw; have x0 := pw_cell_below hSw HX0.out; have x1 := pw_cell_below hSw HX1.out; have x2 := pw_cell_below hSw HX2.out; have x3 := pw_cell_below hSw HX3.out; have x4 := pw_cell_below hSw HX4.out; have x5 := pw_cell_below hSw HX5.out; have x6 := pw_cell_below hSw HX6.out; have x7 := pw_cell_below hSw HX7.out; have x8 := pw_cell_below hSw HX8.out; have x9 := pw_cell_below hSw HX9.out; have x10 := pw_cell_below hSw HX10.out; have x11 := pw_cell_below hSw HX11.out; have y0 := pw_cell_below hSw HY0.out; have y1 := pw_cell_below hSw HY1.out; have y2 := pw_cell_below hSw HY2.out; have y3 := pw_cell_below hSw HY3.out; have y4 := pw_cell_below hSw HY4.out; have y5 := pw_cell_below hSw HY5.out; have y6 := pw_cell_below hSw HY6.out; have y7 := pw_cell_below hSw HY7.out; have y8 := pw_cell_below hSw HY8.out; have y9 := pw_cell_below hSw HY9.out; have y10 := pw_cell_below hSw HY10.out; have y11 := pw_cell_below hSw HY11.out; go_simp; (try with_reducible rfl); done)); try simp only [Act.put, List.setIfInBounds_toArray, List.set_cons_zero, List.set_cons_succ])
   refine ord_done ?_
   go_wp2
   go_ret
   exact ⟨rfl, below_step HB.out HI.out⟩
def raddlekeep_Msg.f (k : Nat) (a0_0 : Int) (a0_1 : Int) (a0_2 : Int) (l0_3 : List Int) (l0_4 : List Int) (l0_5 : List (S52)) (a1_0 : Int) (a1_1 : Int) (a1_2 : Int) (l1_3 : List Int) (l1_4 : List Int) (l1_5 : List (S52)) : Option (Bool) := if a0_0 = a1_0 then (if a0_1 = a1_1 then (if a0_2 = a1_2 then ((raddlekeep_Ints.f k l0_3 l1_3).bind fun t271 => (if t271 = true then ((raddlekeep_Ints.f k l0_4 l1_4).bind fun t272 => (if t272 = true then ((raddlekeep_Ops.f k l0_5 l1_5).bind fun t273 => (some t273)) else (some false))) else (some false))) else (some false)) else (some false)) else (some false)
set_option maxHeartbeats 8000000 in
set_option maxRecDepth 100000 in
theorem raddlekeep_Msg.calls (k : Nat) (a0_0 : Int) (a0_1 : Int) (a0_2 : Int) (A0_3 : Option Addr) (c0_3 : Nat) (l0_3 : List Int) (A0_4 : Option Addr) (c0_4 : Nat) (l0_4 : List Int) (A0_5 : Option Addr) (c0_5 : Nat) (l0_5 : List (S52)) (a1_0 : Int) (a1_1 : Int) (a1_2 : Int) (A1_3 : Option Addr) (c1_3 : Nat) (l1_3 : List Int) (A1_4 : Option Addr) (c1_4 : Nat) (l1_4 : List Int) (A1_5 : Option Addr) (c1_5 : Nat) (l1_5 : List (S52)) (r : Bool) (w : World) (hr0_3 : Kd.C (Kd.int .i64) w A0_3 l0_3.length l0_3) (hc0_3 : l0_3.length ≤ c0_3) (hr0_4 : Kd.C (Kd.int .i64) w A0_4 l0_4.length l0_4) (hc0_4 : l0_4.length ≤ c0_4) (hr0_5 : Kd.C k52 w A0_5 l0_5.length l0_5) (hc0_5 : l0_5.length ≤ c0_5) (hr1_3 : Kd.C (Kd.int .i64) w A1_3 l1_3.length l1_3) (hc1_3 : l1_3.length ≤ c1_3) (hr1_4 : Kd.C (Kd.int .i64) w A1_4 l1_4.length l1_4) (hc1_4 : l1_4.length ≤ c1_4) (hr1_5 : Kd.C k52 w A1_5 l1_5.length l1_5) (hc1_5 : l1_5.length ≤ c1_5) (h : raddlekeep_Msg.f k a0_0 a0_1 a0_2 l0_3 l0_4 l0_5 a1_0 a1_1 a1_2 l1_3 l1_4 l1_5 = some r) :
  Calls Tryz.prog 15 #[.agg #[.int .i64 a0_0, .int .i64 a0_1, .int .i64 a0_2, .slice A0_3 l0_3.length c0_3, .slice A0_4 l0_4.length c0_4, .slice A0_5 l0_5.length c0_5], .agg #[.int .i64 a1_0, .int .i64 a1_1, .int .i64 a1_2, .slice A1_3 l1_3.length c1_3, .slice A1_4 l1_4.length c1_4, .slice A1_5 l1_5.length c1_5]] w fun e w' => e = .returned (.bool r) ∧ Below w.heap.size w w' := by
 have HR0_3 := Aside0.mk (And.intro hr0_3 hc0_3)
 have HR0_4 := Aside0.mk (And.intro hr0_4 hc0_4)
 have HR0_5 := Aside0.mk (And.intro hr0_5 hc0_5)
 have HR1_3 := Aside0.mk (And.intro hr1_3 hc1_3)
 have HR1_4 := Aside0.mk (And.intro hr1_4 hc1_4)
 have HR1_5 := Aside0.mk (And.intro hr1_5 hc1_5)
 clear hr0_3 hc0_3 hr0_4 hc0_4 hr0_5 hc0_5 hr1_3 hc1_3 hr1_4 hc1_4 hr1_5 hc1_5
 unfold raddlekeep_Msg.f at h
 by_cases c : a0_0 = a1_0
 case neg => (rw [if_neg c] at h; obtain rfl := Option.some.inj h; have g : (a0_0 == a1_0) = false := beq_eq_false_iff_ne.2 c; clear c; go_enter Tryz.func15, Tryz.ntmps15; go_wp2_with fail; go_ret; exact ⟨rfl, below_alloc (below_alloc (Below.refl _ w) _) _⟩)
 rw [if_pos c] at h; have g0 : (a0_0 == a1_0) = true := beq_iff_eq.2 c; clear c
 by_cases c : a0_1 = a1_1
 case neg => (rw [if_neg c] at h; obtain rfl := Option.some.inj h; have g : (a0_1 == a1_1) = false := beq_eq_false_iff_ne.2 c; clear c; go_enter Tryz.func15, Tryz.ntmps15; go_wp2_with fail; go_ret; exact ⟨rfl, below_alloc (below_alloc (Below.refl _ w) _) _⟩)
 rw [if_pos c] at h; have g1 : (a0_1 == a1_1) = true := beq_iff_eq.2 c; clear c
 by_cases c : a0_2 = a1_2
 case neg => (rw [if_neg c] at h; obtain rfl := Option.some.inj h; have g : (a0_2 == a1_2) = false := beq_eq_false_iff_ne.2 c; clear c; go_enter Tryz.func15, Tryz.ntmps15; go_wp2_with fail; go_ret; exact ⟨rfl, below_alloc (below_alloc (Below.refl _ w) _) _⟩)
 rw [if_pos c] at h; have g2 : (a0_2 == a1_2) = true := beq_iff_eq.2 c; clear c
 obtain ⟨b3, hb3, h⟩ := Option.bind_eq_some_iff.1 h; have H := Aside0.mk h; have Hb3 := Aside0.mk hb3; clear h hb3
 go_enter Tryz.func15, Tryz.ntmps15
 go_wp2_with fail
 obtain ⟨W, hW, HI⟩ := Two.start w (.cells #[.int .i64 a0_0, .int .i64 a0_1, .int .i64 a0_2, .slice A0_3 l0_3.length c0_3, .slice A0_4 l0_4.length c0_4, .slice A0_5 l0_5.length c0_5] 26) (.cells #[.int .i64 a1_0, .int .i64 a1_1, .int .i64 a1_2, .slice A1_3 l1_3.length c1_3, .slice A1_4 l1_4.length c1_4, .slice A1_5 l1_5.length c1_5] 26)
 rw [← hW]; clear hW
 have hk0 := fun i => blk_cell HI.out.2.1 i; have hk1 := fun i => blk_cell HI.out.2.2 i
 refine (raddlekeep_Ints.calls k A0_3 c0_3 l0_3 A1_3 c1_3 l1_3 b3 _ (Kd.C_below HR0_3.out.1 HI.out.1) HR0_3.out.2 (Kd.C_below HR1_3.out.1 HI.out.1) HR1_3.out.2 Hb3.out).mono ?_
 rintro e w1 ⟨rfl, hb⟩
 clear hk0 hk1; replace HI := Aside0.mk (HI.out.step (by first | exact hb | exact hb.below)); clear hb
 have hk0 := fun i => blk_cell HI.out.2.1 i; have hk1 := fun i => blk_cell HI.out.2.2 i
 have h := H.out; clear H
 cases b3 with
 | false => (obtain rfl := Option.some.inj h; go_wp2_with fail; go_ret; exact ⟨rfl, HI.out.1⟩)
 | true =>
 rw [if_pos rfl] at h
 obtain ⟨b4, hb4, h⟩ := Option.bind_eq_some_iff.1 h; have H := Aside0.mk h; have Hb4 := Aside0.mk hb4; clear h hb4
 go_wp2_with fail
 refine (raddlekeep_Ints.calls k A0_4 c0_4 l0_4 A1_4 c1_4 l1_4 b4 _ (Kd.C_below HR0_4.out.1 HI.out.1) HR0_4.out.2 (Kd.C_below HR1_4.out.1 HI.out.1) HR1_4.out.2 Hb4.out).mono ?_
 rintro e w1 ⟨rfl, hb⟩
 clear hk0 hk1; replace HI := Aside0.mk (HI.out.step (by first | exact hb | exact hb.below)); clear hb
 have hk0 := fun i => blk_cell HI.out.2.1 i; have hk1 := fun i => blk_cell HI.out.2.2 i
 have h := H.out; clear H
 cases b4 with
 | false => (obtain rfl := Option.some.inj h; go_wp2_with fail; go_ret; exact ⟨rfl, HI.out.1⟩)
 | true =>
 rw [if_pos rfl] at h
 obtain ⟨b5, hb5, h⟩ := Option.bind_eq_some_iff.1 h; have H := Aside0.mk h; have Hb5 := Aside0.mk hb5; clear h hb5
 obtain rfl := Option.some.inj H.out; clear H
 go_wp2_with fail
 refine (raddlekeep_Ops.calls k A0_5 c0_5 l0_5 A1_5 c1_5 l1_5 b5 _ (Kd.C_below HR0_5.out.1 HI.out.1) HR0_5.out.2 (Kd.C_below HR1_5.out.1 HI.out.1) HR1_5.out.2 Hb5.out).mono ?_
 rintro e w1 ⟨rfl, hb⟩
 clear hk0 hk1; replace HI := Aside0.mk (HI.out.step (by first | exact hb | exact hb.below)); clear hb
 have hk0 := fun i => blk_cell HI.out.2.1 i; have hk1 := fun i => blk_cell HI.out.2.2 i
 cases b5 <;> (go_wp2_with fail; go_ret; exact ⟨rfl, HI.out.1⟩)
def slices_Equal_byte_byte.l0 : Nat → List Int → List Int → Int → Int → Option (Bool)
 | 0, _, _, _, _ => none
 | k + 1, x0, x1, x12, x13 => if x13 < x12 then (if 0 ≤ x13 then (if x13 < (x0.length : Int) then (if x13 < (x1.length : Int) then (if (rd x0 x13) = (rd x1 x13) then (slices_Equal_byte_byte.l0 k x0 x1 x12 (wrap64 (x13 + 1))) else (some false)) else (none)) else (none)) else (none)) else (some true)
def slices_Equal_byte_byte.f (k : Nat) (l0 : List Int) (l1 : List Int) : Option (Bool) := if (l0.length : Int) = (l1.length : Int) then (slices_Equal_byte_byte.l0 k l0 l1 (l0.length : Int) 0) else (some false)
set_option maxHeartbeats 8000000 in
set_option maxRecDepth 100000 in
theorem slices_Equal_byte_byte.calls (k : Nat) (A0 : Option Addr) (c0 : Nat) (l0 : List Int) (A1 : Option Addr) (c1 : Nat) (l1 : List Int) (r : Bool) (w : World) (hr0 : Kd.C (Kd.int .u8) w A0 l0.length l0) (hc0 : l0.length ≤ c0) (hr1 : Kd.C (Kd.int .u8) w A1 l1.length l1) (hc1 : l1.length ≤ c1) (h : slices_Equal_byte_byte.f k l0 l1 = some r) :
  Calls Tryz.prog 83 #[.slice A0 l0.length c0, .slice A1 l1.length c1] w fun e w' => e = .returned (.bool r) ∧ Drawn0 w w' := by
 have HR0 := Aside0.mk hr0
 have HC0 := Aside0.mk hc0
 clear hr0 hc0
 have HR1 := Aside0.mk hr1
 have HC1 := Aside0.mk hc1
 clear hr1 hc1
 have H : (if (l0.length : Int) = (l1.length : Int) then (slices_Equal_byte_byte.l0 k l0 l1 (l0.length : Int) 0) else (some false)) = some r := h
 clear h
 by_cases c3 : (l0.length : Int) = (l1.length : Int)
 ·rw [if_pos c3] at H
  have c3b0 : ((l0.length : Int) == (l1.length : Int)) = true := beq_iff_eq.mpr c3
  have c3b1 : ((l0.length : Int) != (l1.length : Int)) = false := bne_eq_false_iff_eq.mpr c3
  have c3b2 : (l0.length == l1.length) = true := by first | simpa using c3 | (simp at c3 ⊢; omega)
  clear c3
  have H' := Aside0.mk H
  clear H
  go_enter Tryz.func83, Tryz.ntmps83
  go_wp2
  repeat (go_quiet (fail); try go_wp2)
  go_loopg [13] k (fun kq v13 w' => ∃ (x13_1 : Int), v13 = .int .i64 x13_1 ∧ Aside0 (slices_Equal_byte_byte.l0 kq l0 l1 (l0.length : Int) x13_1 = some r) ∧ Aside0 (kq ≤ k) ∧ Drawn0 w w')
  case atStart => exact ⟨(0), (by first | rfl | (simp; done) | (simp [*]; done)), H', ⟨Nat.le_refl _⟩, by repeat (first | exact Drawn0.refl _ | apply Drawn0.step)⟩
  case round =>
   clear H'
   try clear c1
   try clear p2
   try clear c3
   try clear c3b0
   try clear c3b1
   try clear c3b2
   obtain ⟨x13_1, rfl, HA, HK1, ⟨m1, rfl⟩⟩ := hrel
   cases gk with
   | zero => exact absurd HA.out (by simp [slices_Equal_byte_byte.l0])
   | succ k1 =>
    have H := HA.out
    clear HA
    simp only [slices_Equal_byte_byte.l0] at H
    by_cases c4 : x13_1 < (l0.length : Int)
    ·rw [if_pos c4] at H
     have c4b0 : decide (x13_1 < (l0.length : Int)) = true := decide_eq_true c4
     clear c4
     by_cases c5 : 0 ≤ x13_1
     ·rw [if_pos c5] at H
      have c5b0 : decide (0 ≤ x13_1) = true := decide_eq_true c5
      clear c5
      by_cases c6 : x13_1 < (l0.length : Int)
      ·rw [if_pos c6] at H
       have c6b0 : decide (x13_1 < (l0.length : Int)) = true := decide_eq_true c6
       clear c6
       by_cases c7 : x13_1 < (l1.length : Int)
       ·rw [if_pos c7] at H
        have c7b0 : decide (x13_1 < (l1.length : Int)) = true := decide_eq_true c7
        clear c7
        by_cases c8 : (rd l0 x13_1) = (rd l1 x13_1)
        ·rw [if_pos c8] at H
         have c8b0 : ((rd l0 x13_1) == (rd l1 x13_1)) = true := beq_iff_eq.mpr c8
         have c8b1 : ((rd l0 x13_1) != (rd l1 x13_1)) = false := bne_eq_false_iff_eq.mpr c8
         clear c8
         have H' := Aside0.mk H
         clear H
         have p274 : 0 ≤ (x13_1 : Int) := of_decide_eq_true (by first | (with_reducible assumption) | assumption)
         have q274 : x13_1 < (l0.length : Int) := of_decide_eq_true (by first | (with_reducible assumption) | assumption)
         obtain ⟨ad274, e274, hx274_0⟩ := Kd.at_int HR0.out x13_1 p274 q274
         cases e274
         replace p274 := eq_true p274
         replace q274 := eq_true q274
         have p275 : 0 ≤ (x13_1 : Int) := of_decide_eq_true (by first | (with_reducible assumption) | assumption)
         have q275 : x13_1 < (l1.length : Int) := of_decide_eq_true (by first | (with_reducible assumption) | assumption)
         obtain ⟨ad275, e275, hx275_0⟩ := Kd.at_int HR1.out x13_1 p275 q275
         cases e275
         replace p275 := eq_true p275
         replace q275 := eq_true q275
         go_wp2
         repeat (go_quiet (fail); try go_wp2)
         go_roundg k1
         case measure => have := HK1.out; omega
         case rel => exact ⟨(wrap64 (x13_1 + 1)), (by first | rfl | (simp; done) | (simp [*]; done)), H', ⟨by have := HK1.out; omega⟩, by repeat (first | exact Drawn0.refl _ | apply Drawn0.step)⟩
        ·rw [if_neg c8] at H
         have c8b0 : ((rd l0 x13_1) == (rd l1 x13_1)) = false := beq_eq_false_iff_ne.mpr c8
         have c8b1 : ((rd l0 x13_1) != (rd l1 x13_1)) = true := bne_iff_ne.mpr c8
         obtain rfl := Option.some.inj H
         have p274 : 0 ≤ (x13_1 : Int) := of_decide_eq_true (by first | (with_reducible assumption) | assumption)
         have q274 : x13_1 < (l0.length : Int) := of_decide_eq_true (by first | (with_reducible assumption) | assumption)
         obtain ⟨ad274, e274, hx274_0⟩ := Kd.at_int HR0.out x13_1 p274 q274
         cases e274
         replace p274 := eq_true p274
         replace q274 := eq_true q274
         have p275 : 0 ≤ (x13_1 : Int) := of_decide_eq_true (by first | (with_reducible assumption) | assumption)
         have q275 : x13_1 < (l1.length : Int) := of_decide_eq_true (by first | (with_reducible assumption) | assumption)
         obtain ⟨ad275, e275, hx275_0⟩ := Kd.at_int HR1.out x13_1 p275 q275
         cases e275
         replace p275 := eq_true p275
         replace q275 := eq_true q275
         go_wp2
         repeat (go_quiet (fail); try go_wp2)
         go_ret
         exact ⟨by first | rfl | (simp; done) | (simp [*]; done), by repeat (first | exact Drawn0.refl _ | apply Drawn0.step)⟩
       ·rw [if_neg c7] at H
        exact absurd H (by simp)
      ·rw [if_neg c6] at H
       exact absurd H (by simp)
     ·rw [if_neg c5] at H
      exact absurd H (by simp)
    ·rw [if_neg c4] at H
     have c4b0 : decide (x13_1 < (l0.length : Int)) = false := decide_eq_false c4
     clear c4
     obtain rfl := Option.some.inj H
     go_wp2
     repeat (go_quiet (fail); try go_wp2)
     go_ret
     exact ⟨by first | rfl | (simp; done) | (simp [*]; done), by repeat (first | exact Drawn0.refl _ | apply Drawn0.step)⟩
 ·rw [if_neg c3] at H
  have c3b0 : ((l0.length : Int) == (l1.length : Int)) = false := beq_eq_false_iff_ne.mpr c3
  have c3b1 : ((l0.length : Int) != (l1.length : Int)) = true := bne_iff_ne.mpr c3
  have c3b2 : (l0.length == l1.length) = false := by first | simpa using c3 | (simp at c3 ⊢; omega)
  obtain rfl := Option.some.inj H
  go_enter Tryz.func83, Tryz.ntmps83
  go_wp2
  repeat (go_quiet (fail); try go_wp2)
  go_ret
  exact ⟨by first | rfl | (simp; done) | (simp [*]; done), by repeat (first | exact Drawn0.refl _ | apply Drawn0.step)⟩
def crc_Open.j0 : Nat → List Int → Bool → Option (List Int × Int)
 | 0, _, _ => none
 | k + 1, x0, x14 => if x14 = true then (some (([] : List Int), 2)) else (if 0 ≤ (wrap64 ((x0.length : Int) - 4)) then (if (wrap64 ((x0.length : Int) - 4)) ≤ (x0.length : Int) then ((slices_Clone_byte_byte.f (x0.take ((wrap64 ((x0.length : Int) - 4)) : Int).toNat)).bind fun t277 => ((crc_Seal.f t277).bind fun bt280 => (if bt280.2 = 0 then ((slices_Equal_byte_byte.f k bt280.1 x0).bind fun t284 => (if t284 = true then (some (t277, 0)) else (some (([] : List Int), 4)))) else (some (([] : List Int), 4))))) else (none)) else (none))
def crc_Open.f (k : Nat) (l0 : List Int) : Option (List Int × Int) := if (l0.length : Int) < 4 then (crc_Open.j0 k l0 true) else (crc_Open.j0 k l0 (decide ((l0.length : Int) > 65536)))
set_option maxHeartbeats 8000000 in
set_option maxRecDepth 100000 in
theorem crc_Open.calls (k : Nat) (A0 : Option Addr) (c0 : Nat) (l0 : List Int) (r1 : List Int) (r2 : Int) (w : World) (hr0 : Kd.C (Kd.int .u8) w A0 l0.length l0) (hc0 : l0.length ≤ c0) (h : crc_Open.f k l0 = some (r1, r2)) :
  Calls Tryz.prog 43 #[.slice A0 l0.length c0] w fun e w' => ∃ v0_ : Value, e = .returned (.tuple #[v0_, .int .i64 r2]) ∧ Kd.R (Kd.int .u8) 5 w' w.heap.size (fun _ => True) v0_ r1 ∧ Below w.heap.size w w' := by
 have HR0 := Aside0.mk hr0
 have HC0 := Aside0.mk hc0
 clear hr0 hc0
 have HB := Aside0.mk (Below.refl w.heap.size w)
 have H : (if (l0.length : Int) < 4 then (crc_Open.j0 k l0 true) else (crc_Open.j0 k l0 (decide ((l0.length : Int) > 65536)))) = some (r1, r2) := h
 clear h
 have HC2 := Aside0.mk H
 clear H
 go_enter Tryz.func43, Tryz.ntmps43
 go_upto_region 1 with (fail)
 go_cut [14] (fun v14 wc => ∃ (kq : Nat) (x14_1 : Bool), v14 = .bool x14_1 ∧ Aside0 (crc_Open.j0 kq l0 x14_1 = some (r1, r2)) ∧ Aside0 (kq ≤ k) ∧ Aside0 (Below w.heap.size w wc))
 case first =>
  have H := HC2.out
  clear HC2
  by_cases c3 : (l0.length : Int) < 4
  ·rw [if_pos c3] at H
   have c3b0 : decide ((l0.length : Int) < 4) = true := decide_eq_true c3
   have c3b1 : decide (l0.length < 4) = true := decide_eq_true (by omega)
   clear c3
   (first | rw [c3b0] | (simp only [i64_w, i32_w]; rw [c3b0]) | skip)
   have H' := Aside0.mk H
   clear H
   go_wp2
   go_meet
   case rel => exact ⟨_, (true), (by first | rfl | (simp; done) | (simp [*]; done)), H', ⟨by first | omega | exact Nat.le_refl _⟩, ⟨by with_reducible repeat (first | exact HB.out | apply below_alloc | apply pw_below_drewN | apply below_drew1)⟩⟩
  ·rw [if_neg c3] at H
   have c3b0 : decide ((l0.length : Int) < 4) = false := decide_eq_false c3
   have c3b1 : decide (l0.length < 4) = false := decide_eq_false (by omega)
   clear c3
   (first | rw [c3b0] | (simp only [i64_w, i32_w]; rw [c3b0]) | skip)
   have H' := Aside0.mk H
   clear H
   go_wp2
   go_meet
   case rel => exact ⟨_, (decide ((l0.length : Int) > 65536)), (by first | rfl | (simp; done) | (simp [*]; done)), H', ⟨by first | omega | exact Nat.le_refl _⟩, ⟨by with_reducible repeat (first | exact HB.out | apply below_alloc | apply pw_below_drewN | apply below_drew1)⟩⟩
 case rest =>
  clear HC2
  try clear p2
  try clear c3
  try clear c3b0
  try clear c3b1
  obtain ⟨kq, x14_1, rfl, HA, HJ1, HB⟩ := hcut
  cases kq with
  | zero => exact absurd HA.out (by simp [crc_Open.j0])
  | succ kj1 =>
   have H := HA.out
   clear HA
   simp only [crc_Open.j0] at H
   by_cases c4 : x14_1 = true
   ·subst c4
    rw [if_pos rfl] at H
    simp only [Option.some.injEq, Prod.mk.injEq] at H
    obtain ⟨rfl, rfl⟩ := H
    go_wp2
    go_ret2
    exact ⟨_, by first | rfl | (simp [errW_none, errW_some] <;> rfl) | (simp [*, errW_none, errW_some] <;> rfl), by first | exact Kd.R_nil _ _ _ _ _ | exact Kd.N_nil _ _ _ _ _ | exact Kd.V_nil _ _ _ _ _ | exact Kd.Q_nil _ _ _ _ _ | exact Kd.S_nil _ _ _ _ _, by with_reducible repeat (first | exact HB.out | apply below_alloc | apply pw_below_drewN | apply below_drew1)⟩
   ·replace c4 := Bool.eq_false_iff.mpr c4
    subst c4
    rw [if_neg (show ¬ (false = true) by decide)] at H
    obtain ⟨ji5, hji5⟩ : ∃ j_ : Int, (wrap64 ((l0.length : Int) - 4)) = j_ := ⟨_, rfl⟩
    replace H : (if 0 ≤ (ji5) then (if (ji5) ≤ (l0.length : Int) then ((slices_Clone_byte_byte.f (l0.take ((ji5) : Int).toNat)).bind fun t277 => ((crc_Seal.f t277).bind fun bt280 => (if bt280.2 = 0 then ((slices_Equal_byte_byte.f kj1 bt280.1 l0).bind fun t284 => (if t284 = true then (some (t277, 0)) else (some (([] : List Int), 4)))) else (some (([] : List Int), 4))))) else (none)) else (none)) = some (r1, r2) := by first | (rw [hji5] at H; exact H) | (simp only [hji5] at H ⊢; exact H)
    have hji5w : (IntKind.i64.wrap ((l0.length : Int) - 4)) = ji5 := (i64_w _).trans hji5
    by_cases c6 : 0 ≤ (ji5)
    ·rw [if_pos c6] at H
     have c6b0 := eq_true c6
     have c6b1 : decide (0 ≤ (ji5)) = true := decide_eq_true c6
     clear c6
     by_cases c7 : (ji5) ≤ (l0.length : Int)
     ·rw [if_pos c7] at H
      have c7b0 := eq_true c7
      have c7b1 : decide ((ji5) ≤ (l0.length : Int)) = true := decide_eq_true c7
      clear c7
      replace H := Option.bind_eq_some_iff.mp H
      obtain ⟨t277, A80, H⟩ := H
      try dsimp only at H
      have A8 := Aside0.mk A80
      clear A80
      replace H := Option.bind_eq_some_iff.mp H
      obtain ⟨⟨t280, t281⟩, A90, H⟩ := H
      try dsimp only at H
      have A9 := Aside0.mk A90
      clear A90
      by_cases c10 : t281 = 0
      ·rw [if_pos c10] at H
       have c10b0 : (t281 == 0) = true := beq_iff_eq.mpr c10
       have c10b1 : (t281 != 0) = false := bne_eq_false_iff_eq.mpr c10
       clear c10
       replace H := Option.bind_eq_some_iff.mp H
       obtain ⟨t284, A110, H⟩ := H
       try dsimp only at H
       have A11 := Aside0.mk A110
       clear A110
       by_cases c12 : t284 = true
       ·subst c12
        rw [if_pos rfl] at H
        simp only [Option.some.injEq, Prod.mk.injEq] at H
        obtain ⟨rfl, rfl⟩ := H
        obtain ⟨i013, hi013, _, hsz13, _⟩ := info_parts info5
        obtain ⟨hcut13, hA13, hC13⟩ := print_take_of (P := Tryz.prog) (Value.int .u8) 0 33 5 .i64 Tryz.underlying33 hi013 hsz13 A0 c0 l0 (ji5) (of_decide_eq_true (by first | (with_reducible assumption) | assumption)) (of_decide_eq_true (by first | (with_reducible assumption) | assumption)) HC0.out
        have HR276 := Aside0.mk (Kd.C_of_reads (h1 := fun _ => rfl) (hA13 _ (Kd.reads_of_C HR0.out)))
        have HC276 := Aside0.mk hC13
        clear hA13 hC13 hi013 hsz13
        go_wp2_with (first | ((with_reducible refine gate_callee (f := 66) rfl ?_); refine goesL_ (some 20) rfl rfl Tryz.func66 (by kernel_rfl) rfl #[.slice A0 (l0.take ((ji5) : Int).toNat).length c0] rfl (by (try simp only [List.map_toArray, List.map_cons, List.map_nil]); first | done | (rw [show (l0.take ((ji5) : Int).toNat).length = (ji5).toNat from (by rw [List.length_take]; have h_ : ((ji5) : Int) ≤ (l0.length : Int) := of_decide_eq_true (by first | (with_reducible assumption) | assumption); omega)] <;> rfl) | (simp only [hji5]; rfl) | rfl | (simp only [List.length_drop, List.length_take]; rfl)) ?_; (with_reducible refine (slices_Clone_byte_byte.calls _ _ (l0.take ((ji5) : Int).toNat) t277 _ ?side1 ?side2 A8.out).mono ?_); (case side1 => repeat (first | exact (Kd.C_below HR276.out HB.out) | (with_reducible refine Kd.C_alloc ?_ _) | (with_reducible refine Kd.C_drewN ?_ _) | (with_reducible refine Kd.C_drew ?_))); (case side2 => exact HC276.out); rintro e w14 ⟨v278, rfl, ho0, hb⟩; refine ⟨_, rfl, ?_⟩; have n0_ := Aside0.mk (Kd.R_lower ho0 (below_size (by with_reducible repeat (first | exact HB.out | apply below_alloc | apply pw_below_drewN | apply below_drew1)))); have n1_ := Aside0.mk (below_step (by with_reducible repeat (first | exact HB.out | apply below_alloc | apply pw_below_drewN | apply below_drew1)) hb); clear HB; have HO279 := n0_; have HB := n1_; clear n0_ n1_; (try clear hb); (try clear hb2); (try clear hk); (try clear hi); (try clear ho0); obtain ⟨Ao15, co15, eo15⟩ := Kd.R_slice HO279.out; subst eo15) | ((with_reducible refine gate_callee (f := 31) rfl ?_); refine goesL_ (some 23) rfl rfl Tryz.func31 (by kernel_rfl) rfl #[.slice Ao15 t277.length co15] rfl (by (try simp only [List.map_toArray, List.map_cons, List.map_nil]); first | done | rfl | (simp only [List.length_drop, List.length_take]; rfl)) ?_; (with_reducible refine (crc_Seal.calls _ _ t277 t280 t281 _ ?side1 ?side2 A9.out).mono ?_); (case side1 => repeat (first | exact (Kd.R_reads' HO279.out).2.2 | (with_reducible refine Kd.C_alloc ?_ _) | (with_reducible refine Kd.C_drewN ?_ _) | (with_reducible refine Kd.C_drew ?_))); (case side2 => exact (Kd.R_reads' HO279.out).2.1); rintro e w16 ⟨v282, rfl, ho0, hb⟩; refine ⟨_, rfl, ?_⟩; have n0_ := Aside0.mk (Kd.R_elder' (by (with_reducible repeat (first | apply Kd.R_alloc | apply Kd.R_drewN | apply Kd.R_drew)); exact HO279.out) (Kd.R_base ho0) hb); have n1_ := Aside0.mk (Kd.R_lower (Kd.R_new' ho0 (Kd.R_lt (by (with_reducible repeat (first | apply Kd.R_alloc | apply Kd.R_drewN | apply Kd.R_drew)); exact HO279.out))) (below_size (by with_reducible repeat (first | exact HB.out | apply below_alloc | apply pw_below_drewN | apply below_drew1)))); have n2_ := Aside0.mk (below_step (by with_reducible repeat (first | exact HB.out | apply below_alloc | apply pw_below_drewN | apply below_drew1)) hb); clear HO279; clear HB; have HO279 := n0_; have HO283 := n1_; have HB := n2_; clear n0_ n1_ n2_; (try clear hb); (try clear hb2); (try clear hk); (try clear hi); (try clear ho0); obtain ⟨Ao17, co17, eo17⟩ := Kd.R_slice HO283.out; subst eo17) | (go_at_call 83; (with_reducible refine (slices_Equal_byte_byte.calls kj1 _ _ t280 _ _ l0 true _ ?side1 ?side2 ?side3 ?side4 A11.out).mono ?_); (case side1 => repeat (first | exact (Kd.R_reads' HO283.out).2.2 | (with_reducible refine Kd.C_alloc ?_ _) | (with_reducible refine Kd.C_drewN ?_ _) | (with_reducible refine Kd.C_drew ?_))); (case side2 => exact (Kd.R_reads' HO283.out).2.1); (case side3 => repeat (first | exact (Kd.C_below HR0.out HB.out) | (with_reducible refine Kd.C_alloc ?_ _) | (with_reducible refine Kd.C_drewN ?_ _) | (with_reducible refine Kd.C_drew ?_))); (case side4 => exact HC0.out); rintro e w' ⟨rfl, ⟨nd, rfl⟩⟩))
        go_ret2
        exact ⟨_, by first | rfl | (simp [errW_none, errW_some] <;> rfl) | (simp only [← hji5]; first | rfl | (simp [errW_none, errW_some] <;> rfl)) | (simp [*, errW_none, errW_some] <;> rfl), by (with_reducible repeat (first | apply Kd.R_alloc | apply Kd.R_drewN | apply Kd.R_drew)); exact Kd.R_mono HO279.out (fun _ hk => trivial), by with_reducible repeat (first | exact HB.out | apply below_alloc | apply pw_below_drewN | apply below_drew1)⟩
       ·replace c12 := Bool.eq_false_iff.mpr c12
        subst c12
        rw [if_neg (show ¬ (false = true) by decide)] at H
        simp only [Option.some.injEq, Prod.mk.injEq] at H
        obtain ⟨rfl, rfl⟩ := H
        obtain ⟨i018, hi018, _, hsz18, _⟩ := info_parts info5
        obtain ⟨hcut18, hA18, hC18⟩ := print_take_of (P := Tryz.prog) (Value.int .u8) 0 33 5 .i64 Tryz.underlying33 hi018 hsz18 A0 c0 l0 (ji5) (of_decide_eq_true (by first | (with_reducible assumption) | assumption)) (of_decide_eq_true (by first | (with_reducible assumption) | assumption)) HC0.out
        have HR276 := Aside0.mk (Kd.C_of_reads (h1 := fun _ => rfl) (hA18 _ (Kd.reads_of_C HR0.out)))
        have HC276 := Aside0.mk hC18
        clear hA18 hC18 hi018 hsz18
        go_wp2_with (first | ((with_reducible refine gate_callee (f := 66) rfl ?_); refine goesL_ (some 20) rfl rfl Tryz.func66 (by kernel_rfl) rfl #[.slice A0 (l0.take ((ji5) : Int).toNat).length c0] rfl (by (try simp only [List.map_toArray, List.map_cons, List.map_nil]); first | done | (rw [show (l0.take ((ji5) : Int).toNat).length = (ji5).toNat from (by rw [List.length_take]; have h_ : ((ji5) : Int) ≤ (l0.length : Int) := of_decide_eq_true (by first | (with_reducible assumption) | assumption); omega)] <;> rfl) | (simp only [hji5]; rfl) | rfl | (simp only [List.length_drop, List.length_take]; rfl)) ?_; (with_reducible refine (slices_Clone_byte_byte.calls _ _ (l0.take ((ji5) : Int).toNat) t277 _ ?side1 ?side2 A8.out).mono ?_); (case side1 => repeat (first | exact (Kd.C_below HR276.out HB.out) | (with_reducible refine Kd.C_alloc ?_ _) | (with_reducible refine Kd.C_drewN ?_ _) | (with_reducible refine Kd.C_drew ?_))); (case side2 => exact HC276.out); rintro e w19 ⟨v278, rfl, ho0, hb⟩; refine ⟨_, rfl, ?_⟩; have n0_ := Aside0.mk (Kd.R_lower ho0 (below_size (by with_reducible repeat (first | exact HB.out | apply below_alloc | apply pw_below_drewN | apply below_drew1)))); have n1_ := Aside0.mk (below_step (by with_reducible repeat (first | exact HB.out | apply below_alloc | apply pw_below_drewN | apply below_drew1)) hb); clear HB; have HO279 := n0_; have HB := n1_; clear n0_ n1_; (try clear hb); (try clear hb2); (try clear hk); (try clear hi); (try clear ho0); obtain ⟨Ao20, co20, eo20⟩ := Kd.R_slice HO279.out; subst eo20) | ((with_reducible refine gate_callee (f := 31) rfl ?_); refine goesL_ (some 23) rfl rfl Tryz.func31 (by kernel_rfl) rfl #[.slice Ao20 t277.length co20] rfl (by (try simp only [List.map_toArray, List.map_cons, List.map_nil]); first | done | rfl | (simp only [List.length_drop, List.length_take]; rfl)) ?_; (with_reducible refine (crc_Seal.calls _ _ t277 t280 t281 _ ?side1 ?side2 A9.out).mono ?_); (case side1 => repeat (first | exact (Kd.R_reads' HO279.out).2.2 | (with_reducible refine Kd.C_alloc ?_ _) | (with_reducible refine Kd.C_drewN ?_ _) | (with_reducible refine Kd.C_drew ?_))); (case side2 => exact (Kd.R_reads' HO279.out).2.1); rintro e w21 ⟨v282, rfl, ho0, hb⟩; refine ⟨_, rfl, ?_⟩; have n0_ := Aside0.mk (Kd.R_elder' (by (with_reducible repeat (first | apply Kd.R_alloc | apply Kd.R_drewN | apply Kd.R_drew)); exact HO279.out) (Kd.R_base ho0) hb); have n1_ := Aside0.mk (Kd.R_lower (Kd.R_new' ho0 (Kd.R_lt (by (with_reducible repeat (first | apply Kd.R_alloc | apply Kd.R_drewN | apply Kd.R_drew)); exact HO279.out))) (below_size (by with_reducible repeat (first | exact HB.out | apply below_alloc | apply pw_below_drewN | apply below_drew1)))); have n2_ := Aside0.mk (below_step (by with_reducible repeat (first | exact HB.out | apply below_alloc | apply pw_below_drewN | apply below_drew1)) hb); clear HO279; clear HB; have HO279 := n0_; have HO283 := n1_; have HB := n2_; clear n0_ n1_ n2_; (try clear hb); (try clear hb2); (try clear hk); (try clear hi); (try clear ho0); obtain ⟨Ao22, co22, eo22⟩ := Kd.R_slice HO283.out; subst eo22) | (go_at_call 83; (with_reducible refine (slices_Equal_byte_byte.calls kj1 _ _ t280 _ _ l0 false _ ?side1 ?side2 ?side3 ?side4 A11.out).mono ?_); (case side1 => repeat (first | exact (Kd.R_reads' HO283.out).2.2 | (with_reducible refine Kd.C_alloc ?_ _) | (with_reducible refine Kd.C_drewN ?_ _) | (with_reducible refine Kd.C_drew ?_))); (case side2 => exact (Kd.R_reads' HO283.out).2.1); (case side3 => repeat (first | exact (Kd.C_below HR0.out HB.out) | (with_reducible refine Kd.C_alloc ?_ _) | (with_reducible refine Kd.C_drewN ?_ _) | (with_reducible refine Kd.C_drew ?_))); (case side4 => exact HC0.out); rintro e w' ⟨rfl, ⟨nd, rfl⟩⟩))
        go_ret2
        exact ⟨_, by first | rfl | (simp [errW_none, errW_some] <;> rfl) | (simp only [← hji5]; first | rfl | (simp [errW_none, errW_some] <;> rfl)) | (simp [*, errW_none, errW_some] <;> rfl), by first | exact Kd.R_nil _ _ _ _ _ | exact Kd.N_nil _ _ _ _ _ | exact Kd.V_nil _ _ _ _ _ | exact Kd.Q_nil _ _ _ _ _ | exact Kd.S_nil _ _ _ _ _, by with_reducible repeat (first | exact HB.out | apply below_alloc | apply pw_below_drewN | apply below_drew1)⟩
      ·rw [if_neg c10] at H
       have c10b0 : (t281 == 0) = false := beq_eq_false_iff_ne.mpr c10
       have c10b1 : (t281 != 0) = true := bne_iff_ne.mpr c10
       simp only [Option.some.injEq, Prod.mk.injEq] at H
       obtain ⟨rfl, rfl⟩ := H
       obtain ⟨i023, hi023, _, hsz23, _⟩ := info_parts info5
       obtain ⟨hcut23, hA23, hC23⟩ := print_take_of (P := Tryz.prog) (Value.int .u8) 0 33 5 .i64 Tryz.underlying33 hi023 hsz23 A0 c0 l0 (ji5) (of_decide_eq_true (by first | (with_reducible assumption) | assumption)) (of_decide_eq_true (by first | (with_reducible assumption) | assumption)) HC0.out
       have HR276 := Aside0.mk (Kd.C_of_reads (h1 := fun _ => rfl) (hA23 _ (Kd.reads_of_C HR0.out)))
       have HC276 := Aside0.mk hC23
       clear hA23 hC23 hi023 hsz23
       go_wp2_with (first | ((with_reducible refine gate_callee (f := 66) rfl ?_); refine goesL_ (some 20) rfl rfl Tryz.func66 (by kernel_rfl) rfl #[.slice A0 (l0.take ((ji5) : Int).toNat).length c0] rfl (by (try simp only [List.map_toArray, List.map_cons, List.map_nil]); first | done | (rw [show (l0.take ((ji5) : Int).toNat).length = (ji5).toNat from (by rw [List.length_take]; have h_ : ((ji5) : Int) ≤ (l0.length : Int) := of_decide_eq_true (by first | (with_reducible assumption) | assumption); omega)] <;> rfl) | (simp only [hji5]; rfl) | rfl | (simp only [List.length_drop, List.length_take]; rfl)) ?_; (with_reducible refine (slices_Clone_byte_byte.calls _ _ (l0.take ((ji5) : Int).toNat) t277 _ ?side1 ?side2 A8.out).mono ?_); (case side1 => repeat (first | exact (Kd.C_below HR276.out HB.out) | (with_reducible refine Kd.C_alloc ?_ _) | (with_reducible refine Kd.C_drewN ?_ _) | (with_reducible refine Kd.C_drew ?_))); (case side2 => exact HC276.out); rintro e w24 ⟨v278, rfl, ho0, hb⟩; refine ⟨_, rfl, ?_⟩; have n0_ := Aside0.mk (Kd.R_lower ho0 (below_size (by with_reducible repeat (first | exact HB.out | apply below_alloc | apply pw_below_drewN | apply below_drew1)))); have n1_ := Aside0.mk (below_step (by with_reducible repeat (first | exact HB.out | apply below_alloc | apply pw_below_drewN | apply below_drew1)) hb); clear HB; have HO279 := n0_; have HB := n1_; clear n0_ n1_; (try clear hb); (try clear hb2); (try clear hk); (try clear hi); (try clear ho0); obtain ⟨Ao25, co25, eo25⟩ := Kd.R_slice HO279.out; subst eo25) | ((with_reducible refine gate_callee (f := 31) rfl ?_); refine goesL_ (some 23) rfl rfl Tryz.func31 (by kernel_rfl) rfl #[.slice Ao25 t277.length co25] rfl (by (try simp only [List.map_toArray, List.map_cons, List.map_nil]); first | done | rfl | (simp only [List.length_drop, List.length_take]; rfl)) ?_; (with_reducible refine (crc_Seal.calls _ _ t277 t280 t281 _ ?side1 ?side2 A9.out).mono ?_); (case side1 => repeat (first | exact (Kd.R_reads' HO279.out).2.2 | (with_reducible refine Kd.C_alloc ?_ _) | (with_reducible refine Kd.C_drewN ?_ _) | (with_reducible refine Kd.C_drew ?_))); (case side2 => exact (Kd.R_reads' HO279.out).2.1); rintro e w26 ⟨v282, rfl, ho0, hb⟩; refine ⟨_, rfl, ?_⟩; have n0_ := Aside0.mk (Kd.R_elder' (by (with_reducible repeat (first | apply Kd.R_alloc | apply Kd.R_drewN | apply Kd.R_drew)); exact HO279.out) (Kd.R_base ho0) hb); have n1_ := Aside0.mk (Kd.R_lower (Kd.R_new' ho0 (Kd.R_lt (by (with_reducible repeat (first | apply Kd.R_alloc | apply Kd.R_drewN | apply Kd.R_drew)); exact HO279.out))) (below_size (by with_reducible repeat (first | exact HB.out | apply below_alloc | apply pw_below_drewN | apply below_drew1)))); have n2_ := Aside0.mk (below_step (by with_reducible repeat (first | exact HB.out | apply below_alloc | apply pw_below_drewN | apply below_drew1)) hb); clear HO279; clear HB; have HO279 := n0_; have HO283 := n1_; have HB := n2_; clear n0_ n1_ n2_; (try clear hb); (try clear hb2); (try clear hk); (try clear hi); (try clear ho0)))
       go_ret2
       exact ⟨_, by first | rfl | (simp [errW_none, errW_some] <;> rfl) | (simp only [← hji5]; first | rfl | (simp [errW_none, errW_some] <;> rfl)) | (simp [*, errW_none, errW_some] <;> rfl), by first | exact Kd.R_nil _ _ _ _ _ | exact Kd.N_nil _ _ _ _ _ | exact Kd.V_nil _ _ _ _ _ | exact Kd.Q_nil _ _ _ _ _ | exact Kd.S_nil _ _ _ _ _, by with_reducible repeat (first | exact HB.out | apply below_alloc | apply pw_below_drewN | apply below_drew1)⟩
     ·rw [if_neg c7] at H
      exact absurd H (by simp)
    ·rw [if_neg c6] at H
     exact absurd H (by simp)
def wire_num.l0 : Nat → Int → List Int → Int → Int → Option (Int)
 | 0, _, _, _, _ => none
 | k + 1, x3, x6, x7, x8 => if x8 < x7 then (if 0 ≤ x8 then (if x8 < (x6.length : Int) then (wire_num.l0 k (Go.bits .or .u64 (IntKind.u64.wrap (x3 * 256)) (IntKind.u64.wrap (rd x6 x8))) x6 x7 (wrap64 (x8 + 1))) else (none)) else (none)) else (some x3)
def wire_num.f (k : Nat) (l0 : List Int) : Option (Int) := wire_num.l0 k 0 l0 (l0.length : Int) 0
set_option maxHeartbeats 8000000 in
set_option maxRecDepth 100000 in
theorem wire_num.calls (k : Nat) (A0 : Option Addr) (c0 : Nat) (l0 : List Int) (r : Int) (w : World) (hr0 : Kd.C (Kd.int .u8) w A0 l0.length l0) (hc0 : l0.length ≤ c0) (h : wire_num.f k l0 = some r) :
  Calls Tryz.prog 114 #[.slice A0 l0.length c0] w fun e w' => e = .returned (.int .u64 r) ∧ Drawn0 w w' := by
 have HR0 := Aside0.mk hr0
 have HC0 := Aside0.mk hc0
 clear hr0 hc0
 have H : (wire_num.l0 k 0 l0 (l0.length : Int) 0) = some r := h
 clear h
 have H' := Aside0.mk H
 clear H
 go_enter Tryz.func114, Tryz.ntmps114
 go_wp2
 go_loopg [3, 8] k (fun kq v3 v8 w' => ∃ (x3_1 : Int) (x8_1 : Int), v3 = .int .u64 x3_1 ∧ v8 = .int .i64 x8_1 ∧ Aside0 (wire_num.l0 kq x3_1 l0 (l0.length : Int) x8_1 = some r) ∧ Aside0 (kq ≤ k) ∧ Drawn0 w w')
 case atStart => exact ⟨(0), (0), (by first | rfl | (simp; done) | (simp [*]; done)), (by first | rfl | (simp; done) | (simp [*]; done)), H', ⟨Nat.le_refl _⟩, by repeat (first | exact Drawn0.refl _ | apply Drawn0.step)⟩
 case round =>
  clear H'
  try clear c1
  obtain ⟨x3_1, x8_1, rfl, rfl, HA, HK1, ⟨m1, rfl⟩⟩ := hrel
  cases gk with
  | zero => exact absurd HA.out (by simp [wire_num.l0])
  | succ k1 =>
   have H := HA.out
   clear HA
   simp only [wire_num.l0] at H
   by_cases c2 : x8_1 < (l0.length : Int)
   ·rw [if_pos c2] at H
    have c2b0 : decide (x8_1 < (l0.length : Int)) = true := decide_eq_true c2
    clear c2
    by_cases c3 : 0 ≤ x8_1
    ·rw [if_pos c3] at H
     have c3b0 : decide (0 ≤ x8_1) = true := decide_eq_true c3
     clear c3
     by_cases c4 : x8_1 < (l0.length : Int)
     ·rw [if_pos c4] at H
      have c4b0 : decide (x8_1 < (l0.length : Int)) = true := decide_eq_true c4
      clear c4
      have H' := Aside0.mk H
      clear H
      have p285 : 0 ≤ (x8_1 : Int) := of_decide_eq_true (by first | (with_reducible assumption) | assumption)
      have q285 : x8_1 < (l0.length : Int) := of_decide_eq_true (by first | (with_reducible assumption) | assumption)
      obtain ⟨ad285, e285, hx285_0⟩ := Kd.at_int HR0.out x8_1 p285 q285
      cases e285
      replace p285 := eq_true p285
      replace q285 := eq_true q285
      go_wp2
      go_roundg k1
      case measure => have := HK1.out; omega
      case rel => exact ⟨(Go.bits .or .u64 (IntKind.u64.wrap (x3_1 * 256)) (IntKind.u64.wrap (rd l0 x8_1))), (wrap64 (x8_1 + 1)), (by first | rfl | (simp; done) | (simp [*]; done)), (by first | rfl | (simp; done) | (simp [*]; done)), H', ⟨by have := HK1.out; omega⟩, by repeat (first | exact Drawn0.refl _ | apply Drawn0.step)⟩
     ·rw [if_neg c4] at H
      exact absurd H (by simp)
    ·rw [if_neg c3] at H
     exact absurd H (by simp)
   ·rw [if_neg c2] at H
    have c2b0 : decide (x8_1 < (l0.length : Int)) = false := decide_eq_false c2
    clear c2
    obtain rfl := Option.some.inj H
    go_wp2
    go_ret
    exact ⟨by first | rfl | (simp; done) | (simp [*]; done), by repeat (first | exact Drawn0.refl _ | apply Drawn0.step)⟩
def wire_Get.j0 : Nat → List Int → Int → Int → Bool → Option (Int × Int × Int)
 | 0, _, _, _, _ => none
 | k + 1, x0, x1, x2, x9 => if x9 = true then (some (0, 0, 1)) else (if (wrap64 ((x0.length : Int) - x1)) < x2 then (some (0, 0, 3)) else (if 0 ≤ x1 then (if x1 ≤ (wrap64 (x1 + x2)) then (if (wrap64 (x1 + x2)) ≤ (x0.length : Int) then ((wire_num.f k ((x0.take ((wrap64 (x1 + x2)) : Int).toNat).drop (x1 : Int).toNat)).bind fun t287 => (some (wrap64 (t287), wrap64 (x1 + x2), 0))) else (none)) else (none)) else (none)))
def wire_Get.f (k : Nat) (l0 : List Int) (a1 : Int) (a2 : Int) : Option (Int × Int × Int) := if a2 < 1 then (wire_Get.j0 k l0 a1 a2 true) else (if a2 > 7 then (wire_Get.j0 k l0 a1 a2 true) else (if a1 < 0 then (wire_Get.j0 k l0 a1 a2 true) else (wire_Get.j0 k l0 a1 a2 (decide (a1 > (l0.length : Int))))))
set_option maxHeartbeats 8000000 in
set_option maxRecDepth 100000 in
theorem wire_Get.calls (k : Nat) (A0 : Option Addr) (c0 : Nat) (l0 : List Int) (a1 : Int) (a2 : Int) (r1 : Int) (r2 : Int) (r3 : Int) (w : World) (hr0 : Kd.C (Kd.int .u8) w A0 l0.length l0) (hc0 : l0.length ≤ c0) (h : wire_Get.f k l0 a1 a2 = some (r1, r2, r3)) :
  Calls Tryz.prog 84 #[.slice A0 l0.length c0, .int .i64 a1, .int .i64 a2] w fun e w' => e = .returned (.tuple #[.int .i64 r1, .int .i64 r2, .int .i64 r3]) ∧ Drawn0 w w' := by
 have HR0 := Aside0.mk hr0
 have HC0 := Aside0.mk hc0
 clear hr0 hc0
 have H : (if a2 < 1 then (wire_Get.j0 k l0 a1 a2 true) else (if a2 > 7 then (wire_Get.j0 k l0 a1 a2 true) else (if a1 < 0 then (wire_Get.j0 k l0 a1 a2 true) else (wire_Get.j0 k l0 a1 a2 (decide (a1 > (l0.length : Int))))))) = some (r1, r2, r3) := h
 clear h
 have HC4 := Aside0.mk H
 clear H
 go_enter Tryz.func84, Tryz.ntmps84
 go_upto_region 1 with (fail)
 go_cut [9] (fun v9 wc => ∃ (kq : Nat) (x9_3 : Bool), v9 = .bool x9_3 ∧ Aside0 (wire_Get.j0 kq l0 a1 a2 x9_3 = some (r1, r2, r3)) ∧ Aside0 (kq ≤ k) ∧ Drawn0 w wc)
 case first =>
  have H := HC4.out
  clear HC4
  by_cases c5 : a2 < 1
  ·rw [if_pos c5] at H
   have c5b0 : decide (a2 < 1) = true := decide_eq_true c5
   clear c5
   (first | rw [c5b0] | (simp only [i64_w, i32_w]; rw [c5b0]) | skip)
   have H' := Aside0.mk H
   clear H
   go_wp2
   go_meet
   case rel => exact ⟨_, (true), (by first | rfl | (simp; done) | (simp [*]; done)), H', ⟨by first | omega | exact Nat.le_refl _⟩, by repeat (first | exact Drawn0.refl _ | apply Drawn0.step)⟩
  ·rw [if_neg c5] at H
   have c5b0 : decide (a2 < 1) = false := decide_eq_false c5
   clear c5
   (first | rw [c5b0] | (simp only [i64_w, i32_w]; rw [c5b0]) | skip)
   by_cases c6 : a2 > 7
   ·rw [if_pos c6] at H
    have c6b0 : decide (7 < a2) = true := decide_eq_true c6
    clear c6
    have H' := Aside0.mk H
    clear H
    go_wp2
    go_meet
    case rel => exact ⟨_, (true), (by first | rfl | (simp; done) | (simp [*]; done)), H', ⟨by first | omega | exact Nat.le_refl _⟩, by repeat (first | exact Drawn0.refl _ | apply Drawn0.step)⟩
   ·rw [if_neg c6] at H
    have c6b0 : decide (7 < a2) = false := decide_eq_false c6
    clear c6
    by_cases c7 : a1 < 0
    ·rw [if_pos c7] at H
     have c7b0 : decide (a1 < 0) = true := decide_eq_true c7
     clear c7
     have H' := Aside0.mk H
     clear H
     go_wp2
     go_meet
     case rel => exact ⟨_, (true), (by first | rfl | (simp; done) | (simp [*]; done)), H', ⟨by first | omega | exact Nat.le_refl _⟩, by repeat (first | exact Drawn0.refl _ | apply Drawn0.step)⟩
    ·rw [if_neg c7] at H
     have c7b0 : decide (a1 < 0) = false := decide_eq_false c7
     clear c7
     have H' := Aside0.mk H
     clear H
     go_wp2
     go_meet
     case rel => exact ⟨_, (decide (a1 > (l0.length : Int))), (by first | rfl | (simp; done) | (simp [*]; done)), H', ⟨by first | omega | exact Nat.le_refl _⟩, by repeat (first | exact Drawn0.refl _ | apply Drawn0.step)⟩
 case rest =>
  clear HC4
  try clear p2
  try clear c5
  try clear c5b0
  try clear c6
  try clear c6b0
  try clear c7
  try clear c7b0
  obtain ⟨kq, x9_3, rfl, HA, HJ3, ⟨mc3, rfl⟩⟩ := hcut
  cases kq with
  | zero => exact absurd HA.out (by simp [wire_Get.j0])
  | succ kj3 =>
   have H := HA.out
   clear HA
   simp only [wire_Get.j0] at H
   by_cases c8 : x9_3 = true
   ·subst c8
    rw [if_pos rfl] at H
    simp only [Option.some.injEq, Prod.mk.injEq] at H
    obtain ⟨rfl, rfl, rfl⟩ := H
    go_wp2
    go_ret3
    exact ⟨by first | rfl | (simp; done) | (simp [*]; done), by repeat (first | exact Drawn0.refl _ | apply Drawn0.step)⟩
   ·replace c8 := Bool.eq_false_iff.mpr c8
    subst c8
    rw [if_neg (show ¬ (false = true) by decide)] at H
    by_cases c9 : (wrap64 ((l0.length : Int) - a1)) < a2
    ·rw [if_pos c9] at H
     have c9b0 : decide ((wrap64 ((l0.length : Int) - a1)) < a2) = true := decide_eq_true c9
     clear c9
     simp only [Option.some.injEq, Prod.mk.injEq] at H
     obtain ⟨rfl, rfl, rfl⟩ := H
     go_wp2
     go_ret3
     exact ⟨by first | rfl | (simp; done) | (simp [*]; done), by repeat (first | exact Drawn0.refl _ | apply Drawn0.step)⟩
    ·rw [if_neg c9] at H
     have c9b0 : decide ((wrap64 ((l0.length : Int) - a1)) < a2) = false := decide_eq_false c9
     clear c9
     by_cases c10 : 0 ≤ a1
     ·rw [if_pos c10] at H
      have c10b0 := eq_true c10
      have c10b1 : decide (0 ≤ a1) = true := decide_eq_true c10
      clear c10
      by_cases c11 : a1 ≤ (wrap64 (a1 + a2))
      ·rw [if_pos c11] at H
       have c11b0 := eq_true c11
       have c11b1 : decide (a1 ≤ (wrap64 (a1 + a2))) = true := decide_eq_true c11
       by_cases c12 : (wrap64 (a1 + a2)) ≤ (l0.length : Int)
       ·rw [if_pos c12] at H
        have c12b0 := eq_true c12
        have c12b1 : decide ((wrap64 (a1 + a2)) ≤ (l0.length : Int)) = true := decide_eq_true c12
        replace H := Option.bind_eq_some_iff.mp H
        obtain ⟨t287, A130, H⟩ := H
        try dsimp only at H
        have A13 := Aside0.mk A130
        clear A130
        simp only [Option.some.injEq, Prod.mk.injEq] at H
        obtain ⟨rfl, rfl, rfl⟩ := H
        obtain ⟨i014, hi014, _, hsz14, _⟩ := info_parts info5
        obtain ⟨A14, hcut14, hA14, hC14⟩ := print_mid_of (P := Tryz.prog) (Value.int .u8) 0 33 5 .i64 .i64 Tryz.underlying33 hi014 hsz14 A0 c0 l0 a1 (wrap64 (a1 + a2)) (of_decide_eq_true (by first | (with_reducible assumption) | assumption)) (by first | omega | exact of_decide_eq_true (by first | (with_reducible assumption) | assumption)) (of_decide_eq_true (by first | (with_reducible assumption) | assumption)) HC0.out
        have HR286 := Aside0.mk (Kd.C_of_reads (h1 := fun _ => rfl) (hA14 _ (Kd.reads_of_C HR0.out)))
        have HC286 := Aside0.mk hC14
        clear hA14 hC14 hi014 hsz14
        go_wp2_with (first | ((with_reducible refine gate_callee (f := 114) rfl ?_); refine goesL_ (some 39) rfl rfl Tryz.func114 (by kernel_rfl) rfl #[.slice A14 ((l0.take ((wrap64 (a1 + a2)) : Int).toNat).drop (a1 : Int).toNat).length (c0 - a1.toNat)] rfl (by (try simp only [List.map_toArray, List.map_cons, List.map_nil]); first | done | (rw [show ((l0.take ((wrap64 (a1 + a2)) : Int).toNat).drop (a1 : Int).toNat).length = ((wrap64 (a1 + a2)).toNat - a1.toNat) from (by rw [List.length_drop, List.length_take]; have h_ : ((wrap64 (a1 + a2)) : Int) ≤ (l0.length : Int) := of_decide_eq_true (by first | (with_reducible assumption) | assumption); omega)] <;> rfl) | rfl | (simp only [List.length_drop, List.length_take]; rfl)) ?_; (with_reducible refine (wire_num.calls kj3 _ _ ((l0.take ((wrap64 (a1 + a2)) : Int).toNat).drop (a1 : Int).toNat) t287 _ ?side1 ?side2 A13.out).mono ?_); (case side1 => repeat (first | exact HR286.out | (with_reducible refine Kd.C_alloc ?_ _) | (with_reducible refine Kd.C_drewN ?_ _) | (with_reducible refine Kd.C_drew ?_))); (case side2 => exact HC286.out); rintro e w' ⟨rfl, ⟨nd, rfl⟩⟩; refine ⟨_, rfl, ?_⟩))
        go_ret3
        exact ⟨by first | rfl | (simp; done) | (simp [*]; done), by repeat (first | exact Drawn0.refl _ | apply Drawn0.step)⟩
       ·rw [if_neg c12] at H
        exact absurd H (by simp)
      ·rw [if_neg c11] at H
       exact absurd H (by simp)
     ·rw [if_neg c10] at H
      exact absurd H (by simp)
def wire_GetText.j0 : Nat → List Int → Int → Bool → Option (ByteArray × Int × Int)
 | 0, _, _, _ => none
 | k + 1, x0, x1, x7 => if x7 = true then (some ((⟨#[]⟩ : ByteArray), 0, 1)) else (if x1 = (x0.length : Int) then (some ((⟨#[]⟩ : ByteArray), 0, 3)) else (if 0 ≤ x1 then (if x1 < (x0.length : Int) then (if (wrap64 (rd x0 x1)) > 24 then (some ((⟨#[]⟩ : ByteArray), 0, 3)) else (if (wrap64 ((wrap64 ((x0.length : Int) - x1)) - 1)) < (wrap64 (rd x0 x1)) then (some ((⟨#[]⟩ : ByteArray), 0, 3)) else (if 0 ≤ (wrap64 (x1 + 1)) then (if (wrap64 (x1 + 1)) ≤ (wrap64 ((wrap64 (x1 + 1)) + (wrap64 (rd x0 x1)))) then (if (wrap64 ((wrap64 (x1 + 1)) + (wrap64 (rd x0 x1)))) ≤ (x0.length : Int) then (some (strOfNums ((x0.take ((wrap64 ((wrap64 (x1 + 1)) + (wrap64 (rd x0 x1)))) : Int).toNat).drop ((wrap64 (x1 + 1)) : Int).toNat), wrap64 ((wrap64 (x1 + 1)) + (wrap64 (rd x0 x1))), 0)) else (none)) else (none)) else (none)))) else (none)) else (none)))
def wire_GetText.f (k : Nat) (l0 : List Int) (a1 : Int) : Option (ByteArray × Int × Int) := if a1 < 0 then (wire_GetText.j0 k l0 a1 true) else (wire_GetText.j0 k l0 a1 (decide (a1 > (l0.length : Int))))
set_option maxHeartbeats 8000000 in
set_option maxRecDepth 100000 in
theorem wire_GetText.calls (k : Nat) (A0 : Option Addr) (c0 : Nat) (l0 : List Int) (a1 : Int) (r1 : ByteArray) (r2 : Int) (r3 : Int) (w : World) (hr0 : Kd.C (Kd.int .u8) w A0 l0.length l0) (hc0 : l0.length ≤ c0) (h : wire_GetText.f k l0 a1 = some (r1, r2, r3)) :
  Calls Tryz.prog 115 #[.slice A0 l0.length c0, .int .i64 a1] w fun e w' => e = .returned (.tuple #[.string r1, .int .i64 r2, .int .i64 r3]) ∧ Drawn0 w w' := by
 have HR0 := Aside0.mk hr0
 have HC0 := Aside0.mk hc0
 clear hr0 hc0
 have H : (if a1 < 0 then (wire_GetText.j0 k l0 a1 true) else (wire_GetText.j0 k l0 a1 (decide (a1 > (l0.length : Int))))) = some (r1, r2, r3) := h
 clear h
 have HC3 := Aside0.mk H
 clear H
 go_enter Tryz.func115, Tryz.ntmps115
 go_upto_region 1 with (fail)
 go_cut [7] (fun v7 wc => ∃ (kq : Nat) (x7_2 : Bool), v7 = .bool x7_2 ∧ Aside0 (wire_GetText.j0 kq l0 a1 x7_2 = some (r1, r2, r3)) ∧ Aside0 (kq ≤ k) ∧ Drawn0 w wc)
 case first =>
  have H := HC3.out
  clear HC3
  by_cases c4 : a1 < 0
  ·rw [if_pos c4] at H
   have c4b0 : decide (a1 < 0) = true := decide_eq_true c4
   clear c4
   (first | rw [c4b0] | (simp only [i64_w, i32_w]; rw [c4b0]) | skip)
   have H' := Aside0.mk H
   clear H
   go_wp2
   go_meet
   case rel => exact ⟨_, (true), (by first | rfl | (simp; done) | (simp [*]; done)), H', ⟨by first | omega | exact Nat.le_refl _⟩, by repeat (first | exact Drawn0.refl _ | apply Drawn0.step)⟩
  ·rw [if_neg c4] at H
   have c4b0 : decide (a1 < 0) = false := decide_eq_false c4
   clear c4
   (first | rw [c4b0] | (simp only [i64_w, i32_w]; rw [c4b0]) | skip)
   have H' := Aside0.mk H
   clear H
   go_wp2
   go_meet
   case rel => exact ⟨_, (decide (a1 > (l0.length : Int))), (by first | rfl | (simp; done) | (simp [*]; done)), H', ⟨by first | omega | exact Nat.le_refl _⟩, by repeat (first | exact Drawn0.refl _ | apply Drawn0.step)⟩
 case rest =>
  clear HC3
  try clear c1
  try clear p2
  try clear c4
  try clear c4b0
  obtain ⟨kq, x7_2, rfl, HA, HJ2, ⟨mc2, rfl⟩⟩ := hcut
  cases kq with
  | zero => exact absurd HA.out (by simp [wire_GetText.j0])
  | succ kj2 =>
   have H := HA.out
   clear HA
   simp only [wire_GetText.j0] at H
   by_cases c5 : x7_2 = true
   ·subst c5
    rw [if_pos rfl] at H
    simp only [Option.some.injEq, Prod.mk.injEq] at H
    obtain ⟨rfl, rfl, rfl⟩ := H
    go_wp2
    go_ret3
    exact ⟨by first | rfl | (simp; done) | (simp [*]; done), by repeat (first | exact Drawn0.refl _ | apply Drawn0.step)⟩
   ·replace c5 := Bool.eq_false_iff.mpr c5
    subst c5
    rw [if_neg (show ¬ (false = true) by decide)] at H
    by_cases c6 : a1 = (l0.length : Int)
    ·rw [if_pos c6] at H
     have c6b0 : (a1 == (l0.length : Int)) = true := beq_iff_eq.mpr c6
     have c6b1 : (a1 != (l0.length : Int)) = false := bne_eq_false_iff_eq.mpr c6
     clear c6
     simp only [Option.some.injEq, Prod.mk.injEq] at H
     obtain ⟨rfl, rfl, rfl⟩ := H
     go_wp2
     go_ret3
     exact ⟨by first | rfl | (simp; done) | (simp [*]; done), by repeat (first | exact Drawn0.refl _ | apply Drawn0.step)⟩
    ·rw [if_neg c6] at H
     have c6b0 : (a1 == (l0.length : Int)) = false := beq_eq_false_iff_ne.mpr c6
     have c6b1 : (a1 != (l0.length : Int)) = true := bne_iff_ne.mpr c6
     by_cases c7 : 0 ≤ a1
     ·rw [if_pos c7] at H
      have c7b0 : decide (0 ≤ a1) = true := decide_eq_true c7
      clear c7
      by_cases c8 : a1 < (l0.length : Int)
      ·rw [if_pos c8] at H
       have c8b0 : decide (a1 < (l0.length : Int)) = true := decide_eq_true c8
       clear c8
       by_cases c9 : (wrap64 (rd l0 a1)) > 24
       ·rw [if_pos c9] at H
        have c9b0 : decide (24 < (wrap64 (rd l0 a1))) = true := decide_eq_true c9
        clear c9
        simp only [Option.some.injEq, Prod.mk.injEq] at H
        obtain ⟨rfl, rfl, rfl⟩ := H
        have p293 : 0 ≤ (a1 : Int) := of_decide_eq_true (by first | (with_reducible assumption) | assumption)
        have q293 : a1 < (l0.length : Int) := of_decide_eq_true (by first | (with_reducible assumption) | assumption)
        obtain ⟨ad293, e293, hx293_0⟩ := Kd.at_int HR0.out a1 p293 q293
        cases e293
        replace p293 := eq_true p293
        replace q293 := eq_true q293
        go_wp2
        go_ret3
        exact ⟨by first | rfl | (simp; done) | (simp [*]; done), by repeat (first | exact Drawn0.refl _ | apply Drawn0.step)⟩
       ·rw [if_neg c9] at H
        have c9b0 : decide (24 < (wrap64 (rd l0 a1))) = false := decide_eq_false c9
        clear c9
        by_cases c10 : (wrap64 ((wrap64 ((l0.length : Int) - a1)) - 1)) < (wrap64 (rd l0 a1))
        ·rw [if_pos c10] at H
         have c10b0 : decide ((wrap64 ((wrap64 ((l0.length : Int) - a1)) - 1)) < (wrap64 (rd l0 a1))) = true := decide_eq_true c10
         clear c10
         simp only [Option.some.injEq, Prod.mk.injEq] at H
         obtain ⟨rfl, rfl, rfl⟩ := H
         have p293 : 0 ≤ (a1 : Int) := of_decide_eq_true (by first | (with_reducible assumption) | assumption)
         have q293 : a1 < (l0.length : Int) := of_decide_eq_true (by first | (with_reducible assumption) | assumption)
         obtain ⟨ad293, e293, hx293_0⟩ := Kd.at_int HR0.out a1 p293 q293
         cases e293
         replace p293 := eq_true p293
         replace q293 := eq_true q293
         have p294 : 0 ≤ (a1 : Int) := of_decide_eq_true (by first | (with_reducible assumption) | assumption)
         have q294 : a1 < (l0.length : Int) := of_decide_eq_true (by first | (with_reducible assumption) | assumption)
         obtain ⟨ad294, e294, hx294_0⟩ := Kd.at_int HR0.out a1 p294 q294
         obtain rfl : ad293 = ad294 := (by injection e294)
         replace p294 := eq_true p294
         replace q294 := eq_true q294
         go_wp2
         go_ret3
         exact ⟨by first | rfl | (simp; done) | (simp [*]; done), by repeat (first | exact Drawn0.refl _ | apply Drawn0.step)⟩
        ·rw [if_neg c10] at H
         have c10b0 : decide ((wrap64 ((wrap64 ((l0.length : Int) - a1)) - 1)) < (wrap64 (rd l0 a1))) = false := decide_eq_false c10
         clear c10
         obtain ⟨ji11, hji11⟩ : ∃ j_ : Int, (wrap64 (a1 + 1)) = j_ := ⟨_, rfl⟩
         replace H : (if 0 ≤ (ji11) then (if (ji11) ≤ (wrap64 ((ji11) + (wrap64 (rd l0 a1)))) then (if (wrap64 ((ji11) + (wrap64 (rd l0 a1)))) ≤ (l0.length : Int) then (some (strOfNums ((l0.take ((wrap64 ((ji11) + (wrap64 (rd l0 a1)))) : Int).toNat).drop ((ji11) : Int).toNat), wrap64 ((ji11) + (wrap64 (rd l0 a1))), 0)) else (none)) else (none)) else (none)) = some (r1, r2, r3) := by first | (rw [hji11] at H; exact H) | (simp only [hji11] at H ⊢; exact H)
         have hji11w : (IntKind.i64.wrap (a1 + 1)) = ji11 := (i64_w _).trans hji11
         by_cases c12 : 0 ≤ (ji11)
         ·rw [if_pos c12] at H
          have c12b0 := eq_true c12
          have c12b1 : decide (0 ≤ (ji11)) = true := decide_eq_true c12
          clear c12
          by_cases c13 : (ji11) ≤ (wrap64 ((ji11) + (wrap64 (rd l0 a1))))
          ·rw [if_pos c13] at H
           have c13b0 := eq_true c13
           have c13b1 : decide ((ji11) ≤ (wrap64 ((ji11) + (wrap64 (rd l0 a1))))) = true := decide_eq_true c13
           by_cases c14 : (wrap64 ((ji11) + (wrap64 (rd l0 a1)))) ≤ (l0.length : Int)
           ·rw [if_pos c14] at H
            have c14b0 := eq_true c14
            have c14b1 : decide ((wrap64 ((ji11) + (wrap64 (rd l0 a1)))) ≤ (l0.length : Int)) = true := decide_eq_true c14
            simp only [Option.some.injEq, Prod.mk.injEq] at H
            obtain ⟨rfl, rfl, rfl⟩ := H
            have p293 : 0 ≤ (a1 : Int) := of_decide_eq_true (by first | (with_reducible assumption) | assumption)
            have q293 : a1 < (l0.length : Int) := of_decide_eq_true (by first | (with_reducible assumption) | assumption)
            obtain ⟨ad293, e293, hx293_0⟩ := Kd.at_int HR0.out a1 p293 q293
            cases e293
            replace p293 := eq_true p293
            replace q293 := eq_true q293
            have p294 : 0 ≤ (a1 : Int) := of_decide_eq_true (by first | (with_reducible assumption) | assumption)
            have q294 : a1 < (l0.length : Int) := of_decide_eq_true (by first | (with_reducible assumption) | assumption)
            obtain ⟨ad294, e294, hx294_0⟩ := Kd.at_int HR0.out a1 p294 q294
            obtain rfl : ad293 = ad294 := (by injection e294)
            replace p294 := eq_true p294
            replace q294 := eq_true q294
            have p295 : 0 ≤ (a1 : Int) := of_decide_eq_true (by first | (with_reducible assumption) | assumption)
            have q295 : a1 < (l0.length : Int) := of_decide_eq_true (by first | (with_reducible assumption) | assumption)
            obtain ⟨ad295, e295, hx295_0⟩ := Kd.at_int HR0.out a1 p295 q295
            obtain rfl : ad293 = ad295 := (by injection e295)
            replace p295 := eq_true p295
            replace q295 := eq_true q295
            obtain ⟨i015, hi015, _, hsz15, _⟩ := info_parts info5
            obtain ⟨A15, hcut15, hA15, hC15⟩ := print_mid_of (P := Tryz.prog) (Value.int .u8) 0 33 5 .i64 .i64 Tryz.underlying33 hi015 hsz15 (some ad293) c0 l0 (ji11) (wrap64 ((ji11) + (wrap64 (rd l0 a1)))) (of_decide_eq_true (by first | (with_reducible assumption) | assumption)) (by first | omega | exact of_decide_eq_true (by first | (with_reducible assumption) | assumption)) (of_decide_eq_true (by first | (with_reducible assumption) | assumption)) HC0.out
            have HR296 := Aside0.mk (Kd.C_of_reads (h1 := fun _ => rfl) (hA15 _ (Kd.reads_of_C HR0.out)))
            have HC296 := Aside0.mk hC15
            clear hA15 hC15 hi015 hsz15
            have hcv16 := Kd.C_string (P := Tryz.prog) (A := A15) (c := (c0 - (ji11).toNat)) Tryz.underlying33 Tryz.underlying5 Tryz.underlying9 HR296.out
            have hcv16d : ∀ m_ : Nat, _ := fun m_ => by have h_ := Kd.C_string (P := Tryz.prog) (A := A15) (c := (c0 - (ji11).toNat)) Tryz.underlying33 Tryz.underlying5 Tryz.underlying9 (Kd.C_drewN HR296.out m_); rw [List.length_drop, List.length_take, Nat.min_eq_left (by omega)] at h_; exact h_
            go_wp2
            go_ret3
            exact ⟨by first | rfl | (simp; done) | (simp only [← hji11] <;> (first | rfl | simp)) | (simp [*]; done), by repeat (first | exact Drawn0.refl _ | apply Drawn0.step)⟩
           ·rw [if_neg c14] at H
            exact absurd H (by simp)
          ·rw [if_neg c13] at H
           exact absurd H (by simp)
         ·rw [if_neg c12] at H
          exact absurd H (by simp)
      ·rw [if_neg c8] at H
       exact absurd H (by simp)
     ·rw [if_neg c7] at H
      exact absurd H (by simp)
def value_within.f (a0 : Int) (a1 : Int) : Option (Bool) := if a0 ≥ (wrap64 (-a1)) then (some (decide (a0 ≤ a1))) else (some false)
set_option maxHeartbeats 8000000 in
set_option maxRecDepth 100000 in
theorem value_within.calls (a0 : Int) (a1 : Int) (r : Bool) (w : World) (h : value_within.f a0 a1 = some r) :
  Calls Tryz.prog 135 #[.int .i64 a0, .int .i64 a1] w fun e w' => e = .returned (.bool r) ∧ Drawn0 w w' := by
 have H : (if a0 ≥ (wrap64 (-a1)) then (some (decide (a0 ≤ a1))) else (some false)) = some r := h
 clear h
 by_cases c3 : a0 ≥ (wrap64 (-a1))
 ·rw [if_pos c3] at H
  have c3b0 : decide ((wrap64 (-a1)) ≤ a0) = true := decide_eq_true c3
  clear c3
  obtain rfl := Option.some.inj H
  go_enter Tryz.func135, Tryz.ntmps135
  go_wp2
  go_ret
  exact ⟨by first | rfl | (simp; done) | (simp [*]; done), by repeat (first | exact Drawn0.refl _ | apply Drawn0.step)⟩
 ·rw [if_neg c3] at H
  have c3b0 : decide ((wrap64 (-a1)) ≤ a0) = false := decide_eq_false c3
  clear c3
  obtain rfl := Option.some.inj H
  go_enter Tryz.func135, Tryz.ntmps135
  go_wp2
  go_ret
  exact ⟨by first | rfl | (simp; done) | (simp [*]; done), by repeat (first | exact Drawn0.refl _ | apply Drawn0.step)⟩
def value_Check.f (a0_0 : Int) (a0_1 : Int) (a0_2 : ByteArray) : Option (Int) := if a0_0 = 1 then (if a0_1 = 0 then (if (a0_2.toList = ([] : List UInt8)) then (some 0) else (some 1)) else (some 1)) else (if a0_0 = 2 then (if a0_1 = 0 then (if (a0_2.toList = ([] : List UInt8)) then (some 0) else (some 1)) else (if a0_1 = 1 then (if (a0_2.toList = ([] : List UInt8)) then (some 0) else (some 1)) else (some 1))) else (if a0_0 = 3 then ((value_within.f a0_1 1152921504606846976).bind fun t112 => (if t112 = true then (if (a0_2.toList = ([] : List UInt8)) then (some 0) else (some 1)) else (some 1))) else (if a0_0 = 4 then (if a0_1 = 0 then (if ((a0_2.size : Int) ≤ 24) then (some 0) else (some 1)) else (some 1)) else (some 1))))
set_option maxHeartbeats 8000000 in
set_option maxRecDepth 100000 in
theorem value_Check.calls (a0_0 : Int) (a0_1 : Int) (a0_2 : ByteArray) (r : Int) (w : World) (h : value_Check.f a0_0 a0_1 a0_2 = some r) :
  Calls Tryz.prog 121 #[.agg #[.int .i64 a0_0, .int .i64 a0_1, .string a0_2]] w fun e w' => e = .returned (.int .i64 r) ∧ Below w.heap.size w w' := by
 unfold value_Check.f at h
 by_cases c0 : a0_0 = 1
 case neg =>
  rw [if_neg c0] at h
  have g0 : (a0_0 == 1) = false := beq_eq_false_iff_ne.2 c0; have g0' : (a0_0 != 1) = true := bne_iff_ne.2 c0
  clear c0
  by_cases c1 : a0_0 = 2
  case neg =>
   rw [if_neg c1] at h
   have g1 : (a0_0 == 2) = false := beq_eq_false_iff_ne.2 c1; have g1' : (a0_0 != 2) = true := bne_iff_ne.2 c1
   clear c1
   by_cases c2 : a0_0 = 3
   case neg =>
    rw [if_neg c2] at h
    have g2 : (a0_0 == 3) = false := beq_eq_false_iff_ne.2 c2; have g2' : (a0_0 != 3) = true := bne_iff_ne.2 c2
    clear c2
    by_cases c3 : a0_0 = 4
    case neg =>
     rw [if_neg c3] at h
     have g3 : (a0_0 == 4) = false := beq_eq_false_iff_ne.2 c3; have g3' : (a0_0 != 4) = true := bne_iff_ne.2 c3
     clear c3
     obtain rfl := Option.some.inj h
     go_enter Tryz.func121, Tryz.ntmps121
     go_wp2_with fail
     go_ret
     exact ⟨by first | rfl | (simp [*]; done), below_alloc (Below.refl _ w) _⟩
    rw [if_pos c3] at h
    have g3 : (a0_0 == 4) = true := beq_iff_eq.2 c3; have g3' : (a0_0 != 4) = false := bne_eq_false_iff_eq.2 c3
    clear c3
    by_cases c4 : a0_1 = 0
    case neg =>
     rw [if_neg c4] at h
     have g4 : (a0_1 == 0) = false := beq_eq_false_iff_ne.2 c4; have g4' : (a0_1 != 0) = true := bne_iff_ne.2 c4
     clear c4
     obtain rfl := Option.some.inj h
     go_enter Tryz.func121, Tryz.ntmps121
     go_wp2_with fail
     go_ret
     exact ⟨by first | rfl | (simp [*]; done), below_alloc (Below.refl _ w) _⟩
    rw [if_pos c4] at h
    have g4 : (a0_1 == 0) = true := beq_iff_eq.2 c4; have g4' : (a0_1 != 0) = false := bne_eq_false_iff_eq.2 c4
    clear c4
    by_cases c5 : (a0_2.size : Int) ≤ 24
    case neg =>
     rw [if_neg c5] at h
     have g5 : decide ((a0_2.size : Int) ≤ 24) = false := decide_eq_false (by omega)
     have g5' : decide (a0_2.size ≤ 24) = false := decide_eq_false (by omega)
     clear c5
     obtain rfl := Option.some.inj h
     go_enter Tryz.func121, Tryz.ntmps121
     go_wp2_with fail
     go_ret
     exact ⟨by first | rfl | (simp [*]; done), below_alloc (Below.refl _ w) _⟩
    rw [if_pos c5] at h
    have g5 : decide ((a0_2.size : Int) ≤ 24) = true := decide_eq_true (by omega)
    have g5' : decide (a0_2.size ≤ 24) = true := decide_eq_true (by omega)
    have q5 := eq_true c5
    clear c5
    obtain rfl := Option.some.inj h
    go_enter Tryz.func121, Tryz.ntmps121
    go_wp2_with fail
    go_ret
    exact ⟨by first | rfl | (simp [*]; done), below_alloc (Below.refl _ w) _⟩
   rw [if_pos c2] at h
   have g2 : (a0_0 == 3) = true := beq_iff_eq.2 c2; have g2' : (a0_0 != 3) = false := bne_eq_false_iff_eq.2 c2
   clear c2
   obtain ⟨t112, ht112, h⟩ := Option.bind_eq_some_iff.1 h; have H := Aside0.mk h; have Ht112 := Aside0.mk ht112; clear h ht112
   go_enter Tryz.func121, Tryz.ntmps121
   go_wp2_with fail
   obtain ⟨W, hW, HI⟩ := One.start w (.cells #[.int .i64 a0_0, .int .i64 a0_1, .string a0_2] 92)
   rw [← hW]; clear hW
   have hk0 := fun i => blk_cell HI.out.2 i
   refine (value_within.calls a0_1 1152921504606846976 t112 _ Ht112.out).mono ?_
   rintro e w1 ⟨rfl, hb⟩
   clear hk0; replace HI := Aside0.mk (HI.out.step (by first | exact hb | exact hb.below)); clear hb
   have hk0 := fun i => blk_cell HI.out.2 i
   have h := H.out; clear H
   cases t112 with
   | true =>
    rw [if_pos rfl] at h
    by_cases c6 : a0_2.toList = ([] : List UInt8)
    case neg =>
     rw [if_neg c6] at h
     have g6 : (a0_2.toList == ([] : List UInt8)) = false := beq_eq_false_iff_ne.2 c6; have g6' : (a0_2.toList != ([] : List UInt8)) = true := bne_iff_ne.2 c6
     clear c6
     obtain rfl := Option.some.inj h
     go_wp2_with fail
     go_ret
     exact ⟨by first | rfl | (simp [*]; done), HI.out.1⟩
    rw [if_pos c6] at h
    have g6 : (a0_2.toList == ([] : List UInt8)) = true := beq_iff_eq.2 c6; have g6' : (a0_2.toList != ([] : List UInt8)) = false := bne_eq_false_iff_eq.2 c6
    clear c6
    obtain rfl := Option.some.inj h
    go_wp2_with fail
    go_ret
    exact ⟨by first | rfl | (simp [*]; done), HI.out.1⟩
   | false =>
    rw [if_neg (by decide)] at h
    obtain rfl := Option.some.inj h
    go_wp2_with fail
    go_ret
    exact ⟨by first | rfl | (simp [*]; done), HI.out.1⟩
  rw [if_pos c1] at h
  have g1 : (a0_0 == 2) = true := beq_iff_eq.2 c1; have g1' : (a0_0 != 2) = false := bne_eq_false_iff_eq.2 c1
  clear c1
  by_cases c7 : a0_1 = 0
  case neg =>
   rw [if_neg c7] at h
   have g7 : (a0_1 == 0) = false := beq_eq_false_iff_ne.2 c7; have g7' : (a0_1 != 0) = true := bne_iff_ne.2 c7
   clear c7
   by_cases c8 : a0_1 = 1
   case neg =>
    rw [if_neg c8] at h
    have g8 : (a0_1 == 1) = false := beq_eq_false_iff_ne.2 c8; have g8' : (a0_1 != 1) = true := bne_iff_ne.2 c8
    clear c8
    obtain rfl := Option.some.inj h
    go_enter Tryz.func121, Tryz.ntmps121
    go_wp2_with fail
    go_ret
    exact ⟨by first | rfl | (simp [*]; done), below_alloc (Below.refl _ w) _⟩
   rw [if_pos c8] at h
   have g8 : (a0_1 == 1) = true := beq_iff_eq.2 c8; have g8' : (a0_1 != 1) = false := bne_eq_false_iff_eq.2 c8
   clear c8
   by_cases c9 : a0_2.toList = ([] : List UInt8)
   case neg =>
    rw [if_neg c9] at h
    have g9 : (a0_2.toList == ([] : List UInt8)) = false := beq_eq_false_iff_ne.2 c9; have g9' : (a0_2.toList != ([] : List UInt8)) = true := bne_iff_ne.2 c9
    clear c9
    obtain rfl := Option.some.inj h
    go_enter Tryz.func121, Tryz.ntmps121
    go_wp2_with fail
    go_ret
    exact ⟨by first | rfl | (simp [*]; done), below_alloc (Below.refl _ w) _⟩
   rw [if_pos c9] at h
   have g9 : (a0_2.toList == ([] : List UInt8)) = true := beq_iff_eq.2 c9; have g9' : (a0_2.toList != ([] : List UInt8)) = false := bne_eq_false_iff_eq.2 c9
   clear c9
   obtain rfl := Option.some.inj h
   go_enter Tryz.func121, Tryz.ntmps121
   go_wp2_with fail
   go_ret
   exact ⟨by first | rfl | (simp [*]; done), below_alloc (Below.refl _ w) _⟩
  rw [if_pos c7] at h
  have g7 : (a0_1 == 0) = true := beq_iff_eq.2 c7; have g7' : (a0_1 != 0) = false := bne_eq_false_iff_eq.2 c7
  clear c7
  by_cases c10 : a0_2.toList = ([] : List UInt8)
  case neg =>
   rw [if_neg c10] at h
   have g10 : (a0_2.toList == ([] : List UInt8)) = false := beq_eq_false_iff_ne.2 c10; have g10' : (a0_2.toList != ([] : List UInt8)) = true := bne_iff_ne.2 c10
   clear c10
   obtain rfl := Option.some.inj h
   go_enter Tryz.func121, Tryz.ntmps121
   go_wp2_with fail
   go_ret
   exact ⟨by first | rfl | (simp [*]; done), below_alloc (Below.refl _ w) _⟩
  rw [if_pos c10] at h
  have g10 : (a0_2.toList == ([] : List UInt8)) = true := beq_iff_eq.2 c10; have g10' : (a0_2.toList != ([] : List UInt8)) = false := bne_eq_false_iff_eq.2 c10
  clear c10
  obtain rfl := Option.some.inj h
  go_enter Tryz.func121, Tryz.ntmps121
  go_wp2_with fail
  go_ret
  exact ⟨by first | rfl | (simp [*]; done), below_alloc (Below.refl _ w) _⟩
 rw [if_pos c0] at h
 have g0 : (a0_0 == 1) = true := beq_iff_eq.2 c0; have g0' : (a0_0 != 1) = false := bne_eq_false_iff_eq.2 c0
 clear c0
 by_cases c11 : a0_1 = 0
 case neg =>
  rw [if_neg c11] at h
  have g11 : (a0_1 == 0) = false := beq_eq_false_iff_ne.2 c11; have g11' : (a0_1 != 0) = true := bne_iff_ne.2 c11
  clear c11
  obtain rfl := Option.some.inj h
  go_enter Tryz.func121, Tryz.ntmps121
  go_wp2_with fail
  go_ret
  exact ⟨by first | rfl | (simp [*]; done), below_alloc (Below.refl _ w) _⟩
 rw [if_pos c11] at h
 have g11 : (a0_1 == 0) = true := beq_iff_eq.2 c11; have g11' : (a0_1 != 0) = false := bne_eq_false_iff_eq.2 c11
 clear c11
 by_cases c12 : a0_2.toList = ([] : List UInt8)
 case neg =>
  rw [if_neg c12] at h
  have g12 : (a0_2.toList == ([] : List UInt8)) = false := beq_eq_false_iff_ne.2 c12; have g12' : (a0_2.toList != ([] : List UInt8)) = true := bne_iff_ne.2 c12
  clear c12
  obtain rfl := Option.some.inj h
  go_enter Tryz.func121, Tryz.ntmps121
  go_wp2_with fail
  go_ret
  exact ⟨by first | rfl | (simp [*]; done), below_alloc (Below.refl _ w) _⟩
 rw [if_pos c12] at h
 have g12 : (a0_2.toList == ([] : List UInt8)) = true := beq_iff_eq.2 c12; have g12' : (a0_2.toList != ([] : List UInt8)) = false := bne_eq_false_iff_eq.2 c12
 clear c12
 obtain rfl := Option.some.inj h
 go_enter Tryz.func121, Tryz.ntmps121
 go_wp2_with fail
 go_ret
 exact ⟨by first | rfl | (simp [*]; done), below_alloc (Below.refl _ w) _⟩
def value_Fits.f (a0_0 : Int) (a0_1 : Int) (a0_2 : ByteArray) (a1 : Int) : Option (Bool) := if a1 = 2 then ((value_Check.f a0_0 a0_1 a0_2).bind fun t114 => (if t114 = 0 then (if a0_0 = a1 then (some true) else (some (a0_0 == 1))) else (some false))) else (if a1 = 3 then ((value_Check.f a0_0 a0_1 a0_2).bind fun t115 => (if t115 = 0 then (if a0_0 = a1 then (some true) else (some (a0_0 == 1))) else (some false))) else (if a1 = 4 then ((value_Check.f a0_0 a0_1 a0_2).bind fun t116 => (if t116 = 0 then (if a0_0 = a1 then (some true) else (some (a0_0 == 1))) else (some false))) else (some false)))
set_option maxHeartbeats 8000000 in
set_option maxRecDepth 100000 in
theorem value_Fits.calls (a0_0 : Int) (a0_1 : Int) (a0_2 : ByteArray) (a1 : Int) (r : Bool) (w : World) (h : value_Fits.f a0_0 a0_1 a0_2 a1 = some r) :
  Calls Tryz.prog 146 #[.agg #[.int .i64 a0_0, .int .i64 a0_1, .string a0_2], .int .i64 a1] w fun e w' => e = .returned (.bool r) ∧ Below w.heap.size w w' := by
 unfold value_Fits.f at h
 by_cases c0 : a1 = 2
 case neg =>
  rw [if_neg c0] at h
  have g0 : (a1 == 2) = false := beq_eq_false_iff_ne.2 c0; have g0' : (a1 != 2) = true := bne_iff_ne.2 c0
  clear c0
  by_cases c1 : a1 = 3
  case neg =>
   rw [if_neg c1] at h
   have g1 : (a1 == 3) = false := beq_eq_false_iff_ne.2 c1; have g1' : (a1 != 3) = true := bne_iff_ne.2 c1
   clear c1
   by_cases c2 : a1 = 4
   case neg =>
    rw [if_neg c2] at h
    have g2 : (a1 == 4) = false := beq_eq_false_iff_ne.2 c2; have g2' : (a1 != 4) = true := bne_iff_ne.2 c2
    clear c2
    obtain rfl := Option.some.inj h
    go_enter Tryz.func146, Tryz.ntmps146
    go_wp2_with fail
    go_ret
    exact ⟨by first | rfl | (simp [*]; done), below_alloc (Below.refl _ w) _⟩
   rw [if_pos c2] at h
   have g2 : (a1 == 4) = true := beq_iff_eq.2 c2; have g2' : (a1 != 4) = false := bne_eq_false_iff_eq.2 c2
   clear c2
   obtain ⟨t116, ht116, h⟩ := Option.bind_eq_some_iff.1 h; have H := Aside0.mk h; have Ht116 := Aside0.mk ht116; clear h ht116
   go_enter Tryz.func146, Tryz.ntmps146
   go_wp2_with fail
   obtain ⟨W, hW, HI⟩ := One.start w (.cells #[.int .i64 a0_0, .int .i64 a0_1, .string a0_2] 92)
   rw [← hW]; clear hW
   have hk0 := fun i => blk_cell HI.out.2 i
   refine (value_Check.calls a0_0 a0_1 a0_2 t116 _ Ht116.out).mono ?_
   rintro e w1 ⟨rfl, hb⟩
   clear hk0; replace HI := Aside0.mk (HI.out.step (by first | exact hb | exact hb.below)); clear hb
   have hk0 := fun i => blk_cell HI.out.2 i
   have h := H.out; clear H
   by_cases c3 : t116 = 0
   case neg =>
    rw [if_neg c3] at h
    have g3 : (t116 == 0) = false := beq_eq_false_iff_ne.2 c3; have g3' : (t116 != 0) = true := bne_iff_ne.2 c3
    clear c3
    obtain rfl := Option.some.inj h
    go_wp2_with fail
    go_ret
    exact ⟨by first | rfl | (simp [*]; done), HI.out.1⟩
   rw [if_pos c3] at h
   have g3 : (t116 == 0) = true := beq_iff_eq.2 c3; have g3' : (t116 != 0) = false := bne_eq_false_iff_eq.2 c3
   clear c3
   by_cases c4 : a0_0 = a1
   case neg =>
    rw [if_neg c4] at h
    have g4 : (a0_0 == a1) = false := beq_eq_false_iff_ne.2 c4; have g4' : (a0_0 != a1) = true := bne_iff_ne.2 c4
    clear c4
    obtain rfl := Option.some.inj h
    go_wp2_with fail
    go_ret
    exact ⟨by first | rfl | (simp [*]; done), HI.out.1⟩
   rw [if_pos c4] at h
   have g4 : (a0_0 == a1) = true := beq_iff_eq.2 c4; have g4' : (a0_0 != a1) = false := bne_eq_false_iff_eq.2 c4
   clear c4
   obtain rfl := Option.some.inj h
   go_wp2_with fail
   go_ret
   exact ⟨by first | rfl | (simp [*]; done), HI.out.1⟩
  rw [if_pos c1] at h
  have g1 : (a1 == 3) = true := beq_iff_eq.2 c1; have g1' : (a1 != 3) = false := bne_eq_false_iff_eq.2 c1
  clear c1
  obtain ⟨t115, ht115, h⟩ := Option.bind_eq_some_iff.1 h; have H := Aside0.mk h; have Ht115 := Aside0.mk ht115; clear h ht115
  go_enter Tryz.func146, Tryz.ntmps146
  go_wp2_with fail
  obtain ⟨W, hW, HI⟩ := One.start w (.cells #[.int .i64 a0_0, .int .i64 a0_1, .string a0_2] 92)
  rw [← hW]; clear hW
  have hk0 := fun i => blk_cell HI.out.2 i
  refine (value_Check.calls a0_0 a0_1 a0_2 t115 _ Ht115.out).mono ?_
  rintro e w1 ⟨rfl, hb⟩
  clear hk0; replace HI := Aside0.mk (HI.out.step (by first | exact hb | exact hb.below)); clear hb
  have hk0 := fun i => blk_cell HI.out.2 i
  have h := H.out; clear H
  by_cases c5 : t115 = 0
  case neg =>
   rw [if_neg c5] at h
   have g5 : (t115 == 0) = false := beq_eq_false_iff_ne.2 c5; have g5' : (t115 != 0) = true := bne_iff_ne.2 c5
   clear c5
   obtain rfl := Option.some.inj h
   go_wp2_with fail
   go_ret
   exact ⟨by first | rfl | (simp [*]; done), HI.out.1⟩
  rw [if_pos c5] at h
  have g5 : (t115 == 0) = true := beq_iff_eq.2 c5; have g5' : (t115 != 0) = false := bne_eq_false_iff_eq.2 c5
  clear c5
  by_cases c6 : a0_0 = a1
  case neg =>
   rw [if_neg c6] at h
   have g6 : (a0_0 == a1) = false := beq_eq_false_iff_ne.2 c6; have g6' : (a0_0 != a1) = true := bne_iff_ne.2 c6
   clear c6
   obtain rfl := Option.some.inj h
   go_wp2_with fail
   go_ret
   exact ⟨by first | rfl | (simp [*]; done), HI.out.1⟩
  rw [if_pos c6] at h
  have g6 : (a0_0 == a1) = true := beq_iff_eq.2 c6; have g6' : (a0_0 != a1) = false := bne_eq_false_iff_eq.2 c6
  clear c6
  obtain rfl := Option.some.inj h
  go_wp2_with fail
  go_ret
  exact ⟨by first | rfl | (simp [*]; done), HI.out.1⟩
 rw [if_pos c0] at h
 have g0 : (a1 == 2) = true := beq_iff_eq.2 c0; have g0' : (a1 != 2) = false := bne_eq_false_iff_eq.2 c0
 clear c0
 obtain ⟨t114, ht114, h⟩ := Option.bind_eq_some_iff.1 h; have H := Aside0.mk h; have Ht114 := Aside0.mk ht114; clear h ht114
 go_enter Tryz.func146, Tryz.ntmps146
 go_wp2_with fail
 obtain ⟨W, hW, HI⟩ := One.start w (.cells #[.int .i64 a0_0, .int .i64 a0_1, .string a0_2] 92)
 rw [← hW]; clear hW
 have hk0 := fun i => blk_cell HI.out.2 i
 refine (value_Check.calls a0_0 a0_1 a0_2 t114 _ Ht114.out).mono ?_
 rintro e w1 ⟨rfl, hb⟩
 clear hk0; replace HI := Aside0.mk (HI.out.step (by first | exact hb | exact hb.below)); clear hb
 have hk0 := fun i => blk_cell HI.out.2 i
 have h := H.out; clear H
 by_cases c7 : t114 = 0
 case neg =>
  rw [if_neg c7] at h
  have g7 : (t114 == 0) = false := beq_eq_false_iff_ne.2 c7; have g7' : (t114 != 0) = true := bne_iff_ne.2 c7
  clear c7
  obtain rfl := Option.some.inj h
  go_wp2_with fail
  go_ret
  exact ⟨by first | rfl | (simp [*]; done), HI.out.1⟩
 rw [if_pos c7] at h
 have g7 : (t114 == 0) = true := beq_iff_eq.2 c7; have g7' : (t114 != 0) = false := bne_eq_false_iff_eq.2 c7
 clear c7
 by_cases c8 : a0_0 = a1
 case neg =>
  rw [if_neg c8] at h
  have g8 : (a0_0 == a1) = false := beq_eq_false_iff_ne.2 c8; have g8' : (a0_0 != a1) = true := bne_iff_ne.2 c8
  clear c8
  obtain rfl := Option.some.inj h
  go_wp2_with fail
  go_ret
  exact ⟨by first | rfl | (simp [*]; done), HI.out.1⟩
 rw [if_pos c8] at h
 have g8 : (a0_0 == a1) = true := beq_iff_eq.2 c8; have g8' : (a0_0 != a1) = false := bne_eq_false_iff_eq.2 c8
 clear c8
 obtain rfl := Option.some.inj h
 go_wp2_with fail
 go_ret
 exact ⟨by first | rfl | (simp [*]; done), HI.out.1⟩
end Go.Proofs.YtnbjflcfdncocaaGreat.M
