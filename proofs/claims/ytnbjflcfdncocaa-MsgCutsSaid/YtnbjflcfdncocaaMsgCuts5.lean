/- The law MsgCuts of the program's messages holds for every input (its row stands in the last of these texts): part 5 of 6. -/
import Derived.Test.YtnbjflcfdncocaaMsgCuts3
import Derived.Test.YtnbjflcfdncocaaMsgCuts4
import Derived.Deep.RegionHeld3
import Derived.Deep.RegionLaw
import Derived.Lib.Bytes
import Derived.Test.YtnbjflcfdncocaaMsgCuts2
/- Plain facts: what wire.GetInt, value.Read and row.Read tell, of the bytes that are left. -/
namespace Go.Proofs.Ytnbjflcfdncocaa.M
open Go.RowKit Go.Proofs.YtnbjflcfdncocaaW.PrintWords Go.Proofs.YtnbjflcfdncocaaW.PrintLast Go.Proofs.YtnbjflcfdncocaaW.PrintMore

theorem Get1_nil (B : List Int) (at_ : Nat) (hb : Bytes_ B) (hl : B.length ≤ 65536) (ha : at_ ≤ B.length) (hd : B.drop at_ = []) (k : Nat) (hk : 10 < k) : wire_Get.f k B (at_ : Int) 1 = some (0, 0, 3) := by
  have := Get_eq B [] at_ 1 hb hl ha hd (by omega) (by omega) k hk
  simpa using this
theorem Get1_cons (B : List Int) (at_ : Nat) (c : Int) (tl : List Int) (hb : Bytes_ B) (hl : B.length ≤ 65536) (ha : at_ ≤ B.length) (hd : B.drop at_ = c :: tl) (k : Nat) (hk : 10 < k) : wire_Get.f k B (at_ : Int) 1 = some (c, ((at_ + 1 : Nat) : Int), 0) := by
  have := Get_eq B (c :: tl) at_ 1 hb hl ha hd (by omega) (by omega) k hk
  have e : numL [c] = c := by simp [numL]
  simp only [List.length_cons, List.take_succ_cons, List.take_zero, e] at this
  rw [if_neg (by omega)] at this
  exact this
theorem at_cons {B : List Int} {at_ : Nat} {c : Int} {tl : List Int} (hd : B.drop at_ = c :: tl) : at_ < B.length ∧ B.drop (at_ + 1) = tl ∧ tl.length + 1 = B.length - at_ ∧ rd B (at_ : Int) = c := by
  have h := congrArg List.length hd
  simp only [List.length_drop, List.length_cons] at h
  have hlt : at_ < B.length := by omega
  have h2 := drop_cons B at_ hlt
  rw [hd] at h2
  refine ⟨hlt, (List.cons.inj h2).2.symm, by omega, ?_⟩
  rw [rd_nat]; exact (List.cons.inj h2).1.symm
/-- What a number with a sign is. -/
def gint (l : List Int) : Option (Int × List Int) :=
  if l.length < 9 ∨ l.getD 0 0 > 1 then none
  else if numL ((l.drop 1).take 8) > 1152921504606846976 ∨ (l.getD 0 0 = 1 ∧ numL ((l.drop 1).take 8) = 0) then none
  else some (if l.getD 0 0 = 1 then -numL ((l.drop 1).take 8) else numL ((l.drop 1).take 8), l.drop 9)
theorem GetInt_eq (B rest : List Int) (at_ : Nat) (hb : Bytes_ B) (hl : B.length ≤ 65536) (ha : at_ ≤ B.length) (hd : B.drop at_ = rest) (k : Nat) (hk : 20 < k) :
    wire_GetInt.f k B (at_ : Int) = some (match gint rest with | none => (0, 0, 3) | some (n, _) => (n, ((at_ + 9 : Nat) : Int), 0)) := by
  obtain ⟨k, rfl⟩ : ∃ m, k = m + 3 := ⟨k - 3, by omega⟩
  have hr : rest.length = B.length - at_ := by rw [← hd]; simp
  unfold wire_GetInt.f
  rw [if_neg (by omega), decide_eq_false (by omega)]
  simp only [wire_GetInt.j0]
  rw [if_neg (by decide), wrap_in _ (by omega) (by omega)]
  unfold gint
  by_cases h9 : rest.length < 9
  · rw [if_pos (by omega), if_pos (.inl h9)]
    simp only [wire_GetInt.j1]; rfl
  · obtain ⟨c, tl, rfl⟩ : ∃ c tl, rest = c :: tl := by
      rcases rest with _ | ⟨c, tl⟩
      · simp at h9
      · exact ⟨c, tl, rfl⟩
    obtain ⟨a1, a2, a3, a4⟩ := at_cons hd
    have hc : (c :: tl).getD 0 0 = c := rfl
    have ht : (c :: tl).drop 1 = tl := rfl
    have h8 : 8 ≤ tl.length := by simp only [List.length_cons] at h9; omega
    rw [if_neg (by omega), if_pos (by omega), if_pos (by omega), a4, hc, ht]
    by_cases h1 : c > 1
    · rw [if_pos (.inr h1), decide_eq_true h1]
      simp only [wire_GetInt.j1]; rfl
    · rw [if_neg (by rintro (h | h); exact h9 h; exact h1 h), decide_eq_false h1]
      simp only [wire_GetInt.j1]
      have hbt : Bytes_ (tl.take 8) := Bytes_take (by rw [← a2]; exact Bytes_drop hb _) 8
      have hlt : (tl.take 8).length = 8 := by simp; omega
      have hn := numL_bound 8 (tl.take 8) hlt hbt
      have e : (B.take ((at_ : Int) + 9).toNat).drop ((at_ : Int) + 1).toNat = tl.take 8 := by
        rw [show ((at_ : Int) + 9).toNat = at_ + 9 from by omega, show ((at_ : Int) + 1).toNat = at_ + 1 from by omega, List.drop_take, a2]
        congr 1; omega
      rw [if_neg (by decide), wrap_in ((at_ : Int) + 1) (by omega) (by omega), wrap_in ((at_ : Int) + 9) (by omega) (by omega), if_pos (by omega), if_pos (by omega), if_pos (by omega), e, num_eq _ hbt (by omega) (k + 1) (by omega), Option.bind_some]
      obtain ⟨z, hz⟩ : ∃ z, z = numL (tl.take 8) := ⟨_, rfl⟩
      rw [← hz] at hn ⊢
      by_cases h2 : z > 1152921504606846976
      · rw [if_pos h2, if_pos (.inl h2)]
        simp only [wire_GetInt.j2]; rfl
      · rw [if_neg h2, if_pos (by omega), if_pos (by omega), a4]
        by_cases h3 : c = 1
        · rw [if_pos h3]
          by_cases h4 : z = 0
          · rw [if_pos (.inr ⟨h3, h4⟩), show (z == 0) = true from by rw [h4]; rfl]
            simp only [wire_GetInt.j2]; rfl
          · rw [if_neg (by rintro (h | h); exact h2 h; exact h4 h.2), show (z == 0) = false from by simpa using h4]
            simp only [wire_GetInt.j2]
            rw [if_neg (by decide), if_pos (by omega), if_pos (by omega), a4, if_pos h3, if_pos h3, wrap_in z (by omega) (by omega), wrap_in (-z) (by omega) (by omega), wrap_in ((at_ : Int) + 9) (by omega) (by omega)]
            rfl
        · rw [if_neg h3, if_neg (by rintro (h | h); exact h2 h; exact h3 h.1)]
          simp only [wire_GetInt.j2]
          rw [if_neg (by decide), if_pos (by omega), if_pos (by omega), a4, if_neg h3, if_neg h3, wrap_in z (by omega) (by omega), wrap_in ((at_ : Int) + 9) (by omega) (by omega)]
          rfl
/-- What a value is. -/
def ok (v : Val) (tl : List Int) : Option (Val × List Int) := if goodV v then some (v, tl) else none
theorem ok_pos {v : Val} (h : goodV v) (tl : List Int) : ok v tl = some (v, tl) := if_pos h
theorem ok_neg {v : Val} (h : ¬ goodV v) (tl : List Int) : ok v tl = none := if_neg h
def rval2 : List Int → Option (Val × List Int)
  | [] => none
  | b :: t => ok ⟨2, b, ⟨#[]⟩⟩ t
def rval3 (l : List Int) : Option (Val × List Int) := (gint l).bind fun p => ok ⟨3, p.1, ⟨#[]⟩⟩ p.2
def rval4 : List Int → Option (Val × List Int)
  | [] => none
  | b :: t => if b > 24 ∨ (t.length : Int) < b then none else ok ⟨4, 0, strOfNums (t.take b.toNat)⟩ (t.drop b.toNat)
def rval : List Int → Option (Val × List Int)
  | [] => none
  | c :: tl => if c = 2 then rval2 tl else if c = 3 then rval3 tl else if c = 4 then rval4 tl else ok ⟨c, 0, ⟨#[]⟩⟩ tl
/-- The values that value.Read tells, and where the next begins. -/
def ValIs (B rest : List Int) (at_ k : Nat) : Prop :=
  (rval rest = none ∧ ∃ e, e ≠ 0 ∧ value_Read.f k B (at_ : Int) = some (0, 0, ⟨#[]⟩, 0, e)) ∨
  (∃ (v : Val) (tl : List Int) (at1 : Nat), rval rest = some (v, tl) ∧ at_ < at1 ∧ at1 ≤ B.length ∧ B.drop at1 = tl ∧ value_Read.f k B (at_ : Int) = some (v.f0, v.f1, v.f2, (at1 : Int), 0))
theorem Check3 (a b : Int) (s : ByteArray) : value_Check.f a b s = some (if goodV ⟨a, b, s⟩ then 0 else 1) := Check_eq ⟨a, b, s⟩
theorem gint_some {l : List Int} {p : Int × List Int} (h : gint l = some p) : 9 ≤ l.length ∧ l.drop 9 = p.2 := by
  unfold gint at h
  split at h
  · cases h
  · rename_i h1
    split at h
    · cases h
    · have := Option.some.inj h
      rw [← this]
      exact ⟨by omega, rfl⟩
theorem valRead_eq (B rest : List Int) (at_ : Nat) (hb : Bytes_ B) (hl : B.length ≤ 65536) (ha : at_ ≤ B.length) (hd : B.drop at_ = rest) (k : Nat) (hk : 20 < k) : ValIs B rest at_ k := by
  unfold ValIs value_Read.f
  rcases rest with _ | ⟨c, tl⟩
  · rw [Get1_nil B at_ hb hl ha hd k (by omega), Option.bind_some]
    exact .inl ⟨rfl, 3, by decide, by rw [if_neg (by decide)]⟩
  · obtain ⟨a1, a2, a3, a4⟩ := at_cons hd
    rw [Get1_cons B at_ c tl hb hl ha hd k (by omega), Option.bind_some, if_pos rfl]
    by_cases h2 : c = 2
    · subst h2
      have e0 : rval (2 :: tl) = rval2 tl := rfl
      rw [if_pos rfl, e0]
      rcases tl with _ | ⟨b, t⟩
      · rw [Get1_nil B (at_ + 1) hb hl (by omega) a2 k (by omega), Option.bind_some]
        exact .inl ⟨rfl, 3, by decide, by rw [if_neg (by decide)]⟩
      · obtain ⟨b1, b2, b3, b4⟩ := at_cons a2
        have e1 : rval2 (b :: t) = ok ⟨2, b, ⟨#[]⟩⟩ t := rfl
        rw [Get1_cons B (at_ + 1) b t hb hl (by omega) a2 k (by omega), Option.bind_some, if_pos rfl, Check3, Option.bind_some, e1]
        by_cases hg : goodV ⟨2, b, ⟨#[]⟩⟩
        · rw [if_pos hg, ok_pos hg, if_pos rfl]
          exact .inr ⟨_, _, at_ + 1 + 1, rfl, by omega, by omega, b2, rfl⟩
        · rw [if_neg hg, ok_neg hg, if_neg (by decide)]
          exact .inl ⟨rfl, 3, by decide, rfl⟩
    · rw [if_neg h2]
      by_cases h3 : c = 3
      · subst h3
        have e0 : rval (3 :: tl) = rval3 tl := rfl
        rw [if_pos rfl, e0, GetInt_eq B tl (at_ + 1) hb hl (by omega) a2 k hk, Option.bind_some]
        rcases hg : gint tl with _ | ⟨n, t⟩
        · exact .inl ⟨by unfold rval3; rw [hg]; rfl, 3, by decide, rfl⟩
        · have e1 : rval3 tl = ok ⟨3, n, ⟨#[]⟩⟩ t := by unfold rval3; rw [hg]; rfl
          have h9 := gint_some hg
          simp only
          rw [if_pos trivial, Check3, Option.bind_some, e1]
          by_cases hq : goodV ⟨3, n, ⟨#[]⟩⟩
          · rw [if_pos hq, ok_pos hq, if_pos rfl]
            exact .inr ⟨_, _, at_ + 1 + 9, rfl, by omega, by omega, by rw [← List.drop_drop, a2]; exact h9.2, rfl⟩
          · rw [if_neg hq, ok_neg hq, if_neg (by decide)]
            exact .inl ⟨rfl, 3, by decide, rfl⟩
      · rw [if_neg h3]
        by_cases h4 : c = 4
        · subst h4
          have e0 : rval (4 :: tl) = rval4 tl := rfl
          rw [if_pos rfl, e0, GetText_eq B tl (at_ + 1) hb hl (by omega) a2 k (by omega), Option.bind_some]
          rcases tl with _ | ⟨b, t⟩
          · exact .inl ⟨rfl, 3, by decide, rfl⟩
          · obtain ⟨b1, b2, b3, b4⟩ := at_cons a2
            have hbb : Byte b := hb b (by have : b ∈ B.drop (at_ + 1) := by { rw [a2]; simp }; exact List.mem_of_mem_drop this)
            unfold Byte at hbb
            simp only
            by_cases h5 : b > 24 ∨ (t.length : Int) < b
            · rw [if_pos h5]
              exact .inl ⟨if_pos h5, 3, by decide, rfl⟩
            · have e1 : rval4 (b :: t) = ok ⟨4, 0, strOfNums (t.take b.toNat)⟩ (t.drop b.toNat) := if_neg h5
              rw [if_neg h5]
              simp only
              rw [if_pos trivial, Check3, Option.bind_some, e1]
              by_cases hq : goodV ⟨4, 0, strOfNums (t.take b.toNat)⟩
              · rw [if_pos hq, ok_pos hq, if_pos rfl]
                refine .inr ⟨_, _, at_ + 1 + 1 + b.toNat, rfl, by omega, by omega, by rw [← List.drop_drop, b2], ?_⟩
                rw [show ((at_ + 1 : Nat) : Int) + 1 + b = ((at_ + 1 + 1 + b.toNat : Nat) : Int) from by omega]
              · rw [if_neg hq, ok_neg hq, if_neg (by decide)]
                exact .inl ⟨rfl, 3, by decide, rfl⟩
        · have e0 : rval (c :: tl) = ok ⟨c, 0, ⟨#[]⟩⟩ tl := (if_neg h2).trans ((if_neg h3).trans (if_neg h4))
          rw [if_neg h4, Check3, Option.bind_some, e0]
          by_cases hq : goodV ⟨c, 0, ⟨#[]⟩⟩
          · rw [if_pos hq, ok_pos hq, if_pos rfl]
            exact .inr ⟨_, _, at_ + 1, rfl, by omega, by omega, a2, rfl⟩
          · rw [if_neg hq, ok_neg hq, if_neg (by decide)]
            exact .inl ⟨rfl, 3, by decide, rfl⟩
/-- What a row is. -/
def rvals : Nat → List Int → Option (List Val × List Int)
  | 0, l => some ([], l)
  | n + 1, l => (rval l).bind fun p => (rvals n p.2).bind fun q => some (p.1 :: q.1, q.2)
def rrow : List Int → Option (List Val × List Int)
  | [] => none
  | c :: tl => if c > 12 then none else rvals c.toNat tl
theorem rvals_l0 (B : List Int) (hb : Bytes_ B) (hl : B.length ≤ 65536) (m : Nat) (hm : m ≤ 12) : ∀ (d i k at_ : Nat) (acc : List Val) (rest : List Int), i + d = m → acc.length = i → at_ ≤ B.length → B.drop at_ = rest → d + 21 < k →
    (rvals d rest = none ∧ ∃ e, e ≠ 0 ∧ row_Read.l0 k B acc (at_ : Int) (m : Int) (i : Int) = some ([], 0, e)) ∨
    (∃ (vs : List Val) (tl : List Int) (at1 : Nat), rvals d rest = some (vs, tl) ∧ at1 ≤ B.length ∧ B.drop at1 = tl ∧ row_Read.l0 k B acc (at_ : Int) (m : Int) (i : Int) = some (acc ++ vs, (at1 : Int), 0)) := by
  intro d
  induction d with
  | zero =>
    intro i k at_ acc rest h1 h2 h3 h4 hk
    obtain ⟨k, rfl⟩ : ∃ m, k = m + 1 := ⟨k - 1, by omega⟩
    simp only [row_Read.l0]
    refine .inr ⟨[], rest, at_, rfl, h3, h4, ?_⟩
    rw [if_neg (by omega), List.append_nil]
  | succ d ih =>
    intro i k at_ acc rest h1 h2 h3 h4 hk
    obtain ⟨k, rfl⟩ : ∃ m, k = m + 1 := ⟨k - 1, by omega⟩
    have hv := valRead_eq B rest at_ hb hl h3 h4 k (by omega)
    have e0 : rvals (d + 1) rest = (rval rest).bind fun p => (rvals d p.2).bind fun q => some (p.1 :: q.1, q.2) := rfl
    simp only [row_Read.l0]
    rw [if_pos (by omega), e0]
    rcases hv with ⟨hr, e, he, hv⟩ | ⟨v, t, at1, hr, hlt, hle, hd1, hv⟩
    · rw [hr, hv, Option.bind_some, if_neg he]
      exact .inl ⟨rfl, 3, by decide, rfl⟩
    · have := ih (i + 1) k at1 (acc ++ [v]) t (by omega) (by simp [h2]) hle hd1 (by omega)
      rw [hr, hv, Option.bind_some, Option.bind_some, if_pos rfl, if_pos (by omega), wrap_in _ (by omega) (by omega), show (i : Int) + 1 = ((i + 1 : Nat) : Int) from by omega]
      rcases this with ⟨g0, e, he, g1⟩ | ⟨vs, tl, at2, g0, g1, g2, g3⟩
      · rw [g0]
        exact .inl ⟨rfl, e, he, g1⟩
      · rw [g0]
        refine .inr ⟨v :: vs, tl, at2, rfl, g1, g2, ?_⟩
        rw [List.append_assoc] at g3
        exact g3
theorem rowRead_eq (B rest : List Int) (at_ : Nat) (hb : Bytes_ B) (hl : B.length ≤ 65536) (ha : at_ ≤ B.length) (hd : B.drop at_ = rest) (k : Nat) (hk : 40 < k) :
    (rrow rest = none ∧ ∃ e, e ≠ 0 ∧ row_Read.f k B (at_ : Int) = some ([], 0, e)) ∨
    (∃ (vs : List Val) (tl : List Int) (at1 : Nat), rrow rest = some (vs, tl) ∧ at1 ≤ B.length ∧ B.drop at1 = tl ∧ row_Read.f k B (at_ : Int) = some (vs, (at1 : Int), 0)) := by
  unfold row_Read.f
  rcases rest with _ | ⟨c, tl⟩
  · rw [Get1_nil B at_ hb hl ha hd k (by omega), Option.bind_some]
    exact .inl ⟨rfl, 3, by decide, by rw [if_neg (by decide)]⟩
  · obtain ⟨a1, a2, a3, a4⟩ := at_cons hd
    have hbb : Byte c := hb c (by have : c ∈ B.drop at_ := by { rw [hd]; simp }; exact List.mem_of_mem_drop this)
    unfold Byte at hbb
    rw [Get1_cons B at_ c tl hb hl ha hd k (by omega), Option.bind_some, if_pos rfl]
    by_cases h : c > 12
    · rw [if_pos h, show rrow (c :: tl) = none from if_pos h]
      exact .inl ⟨rfl, 3, by decide, rfl⟩
    · rw [if_neg h, show rrow (c :: tl) = rvals c.toNat tl from if_neg h]
      have := rvals_l0 B hb hl c.toNat (by omega) c.toNat 0 k (at_ + 1) [] tl (by omega) rfl (by omega) a2 (by omega)
      rw [show ((c.toNat : Nat) : Int) = c from by omega, show ((0 : Nat) : Int) = 0 from rfl] at this
      exact this
end Go.Proofs.Ytnbjflcfdncocaa.M

/- The reader's contract for an operation (Op), walked by hand. -/
namespace Go.Proofs.Ytnbjflcfdncocaa.M
open Go.RowKit Go.Proofs.YtnbjflcfdncocaaW.PrintWords Go.Proofs.YtnbjflcfdncocaaW.PrintLast Go.Proofs.YtnbjflcfdncocaaW.PrintMore

def rdots : Nat → List Int × Bool → List Dt × (List Int × Bool)
  | 0, st => ([], st)
  | k + 1, st => ((rdots k st).1 ++ [(rdot (rdots k st).2).1], (rdot (rdots k st).2).2)
theorem rdots_length (st : List Int × Bool) : ∀ k, (rdots k st).1.length = k
  | 0 => rfl
  | k + 1 => by simp [rdots, rdots_length st k]
/-- An operation's head, as it is read: all but its values and its dots. -/
structure Head where
  kind : Int
  dot : Dt
  deps : List Int
  stamp : S51
  table : Int
  key : ByteArray
  col : Int
def rhead (st : List Int × Bool) : Head × (List Int × Bool) :=
  (⟨(rnum 1 st).1, (rdot (rnum 1 st).2).1, (rnums (rdot (rnum 1 st).2).2).1, (rstamp (rnums (rdot (rnum 1 st).2).2).2).1, (rnum 1 (rstamp (rnums (rdot (rnum 1 st).2).2).2).2).1,
    (rtext (rnum 1 (rstamp (rnums (rdot (rnum 1 st).2).2).2).2).2).1, (rnum 1 (rtext (rnum 1 (rstamp (rnums (rdot (rnum 1 st).2).2).2).2).2).2).1⟩, (rnum 1 (rtext (rnum 1 (rstamp (rnums (rdot (rnum 1 st).2).2).2).2).2).2).2)
def rdl (st : List Int × Bool) : List Dt × (List Int × Bool) := rdots (rmany 1 64 st).1.toNat (rmany 1 64 st).2
def mkOp (h : Head) (vs : List Val) (ds : List Dt) : Opr := ⟨h.dot, h.deps, h.stamp, h.kind, h.table, h.key, h.col, vs, ds⟩
def rtail (h : Head × (List Int × Bool)) : Option (List Val × List Int) → Opr × (List Int × Bool)
  | none => (z55, (h.2.1, true))
  | some (vs, tl) => if h.2.2 = true then (z55, (h.2.1, true)) else (mkOp h.1 vs (rdl (tl, false)).1, (rdl (tl, false)).2)
def rop (st : List Int × Bool) : Opr × (List Int × Bool) := rtail (rhead st) (rrow (rhead st).2.1)
theorem set12 {W : World} {b t : Nat} {a0 a1 a2 a3 a4 a5 a6 a7 a8 a9 a10 a11 : Value} (h : W.heap[b]? = some (.cells #[a0, a1, a2, a3, a4, a5, a6, a7, a8, a9, a10, a11] t (0, 0))) (c0 c1 c2 c3 c4 c5 c6 c7 c8 c9 c10 c11 : Value) :
    (((((((((((((W.setCell ⟨b, 0, none⟩ c0).setCell ⟨b, 1, none⟩ c1).setCell ⟨b, 2, none⟩ c2).setCell ⟨b, 3, none⟩ c3).setCell ⟨b, 4, none⟩ c4).setCell ⟨b, 5, none⟩ c5).setCell ⟨b, 6, none⟩ c6).setCell ⟨b, 7, none⟩ c7).setCell ⟨b, 8, none⟩ c8).setCell ⟨b, 9, none⟩ c9).setCell ⟨b, 10, none⟩ c10).setCell ⟨b, 11, none⟩ c11)).heap[b]? = some (.cells #[c0, c1, c2, c3, c4, c5, c6, c7, c8, c9, c10, c11] t (0, 0)) := by
  have h1 : (W.setCell ⟨b, 0, none⟩ c0).heap[b]? = some (.cells #[c0, a1, a2, a3, a4, a5, a6, a7, a8, a9, a10, a11] t (0, 0)) := blk_set h 0 c0
  have h2 : ((W.setCell ⟨b, 0, none⟩ c0).setCell ⟨b, 1, none⟩ c1).heap[b]? = some (.cells #[c0, c1, a2, a3, a4, a5, a6, a7, a8, a9, a10, a11] t (0, 0)) := blk_set h1 1 c1
  have h3 : (((W.setCell ⟨b, 0, none⟩ c0).setCell ⟨b, 1, none⟩ c1).setCell ⟨b, 2, none⟩ c2).heap[b]? = some (.cells #[c0, c1, c2, a3, a4, a5, a6, a7, a8, a9, a10, a11] t (0, 0)) := blk_set h2 2 c2
  have h4 : ((((W.setCell ⟨b, 0, none⟩ c0).setCell ⟨b, 1, none⟩ c1).setCell ⟨b, 2, none⟩ c2).setCell ⟨b, 3, none⟩ c3).heap[b]? = some (.cells #[c0, c1, c2, c3, a4, a5, a6, a7, a8, a9, a10, a11] t (0, 0)) := blk_set h3 3 c3
  have h5 : (((((W.setCell ⟨b, 0, none⟩ c0).setCell ⟨b, 1, none⟩ c1).setCell ⟨b, 2, none⟩ c2).setCell ⟨b, 3, none⟩ c3).setCell ⟨b, 4, none⟩ c4).heap[b]? = some (.cells #[c0, c1, c2, c3, c4, a5, a6, a7, a8, a9, a10, a11] t (0, 0)) := blk_set h4 4 c4
  have h6 : ((((((W.setCell ⟨b, 0, none⟩ c0).setCell ⟨b, 1, none⟩ c1).setCell ⟨b, 2, none⟩ c2).setCell ⟨b, 3, none⟩ c3).setCell ⟨b, 4, none⟩ c4).setCell ⟨b, 5, none⟩ c5).heap[b]? = some (.cells #[c0, c1, c2, c3, c4, c5, a6, a7, a8, a9, a10, a11] t (0, 0)) := blk_set h5 5 c5
  have h7 : (((((((W.setCell ⟨b, 0, none⟩ c0).setCell ⟨b, 1, none⟩ c1).setCell ⟨b, 2, none⟩ c2).setCell ⟨b, 3, none⟩ c3).setCell ⟨b, 4, none⟩ c4).setCell ⟨b, 5, none⟩ c5).setCell ⟨b, 6, none⟩ c6).heap[b]? = some (.cells #[c0, c1, c2, c3, c4, c5, c6, a7, a8, a9, a10, a11] t (0, 0)) := blk_set h6 6 c6
  have h8 : ((((((((W.setCell ⟨b, 0, none⟩ c0).setCell ⟨b, 1, none⟩ c1).setCell ⟨b, 2, none⟩ c2).setCell ⟨b, 3, none⟩ c3).setCell ⟨b, 4, none⟩ c4).setCell ⟨b, 5, none⟩ c5).setCell ⟨b, 6, none⟩ c6).setCell ⟨b, 7, none⟩ c7).heap[b]? = some (.cells #[c0, c1, c2, c3, c4, c5, c6, c7, a8, a9, a10, a11] t (0, 0)) := blk_set h7 7 c7
  have h9 : (((((((((W.setCell ⟨b, 0, none⟩ c0).setCell ⟨b, 1, none⟩ c1).setCell ⟨b, 2, none⟩ c2).setCell ⟨b, 3, none⟩ c3).setCell ⟨b, 4, none⟩ c4).setCell ⟨b, 5, none⟩ c5).setCell ⟨b, 6, none⟩ c6).setCell ⟨b, 7, none⟩ c7).setCell ⟨b, 8, none⟩ c8).heap[b]? = some (.cells #[c0, c1, c2, c3, c4, c5, c6, c7, c8, a9, a10, a11] t (0, 0)) := blk_set h8 8 c8
  have h10 : ((((((((((W.setCell ⟨b, 0, none⟩ c0).setCell ⟨b, 1, none⟩ c1).setCell ⟨b, 2, none⟩ c2).setCell ⟨b, 3, none⟩ c3).setCell ⟨b, 4, none⟩ c4).setCell ⟨b, 5, none⟩ c5).setCell ⟨b, 6, none⟩ c6).setCell ⟨b, 7, none⟩ c7).setCell ⟨b, 8, none⟩ c8).setCell ⟨b, 9, none⟩ c9).heap[b]? = some (.cells #[c0, c1, c2, c3, c4, c5, c6, c7, c8, c9, a10, a11] t (0, 0)) := blk_set h9 9 c9
  have h11 : (((((((((((W.setCell ⟨b, 0, none⟩ c0).setCell ⟨b, 1, none⟩ c1).setCell ⟨b, 2, none⟩ c2).setCell ⟨b, 3, none⟩ c3).setCell ⟨b, 4, none⟩ c4).setCell ⟨b, 5, none⟩ c5).setCell ⟨b, 6, none⟩ c6).setCell ⟨b, 7, none⟩ c7).setCell ⟨b, 8, none⟩ c8).setCell ⟨b, 9, none⟩ c9).setCell ⟨b, 10, none⟩ c10).heap[b]? = some (.cells #[c0, c1, c2, c3, c4, c5, c6, c7, c8, c9, c10, a11] t (0, 0)) := blk_set h10 10 c10
  have h12 : ((((((((((((W.setCell ⟨b, 0, none⟩ c0).setCell ⟨b, 1, none⟩ c1).setCell ⟨b, 2, none⟩ c2).setCell ⟨b, 3, none⟩ c3).setCell ⟨b, 4, none⟩ c4).setCell ⟨b, 5, none⟩ c5).setCell ⟨b, 6, none⟩ c6).setCell ⟨b, 7, none⟩ c7).setCell ⟨b, 8, none⟩ c8).setCell ⟨b, 9, none⟩ c9).setCell ⟨b, 10, none⟩ c10).setCell ⟨b, 11, none⟩ c11).heap[b]? = some (.cells #[c0, c1, c2, c3, c4, c5, c6, c7, c8, c9, c10, c11] t (0, 0)) := blk_set h11 11 c11
  exact h12
theorem rinfo49 : (Try.prog.info? 49).map (fun i => (i.zero, i.size, i.bytes)) = some (some (.agg #[.int .i64 0, .int .i64 0]), 2, 16) := by kernel_rfl
theorem heap_set {W1 W : World} {k b i : Nat} {u : Value} (h : W1.heap[k]? = W.heap[k]?) (hk : k ≠ b) : (W1.setCell ⟨b, i, none⟩ u).heap[k]? = W.heap[k]? := (Below.heap_setCell W1 ⟨b, i, none⟩ u k hk).trans h
theorem Kd.R_elder0 {α : Type} {d : Kd α} {e : Nat} {w w1 : World} {v : Value} {xs : List α} {g : Nat} (h : Kd.R d e w1 w.heap.size (fun _ => True) v xs) (hg : g < w.heap.size) : Kd.R d e w1 w.heap.size (fun k => k ≠ g) v xs :=
  Kd.R_mono (Kd.R_bound h) (fun k hk => by have := hk.2.1; omega)
set_option maxHeartbeats 8000000 in
set_option maxRecDepth 100000 in
theorem R_op (w0 w : World) (g : Nat) (B rest : List Int) (bad : Bool) (h : IsR w0 w g B rest bad) :
    Calls Try.prog 40 #[.pointer (some ⟨g, 0, none⟩)] w fun en w' => ∃ cs : List Value, en = .returned (.agg cs.toArray) ∧ k55.M w' w.heap.size (fun k => k ≠ g) (rop (rest, bad)).1 cs ∧
      IsR w0 w' g B (rop (rest, bad)).2.1 (rop (rest, bad)).2.2 ∧ KeepBut w w' g none := by
  have hgl : g < w.heap.size := h.lt
  have hne : w.heap.size ≠ g := by omega
  have H0 := Aside0.mk (h.alloc (.cells #[.int .i64 0, .int .i64 0, .slice none 0 0, .int .i64 0, .int .i64 0, .int .i64 0, .int .i64 0, .int .i64 0, .string ⟨#[]⟩, .int .i64 0, .slice none 0 0, .slice none 0 0] 55))
  have K0 := Aside0.mk (keep_alloc (KeepBut.refl w g none) (.cells #[.int .i64 0, .int .i64 0, .slice none 0 0, .int .i64 0, .int .i64 0, .int .i64 0, .int .i64 0, .int .i64 0, .string ⟨#[]⟩, .int .i64 0, .slice none 0 0, .slice none 0 0] 55))
  have D0 := Aside0.mk (heap_alloc_new w (.cells #[.int .i64 0, .int .i64 0, .slice none 0 0, .int .i64 0, .int .i64 0, .int .i64 0, .int .i64 0, .int .i64 0, .string ⟨#[]⟩, .int .i64 0, .slice none 0 0, .slice none 0 0] 55))
  have HNE := Aside0.mk hne
  have HB0 := Aside0.mk (below_size h.1)
  clear h hgl hne
  obtain ⟨q1, hq1⟩ : ∃ q, q = rnum 1 (rest, bad) := ⟨_, rfl⟩
  obtain ⟨q2, hq2⟩ : ∃ q, q = rdot (q1.2.1, q1.2.2) := ⟨_, rfl⟩
  obtain ⟨q3, hq3⟩ : ∃ q, q = rnums (q2.2.1, q2.2.2) := ⟨_, rfl⟩
  obtain ⟨q4, hq4⟩ : ∃ q, q = rstamp (q3.2.1, q3.2.2) := ⟨_, rfl⟩
  obtain ⟨q5, hq5⟩ : ∃ q, q = rnum 1 (q4.2.1, q4.2.2) := ⟨_, rfl⟩
  obtain ⟨q6, hq6⟩ : ∃ q, q = rtext (q5.2.1, q5.2.2) := ⟨_, rfl⟩
  obtain ⟨q7, hq7⟩ : ∃ q, q = rnum 1 (q6.2.1, q6.2.2) := ⟨_, rfl⟩
  have HS := Aside0.mk (show rop (rest, bad) = rtail (⟨q1.1, q2.1, q3.1, q4.1, q5.1, q6.1, q7.1⟩, q7.2) (rrow q7.2.1) from by rw [hq7, hq6, hq5, hq4, hq3, hq2, hq1]; rfl)
  have HQ1 := Aside0.mk hq1
  have HQ2 := Aside0.mk hq2
  have HQ3 := Aside0.mk hq3
  have HQ4 := Aside0.mk hq4
  have HQ5 := Aside0.mk hq5
  have HQ6 := Aside0.mk hq6
  have HQ7 := Aside0.mk hq7
  clear hq1 hq2 hq3 hq4 hq5 hq6 hq7
  go_enter Try.func40, Try.ntmps40
  go_wp2_with fail
  refine (R_num w0 _ g B rest bad H0.out 1 1 rfl (by omega) (by omega)).mono ?_
  rintro e w1 ⟨rfl, hi, hk⟩
  rw [← HQ1.out] at hi
  rw [← HQ1.out]
  have D1 := Aside0.mk (hk.blk D0.out HNE.out (by simp))
  have H1 := Aside0.mk hi
  have K1 := Aside0.mk (keep_then K0.out hk)
  clear hi hk HQ1
  go_wp2_with fail
  refine (R_dot w0 _ g B q1.2.1 q1.2.2 H1.out).mono ?_
  rintro e w2 ⟨rfl, hi, hk⟩
  rw [← HQ2.out] at hi
  rw [← HQ2.out]
  have D2 := Aside0.mk (hk.blk D1.out HNE.out (by simp))
  have H2 := Aside0.mk hi
  have K2 := Aside0.mk (keep_then K1.out hk)
  clear hi hk HQ2
  go_wp2_with fail
  refine (R_nums w0 _ g B q2.2.1 q2.2.2 H2.out).mono ?_
  rintro e w3 ⟨v, rfl, ho, hi, hk⟩
  rw [← HQ3.out] at hi ho
  obtain ⟨Ad, cd, rfl⟩ := Kd.R_slice ho
  have O3 := Aside0.mk (Kd.R_lower ho (keep_size K2.out))
  have D3 := Aside0.mk (hk.blk D2.out HNE.out (by simp))
  have H3 := Aside0.mk hi
  have K3 := Aside0.mk (keep_then K2.out hk)
  clear hi hk HQ3 ho
  go_wp2_with fail
  refine (R_stamp w0 _ g B q3.2.1 q3.2.2 H3.out).mono ?_
  rintro e w4 ⟨rfl, hi, hk⟩
  rw [← HQ4.out] at hi
  rw [← HQ4.out]
  have O4 := Aside0.mk (Kd.R_keep O3.out hk (fun _ h => h))
  have D4 := Aside0.mk (hk.blk D3.out HNE.out (by simp))
  have H4 := Aside0.mk hi
  have K4 := Aside0.mk (keep_then K3.out hk)
  clear hi hk HQ4
  go_wp2_with fail
  refine (R_num w0 _ g B q4.2.1 q4.2.2 H4.out 1 1 rfl (by omega) (by omega)).mono ?_
  rintro e w5 ⟨rfl, hi, hk⟩
  rw [← HQ5.out] at hi
  rw [← HQ5.out]
  have O5 := Aside0.mk (Kd.R_keep O4.out hk (fun _ h => h))
  have D5 := Aside0.mk (hk.blk D4.out HNE.out (by simp))
  have H5 := Aside0.mk hi
  have K5 := Aside0.mk (keep_then K4.out hk)
  clear hi hk HQ5
  go_wp2_with fail
  refine (R_text w0 _ g B q5.2.1 q5.2.2 H5.out).mono ?_
  rintro e w6 ⟨rfl, hi, hk⟩
  rw [← HQ6.out] at hi
  rw [← HQ6.out]
  have O6 := Aside0.mk (Kd.R_keep O5.out hk (fun _ h => h))
  have D6 := Aside0.mk (hk.blk D5.out HNE.out (by simp))
  have H6 := Aside0.mk hi
  have K6 := Aside0.mk (keep_then K5.out hk)
  clear hi hk HQ6
  go_wp2_with fail
  refine (R_num w0 _ g B q6.2.1 q6.2.2 H6.out 1 1 rfl (by omega) (by omega)).mono ?_
  rintro e w7 ⟨rfl, hi, hk⟩
  rw [← HQ7.out] at hi
  rw [← HQ7.out]
  have O7 := Aside0.mk (Kd.R_keep O6.out hk (fun _ h => h))
  have D7 := Aside0.mk (hk.blk D6.out HNE.out (by simp))
  have H7 := Aside0.mk hi
  have K7 := Aside0.mk (keep_then K6.out hk)
  clear hi hk HQ7
  go_wp2
  have K8 := Aside0.mk (keep_alloc K7.out (.cells #[.int .i64 q2.1.f0, .int .i64 q2.1.f1, .slice Ad q3.1.length cd, .int .i64 q4.1.f0, .int .i64 q4.1.f1, .int .i64 q4.1.f2, .int .i64 q1.1, .int .i64 q5.1, .string q6.1, .int .i64 q7.1, .slice none 0 0, .slice none 0 0] 55))
  have H8 := Aside0.mk (H7.out.alloc (.cells #[.int .i64 q2.1.f0, .int .i64 q2.1.f1, .slice Ad q3.1.length cd, .int .i64 q4.1.f0, .int .i64 q4.1.f1, .int .i64 q4.1.f2, .int .i64 q1.1, .int .i64 q5.1, .string q6.1, .int .i64 q7.1, .slice none 0 0, .slice none 0 0] 55))
  have X8 := Aside0.mk (heap_alloc_new w7 (.cells #[.int .i64 q2.1.f0, .int .i64 q2.1.f1, .slice Ad q3.1.length cd, .int .i64 q4.1.f0, .int .i64 q4.1.f1, .int .i64 q4.1.f2, .int .i64 q1.1, .int .i64 q5.1, .string q6.1, .int .i64 q7.1, .slice none 0 0, .slice none 0 0] 55))
  have D8 := Aside0.mk (blk_below D7.out (below_alloc (Below.refl _ w7) (.cells #[.int .i64 q2.1.f0, .int .i64 q2.1.f1, .slice Ad q3.1.length cd, .int .i64 q4.1.f0, .int .i64 q4.1.f1, .int .i64 q4.1.f2, .int .i64 q1.1, .int .i64 q5.1, .string q6.1, .int .i64 q7.1, .slice none 0 0, .slice none 0 0] 55)))
  have O8 := Aside0.mk (Kd.R_alloc O7.out (.cells #[.int .i64 q2.1.f0, .int .i64 q2.1.f1, .slice Ad q3.1.length cd, .int .i64 q4.1.f0, .int .i64 q4.1.f1, .int .i64 q4.1.f2, .int .i64 q1.1, .int .i64 q5.1, .string q6.1, .int .i64 q7.1, .slice none 0 0, .slice none 0 0] 55))
  have hxg : w7.heap.size ≠ g := by have := H7.out.lt; omega
  have hxr : w7.heap.size ≠ w.heap.size := by have := blk_lt D7.out; omega
  have hxw : w.heap.size ≤ w7.heap.size := keep_size K7.out
  obtain ⟨w8, hw8⟩ : ∃ w8, w8 = w7.alloc (.cells #[.int .i64 q2.1.f0, .int .i64 q2.1.f1, .slice Ad q3.1.length cd, .int .i64 q4.1.f0, .int .i64 q4.1.f1, .int .i64 q4.1.f2, .int .i64 q1.1, .int .i64 q5.1, .string q6.1, .int .i64 q7.1, .slice none 0 0, .slice none 0 0] 55) := ⟨_, rfl⟩
  rw [← hw8] at K8 H8 X8 D8 O8
  rw [← hw8]
  obtain ⟨xb, hxb⟩ : ∃ xb, xb = w7.heap.size := ⟨_, rfl⟩
  rw [← hxb] at X8 hxg hxr hxw
  rw [← hxb]
  have HXG := Aside0.mk hxg
  have HXR := Aside0.mk hxr
  have HXW := Aside0.mk hxw
  clear hw8 hxb hxg hxr hxw K7 H7 D7 O7 D0 D1 D2 D3 D4 D5 D6 H0 H1 H2 H3 H4 H5 H6 K0 K1 K2 K3 K4 K5 K6 O3 O4 O5 O6
  obtain ⟨h0, hg, h2, h3, A, c, at_, hv, hC, hc, ha, hd⟩ := H8.out
  have HP : ∃ r1 r2 r3, row_Read.f 100 B (at_ : Int) = some (r1, r2, r3) ∧ ((rrow q7.2.1 = none ∧ r3 ≠ 0) ∨ (∃ (tl : List Int) (at1 : Nat), rrow q7.2.1 = some (r1, tl) ∧ at1 ≤ B.length ∧ B.drop at1 = tl ∧ r2 = (at1 : Int) ∧ r3 = 0)) := by
    rcases rowRead_eq B q7.2.1 at_ h2 h3 ha hd 100 (by omega) with ⟨e0, e, he, e1⟩ | ⟨vs, tl, at1, e0, g1, g2, e1⟩
    · exact ⟨_, _, _, e1, .inl ⟨e0, he⟩⟩
    · exact ⟨_, _, _, e1, .inr ⟨tl, at1, e0, g1, g2, rfl, rfl⟩⟩
  obtain ⟨r1, r2, r3, hp, hr⟩ := HP
  have HP := Aside0.mk hp
  have HR := Aside0.mk hr
  have HC := Aside0.mk (Kd.C_below hC h0)
  have HC0 := Aside0.mk hC
  have Hc := Aside0.mk hc
  have HH := Aside0.mk h0
  have Hg := Aside0.mk hg
  have Hb := Aside0.mk h2
  have Hl := Aside0.mk h3
  have Hv := Aside0.mk hv
  have Ha := Aside0.mk ha
  have Hd := Aside0.mk hd
  have hs0 : w8.cell? ⟨g, 0, none⟩ = some (.slice A B.length c) := (blk_cell hv 0).trans rfl
  have hs1 : w8.cell? ⟨g, 1, none⟩ = some (.int .i64 (at_ : Int)) := (blk_cell hv 1).trans rfl
  clear h0 hg h2 h3 hv hC hc ha hd hp hr
  go_region_held3 (fun w' => w'.cell? ⟨g, 0, none⟩ = some (.slice A B.length c) ∧ w'.cell? ⟨g, 1, none⟩ = some (.int .i64 (at_ : Int))) (first | exact ⟨hs0, hs1⟩ | exact ⟨ht0, ht1⟩)
    (first | (go_at_call 56; refine (row_Read.calls 100 A c B (at_ : Int) r1 r2 r3 _ (Kd.C_below HC.out (by first | exact Below.refl _ _ | exact below_drew (Below.refl _ _) | exact pw_below_drewN (Below.refl _ _) _)) Hc.out HP.out).mono ?_; rintro e w9 ⟨v9, rfl, ho, hb⟩; obtain ⟨A9, c9, rfl⟩ := Kd.R_slice ho; have HB9 := Aside0.mk (show Below w8.heap.size w8 w9 from below_step (below_drew (Below.refl _ w8)) hb); have O9 := Aside0.mk (show Kd.R k101 101 w9 w8.heap.size (fun _ => True) (.slice A9 r1.length c9) r1 from ho); clear ho hb; have ht0 := pw_cell_below HB9.out hs0; have ht1 := pw_cell_below HB9.out hs1))
  have Hv9 := Aside0.mk (blk_below Hv.out HB9.out)
  have D9 := Aside0.mk (blk_below D8.out HB9.out)
  have X9 := Aside0.mk (blk_below X8.out HB9.out)
  have OD9 := Aside0.mk (Kd.R_below O8.out HB9.out)
  have H9 := Aside0.mk (H8.out.below HB9.out)
  have K9 := Aside0.mk (keep_then K8.out (KeepBut.of_below (row := none) HB9.out g))
  have OV9 := Aside0.mk (Kd.R_lower (Kd.R_elder0 O9.out H8.out.lt) (keep_size K8.out))
  have he2 : w9.cell? ⟨g, 2, none⟩ = some (.bool q7.2.2) := (blk_cell Hv9.out 2).trans rfl
  have hf1 := blk_frozen Hv9.out 1
  have hf2 := blk_frozen Hv9.out 2
  have hdc := fun i => blk_cell D9.out i
  have hdf := fun i => blk_frozen D9.out i
  have hxc := fun i => blk_cell X9.out i
  have hxf := fun i => blk_frozen X9.out i
  have hgr : g ≠ w.heap.size := fun e_ => HNE.out e_.symm
  clear hs0 hs1 HP
  obtain ⟨qb, hqb⟩ : ∃ qb, qb = q7.2.2 := ⟨_, rfl⟩
  have HQB := Aside0.mk hqb
  rw [← hqb] at he2 H9 Hv9
  clear hqb H8 O8 X8 D8 K8 O9 Hv
  rcases HR.out with ⟨hn, h3⟩ | ⟨tl, at1, hn, g1, g2, rfl, rfl⟩
  · have HN := Aside0.mk (show rtail (⟨q1.1, q2.1, q3.1, q4.1, q5.1, q6.1, q7.1⟩, q7.2) (rrow q7.2.1) = (z55, (q7.2.1, true)) from by rw [hn]; rfl)
    have h3b : (r3 != 0) = true := bne_iff_ne.2 h3
    clear h3 hn HR
    rcases bad_cases qb with rfl | rfl
    · go_wp2
      rw [HS.out, HN.out]
      refine bodyPost_ret (v := .agg #[.int .i64 0, .int .i64 0, .slice none 0 0, .int .i64 0, .int .i64 0, .int .i64 0, .int .i64 0, .int .i64 0, .string ⟨#[]⟩, .int .i64 0, .slice none 0 0, .slice none 0 0]) ?_ rfl ⟨[.int .i64 0, .int .i64 0, .slice none 0 0, .int .i64 0, .int .i64 0, .int .i64 0, .int .i64 0, .int .i64 0, .string ⟨#[]⟩, .int .i64 0, .slice none 0 0, .slice none 0 0], rfl, (k55_mkM _ _ _ z55 (Kd.R_nil _ _ _ _ _) (Kd.R_nil _ _ _ _ _) (Kd.R_nil _ _ _ _ _)), (((((((((((((((((((((((((IsR.bad H9.out)).far HNE.out HB0.out 0 (.int .i64 0))).far HNE.out HB0.out 1 (.int .i64 0))).far HNE.out HB0.out 2 (.slice none 0 0))).far HNE.out HB0.out 3 (.int .i64 0))).far HNE.out HB0.out 4 (.int .i64 0))).far HNE.out HB0.out 5 (.int .i64 0))).far HNE.out HB0.out 6 (.int .i64 0))).far HNE.out HB0.out 7 (.int .i64 0))).far HNE.out HB0.out 8 (.string ⟨#[]⟩))).far HNE.out HB0.out 9 (.int .i64 0))).far HNE.out HB0.out 10 (.slice none 0 0))).far HNE.out HB0.out 11 (.slice none 0 0)), (keep_far ((keep_far ((keep_far ((keep_far ((keep_far ((keep_far ((keep_far ((keep_far ((keep_far ((keep_far ((keep_far ((keep_far ((K9.out.set_ 2 (.bool true))) (p := ⟨w.heap.size, 0, none⟩) (Nat.le_refl _) (.int .i64 0))) (p := ⟨w.heap.size, 1, none⟩) (Nat.le_refl _) (.int .i64 0))) (p := ⟨w.heap.size, 2, none⟩) (Nat.le_refl _) (.slice none 0 0))) (p := ⟨w.heap.size, 3, none⟩) (Nat.le_refl _) (.int .i64 0))) (p := ⟨w.heap.size, 4, none⟩) (Nat.le_refl _) (.int .i64 0))) (p := ⟨w.heap.size, 5, none⟩) (Nat.le_refl _) (.int .i64 0))) (p := ⟨w.heap.size, 6, none⟩) (Nat.le_refl _) (.int .i64 0))) (p := ⟨w.heap.size, 7, none⟩) (Nat.le_refl _) (.int .i64 0))) (p := ⟨w.heap.size, 8, none⟩) (Nat.le_refl _) (.string ⟨#[]⟩))) (p := ⟨w.heap.size, 9, none⟩) (Nat.le_refl _) (.int .i64 0))) (p := ⟨w.heap.size, 10, none⟩) (Nat.le_refl _) (.slice none 0 0))) (p := ⟨w.heap.size, 11, none⟩) (Nat.le_refl _) (.slice none 0 0))⟩
      exact results_cell_row (p := 2) (ty := 55) rfl _ _ w.heap.size 55 #[.int .i64 0, .int .i64 0, .slice none 0 0, .int .i64 0, .int .i64 0, .int .i64 0, .int .i64 0, .int .i64 0, .string ⟨#[]⟩, .int .i64 0, .slice none 0 0, .slice none 0 0] (0, 0) _ rfl (set12 ((Below.heap_setCell w9 ⟨g, 2, none⟩ (.bool true) w.heap.size HNE.out).trans D9.out) _ _ _ _ _ _ _ _ _ _ _ _) Try.underlying55 rfl (by kernel_rfl)
    · go_wp2
      rw [HS.out, HN.out]
      refine bodyPost_ret (v := .agg #[.int .i64 0, .int .i64 0, .slice none 0 0, .int .i64 0, .int .i64 0, .int .i64 0, .int .i64 0, .int .i64 0, .string ⟨#[]⟩, .int .i64 0, .slice none 0 0, .slice none 0 0]) ?_ rfl ⟨[.int .i64 0, .int .i64 0, .slice none 0 0, .int .i64 0, .int .i64 0, .int .i64 0, .int .i64 0, .int .i64 0, .string ⟨#[]⟩, .int .i64 0, .slice none 0 0, .slice none 0 0], rfl, (k55_mkM _ _ _ z55 (Kd.R_nil _ _ _ _ _) (Kd.R_nil _ _ _ _ _) (Kd.R_nil _ _ _ _ _)), (((((((((((((((((((((((((IsR.bad H9.out)).far HNE.out HB0.out 0 (.int .i64 0))).far HNE.out HB0.out 1 (.int .i64 0))).far HNE.out HB0.out 2 (.slice none 0 0))).far HNE.out HB0.out 3 (.int .i64 0))).far HNE.out HB0.out 4 (.int .i64 0))).far HNE.out HB0.out 5 (.int .i64 0))).far HNE.out HB0.out 6 (.int .i64 0))).far HNE.out HB0.out 7 (.int .i64 0))).far HNE.out HB0.out 8 (.string ⟨#[]⟩))).far HNE.out HB0.out 9 (.int .i64 0))).far HNE.out HB0.out 10 (.slice none 0 0))).far HNE.out HB0.out 11 (.slice none 0 0)), (keep_far ((keep_far ((keep_far ((keep_far ((keep_far ((keep_far ((keep_far ((keep_far ((keep_far ((keep_far ((keep_far ((keep_far ((K9.out.set_ 2 (.bool true))) (p := ⟨w.heap.size, 0, none⟩) (Nat.le_refl _) (.int .i64 0))) (p := ⟨w.heap.size, 1, none⟩) (Nat.le_refl _) (.int .i64 0))) (p := ⟨w.heap.size, 2, none⟩) (Nat.le_refl _) (.slice none 0 0))) (p := ⟨w.heap.size, 3, none⟩) (Nat.le_refl _) (.int .i64 0))) (p := ⟨w.heap.size, 4, none⟩) (Nat.le_refl _) (.int .i64 0))) (p := ⟨w.heap.size, 5, none⟩) (Nat.le_refl _) (.int .i64 0))) (p := ⟨w.heap.size, 6, none⟩) (Nat.le_refl _) (.int .i64 0))) (p := ⟨w.heap.size, 7, none⟩) (Nat.le_refl _) (.int .i64 0))) (p := ⟨w.heap.size, 8, none⟩) (Nat.le_refl _) (.string ⟨#[]⟩))) (p := ⟨w.heap.size, 9, none⟩) (Nat.le_refl _) (.int .i64 0))) (p := ⟨w.heap.size, 10, none⟩) (Nat.le_refl _) (.slice none 0 0))) (p := ⟨w.heap.size, 11, none⟩) (Nat.le_refl _) (.slice none 0 0))⟩
      exact results_cell_row (p := 2) (ty := 55) rfl _ _ w.heap.size 55 #[.int .i64 0, .int .i64 0, .slice none 0 0, .int .i64 0, .int .i64 0, .int .i64 0, .int .i64 0, .int .i64 0, .string ⟨#[]⟩, .int .i64 0, .slice none 0 0, .slice none 0 0] (0, 0) _ rfl (set12 ((Below.heap_setCell w9 ⟨g, 2, none⟩ (.bool true) w.heap.size HNE.out).trans D9.out) _ _ _ _ _ _ _ _ _ _ _ _) Try.underlying55 rfl (by kernel_rfl)
  · have HG := Aside0.mk (show at1 ≤ B.length ∧ B.drop at1 = tl from ⟨g1, g2⟩)
    have HN := Aside0.mk hn
    clear hn g1 g2 HR
    rcases bad_cases qb with rfl | rfl
    · have HM := Aside0.mk (show rtail (⟨q1.1, q2.1, q3.1, q4.1, q5.1, q6.1, q7.1⟩, q7.2) (rrow q7.2.1) = (z55, (q7.2.1, true)) from by rw [HN.out]; exact if_pos HQB.out.symm)
      go_wp2
      rw [HS.out, HM.out]
      refine bodyPost_ret (v := .agg #[.int .i64 0, .int .i64 0, .slice none 0 0, .int .i64 0, .int .i64 0, .int .i64 0, .int .i64 0, .int .i64 0, .string ⟨#[]⟩, .int .i64 0, .slice none 0 0, .slice none 0 0]) ?_ rfl ⟨[.int .i64 0, .int .i64 0, .slice none 0 0, .int .i64 0, .int .i64 0, .int .i64 0, .int .i64 0, .int .i64 0, .string ⟨#[]⟩, .int .i64 0, .slice none 0 0, .slice none 0 0], rfl, (k55_mkM _ _ _ z55 (Kd.R_nil _ _ _ _ _) (Kd.R_nil _ _ _ _ _) (Kd.R_nil _ _ _ _ _)), (((((((((((((((((((((((((IsR.bad H9.out)).far HNE.out HB0.out 0 (.int .i64 0))).far HNE.out HB0.out 1 (.int .i64 0))).far HNE.out HB0.out 2 (.slice none 0 0))).far HNE.out HB0.out 3 (.int .i64 0))).far HNE.out HB0.out 4 (.int .i64 0))).far HNE.out HB0.out 5 (.int .i64 0))).far HNE.out HB0.out 6 (.int .i64 0))).far HNE.out HB0.out 7 (.int .i64 0))).far HNE.out HB0.out 8 (.string ⟨#[]⟩))).far HNE.out HB0.out 9 (.int .i64 0))).far HNE.out HB0.out 10 (.slice none 0 0))).far HNE.out HB0.out 11 (.slice none 0 0)), (keep_far ((keep_far ((keep_far ((keep_far ((keep_far ((keep_far ((keep_far ((keep_far ((keep_far ((keep_far ((keep_far ((keep_far ((K9.out.set_ 2 (.bool true))) (p := ⟨w.heap.size, 0, none⟩) (Nat.le_refl _) (.int .i64 0))) (p := ⟨w.heap.size, 1, none⟩) (Nat.le_refl _) (.int .i64 0))) (p := ⟨w.heap.size, 2, none⟩) (Nat.le_refl _) (.slice none 0 0))) (p := ⟨w.heap.size, 3, none⟩) (Nat.le_refl _) (.int .i64 0))) (p := ⟨w.heap.size, 4, none⟩) (Nat.le_refl _) (.int .i64 0))) (p := ⟨w.heap.size, 5, none⟩) (Nat.le_refl _) (.int .i64 0))) (p := ⟨w.heap.size, 6, none⟩) (Nat.le_refl _) (.int .i64 0))) (p := ⟨w.heap.size, 7, none⟩) (Nat.le_refl _) (.int .i64 0))) (p := ⟨w.heap.size, 8, none⟩) (Nat.le_refl _) (.string ⟨#[]⟩))) (p := ⟨w.heap.size, 9, none⟩) (Nat.le_refl _) (.int .i64 0))) (p := ⟨w.heap.size, 10, none⟩) (Nat.le_refl _) (.slice none 0 0))) (p := ⟨w.heap.size, 11, none⟩) (Nat.le_refl _) (.slice none 0 0))⟩
      exact results_cell_row (p := 2) (ty := 55) rfl _ _ w.heap.size 55 #[.int .i64 0, .int .i64 0, .slice none 0 0, .int .i64 0, .int .i64 0, .int .i64 0, .int .i64 0, .int .i64 0, .string ⟨#[]⟩, .int .i64 0, .slice none 0 0, .slice none 0 0] (0, 0) _ rfl (set12 ((Below.heap_setCell w9 ⟨g, 2, none⟩ (.bool true) w.heap.size HNE.out).trans D9.out) _ _ _ _ _ _ _ _ _ _ _ _) Try.underlying55 rfl (by kernel_rfl)
    · have HX0 := Aside0.mk (show g ≠ xb from fun e_ => HXG.out e_.symm)
      have HRX := Aside0.mk (show w.heap.size ≠ xb from fun e_ => HXR.out e_.symm)
      obtain ⟨q8, hq8⟩ : ∃ q, q = rmany 1 64 (tl, false) := ⟨_, rfl⟩
      have HM8 := Aside0.mk (show q8.1 ≤ 64 from by rw [hq8]; exact rmany_le 1 64 (by omega) (tl, false))
      have HQ8 := Aside0.mk hq8
      have HE := Aside0.mk (show rtail (⟨q1.1, q2.1, q3.1, q4.1, q5.1, q6.1, q7.1⟩, q7.2) (rrow q7.2.1) = (mkOp ⟨q1.1, q2.1, q3.1, q4.1, q5.1, q6.1, q7.1⟩ r1 (rdots q8.1.toNat q8.2).1, (rdots q8.1.toNat q8.2).2) from by rw [HN.out, hq8]; exact if_neg (by rw [← HQB.out]; exact Bool.false_ne_true))
      clear hq8
      have H10 := Aside0.mk (IsR.go (bad := false) (x := (at_ : Int)) (below_set H9.out.1 (by have := HXW.out; have := HB0.out; omega)) Hg.out Hb.out Hl.out ((Below.heap_setCell w9 ⟨xb, 10, none⟩ (.slice A9 r1.length c9) g HX0.out).trans Hv9.out) HC0.out Hc.out HG.out.1 HG.out.2)
      have D10 := Aside0.mk ((Below.heap_setCell (w9.setCell ⟨xb, 10, none⟩ (.slice A9 r1.length c9)) ⟨g, 1, none⟩ (.int .i64 (at1 : Int)) w.heap.size HNE.out).trans ((Below.heap_setCell w9 ⟨xb, 10, none⟩ (.slice A9 r1.length c9) w.heap.size HRX.out).trans D9.out))
      have X10 := Aside0.mk ((Below.heap_setCell (w9.setCell ⟨xb, 10, none⟩ (.slice A9 r1.length c9)) ⟨g, 1, none⟩ (.int .i64 (at1 : Int)) xb HXG.out).trans (blk_set X9.out 10 (.slice A9 r1.length c9)))
      have OD10 := Aside0.mk (Kd.R_far (Kd.R_set OD9.out X9.out (by decide) 10 (.slice A9 r1.length c9)) (p := ⟨g, 1, none⟩) (fun _ h => h) (.int .i64 (at1 : Int)))
      have OV10 := Aside0.mk (Kd.R_far (Kd.R_set OV9.out X9.out (by decide) 10 (.slice A9 r1.length c9)) (p := ⟨g, 1, none⟩) (fun _ h => h) (.int .i64 (at1 : Int)))
      have K10 := Aside0.mk ((keep_far K9.out (p := ⟨xb, 10, none⟩) HXW.out (.slice A9 r1.length c9)).set_ 1 (.int .i64 (at1 : Int)))
      go_wp2_with fail
      refine (R_many w0 _ g B tl false H10.out 1 64 1 rfl (by omega) (by omega)).mono ?_
      rintro e w11 ⟨rfl, hi, hk⟩
      rw [← HQ8.out] at hi
      rw [← HQ8.out]
      have H11 := Aside0.mk hi
      have D11 := Aside0.mk (hk.blk D10.out HNE.out (by simp))
      have X11 := Aside0.mk (hk.blk X10.out HXG.out (by simp))
      have OD11 := Aside0.mk (Kd.R_keep OD10.out hk (fun _ h => h))
      have OV11 := Aside0.mk (Kd.R_keep OV10.out hk (fun _ h => h))
      have K11 := Aside0.mk (keep_then K10.out hk)
      clear hi hk he2 hf1 hf2 hdc hdf hxc hxf hgr D10 X10 OD10 OV10 K10 H10 D9 X9 OD9 OV9 K9 H9 Hv9 HC
      go_wp2
      go_loopw [55] (fun v wr => ∃ (k : Nat) (At : Option Addr) (ct : Nat), k ≤ q8.1.toNat ∧ v = .int .i64 k ∧ Aside0 (IsR w0 wr g B (rdots k q8.2).2.1 (rdots k q8.2).2.2) ∧ Aside0 (KeepBut w wr g none) ∧ Aside0 (wr.heap[w.heap.size]? = some (.cells #[.int .i64 0, .int .i64 0, .slice none 0 0, .int .i64 0, .int .i64 0, .int .i64 0, .int .i64 0, .int .i64 0, .string ⟨#[]⟩, .int .i64 0, .slice none 0 0, .slice none 0 0] 55 (0, 0))) ∧ Aside0 (wr.heap[xb]? = some (.cells #[.int .i64 q2.1.f0, .int .i64 q2.1.f1, .slice Ad q3.1.length cd, .int .i64 q4.1.f0, .int .i64 q4.1.f1, .int .i64 q4.1.f2, .int .i64 q1.1, .int .i64 q5.1, .string q6.1, .int .i64 q7.1, .slice A9 r1.length c9, .slice At (rdots k q8.2).1.length ct] 55 (0, 0))) ∧ Aside0 (Kd.R (Kd.int .i64) 3 wr w.heap.size (fun k => k ≠ g) (.slice Ad q3.1.length cd) q3.1) ∧ Aside0 (Kd.R k101 101 wr w.heap.size (fun k => k ≠ g) (.slice A9 r1.length c9) r1) ∧ Aside0 (Kd.R k49 49 wr w.heap.size (fun k => k ≠ g) (.slice At (rdots k q8.2).1.length ct) (rdots k q8.2).1)) (fun v _ => q8.1.toNat - (intOf v).toNat)
      case atStart => exact ⟨0, none, 0, by omega, rfl, H11, K11, D11, X11, OD11, OV11, ⟨Kd.R_nil _ _ _ _ _⟩⟩
      case round =>
        obtain ⟨k, At, ct, hk, rfl, HI, HK, HD, HX, HOD, HOV, HOT⟩ := hrel
        have hkm : (k : Int) ≤ 64 := by have := HM8.out; omega
        by_cases hlt : (k : Int) < q8.1
        · have HLn := Aside0.mk (rdots_length q8.2 k)
          have HT := Aside0.mk (show rdots (k + 1) q8.2 = ((rdots k q8.2).1 ++ [(rdot ((rdots k q8.2).2.1, (rdots k q8.2).2.2)).1], (rdot ((rdots k q8.2).2.1, (rdots k q8.2).2.2)).2) from rfl)
          obtain ⟨q9, hq9⟩ : ∃ q, q = rdot ((rdots k q8.2).2.1, (rdots k q8.2).2.2) := ⟨_, rfl⟩
          rw [← hq9] at HT
          have HQ9 := Aside0.mk hq9
          obtain ⟨L, hL⟩ : ∃ L, L = (rdots k q8.2).1 := ⟨_, rfl⟩
          rw [← hL] at HLn HT HOT HX
          clear hL hq9
          have hxc := fun i => blk_cell HX.out i
          have hxf := fun i => blk_frozen HX.out i
          go_wp2_with fail
          go_region_law (first | (go_simp; go_at_call 53; refine (R_dot w0 _ g B _ _ (HI.out.below (by first | exact Below.refl _ _ | exact below_drew (Below.refl _ _)))).mono ?_; rintro e w12 ⟨rfl, hi, hk2⟩; rw [← HQ9.out] at hi; rw [← HQ9.out]; have H12 := Aside0.mk hi; have hk3 : KeepBut wr w12 g none := hk2; have K12 := Aside0.mk (keep_then HK.out hk3); have D12 := Aside0.mk (hk3.blk HD.out HNE.out (by simp)); have X12 := Aside0.mk (hk3.blk HX.out HXG.out (by simp)); have OD12 := Aside0.mk (Kd.R_keep HOD.out hk3 (fun _ h => h)); have OV12 := Aside0.mk (Kd.R_keep HOV.out hk3 (fun _ h => h)); have OT12 := Aside0.mk (Kd.R_keep HOT.out hk3 (fun _ h => h)); have hxc2 := fun i => blk_cell X12.out i; have hxf2 := fun i => blk_frozen X12.out i; have X12a := Aside0.mk (blk_below X12.out (below_alloc (Below.refl _ w12) (.cells #[.int .i64 q9.1.f0, .int .i64 q9.1.f1] 49))); have hxc2a := fun i => blk_cell X12a.out i; clear hi hk2 hk3 X12a) | (refine Kd.R_append_step k49 (w0 := w12) w.heap.size rfl (.tmp 58) (.tmp 61) 53 49 (.agg #[.int .i64 0, .int .i64 0]) 16 rfl Try.underlying53 rinfo49 rfl (by decide) (by omega) (.slice At L.length ct) L q9.1 [.int .i64 q9.1.f0, .int .i64 q9.1.f1] (fun k => k ≠ g) (fun _ => False) rfl rfl (k49_mkM _ _ _ _) (fun _ hk => hk.elim) (fun k hk e_ => by have := H12.out.lt; omega) OT12.out (Below.refl _ _) K12.out.1 (by have := HLn.out; omega) ?_; intro v3 w13 ho hb hgw hat; obtain ⟨A3, c3, rfl⟩ := Kd.R_slice ho; have O13 := Aside0.mk ho; have H13 := Aside0.mk (H12.out.grown hgw (fun e_ => OT12.out.1 g e_ rfl) (fun k hk => by have := Kd.R_base OT12.out k hk; have := HB0.out; omega)); have K13 := Aside0.mk (keep_grown K12.out hgw (fun k hk => Kd.R_base OT12.out k hk)); have D13 := Aside0.mk (blk_grown D12.out hgw (Kd.R_ne OT12.out D12.out (by decide))); have X13 := Aside0.mk (blk_grown X12.out hgw (Kd.R_ne OT12.out X12.out (by decide))); have OD13 := Aside0.mk (Kd.R_over OD12.out OT12.out (by decide) hgw); have OV13 := Aside0.mk (Kd.R_over OV12.out OT12.out (by decide) hgw); have hxc3 := fun i => blk_cell X13.out i; have hxf3 := fun i => blk_frozen X13.out i; clear ho hb hgw hat hxc2 hxf2 hxc2a))
          all_goals (go_wp2; go_roundw)
          case rel => exact ⟨k + 1, A3, c3, by omega, by go_num, by rw [HT.out]; exact ⟨H13.out.far HXG.out (by have := HXW.out; have := HB0.out; omega) 11 (.slice A3 (L.length + 1) c3)⟩, ⟨keep_far K13.out (p := ⟨xb, 11, none⟩) HXW.out (.slice A3 (L.length + 1) c3)⟩, ⟨(Below.heap_setCell w13 ⟨xb, 11, none⟩ (.slice A3 (L.length + 1) c3) w.heap.size HRX.out).trans D13.out⟩, by rw [HT.out, show (L ++ [q9.1]).length = L.length + 1 from by simp]; exact ⟨blk_set X13.out 11 (.slice A3 (L.length + 1) c3)⟩, ⟨Kd.R_set OD13.out X13.out (by decide) 11 (.slice A3 (L.length + 1) c3)⟩, ⟨Kd.R_set OV13.out X13.out (by decide) 11 (.slice A3 (L.length + 1) c3)⟩, by rw [HT.out]; exact ⟨Kd.R_set O13.out X13.out (by decide) 11 (.slice A3 (L.length + 1) c3)⟩⟩
          case measure => simp [intOf]; omega
          case rel => exact ⟨k + 1, A3, c3, by omega, by go_num, by rw [HT.out]; exact ⟨H13.out.far HXG.out (by have := HXW.out; have := HB0.out; omega) 11 (.slice A3 (L.length + 1) c3)⟩, ⟨keep_far K13.out (p := ⟨xb, 11, none⟩) HXW.out (.slice A3 (L.length + 1) c3)⟩, ⟨(Below.heap_setCell w13 ⟨xb, 11, none⟩ (.slice A3 (L.length + 1) c3) w.heap.size HRX.out).trans D13.out⟩, by rw [HT.out, show (L ++ [q9.1]).length = L.length + 1 from by simp]; exact ⟨blk_set X13.out 11 (.slice A3 (L.length + 1) c3)⟩, ⟨Kd.R_set OD13.out X13.out (by decide) 11 (.slice A3 (L.length + 1) c3)⟩, ⟨Kd.R_set OV13.out X13.out (by decide) 11 (.slice A3 (L.length + 1) c3)⟩, by rw [HT.out]; exact ⟨Kd.R_set O13.out X13.out (by decide) 11 (.slice A3 (L.length + 1) c3)⟩⟩
          case measure => simp [intOf]; omega
          case rel => exact ⟨k + 1, A3, c3, by omega, by go_num, by rw [HT.out]; exact ⟨H13.out.far HXG.out (by have := HXW.out; have := HB0.out; omega) 11 (.slice A3 (L.length + 1) c3)⟩, ⟨keep_far K13.out (p := ⟨xb, 11, none⟩) HXW.out (.slice A3 (L.length + 1) c3)⟩, ⟨(Below.heap_setCell w13 ⟨xb, 11, none⟩ (.slice A3 (L.length + 1) c3) w.heap.size HRX.out).trans D13.out⟩, by rw [HT.out, show (L ++ [q9.1]).length = L.length + 1 from by simp]; exact ⟨blk_set X13.out 11 (.slice A3 (L.length + 1) c3)⟩, ⟨Kd.R_set OD13.out X13.out (by decide) 11 (.slice A3 (L.length + 1) c3)⟩, ⟨Kd.R_set OV13.out X13.out (by decide) 11 (.slice A3 (L.length + 1) c3)⟩, by rw [HT.out]; exact ⟨Kd.R_set O13.out X13.out (by decide) 11 (.slice A3 (L.length + 1) c3)⟩⟩
          case measure => simp [intOf]; omega
        · obtain rfl : k = q8.1.toNat := by omega
          have hxc := fun i => blk_cell HX.out i
          have hxf := fun i => blk_frozen HX.out i
          have hdc := fun i => blk_cell HD.out i
          have hdf := fun i => blk_frozen HD.out i
          go_wp2
          rw [HS.out, HE.out]
          refine bodyPost_ret (v := .agg #[.int .i64 q2.1.f0, .int .i64 q2.1.f1, .slice Ad q3.1.length cd, .int .i64 q4.1.f0, .int .i64 q4.1.f1, .int .i64 q4.1.f2, .int .i64 q1.1, .int .i64 q5.1, .string q6.1, .int .i64 q7.1, .slice A9 r1.length c9, .slice At (rdots q8.1.toNat q8.2).1.length ct]) ?_ rfl ⟨[.int .i64 q2.1.f0, .int .i64 q2.1.f1, .slice Ad q3.1.length cd, .int .i64 q4.1.f0, .int .i64 q4.1.f1, .int .i64 q4.1.f2, .int .i64 q1.1, .int .i64 q5.1, .string q6.1, .int .i64 q7.1, .slice A9 r1.length c9, .slice At (rdots q8.1.toNat q8.2).1.length ct], rfl, (k55_mkM _ _ _ _ (Kd.R_mono (Kd.R_step (Kd.R_types HOD.out HD.out (by decide)) (fun k hk _ => by repeat (first | refine heap_set ?_ hk.2 | rfl))) (fun _ hk => hk.1)) (Kd.R_mono (Kd.R_step (Kd.R_types HOV.out HD.out (by decide)) (fun k hk _ => by repeat (first | refine heap_set ?_ hk.2 | rfl))) (fun _ hk => hk.1)) (Kd.R_mono (Kd.R_step (Kd.R_types HOT.out HD.out (by decide)) (fun k hk _ => by repeat (first | refine heap_set ?_ hk.2 | rfl))) (fun _ hk => hk.1))), ((((((((((((((((((((((((HI.out).far HNE.out HB0.out 0 (.int .i64 q2.1.f0))).far HNE.out HB0.out 1 (.int .i64 q2.1.f1))).far HNE.out HB0.out 2 (.slice Ad q3.1.length cd))).far HNE.out HB0.out 3 (.int .i64 q4.1.f0))).far HNE.out HB0.out 4 (.int .i64 q4.1.f1))).far HNE.out HB0.out 5 (.int .i64 q4.1.f2))).far HNE.out HB0.out 6 (.int .i64 q1.1))).far HNE.out HB0.out 7 (.int .i64 q5.1))).far HNE.out HB0.out 8 (.string q6.1))).far HNE.out HB0.out 9 (.int .i64 q7.1))).far HNE.out HB0.out 10 (.slice A9 r1.length c9))).far HNE.out HB0.out 11 (.slice At (rdots q8.1.toNat q8.2).1.length ct)), (keep_far ((keep_far ((keep_far ((keep_far ((keep_far ((keep_far ((keep_far ((keep_far ((keep_far ((keep_far ((keep_far ((keep_far (HK.out) (p := ⟨w.heap.size, 0, none⟩) (Nat.le_refl _) (.int .i64 q2.1.f0))) (p := ⟨w.heap.size, 1, none⟩) (Nat.le_refl _) (.int .i64 q2.1.f1))) (p := ⟨w.heap.size, 2, none⟩) (Nat.le_refl _) (.slice Ad q3.1.length cd))) (p := ⟨w.heap.size, 3, none⟩) (Nat.le_refl _) (.int .i64 q4.1.f0))) (p := ⟨w.heap.size, 4, none⟩) (Nat.le_refl _) (.int .i64 q4.1.f1))) (p := ⟨w.heap.size, 5, none⟩) (Nat.le_refl _) (.int .i64 q4.1.f2))) (p := ⟨w.heap.size, 6, none⟩) (Nat.le_refl _) (.int .i64 q1.1))) (p := ⟨w.heap.size, 7, none⟩) (Nat.le_refl _) (.int .i64 q5.1))) (p := ⟨w.heap.size, 8, none⟩) (Nat.le_refl _) (.string q6.1))) (p := ⟨w.heap.size, 9, none⟩) (Nat.le_refl _) (.int .i64 q7.1))) (p := ⟨w.heap.size, 10, none⟩) (Nat.le_refl _) (.slice A9 r1.length c9))) (p := ⟨w.heap.size, 11, none⟩) (Nat.le_refl _) (.slice At (rdots q8.1.toNat q8.2).1.length ct))⟩
          exact results_cell_row (p := 2) (ty := 55) rfl _ _ w.heap.size 55 #[.int .i64 q2.1.f0, .int .i64 q2.1.f1, .slice Ad q3.1.length cd, .int .i64 q4.1.f0, .int .i64 q4.1.f1, .int .i64 q4.1.f2, .int .i64 q1.1, .int .i64 q5.1, .string q6.1, .int .i64 q7.1, .slice A9 r1.length c9, .slice At (rdots q8.1.toNat q8.2).1.length ct] (0, 0) _ rfl (set12 HD.out _ _ _ _ _ _ _ _ _ _ _ _) Try.underlying55 rfl (by kernel_rfl)
end Go.Proofs.Ytnbjflcfdncocaa.M

/- op.Bytes and msg.Bytes: what they tell, for every operation and message whose lists are no longer than the laws play. -/
namespace Go.Proofs.Ytnbjflcfdncocaa.M
open Go.RowKit Go.Proofs.YtnbjflcfdncocaaW.PrintWords Go.Proofs.YtnbjflcfdncocaaW.PrintLast Go.Proofs.YtnbjflcfdncocaaW.PrintMore

end Go.Proofs.Ytnbjflcfdncocaa.M

/- msg.Bytes: what it tells, for every message whose lists are no longer than the laws play. -/
namespace Go.Proofs.Ytnbjflcfdncocaa.M
open Go.RowKit Go.Proofs.YtnbjflcfdncocaaW.PrintWords Go.Proofs.YtnbjflcfdncocaaW.PrintLast Go.Proofs.YtnbjflcfdncocaaW.PrintMore

def wops (l : List Opr) (st : List Int × Bool) : List Int × Bool := l.foldl (fun s x => wop x s) st
theorem wops_take (l : List Opr) (k : Nat) (h : k < l.length) (st : List Int × Bool) : wops (l.take (k + 1)) st = wop (l.getD k z55) (wops (l.take k) st) := by
  unfold wops
  rw [List.take_succ_eq_append_getElem h, List.foldl_append]
  simp [List.getD_eq_getElem?_getD, h]
/-- Lists as long as a law plays. -/
def okOp (x : Opr) : Prop := x.f1.length ≤ 300 ∧ x.f8.length ≤ 300
instance (x : Opr) : Decidable (okOp x) := by unfold okOp; infer_instance
theorem wops_len : ∀ (l : List Opr) (st : List Int × Bool), (∀ x ∈ l, okOp x) → (wops l st).1.length ≤ st.1.length + 3065 * l.length
  | [], st, _ => by simp [wops]
  | x :: l, st, h => by
    have h1 := wops_len l (wop x st) (fun y hy => h y (by simp [hy]))
    have h2 := wop_len x st
    have h3 := h x (by simp)
    simp only [okOp] at h3
    simp only [wops, List.foldl_cons, List.length_cons] at h1 ⊢; omega
/-- A message's bytes, without their sum, up to its operations; the whole. -/
def msgW0 (a b c : Int) (h s : List Int) (n : Nat) : List Int × Bool := wnum 2 (n : Int) (wnums s (wnums h (wnum 1 c (wnum 1 b (wnum 1 a ([], false))))))
def msgW (a b c : Int) (h s : List Int) (l : List Opr) : List Int × Bool := wops l (msgW0 a b c h s l.length)
theorem msgW0_len (a b c : Int) (h s : List Int) (n : Nat) : (msgW0 a b c h s n).1.length ≤ 7 + 4 * h.length + 4 * s.length := by
  have h1 := wnum_len 2 (n : Int) (wnums s (wnums h (wnum 1 c (wnum 1 b (wnum 1 a ([], false))))))
  have h2 := wnums_len s (wnums h (wnum 1 c (wnum 1 b (wnum 1 a ([], false)))))
  have h3 := wnums_len h (wnum 1 c (wnum 1 b (wnum 1 a ([], false))))
  have h4 := wnum_len 1 c (wnum 1 b (wnum 1 a ([], false)))
  have h5 := wnum_len 1 b (wnum 1 a ([], false))
  have h6 := wnum_len 1 a ([], false)
  simp only [List.length_nil] at h6
  unfold msgW0; omega
/-- What msg.Bytes tells. -/
def sealB (l : List Int) : List Int × Int := if l.length ≤ 65532 then (sealL l, 0) else ([], 2)
def msgB (a b c : Int) (h s : List Int) (l : List Opr) : List Int × Int := if (msgW a b c h s l).2 = true then ([], 1) else sealB (msgW a b c h s l).1
theorem Seal_all (l : List Int) : crc_Seal.f l = some (sealB l) := by
  unfold sealB
  split
  · exact Seal_eq l (by omega)
  · exact Seal_long l (by omega)
def msg_Bytes.f (a0_0 a0_1 a0_2 : Int) (l0_3 l0_4 : List Int) (l0_5 : List Opr) : Option (List Int × Int) :=
  if l0_3.length ≤ 300 ∧ l0_4.length ≤ 300 ∧ l0_5.length ≤ 300 ∧ ∀ x ∈ l0_5, okOp x then some (msgB a0_0 a0_1 a0_2 l0_3 l0_4 l0_5) else none
set_option maxHeartbeats 8000000 in
set_option maxRecDepth 100000 in
theorem msg_Bytes.calls (a0_0 : Int) (a0_1 : Int) (a0_2 : Int) (A0_3 : Option Addr) (c0_3 : Nat) (l0_3 : List Int) (A0_4 : Option Addr) (c0_4 : Nat) (l0_4 : List Int) (A0_5 : Option Addr) (c0_5 : Nat) (l0_5 : List (S55)) (r1 : List Int) (r2 : Int) (w : World)
    (hr0_3 : Kd.C (Kd.int .i64) w A0_3 l0_3.length l0_3) (_hc0_3 : l0_3.length ≤ c0_3) (hr0_4 : Kd.C (Kd.int .i64) w A0_4 l0_4.length l0_4) (_hc0_4 : l0_4.length ≤ c0_4) (hr0_5 : Kd.C k55 w A0_5 l0_5.length l0_5) (_hc0_5 : l0_5.length ≤ c0_5)
    (h : msg_Bytes.f a0_0 a0_1 a0_2 l0_3 l0_4 l0_5 = some (r1, r2)) :
    Calls Try.prog 22 #[.agg #[.int .i64 a0_0, .int .i64 a0_1, .int .i64 a0_2, .slice A0_3 l0_3.length c0_3, .slice A0_4 l0_4.length c0_4, .slice A0_5 l0_5.length c0_5]] w fun e w' => ∃ v0_ : Value, e = .returned (.tuple #[v0_, .int .i64 r2]) ∧ Kd.R (Kd.int .u8) 5 w' w.heap.size (fun _ => True) v0_ r1 ∧ Below w.heap.size w w' := by
  unfold msg_Bytes.f at h
  by_cases hb : l0_3.length ≤ 300 ∧ l0_4.length ≤ 300 ∧ l0_5.length ≤ 300 ∧ ∀ x ∈ l0_5, okOp x
  case neg => rw [if_neg hb] at h; cases h
  rw [if_pos hb] at h
  have E1 := Aside0.mk (Option.some.inj h)
  have HB := Aside0.mk (show l0_3.length ≤ 300 ∧ l0_4.length ≤ 300 ∧ l0_5.length ≤ 300 from ⟨hb.1, hb.2.1, hb.2.2.1⟩)
  have HG := Aside0.mk hb.2.2.2
  have R3 := Aside0.mk hr0_3
  have R4 := Aside0.mk hr0_4
  have R5 := Aside0.mk hr0_5
  have HW := Aside0.mk (show IsW w ((w.alloc (.cells #[.int .i64 a0_0, .int .i64 a0_1, .int .i64 a0_2, .slice A0_3 l0_3.length c0_3, .slice A0_4 l0_4.length c0_4, .slice A0_5 l0_5.length c0_5] 40)).alloc (.cells #[.slice none 0 0, .bool false] 62)) (w.heap.size + 1) [] false from
    IsW.mk2 (v := .slice none 0 0) (below_alloc (below_alloc (Below.refl _ w) _) _) (by omega) (by have := heap_alloc2_new w (.cells #[.int .i64 a0_0, .int .i64 a0_1, .int .i64 a0_2, .slice A0_3 l0_3.length c0_3, .slice A0_4 l0_4.length c0_4, .slice A0_5 l0_5.length c0_5] 40) (.cells #[.slice none 0 0, .bool false] 62); exact this) (Kd.R_nil _ _ _ _ _))
  have HX := Aside0.mk (heap_alloc2_old w (.cells #[.int .i64 a0_0, .int .i64 a0_1, .int .i64 a0_2, .slice A0_3 l0_3.length c0_3, .slice A0_4 l0_4.length c0_4, .slice A0_5 l0_5.length c0_5] 40) (.cells #[.slice none 0 0, .bool false] 62))
  have L1 := Aside0.mk (wnum_len 1 a0_0 ([], false))
  have L2 := Aside0.mk (wnum_len 1 a0_1 (wnum 1 a0_0 ([], false)))
  have L3 := Aside0.mk (wnum_len 1 a0_2 (wnum 1 a0_1 (wnum 1 a0_0 ([], false))))
  have L4 := Aside0.mk (wnums_len l0_3 (wnum 1 a0_2 (wnum 1 a0_1 (wnum 1 a0_0 ([], false)))))
  have L5 := Aside0.mk (wnums_len l0_4 (wnums l0_3 (wnum 1 a0_2 (wnum 1 a0_1 (wnum 1 a0_0 ([], false))))))
  have L6 := Aside0.mk (wnum_len 2 (l0_5.length : Int) (wnums l0_4 (wnums l0_3 (wnum 1 a0_2 (wnum 1 a0_1 (wnum 1 a0_0 ([], false)))))))
  have LM := Aside0.mk (msgW0_len a0_0 a0_1 a0_2 l0_3 l0_4 l0_5.length)
  obtain ⟨SU, hSU⟩ : ∃ SU, SU = msgW0 a0_0 a0_1 a0_2 l0_3 l0_4 l0_5.length := ⟨_, rfl⟩
  have E2 := Aside0.mk (show wnum 2 (l0_5.length : Int) (wnums l0_4 (wnums l0_3 (wnum 1 a0_2 (wnum 1 a0_1 (wnum 1 a0_0 ([], false)))))) = SU from by rw [hSU]; rfl)
  have E3 := Aside0.mk (show wops l0_5 SU = msgW a0_0 a0_1 a0_2 l0_3 l0_4 l0_5 from by rw [hSU]; rfl)
  rw [← hSU] at LM
  clear hSU
  have hg1 : ¬ ((l0_5.length : Int) > 65535) := by have := HB.out; omega
  have hg2 := decide_eq_false (show ¬ (65535 : Int) < (l0_5.length : Int) by omega)
  have hg3 := decide_eq_false (show ¬ 65535 < l0_5.length by omega)
  clear h hb hr0_3 hr0_4 hr0_5
  have hcx := fun i => blk_cell HX.out i
  go_enter Try.func22, Try.ntmps22
  go_wp2_with fail
  refine (W_num w _ (w.heap.size + 1) ([], false) HW.out a0_0 1 1 rfl (by omega) (by omega) (by have := HB.out; simp only [List.length_nil] at *; omega)).mono ?_
  rintro e w1 ⟨rfl, hi, hk⟩
  have H1 := Aside0.mk hi
  have D1 := Aside0.mk (hk _ _ _ _ HX.out (by decide) (by decide))
  have hc1 := fun i => blk_cell D1.out i
  have hf1 := fun i => blk_frozen D1.out i
  clear hi hk
  go_wp2_with fail
  refine (W_num w _ (w.heap.size + 1) (wnum 1 a0_0 ([], false)) H1.out a0_1 1 1 rfl (by omega) (by omega) (by have := HB.out; have := L1.out; simp only [List.length_nil] at *; omega)).mono ?_
  rintro e w2 ⟨rfl, hi, hk⟩
  have H2 := Aside0.mk hi
  have D2 := Aside0.mk (hk _ _ _ _ D1.out (by decide) (by decide))
  have hc2 := fun i => blk_cell D2.out i
  have hf2 := fun i => blk_frozen D2.out i
  clear hi hk
  go_wp2_with fail
  refine (W_num w _ (w.heap.size + 1) (wnum 1 a0_1 (wnum 1 a0_0 ([], false))) H2.out a0_2 1 1 rfl (by omega) (by omega) (by have := HB.out; have := L1.out; have := L2.out; simp only [List.length_nil] at *; omega)).mono ?_
  rintro e w3 ⟨rfl, hi, hk⟩
  have H3 := Aside0.mk hi
  have D3 := Aside0.mk (hk _ _ _ _ D2.out (by decide) (by decide))
  have hc3 := fun i => blk_cell D3.out i
  have hf3 := fun i => blk_frozen D3.out i
  clear hi hk
  go_wp2_with fail
  refine (W_nums w _ (w.heap.size + 1) (wnum 1 a0_2 (wnum 1 a0_1 (wnum 1 a0_0 ([], false)))) H3.out A0_3 c0_3 l0_3 R3.out (by have := HB.out; have := L1.out; have := L2.out; have := L3.out; simp only [List.length_nil] at *; omega) (by have := HB.out; omega)).mono ?_
  rintro e w4 ⟨rfl, hi, hk⟩
  have H4 := Aside0.mk hi
  have D4 := Aside0.mk (hk _ _ _ _ D3.out (by decide) (by decide))
  have hc4 := fun i => blk_cell D4.out i
  have hf4 := fun i => blk_frozen D4.out i
  clear hi hk
  go_wp2_with fail
  refine (W_nums w _ (w.heap.size + 1) (wnums l0_3 (wnum 1 a0_2 (wnum 1 a0_1 (wnum 1 a0_0 ([], false))))) H4.out A0_4 c0_4 l0_4 R4.out (by have := HB.out; have := L1.out; have := L2.out; have := L3.out; have := L4.out; simp only [List.length_nil] at *; omega) (by have := HB.out; omega)).mono ?_
  rintro e w5 ⟨rfl, hi, hk⟩
  have H5 := Aside0.mk hi
  have D5 := Aside0.mk (hk _ _ _ _ D4.out (by decide) (by decide))
  have hc5 := fun i => blk_cell D5.out i
  have hf5 := fun i => blk_frozen D5.out i
  clear hi hk
  go_wp2_with fail
  refine (W_num w _ (w.heap.size + 1) (wnums l0_4 (wnums l0_3 (wnum 1 a0_2 (wnum 1 a0_1 (wnum 1 a0_0 ([], false)))))) H5.out (l0_5.length : Int) 2 2 rfl (by omega) (by omega) (by have := HB.out; have := L1.out; have := L2.out; have := L3.out; have := L4.out; have := L5.out; simp only [List.length_nil] at *; omega)).mono ?_
  rintro e w6 ⟨rfl, hi, hk⟩
  have H6 := Aside0.mk hi
  have D6 := Aside0.mk (hk _ _ _ _ D5.out (by decide) (by decide))
  have hc6 := fun i => blk_cell D6.out i
  have hf6 := fun i => blk_frozen D6.out i
  clear hi hk
  have H6b := Aside0.mk (show IsW w w6 (w.heap.size + 1) SU.1 SU.2 from by have := H6.out; rw [E2.out] at this; exact this)
  clear H6 HW H1 H2 H3 H4 H5 hcx hc1 hc2 hc3 hc4 hc5 hf1 hf2 hf3 hf4 hf5 L1 L2 L3 L4 L5 L6
  go_wp2
  go_loopw [41] (fun v wr => ∃ k : Nat, k ≤ l0_5.length ∧ v = .int .i64 k ∧ Aside0 (IsW w wr (w.heap.size + 1) (wops (l0_5.take k) SU).1 (wops (l0_5.take k) SU).2)) (fun v _ => l0_5.length - (intOf v).toNat)
  case atStart => exact ⟨0, by omega, rfl, H6b⟩
  case round =>
    obtain ⟨k, hk, rfl, HI⟩ := hrel
    by_cases hlt : k < l0_5.length
    · obtain ⟨ad, Y2, d2, Y10, d10, Y11, d11, e, hd0, hd1, hd2, hd3, hd4, hd5, hd6, hd7, hd8, hd9, hd10, hd11, hl2, hq2, hl10, hq10, hl11, hq11⟩ := at_T55 R5.out (k : Int) (by omega) (by omega)
      subst e
      replace hd0 := pw_cell_below HI.out.1 hd0
      replace hd1 := pw_cell_below HI.out.1 hd1
      replace hd2 := pw_cell_below HI.out.1 hd2
      replace hd3 := pw_cell_below HI.out.1 hd3
      replace hd4 := pw_cell_below HI.out.1 hd4
      replace hd5 := pw_cell_below HI.out.1 hd5
      replace hd6 := pw_cell_below HI.out.1 hd6
      replace hd7 := pw_cell_below HI.out.1 hd7
      replace hd8 := pw_cell_below HI.out.1 hd8
      replace hd9 := pw_cell_below HI.out.1 hd9
      replace hd10 := pw_cell_below HI.out.1 hd10
      replace hd11 := pw_cell_below HI.out.1 hd11
      have hrd : rd_T55 l0_5 (k : Int) = l0_5.getD k z55 := by simp [rd_T55]
      have hin : okOp (l0_5.getD k z55) := by
        rw [List.getD_eq_getElem?_getD, List.getElem?_eq_getElem hlt]
        exact HG.out _ (List.getElem_mem hlt)
      rw [Int.toNat_natCast, hrd] at hd0 hd1 hd2 hd3 hd4 hd5 hd6 hd7 hd8 hd9 hd10 hd11
      rw [hrd] at hl2 hq2 hl10 hq10 hl11 hq11
      clear hrd
      have HT := Aside0.mk (wops_take l0_5 k hlt SU)
      have HZ := Aside0.mk (wops_len (l0_5.take k) SU (fun x hx => HG.out x (List.mem_of_mem_take hx)))
      have HTk := Aside0.mk (List.length_take_le k l0_5)
      obtain ⟨y, hy⟩ : ∃ y, y = l0_5.getD k z55 := ⟨_, rfl⟩
      rw [← hy] at hd0 hd1 hd2 hd3 hd4 hd5 hd6 hd7 hd8 hd9 hd10 hd11 hl2 hq2 hl10 hq10 hl11 hq11 HT hin
      clear hy
      have Q2 := Aside0.mk hq2
      have Q10 := Aside0.mk hq10
      have Q11 := Aside0.mk hq11
      have QL := Aside0.mk hl10
      have QI := Aside0.mk hin
      clear hl2 hq2 hl10 hq10 hl11 hq11 hin
      have hkb : l0_5.length ≤ 300 := HB.out.2.2
      have HI2 := Aside0.mk (HI.out.alloc (.cells #[.int .i64 y.f0.f0, .int .i64 y.f0.f1, .slice Y2 y.f1.length d2, .int .i64 y.f2.f0, .int .i64 y.f2.f1, .int .i64 y.f2.f2, .int .i64 y.f3, .int .i64 y.f4, .string y.f5, .int .i64 y.f6, .slice Y10 y.f7.length d10, .slice Y11 y.f8.length d11] 55))
      go_wp2_with fail
      refine (W_op w _ (w.heap.size + 1) (wops (l0_5.take k) SU) HI2.out y Y2 d2 Y10 d10 Y11 d11 Q2.out Q10.out QL.out Q11.out (by have := HZ.out; have := HTk.out; have := HB.out; have := LM.out; omega) (by have := QI.out.1; omega) (by have := QI.out.2; omega)).mono ?_
      rintro e w2 ⟨rfl, hi, -⟩
      rw [← HT.out] at hi
      have H2 := Aside0.mk hi
      clear hi
      go_wp2
      go_roundw
      case rel => exact ⟨k + 1, by omega, by go_num, H2⟩
      case measure => simp [intOf]; omega
    · obtain rfl : k = l0_5.length := by omega
      rw [List.take_length, E3.out] at HI
      obtain ⟨B, hB⟩ : ∃ B, B = (msgW a0_0 a0_1 a0_2 l0_3 l0_4 l0_5).1 := ⟨_, rfl⟩
      obtain ⟨b, hb⟩ : ∃ b, b = (msgW a0_0 a0_1 a0_2 l0_3 l0_4 l0_5).2 := ⟨_, rfl⟩
      rw [← hB, ← hb] at HI
      have E4 := Aside0.mk (show (if b = true then (([] : List Int), (1 : Int)) else sealB B) = (r1, r2) from by rw [hB, hb]; exact E1.out)
      clear hB hb E1 E2 E3
      obtain ⟨h0, hg, v, hv, hR⟩ := HI.out
      obtain ⟨Av, cv, rfl⟩ := Kd.R_slice hR
      have hc0 : wr.cell? ⟨w.heap.size + 1, 0, none⟩ = some (.slice Av B.length cv) := (blk_cell hv 0).trans rfl
      have hc1 : wr.cell? ⟨w.heap.size + 1, 1, none⟩ = some (.bool b) := (blk_cell hv 1).trans rfl
      have H0 := Aside0.mk h0
      have HR := Aside0.mk (Kd.R_reads' hR)
      clear h0 hg hv hR
      cases b
      · have e4 := E4.out
        rw [if_neg (by decide)] at e4
        go_wp2_with fail
        refine (crc_Seal.calls Av cv B r1 r2 wr HR.out.2.2 HR.out.2.1 (by rw [Seal_all, e4])).mono ?_
        rintro e w9 ⟨v9, rfl, ho, hb9⟩
        have HO := Aside0.mk ho
        have HB9 := Aside0.mk hb9
        clear ho hb9
        go_wp2
        go_ret2
        exact ⟨_, rfl, Kd.R_lower HO.out (below_size H0.out), below_step H0.out HB9.out⟩
      · have e4 := E4.out
        have e5 : (([] : List Int), (1 : Int)) = (r1, r2) := by simpa using e4
        go_wp2
        go_ret2
        obtain ⟨rfl, rfl⟩ := Prod.mk.inj e5
        exact ⟨_, rfl, Kd.R_nil _ _ _ _ _, H0.out⟩
end Go.Proofs.Ytnbjflcfdncocaa.M

/- msg.Read: what it tells of bytes, walked by hand. -/
namespace Go.Proofs.Ytnbjflcfdncocaa.M
open Go.RowKit Go.Proofs.YtnbjflcfdncocaaW.PrintWords Go.Proofs.YtnbjflcfdncocaaW.PrintLast Go.Proofs.YtnbjflcfdncocaaW.PrintMore

theorem set6 {W : World} {b t : Nat} {a0 a1 a2 a3 a4 a5 : Value} (h : W.heap[b]? = some (.cells #[a0, a1, a2, a3, a4, a5] t (0, 0))) (c0 c1 c2 c3 c4 c5 : Value) :
    (((((((W.setCell ⟨b, 0, none⟩ c0).setCell ⟨b, 1, none⟩ c1).setCell ⟨b, 2, none⟩ c2).setCell ⟨b, 3, none⟩ c3).setCell ⟨b, 4, none⟩ c4).setCell ⟨b, 5, none⟩ c5)).heap[b]? = some (.cells #[c0, c1, c2, c3, c4, c5] t (0, 0)) := by
  have h1 : (W.setCell ⟨b, 0, none⟩ c0).heap[b]? = some (.cells #[c0, a1, a2, a3, a4, a5] t (0, 0)) := blk_set h 0 c0
  have h2 : ((W.setCell ⟨b, 0, none⟩ c0).setCell ⟨b, 1, none⟩ c1).heap[b]? = some (.cells #[c0, c1, a2, a3, a4, a5] t (0, 0)) := blk_set h1 1 c1
  have h3 : (((W.setCell ⟨b, 0, none⟩ c0).setCell ⟨b, 1, none⟩ c1).setCell ⟨b, 2, none⟩ c2).heap[b]? = some (.cells #[c0, c1, c2, a3, a4, a5] t (0, 0)) := blk_set h2 2 c2
  have h4 : ((((W.setCell ⟨b, 0, none⟩ c0).setCell ⟨b, 1, none⟩ c1).setCell ⟨b, 2, none⟩ c2).setCell ⟨b, 3, none⟩ c3).heap[b]? = some (.cells #[c0, c1, c2, c3, a4, a5] t (0, 0)) := blk_set h3 3 c3
  have h5 : (((((W.setCell ⟨b, 0, none⟩ c0).setCell ⟨b, 1, none⟩ c1).setCell ⟨b, 2, none⟩ c2).setCell ⟨b, 3, none⟩ c3).setCell ⟨b, 4, none⟩ c4).heap[b]? = some (.cells #[c0, c1, c2, c3, c4, a5] t (0, 0)) := blk_set h4 4 c4
  have h6 : ((((((W.setCell ⟨b, 0, none⟩ c0).setCell ⟨b, 1, none⟩ c1).setCell ⟨b, 2, none⟩ c2).setCell ⟨b, 3, none⟩ c3).setCell ⟨b, 4, none⟩ c4).setCell ⟨b, 5, none⟩ c5).heap[b]? = some (.cells #[c0, c1, c2, c3, c4, c5] t (0, 0)) := blk_set h5 5 c5
  exact h6
/-- Operations, as many as are told, while the reader is not bad. -/
def rops : Nat → List Int × Bool → List Opr × (List Int × Bool)
  | 0, st => ([], st)
  | n + 1, st => if st.2 = true then ([], st) else ((rop st).1 :: (rops n (rop st).2).1, (rops n (rop st).2).2)
/-- A message's parts. -/
abbrev MsgP := Int × Int × Int × List Int × List Int × List Opr
def zMsg : MsgP := (0, 0, 0, [], [], [])
def rheadM (st : List Int × Bool) : (Int × Int × Int × List Int × List Int × Int) × (List Int × Bool) :=
  ((rnum 1 st).1, (rnum 1 (rnum 1 st).2).1, (rnum 1 (rnum 1 (rnum 1 st).2).2).1, (rnums (rnum 1 (rnum 1 (rnum 1 st).2).2).2).1, (rnums (rnums (rnum 1 (rnum 1 (rnum 1 st).2).2).2).2).1, (rnum 2 (rnums (rnums (rnum 1 (rnum 1 (rnum 1 st).2).2).2).2).2).1) |> fun x => (x, (rnum 2 (rnums (rnums (rnum 1 (rnum 1 (rnum 1 st).2).2).2).2).2).2)
def rfin (h : Int × Int × Int × List Int × List Int × Int) (t : List Opr × (List Int × Bool)) : MsgP × Int :=
  if t.2.2 = true ∨ t.2.1 ≠ [] then (zMsg, 3) else ((h.1, h.2.1, h.2.2.1, h.2.2.2.1, h.2.2.2.2.1, t.1), 0)
def rmsg (B : List Int) : MsgP × Int := rfin (rheadM (B, false)).1 (rops (rheadM (B, false)).1.2.2.2.2.2.toNat (rheadM (B, false)).2)
def readB (l : List Int) : MsgP × Int := if (openL l).2 = 0 then rmsg (openL l).1 else (zMsg, (openL l).2)
instance (l : List Int) : Decidable (Bytes_ l) := by unfold Bytes_ Byte; infer_instance
def msg_Read.f (l0 : List Int) : Option (Int × Int × Int × List Int × List Int × List (S55) × Int) :=
  if Bytes_ l0 ∧ l0.length < 1000000 then some ((readB l0).1.1, (readB l0).1.2.1, (readB l0).1.2.2.1, (readB l0).1.2.2.2.1, (readB l0).1.2.2.2.2.1, (readB l0).1.2.2.2.2.2, (readB l0).2) else none
theorem openL_len (l : List Int) : (openL l).1.length ≤ 65536 := by
  unfold openL
  split
  · simp
  · split
    · simp; omega
    · simp
theorem openL_bytes (l : List Int) (h : Bytes_ l) : Bytes_ (openL l).1 := by
  unfold openL
  split
  · intro c hc; simp at hc
  · split
    · exact Bytes_take h _
    · intro c hc; simp at hc
theorem rnum_bound (s : Nat) (st : List Int × Bool) (h : Bytes_ st.1) : 0 ≤ (rnum s st).1 ∧ (rnum s st).1 < 256 ^ s := by
  unfold rnum
  split
  · exact ⟨by simp, by simpa using Int.pow_pos (by omega : (0 : Int) < 256)⟩
  · rename_i hn
    exact numL_bound s _ (by simp; omega) (Bytes_take h s)
theorem IsR.bytes {w0 W : World} {g : Nat} {B rest : List Int} {bad : Bool} (h : IsR w0 W g B rest bad) : Bytes_ rest := by
  obtain ⟨_, _, h2, _, A, c, at_, _, _, _, _, hd⟩ := h
  rw [← hd]; exact Bytes_drop h2 at_
theorem meas_down (n : Nat) (h : wrap64 (n : Int) = (n : Int)) : (intOf (Value.int IntKind.i64 (wrap64 (n : Int)))).toNat < (intOf (Value.int IntKind.i64 ((n + 1 : Nat) : Int))).toNat := by
  rw [h]
  show (n : Int).toNat < ((n + 1 : Nat) : Int).toNat
  omega
theorem minfo55 : (Try.prog.info? 55).map (fun i => (i.zero, i.size, i.bytes)) = some (some (.agg #[.int .i64 0, .int .i64 0, .slice none 0 0, .int .i64 0, .int .i64 0, .int .i64 0, .int .i64 0, .int .i64 0, .string ⟨#[]⟩, .int .i64 0, .slice none 0 0, .slice none 0 0]), 12, 152) := by kernel_rfl
set_option maxHeartbeats 8000000 in
set_option maxRecDepth 100000 in
theorem msg_Read.calls (A0 : Option Addr) (c0 : Nat) (l0 : List Int) (r1 r2 r3 : Int) (r4 r5 : List Int) (r6 : List (S55)) (r7 : Int) (w : World) (hr0 : Kd.C (Kd.int .u8) w A0 l0.length l0) (hc0 : l0.length ≤ c0) (h : msg_Read.f l0 = some (r1, r2, r3, r4, r5, r6, r7)) :
    Calls Try.prog 25 #[.slice A0 l0.length c0] w fun e w' => ∃ v0_ v1_ v2_ : Value, e = .returned (.tuple #[.agg #[.int .i64 r1, .int .i64 r2, .int .i64 r3, v0_, v1_, v2_], .int .i64 r7]) ∧ Kd.R (Kd.int .i64) 3 w' w.heap.size (fun _ => True) v0_ r4 ∧ Kd.R (Kd.int .i64) 3 w' w.heap.size (fun _ => True) v1_ r5 ∧ Kd.S k55 55 w' w.heap.size (fun _ => True) v2_ r6 ∧ Below w.heap.size w w' := by
  unfold msg_Read.f at h
  by_cases hb : Bytes_ l0 ∧ l0.length < 1000000
  case neg => rw [if_neg hb] at h; cases h
  rw [if_pos hb] at h
  have h := Option.some.inj h
  simp only [Prod.mk.injEq] at h
  have HEq := Aside0.mk h
  have HR0 := Aside0.mk hr0
  have HC0 := Aside0.mk hc0
  have HP := Aside0.mk (Open_eq l0 (by omega) (l0.length + 2) (by omega))
  obtain ⟨bd, hbd⟩ : ∃ bd, bd = (openL l0).1 := ⟨_, rfl⟩
  obtain ⟨er, her⟩ : ∃ er, er = (openL l0).2 := ⟨_, rfl⟩
  have HBL := Aside0.mk (show bd.length ≤ 65536 from by rw [hbd]; exact openL_len l0)
  have HBB := Aside0.mk (show Bytes_ bd from by rw [hbd]; exact openL_bytes l0 hb.1)
  have HP2 := Aside0.mk (show crc_Open.f (l0.length + 2) l0 = some (bd, er) from by rw [hbd, her]; exact HP.out)
  clear h hb hr0 hc0 HP
  go_enter Try.func25, Try.ntmps25
  go_wp2_with fail
  refine (crc_Open.calls (l0.length + 2) A0 c0 l0 bd er _ (Kd.C_alloc HR0.out _) HC0.out HP2.out).mono ?_
  rintro e w1 ⟨v1, rfl, ho, hb⟩
  obtain ⟨Ab, cb, rfl⟩ := Kd.R_slice ho
  have HO1 := Aside0.mk ho
  have D1 := Aside0.mk (blk_below (heap_alloc_new w (.cells #[.int .i64 0, .int .i64 0, .int .i64 0, .slice none 0 0, .slice none 0 0, .slice none 0 0] 40)) hb)
  have HB1 := Aside0.mk (show Below w.heap.size w w1 from below_step (below_alloc (Below.refl _ w) _) hb)
  clear ho hb
  by_cases h0 : er = 0
  case neg =>
    have h1 : (er != 0) = true := bne_iff_ne.2 h0
    have HE := Aside0.mk (show readB l0 = (zMsg, er) from by rw [her]; exact if_neg (by rw [← her]; exact h0))
    have E2 := HEq.out
    rw [HE.out] at E2
    have E3 := Aside0.mk E2
    have hdc := fun i => blk_cell D1.out i
    have hdf := fun i => blk_frozen D1.out i
    clear E2 h0 her hbd
    go_wp2
    obtain ⟨rfl, rfl, rfl, rfl, rfl, rfl, rfl⟩ := E3.out
    refine bodyPost_ret (v := .tuple #[.agg #[.int .i64 0, .int .i64 0, .int .i64 0, .slice none 0 0, .slice none 0 0, .slice none 0 0], .int .i64 er]) ?_ rfl ⟨.slice none 0 0, .slice none 0 0, .slice none 0 0, rfl, Kd.R_nil _ _ _ _ _, Kd.R_nil _ _ _ _ _, Kd.S_nil _ _ _ _ _, by repeat (first | refine below_set ?_ (Nat.le_refl _) | exact HB1.out)⟩
    exact results_ct (p := 2) (u := 3) (ty := 40) rfl _ _ w.heap.size 40 #[.int .i64 0, .int .i64 0, .int .i64 0, .slice none 0 0, .slice none 0 0, .slice none 0 0] (0, 0) _ rfl (set6 D1.out _ _ _ _ _ _) Try.underlying40 rfl (by kernel_rfl)
  subst h0
  have HRB := Aside0.mk (show readB l0 = rmsg bd from by rw [hbd]; exact if_pos her.symm)
  clear her hbd
  obtain ⟨q1, hq1⟩ : ∃ q, q = rnum 1 (bd, false) := ⟨_, rfl⟩
  obtain ⟨q2, hq2⟩ : ∃ q, q = rnum 1 (q1.2.1, q1.2.2) := ⟨_, rfl⟩
  obtain ⟨q3, hq3⟩ : ∃ q, q = rnum 1 (q2.2.1, q2.2.2) := ⟨_, rfl⟩
  obtain ⟨q4, hq4⟩ : ∃ q, q = rnums (q3.2.1, q3.2.2) := ⟨_, rfl⟩
  obtain ⟨q5, hq5⟩ : ∃ q, q = rnums (q4.2.1, q4.2.2) := ⟨_, rfl⟩
  obtain ⟨q6, hq6⟩ : ∃ q, q = rnum 2 (q5.2.1, q5.2.2) := ⟨_, rfl⟩
  have HS := Aside0.mk (show rmsg bd = rfin (q1.1, q2.1, q3.1, q4.1, q5.1, q6.1) (rops q6.1.toNat q6.2) from by rw [hq6, hq5, hq4, hq3, hq2, hq1]; rfl)
  have HQ1 := Aside0.mk hq1
  have HQ2 := Aside0.mk hq2
  have HQ3 := Aside0.mk hq3
  have HQ4 := Aside0.mk hq4
  have HQ5 := Aside0.mk hq5
  have HQ6 := Aside0.mk hq6
  clear hq1 hq2 hq3 hq4 hq5 hq6
  go_wp2_with fail
  obtain ⟨g, hgd⟩ : ∃ g, g = w1.heap.size := ⟨_, rfl⟩
  have H0 := Aside0.mk (show IsR w1 (w1.alloc (.cells #[.slice Ab bd.length cb, .int .i64 0, .bool false] 74)) g bd bd false from ⟨below_alloc (Below.refl _ w1) _, by omega, HBB.out, HBL.out, Ab, cb, 0, by rw [hgd]; exact heap_alloc_new w1 (.cells #[.slice Ab bd.length cb, .int .i64 0, .bool false] 74), (Kd.R_reads' HO1.out).2.2, (Kd.R_reads' HO1.out).2.1, by omega, rfl⟩)
  have D0 := Aside0.mk (blk_below D1.out (below_alloc (Below.refl _ w1) (.cells #[.slice Ab bd.length cb, .int .i64 0, .bool false] 74)))
  have HRG := Aside0.mk (show w.heap.size ≠ g from by have := blk_lt D1.out; omega)
  clear D1
  rw [← hgd]
  clear hgd
  refine (R_num w1 _ g bd bd false H0.out 1 1 rfl (by omega) (by omega)).mono ?_
  rintro e v1 ⟨rfl, hi, hk⟩
  rw [← HQ1.out] at hi
  rw [← HQ1.out]
  have D1 := Aside0.mk (hk.blk D0.out HRG.out (by simp))
  have H1 := Aside0.mk hi
  clear hi hk HQ1
  go_wp2_with fail
  refine (R_num w1 _ g bd q1.2.1 q1.2.2 H1.out 1 1 rfl (by omega) (by omega)).mono ?_
  rintro e v2 ⟨rfl, hi, hk⟩
  rw [← HQ2.out] at hi
  rw [← HQ2.out]
  have D2 := Aside0.mk (hk.blk D1.out HRG.out (by simp))
  have H2 := Aside0.mk hi
  clear hi hk HQ2
  go_wp2_with fail
  refine (R_num w1 _ g bd q2.2.1 q2.2.2 H2.out 1 1 rfl (by omega) (by omega)).mono ?_
  rintro e v3 ⟨rfl, hi, hk⟩
  rw [← HQ3.out] at hi
  rw [← HQ3.out]
  have D3 := Aside0.mk (hk.blk D2.out HRG.out (by simp))
  have H3 := Aside0.mk hi
  clear hi hk HQ3
  go_wp2_with fail
  refine (R_nums w1 _ g bd q3.2.1 q3.2.2 H3.out).mono ?_
  rintro e v4 ⟨v, rfl, ho, hi, hk⟩
  rw [← HQ4.out] at hi ho
  obtain ⟨A4, c4, rfl⟩ := Kd.R_slice ho
  have O4 := Aside0.mk (Kd.R_lower ho (below_size H3.out.1))
  have D4 := Aside0.mk (hk.blk D3.out HRG.out (by simp))
  have H4 := Aside0.mk hi
  clear hi hk HQ4 ho
  go_wp2_with fail
  refine (R_nums w1 _ g bd q4.2.1 q4.2.2 H4.out).mono ?_
  rintro e v5 ⟨v, rfl, ho, hi, hk⟩
  rw [← HQ5.out] at hi ho
  obtain ⟨A5, c5, rfl⟩ := Kd.R_slice ho
  have O5 := Aside0.mk (Kd.R_lower ho (below_size H4.out.1))
  have P5 := Aside0.mk (Kd.R_keep O4.out hk (fun _ h => h))
  have D5 := Aside0.mk (hk.blk D4.out HRG.out (by simp))
  have H5 := Aside0.mk hi
  clear hi hk HQ5 ho
  go_wp2_with fail
  have H6 := Aside0.mk (H5.out.alloc (.cells #[.int .i64 q1.1, .int .i64 q2.1, .int .i64 q3.1, .slice A4 q4.1.length c4, .slice A5 q5.1.length c5, .slice none 0 0] 40))
  have X6 := Aside0.mk (heap_alloc_new v5 (.cells #[.int .i64 q1.1, .int .i64 q2.1, .int .i64 q3.1, .slice A4 q4.1.length c4, .slice A5 q5.1.length c5, .slice none 0 0] 40))
  have D6 := Aside0.mk (blk_below D5.out (below_alloc (Below.refl _ v5) (.cells #[.int .i64 q1.1, .int .i64 q2.1, .int .i64 q3.1, .slice A4 q4.1.length c4, .slice A5 q5.1.length c5, .slice none 0 0] 40)))
  have OS6 := Aside0.mk (Kd.R_alloc O5.out (.cells #[.int .i64 q1.1, .int .i64 q2.1, .int .i64 q3.1, .slice A4 q4.1.length c4, .slice A5 q5.1.length c5, .slice none 0 0] 40))
  have OH6 := Aside0.mk (Kd.R_alloc P5.out (.cells #[.int .i64 q1.1, .int .i64 q2.1, .int .i64 q3.1, .slice A4 q4.1.length c4, .slice A5 q5.1.length c5, .slice none 0 0] 40))
  have hxg : v5.heap.size ≠ g := by have := H5.out.lt; omega
  have hxr : v5.heap.size ≠ w.heap.size := by have := blk_lt D5.out; omega
  have hxw : w1.heap.size ≤ v5.heap.size := below_size H5.out.1
  obtain ⟨v6, hv6⟩ : ∃ v6, v6 = v5.alloc (.cells #[.int .i64 q1.1, .int .i64 q2.1, .int .i64 q3.1, .slice A4 q4.1.length c4, .slice A5 q5.1.length c5, .slice none 0 0] 40) := ⟨_, rfl⟩
  rw [← hv6] at H6 X6 D6 OS6 OH6
  rw [← hv6]
  obtain ⟨xb, hxb⟩ : ∃ xb, xb = v5.heap.size := ⟨_, rfl⟩
  rw [← hxb] at X6 hxg hxr hxw
  rw [← hxb]
  have HXG := Aside0.mk hxg
  have HXR := Aside0.mk hxr
  have HXW := Aside0.mk hxw
  have HRX := Aside0.mk (fun e => HXR.out e.symm : w.heap.size ≠ xb)
  clear hv6 hxb hxg hxr hxw
  refine (R_num w1 _ g bd q5.2.1 q5.2.2 H6.out 2 2 rfl (by omega) (by omega)).mono ?_
  have hq6b := rnum_bound 2 (q5.2.1, q5.2.2) H6.out.bytes
  rw [← HQ6.out] at hq6b
  rintro e v7 ⟨rfl, hi, hk⟩
  rw [← HQ6.out] at hi
  rw [← HQ6.out]
  have H7 := Aside0.mk hi
  have X7 := Aside0.mk (hk.blk X6.out HXG.out (by simp))
  have D7 := Aside0.mk (hk.blk D6.out HRG.out (by simp))
  have OS7 := Aside0.mk (Kd.R_keep OS6.out hk (fun _ h => h))
  have OH7 := Aside0.mk (Kd.R_keep OH6.out hk (fun _ h => h))
  clear hi hk HQ6
  obtain ⟨N, hN⟩ : ∃ N : Nat, q6.1 = (N : Int) := ⟨q6.1.toNat, by omega⟩
  have HN := Aside0.mk (show N ≤ 65535 from by have := hq6b.2; rw [hN] at this; omega)
  have HS2 := Aside0.mk (show rmsg bd = rfin (q1.1, q2.1, q3.1, q4.1, q5.1, q6.1) (rops N q6.2) from by rw [HS.out]; congr 1; rw [hN, Int.toNat_natCast])
  rw [hN]
  clear hq6b hN
  obtain ⟨FL, hFL⟩ : ∃ FL, FL = rops N q6.2 := ⟨_, rfl⟩
  rw [← hFL] at HS2
  have HFL := Aside0.mk hFL
  clear hFL
  go_wp2
  go_loopw [8] (fun v wr => ∃ (n : Nat) (L : List Opr) (st : List Int × Bool) (Ao : Option Addr) (co : Nat), n + L.length ≤ 65535 ∧ v = .int .i64 n ∧ Aside0 (L ++ (rops n st).1 = FL.1 ∧ (rops n st).2 = FL.2) ∧ Aside0 (IsR w1 wr g bd st.1 st.2) ∧ Aside0 (wr.heap[w.heap.size]? = some (.cells #[.int .i64 0, .int .i64 0, .int .i64 0, .slice none 0 0, .slice none 0 0, .slice none 0 0] 40 (0, 0))) ∧ Aside0 (wr.heap[xb]? = some (.cells #[.int .i64 q1.1, .int .i64 q2.1, .int .i64 q3.1, .slice A4 q4.1.length c4, .slice A5 q5.1.length c5, .slice Ao L.length co] 40 (0, 0))) ∧ Aside0 (Kd.R (Kd.int .i64) 3 wr w1.heap.size (fun k => k ≠ g) (.slice A4 q4.1.length c4) q4.1) ∧ Aside0 (Kd.R (Kd.int .i64) 3 wr w1.heap.size (fun k => k ≠ g) (.slice A5 q5.1.length c5) q5.1) ∧ Aside0 (Kd.S k55 55 wr w1.heap.size (fun k => k ≠ g) (.slice Ao L.length co) L)) (fun v _ => (intOf v).toNat)
  case atStart => exact ⟨N, [], q6.2, none, 0, by have := HN.out; simpa using this, rfl, ⟨by rw [HFL.out]; rfl, by rw [HFL.out]⟩, H7, D7, X7, OH7, OS7, ⟨Kd.S_nil _ _ _ _ _⟩⟩
  case round =>
    obtain ⟨n, L, st, Ao, co, hn, rfl, HFL2, HI, HD, HX, HOH, HOS, HOL⟩ := hrel
    rcases n with _ | n
    · have HF := Aside0.mk (show L = FL.1 ∧ st = FL.2 from by have := HFL2.out; simpa [rops] using this)
      clear hn HFL2
      rcases hbq : st.2 with _ | _
      · have HBT := Aside0.mk hbq
        rw [hbq] at HI
        clear hbq
        obtain ⟨h0, hg, h2, h3, A, c, at_, hv, hC, hc, ha, hd⟩ := HI.out
        have hb2 := (blk_cell hv 2).trans rfl
        have hb1 := (blk_cell hv 1).trans rfl
        have hdc := fun i => blk_cell HD.out i
        have hdf := fun i => blk_frozen HD.out i
        have hxc := fun i => blk_cell HX.out i
        by_cases hr : st.1 = []
        · have hne : ((at_ : Int) != (bd.length : Int)) = false := by have h9 := congrArg List.length hd; rw [hr] at h9; simp at h9; simp; omega
          have HE := Aside0.mk (show readB l0 = ((q1.1, q2.1, q3.1, q4.1, q5.1, FL.1), 0) from by rw [HRB.out, HS2.out]; exact if_neg (by rw [← HF.out.2]; rintro (h | h); rw [HBT.out] at h; cases h; exact h hr))
          have E2 := HEq.out
          rw [HE.out, ← HF.out.1] at E2
          have E3 := Aside0.mk E2
          clear E2 hr h0 hg h2 h3 hv hC hc ha hd
          go_wp2
          obtain ⟨rfl, rfl, rfl, rfl, rfl, rfl, rfl⟩ := E3.out
          refine bodyPost_ret (v := .tuple #[.agg #[.int .i64 q1.1, .int .i64 q2.1, .int .i64 q3.1, .slice A4 q4.1.length c4, .slice A5 q5.1.length c5, .slice Ao L.length co], .int .i64 0]) ?_ rfl ⟨.slice A4 q4.1.length c4, .slice A5 q5.1.length c5, .slice Ao L.length co, rfl, (Kd.R_mono (Kd.R_lower (Kd.R_step (Kd.R_types HOH.out HD.out (by decide)) (fun k hk _ => by repeat (first | refine heap_set ?_ hk.2 | rfl))) (below_size HB1.out)) (fun _ _ => trivial)), (Kd.R_mono (Kd.R_lower (Kd.R_step (Kd.R_types HOS.out HD.out (by decide)) (fun k hk _ => by repeat (first | refine heap_set ?_ hk.2 | rfl))) (below_size HB1.out)) (fun _ _ => trivial)), (Kd.S_mono (Kd.S_lower (Kd.S_step (Kd.S_types HOL.out HD.out (by decide)) (fun k hk _ => by repeat (first | refine heap_set ?_ hk.2 | rfl))) (below_size HB1.out)) (fun _ _ => trivial)), by repeat (first | refine below_set ?_ (Nat.le_refl _) | exact (below_step HB1.out HI.out.1))⟩
          exact results_ct (p := 2) (u := 3) (ty := 40) rfl _ _ w.heap.size 40 #[.int .i64 q1.1, .int .i64 q2.1, .int .i64 q3.1, .slice A4 q4.1.length c4, .slice A5 q5.1.length c5, .slice Ao L.length co] (0, 0) _ rfl (set6 HD.out _ _ _ _ _ _) Try.underlying40 rfl (by kernel_rfl)
        · have hne : ((at_ : Int) != (bd.length : Int)) = true := by have h9 : st.1.length = bd.length - at_ := by { rw [← hd]; simp }; have h8 : 0 < st.1.length := List.length_pos_iff.2 hr; simp; omega
          have HE := Aside0.mk (show readB l0 = (zMsg, 3) from by rw [HRB.out, HS2.out]; exact if_pos (by rw [← HF.out.2]; exact .inr hr))
          have E2 := HEq.out
          rw [HE.out] at E2
          have E3 := Aside0.mk E2
          clear E2 h0 hg h2 h3 hv hC hc ha hd
          go_wp2
          obtain ⟨rfl, rfl, rfl, rfl, rfl, rfl, rfl⟩ := E3.out
          refine bodyPost_ret (v := .tuple #[.agg #[.int .i64 0, .int .i64 0, .int .i64 0, .slice none 0 0, .slice none 0 0, .slice none 0 0], .int .i64 3]) ?_ rfl ⟨.slice none 0 0, .slice none 0 0, .slice none 0 0, rfl, Kd.R_nil _ _ _ _ _, Kd.R_nil _ _ _ _ _, Kd.S_nil _ _ _ _ _, by repeat (first | refine below_set ?_ (Nat.le_refl _) | exact (below_step HB1.out HI.out.1))⟩
          exact results_ct (p := 2) (u := 3) (ty := 40) rfl _ _ w.heap.size 40 #[.int .i64 0, .int .i64 0, .int .i64 0, .slice none 0 0, .slice none 0 0, .slice none 0 0] (0, 0) _ rfl (set6 HD.out _ _ _ _ _ _) Try.underlying40 rfl (by kernel_rfl)
      · have HBT := Aside0.mk hbq
        rw [hbq] at HI
        clear hbq
        obtain ⟨h0, hg, h2, h3, A, c, at_, hv, hC, hc, ha, hd⟩ := HI.out
        have hb2 := (blk_cell hv 2).trans rfl
        have hb1 := (blk_cell hv 1).trans rfl
        have hdc := fun i => blk_cell HD.out i
        have hdf := fun i => blk_frozen HD.out i
        have hxc := fun i => blk_cell HX.out i
        have HE := Aside0.mk (show readB l0 = (zMsg, 3) from by rw [HRB.out, HS2.out]; exact if_pos (by rw [← HF.out.2]; exact .inl HBT.out))
        have E2 := HEq.out
        rw [HE.out] at E2
        have E3 := Aside0.mk E2
        clear E2 h0 hg h2 h3 hv hC hc ha hd
        go_wp2
        obtain ⟨rfl, rfl, rfl, rfl, rfl, rfl, rfl⟩ := E3.out
        refine bodyPost_ret (v := .tuple #[.agg #[.int .i64 0, .int .i64 0, .int .i64 0, .slice none 0 0, .slice none 0 0, .slice none 0 0], .int .i64 3]) ?_ rfl ⟨.slice none 0 0, .slice none 0 0, .slice none 0 0, rfl, Kd.R_nil _ _ _ _ _, Kd.R_nil _ _ _ _ _, Kd.S_nil _ _ _ _ _, by repeat (first | refine below_set ?_ (Nat.le_refl _) | exact (below_step HB1.out HI.out.1))⟩
        exact results_ct (p := 2) (u := 3) (ty := 40) rfl _ _ w.heap.size 40 #[.int .i64 0, .int .i64 0, .int .i64 0, .slice none 0 0, .slice none 0 0, .slice none 0 0] (0, 0) _ rfl (set6 HD.out _ _ _ _ _ _) Try.underlying40 rfl (by kernel_rfl)
    · rcases hbq : st.2 with _ | _
      · have HF := Aside0.mk (show L ++ [(rop st).1] ++ (rops n (rop st).2).1 = FL.1 ∧ (rops n (rop st).2).2 = FL.2 from by have := HFL2.out; rw [show rops (n + 1) st = ((rop st).1 :: (rops n (rop st).2).1, (rops n (rop st).2).2) from if_neg (by rw [hbq]; exact Bool.false_ne_true)] at this; simpa using this)
        have hp : decide ((0 : Int) < ((n + 1 : Nat) : Int)) = true := decide_eq_true (by omega)
        have HLN := Aside0.mk hn
        have HWN := Aside0.mk (show wrap64 (n : Int) = (n : Int) from wrap_in _ (by omega) (by omega))
        obtain ⟨q9, hq9⟩ : ∃ q, q = rop (st.1, st.2) := ⟨_, rfl⟩
        have HQ9 := Aside0.mk hq9
        rw [show rop st = q9 from hq9.symm] at HF
        have hv2 : wr.cell? ⟨g, 2, none⟩ = some (.bool false) := by obtain ⟨_, _, _, _, A, c, at_, hv, _⟩ := HI.out; rw [hbq] at hv; exact (blk_cell hv 2).trans rfl
        have hxc := fun i => blk_cell HX.out i
        have hxf := fun i => blk_frozen HX.out i
        have HB12 := Aside0.mk (Kd.S_bound HOL.out)
        clear hbq hq9 hn HFL2
        go_wp2_with fail
        go_region_law (first | (go_simp; go_at_call 40; refine (R_op w1 _ g bd st.1 st.2 (HI.out.below (by first | exact Below.refl _ _ | exact below_drew (Below.refl _ _)))).mono ?_; rintro e w12 ⟨cs, rfl, hM, hi, hk2⟩; rw [← HQ9.out] at hi hM; obtain ⟨u2, u10, u11, rfl, m2, m10, m11⟩ := k55_openM hM; obtain ⟨B2, d2, rfl⟩ := Kd.R_slice m2; obtain ⟨B10, d10, rfl⟩ := Kd.R_slice m10; obtain ⟨B11, d11, rfl⟩ := Kd.R_slice m11; have hk3 : KeepBut wr w12 g none := hk2; have HM12 := Aside0.mk (show k55.M w12 wr.heap.size (fun k => k ≠ g) q9.1 _ from hM); have H12 := Aside0.mk hi; have HZ12 := Aside0.mk hk3.1; have D12 := Aside0.mk (hk3.blk HD.out HRG.out (by simp)); have X12 := Aside0.mk (hk3.blk HX.out HXG.out (by simp)); have OH12 := Aside0.mk (Kd.R_keep HOH.out hk3 (fun _ h => h)); have OS12 := Aside0.mk (Kd.R_keep HOS.out hk3 (fun _ h => h)); have OL12 := Aside0.mk (Kd.S_keep HB12.out hk3 (fun _ h => h.1)); have hxc2 := fun i => blk_cell X12.out i; have hxf2 := fun i => blk_frozen X12.out i; have X12a := Aside0.mk (blk_below X12.out (below_alloc (Below.refl _ w12) (.cells #[.int .i64 q9.1.f0.f0, .int .i64 q9.1.f0.f1, .slice B2 q9.1.f1.length d2, .int .i64 q9.1.f2.f0, .int .i64 q9.1.f2.f1, .int .i64 q9.1.f2.f2, .int .i64 q9.1.f3, .int .i64 q9.1.f4, .string q9.1.f5, .int .i64 q9.1.f6, .slice B10 q9.1.f7.length d10, .slice B11 q9.1.f8.length d11] 55))); have hxc2a := fun i => blk_cell X12a.out i; clear hi hk2 hk3 hM m2 m10 m11 X12a) | (refine Kd.S_append_step k55 (w0 := w12) w1.heap.size rfl (.tmp 46) (.tmp 49) 38 55 _ 152 rfl Try.underlying38 minfo55 rfl (by decide) (by omega) (.slice Ao L.length co) L q9.1 [.int .i64 q9.1.f0.f0, .int .i64 q9.1.f0.f1, .slice B2 q9.1.f1.length d2, .int .i64 q9.1.f2.f0, .int .i64 q9.1.f2.f1, .int .i64 q9.1.f2.f2, .int .i64 q9.1.f3, .int .i64 q9.1.f4, .string q9.1.f5, .int .i64 q9.1.f6, .slice B10 q9.1.f7.length d10, .slice B11 q9.1.f8.length d11] (fun k => k ≠ g) (fun k => k ≠ g ∧ wr.heap.size ≤ k) rfl rfl (k55.M_lower (below_size HI.out.1) (k55.M_mono (fun k hk => ⟨hk.1, hk.2.1⟩) (k55.M_bound HM12.out))) (fun k hk => ⟨hk.1, fun e_ => by have := Kd.S_lt HOL.out k e_.symm; omega⟩) (fun k hk e_ => by have := H12.out.lt; omega) (Kd.S_mono OL12.out (fun k hk => ⟨hk.1, fun h => by have := hk.2.2.1; omega⟩)) (Below.refl _ _) (below_size H12.out.1) (by have := HLN.out; omega) ?_; intro v3 w13 ho hb hgw hat; obtain ⟨A13, c13, rfl⟩ := Kd.R_slice (Kd.S_R ho); have O13 := Aside0.mk ho; have hb12 := fun k (hk : (Value.slice Ao L.length co).ownBlock = some k) => Kd.S_base HOL.out k hk; have hg12 : (Value.slice Ao L.length co).ownBlock ≠ some g := fun e_ => (Kd.S_R HOL.out).1 g e_ rfl; have H13 := Aside0.mk (H12.out.grown hgw hg12 (fun k hk => hb12 k hk)); have D13 := Aside0.mk (blk_grown D12.out hgw (Kd.R_ne (Kd.S_R OL12.out) D12.out (by decide))); have X13 := Aside0.mk (blk_grown X12.out hgw (Kd.R_ne (Kd.S_R OL12.out) X12.out (by decide))); have OH13 := Aside0.mk (Kd.R_over' OH12.out (Kd.S_typed OL12.out) (by decide) hgw); have OS13 := Aside0.mk (Kd.R_over' OS12.out (Kd.S_typed OL12.out) (by decide) hgw); have hxc3 := fun i => blk_cell X13.out i; have hxf3 := fun i => blk_frozen X13.out i; clear ho hb hgw hat hxc2 hxf2 hxc2a hb12 hg12))
        all_goals (go_wp2; go_roundw)
        case rel => exact ⟨n, L ++ [q9.1], q9.2, A13, c13, by have := HLN.out; simp; omega, by first | (rw [HWN.out]; done) | rw [HWN.out] | go_num, HF, ⟨H13.out.far HXG.out HXW.out 5 (.slice A13 (L.length + 1) c13)⟩, ⟨(Below.heap_setCell w13 ⟨xb, 5, none⟩ (.slice A13 (L.length + 1) c13) w.heap.size HRX.out).trans D13.out⟩, by rw [show (L ++ [q9.1]).length = L.length + 1 from by simp]; exact ⟨blk_set X13.out 5 (.slice A13 (L.length + 1) c13)⟩, ⟨Kd.R_set OH13.out X13.out (by decide) 5 (.slice A13 (L.length + 1) c13)⟩, ⟨Kd.R_set OS13.out X13.out (by decide) 5 (.slice A13 (L.length + 1) c13)⟩, ⟨Kd.S_set O13.out X13.out (by decide) 5 (.slice A13 (L.length + 1) c13)⟩⟩
        case measure => exact meas_down n HWN.out
        case rel => exact ⟨n, L ++ [q9.1], q9.2, A13, c13, by have := HLN.out; simp; omega, by first | (rw [HWN.out]; done) | rw [HWN.out] | go_num, HF, ⟨H13.out.far HXG.out HXW.out 5 (.slice A13 (L.length + 1) c13)⟩, ⟨(Below.heap_setCell w13 ⟨xb, 5, none⟩ (.slice A13 (L.length + 1) c13) w.heap.size HRX.out).trans D13.out⟩, by rw [show (L ++ [q9.1]).length = L.length + 1 from by simp]; exact ⟨blk_set X13.out 5 (.slice A13 (L.length + 1) c13)⟩, ⟨Kd.R_set OH13.out X13.out (by decide) 5 (.slice A13 (L.length + 1) c13)⟩, ⟨Kd.R_set OS13.out X13.out (by decide) 5 (.slice A13 (L.length + 1) c13)⟩, ⟨Kd.S_set O13.out X13.out (by decide) 5 (.slice A13 (L.length + 1) c13)⟩⟩
        case measure => exact meas_down n HWN.out
        case rel => exact ⟨n, L ++ [q9.1], q9.2, A13, c13, by have := HLN.out; simp; omega, by first | (rw [HWN.out]; done) | rw [HWN.out] | go_num, HF, ⟨H13.out.far HXG.out HXW.out 5 (.slice A13 (L.length + 1) c13)⟩, ⟨(Below.heap_setCell w13 ⟨xb, 5, none⟩ (.slice A13 (L.length + 1) c13) w.heap.size HRX.out).trans D13.out⟩, by rw [show (L ++ [q9.1]).length = L.length + 1 from by simp]; exact ⟨blk_set X13.out 5 (.slice A13 (L.length + 1) c13)⟩, ⟨Kd.R_set OH13.out X13.out (by decide) 5 (.slice A13 (L.length + 1) c13)⟩, ⟨Kd.R_set OS13.out X13.out (by decide) 5 (.slice A13 (L.length + 1) c13)⟩, ⟨Kd.S_set O13.out X13.out (by decide) 5 (.slice A13 (L.length + 1) c13)⟩⟩
        case measure => exact meas_down n HWN.out
      · have HF := Aside0.mk (show L = FL.1 ∧ st = FL.2 from by have := HFL2.out; rw [show rops (n + 1) st = ([], st) from if_pos hbq] at this; simpa using this)
        have hp : decide ((0 : Int) < ((n + 1 : Nat) : Int)) = true := decide_eq_true (by omega)
        have HBT := Aside0.mk hbq
        rw [hbq] at HI
        clear hbq HFL2 hn
        obtain ⟨h0, hg, h2, h3, A, c, at_, hv, hC, hc, ha, hd⟩ := HI.out
        have hb2 := (blk_cell hv 2).trans rfl
        have hb1 := (blk_cell hv 1).trans rfl
        have hdc := fun i => blk_cell HD.out i
        have hdf := fun i => blk_frozen HD.out i
        have hxc := fun i => blk_cell HX.out i
        have HE := Aside0.mk (show readB l0 = (zMsg, 3) from by rw [HRB.out, HS2.out]; exact if_pos (by rw [← HF.out.2]; exact .inl HBT.out))
        have E2 := HEq.out
        rw [HE.out] at E2
        have E3 := Aside0.mk E2
        clear E2 h0 hg h2 h3 hv hC hc ha hd
        go_wp2
        obtain ⟨rfl, rfl, rfl, rfl, rfl, rfl, rfl⟩ := E3.out
        refine bodyPost_ret (v := .tuple #[.agg #[.int .i64 0, .int .i64 0, .int .i64 0, .slice none 0 0, .slice none 0 0, .slice none 0 0], .int .i64 3]) ?_ rfl ⟨.slice none 0 0, .slice none 0 0, .slice none 0 0, rfl, Kd.R_nil _ _ _ _ _, Kd.R_nil _ _ _ _ _, Kd.S_nil _ _ _ _ _, by repeat (first | refine below_set ?_ (Nat.le_refl _) | exact (below_step HB1.out HI.out.1))⟩
        exact results_ct (p := 2) (u := 3) (ty := 40) rfl _ _ w.heap.size 40 #[.int .i64 0, .int .i64 0, .int .i64 0, .slice none 0 0, .slice none 0 0, .slice none 0 0] (0, 0) _ rfl (set6 HD.out _ _ _ _ _ _) Try.underlying40 rfl (by kernel_rfl)
end Go.Proofs.Ytnbjflcfdncocaa.M

/- Plain laws: what is written is read as it was. -/
namespace Go.Proofs.Ytnbjflcfdncocaa.M
open Go.RowKit Go.Proofs.YtnbjflcfdncocaaW.PrintWords Go.Proofs.YtnbjflcfdncocaaW.PrintLast Go.Proofs.YtnbjflcfdncocaaW.PrintMore

abbrev Ws := List Int × Bool
/-- A writer only adds: what it adds, and whether that is bad. -/
def Adds (w : Ws → Ws) : Prop := ∀ st, w st = (st.1 ++ (w ([], false)).1, st.2 || (w ([], false)).2)
theorem Adds.add (b : List Int × Int) : Adds (wadd b) := fun st => by simp [wadd]
theorem Adds.bad (b : Bool) : Adds (wbad b) := fun st => by simp [wbad]
theorem Adds.id : Adds (fun st => st) := fun st => by simp
theorem Adds.comp {w v : Ws → Ws} (hw : Adds w) (hv : Adds v) : Adds (fun st => w (v st)) := by
  intro st
  show w (v st) = (st.1 ++ (w (v ([], false))).1, st.2 || (w (v ([], false))).2)
  rw [hw (v st), hw (v ([], false)), hv st]
  simp [Bool.or_assoc]
theorem Adds.num (s : Nat) (n : Int) : Adds (wnum s n) := Adds.add _
theorem Adds.text (t : ByteArray) : Adds (wtext t) := Adds.add _
theorem Adds.dot (a b : Int) : Adds (wdot a b) := (Adds.num 4 b).comp (Adds.num 1 a)
theorem Adds.stamp (a b c : Int) : Adds (wstamp a b c) := (Adds.num 1 c).comp ((Adds.num 3 b).comp (Adds.num 6 a))
theorem Adds.ints : ∀ l : List Int, Adds (wints l)
  | [] => Adds.id
  | n :: l => (Adds.ints l).comp (Adds.num 4 n)
theorem Adds.nums (l : List Int) : Adds (wnums l) := (Adds.ints l).comp ((Adds.num 1 _).comp (Adds.bad _))
theorem Adds.dots : ∀ l : List Dt, Adds (wdots l)
  | [] => Adds.id
  | d :: l => (Adds.dots l).comp (Adds.dot d.f0 d.f1)
theorem Adds.row (l : List Val) : Adds (wrow l) := Adds.add _
theorem Adds.op (x : Opr) : Adds (wop x) :=
  (Adds.dots x.f8).comp ((Adds.num 1 _).comp ((Adds.bad _).comp ((Adds.row x.f7).comp ((Adds.num 1 x.f6).comp ((Adds.text x.f5).comp ((Adds.num 1 x.f4).comp ((Adds.stamp x.f2.f0 x.f2.f1 x.f2.f2).comp ((Adds.nums x.f1).comp ((Adds.dot x.f0.f0 x.f0.f1).comp (Adds.num 1 x.f3))))))))))
theorem Adds.ops : ∀ l : List Opr, Adds (wops l)
  | [] => Adds.id
  | x :: l => (Adds.ops l).comp (Adds.op x)
/-- What a writer adds to none. -/
def E (w : Ws → Ws) : List Int := (w ([], false)).1
def Bd (w : Ws → Ws) : Bool := (w ([], false)).2
/-- What is written well is read as it was. -/
def Back {α : Type} (w : Ws → Ws) (r : Ws → α × Ws) (x : α) : Prop := Bd w = false → ∀ tl, r (E w ++ tl, false) = (x, (tl, false))

/-! #### numbers -/
theorem be_step (n a p : Int) (hp : 0 < p) : (a * 256 + n / p % 256) * p + n % p = a * (p * 256) + n % (p * 256) := by
  have h1 := Int.mul_ediv_add_emod n p
  have h2 := Int.mul_ediv_add_emod (n / p) 256
  have h3 : n % (p * 256) = p * (n / p % 256) + n % p := by
    have e : n = (p * (n / p % 256) + n % p) + (p * 256) * (n / p / 256) := by
      have : p * (n / p) = p * (256 * (n / p / 256) + n / p % 256) := by rw [h2]
      rw [Int.mul_add, ← Int.mul_assoc] at this
      omega
    have h4 : 0 ≤ n / p % 256 := Int.emod_nonneg _ (by omega)
    have h5 : n / p % 256 < 256 := Int.emod_lt_of_pos _ (by omega)
    have h6 : 0 ≤ n % p := Int.emod_nonneg _ (by omega)
    have h7 : n % p < p := Int.emod_lt_of_pos _ hp
    have h8 : 0 ≤ p * (n / p % 256) := Int.mul_nonneg (by omega) h4
    have h9 : p * (n / p % 256) ≤ p * 255 := Int.mul_le_mul_of_nonneg_left (by omega) (by omega)
    calc n % (p * 256) = ((p * (n / p % 256) + n % p) + (p * 256) * (n / p / 256)) % (p * 256) := by rw [← e]
      _ = (p * (n / p % 256) + n % p) % (p * 256) := Int.add_mul_emod_self_left _ _ _
      _ = p * (n / p % 256) + n % p := Int.emod_eq_of_lt (by omega) (by omega)
  rw [h3, Int.add_mul, Int.mul_assoc, Int.mul_comm 256 p, Int.mul_comm (n / p % 256) p]
  omega
theorem be_fold (n : Int) : ∀ (s : Nat) (a : Int), (be s n).foldl (fun n c => n * 256 + c) a = a * 2 ^ (8 * s) + n % 2 ^ (8 * s)
  | 0, a => by simp [be, Int.emod_one]
  | s + 1, a => by
    simp only [be, List.foldl_cons]
    rw [be_fold n s, be_step n a (2 ^ (8 * s)) (Int.pow_pos (by omega)), show 8 * (s + 1) = 8 * s + 8 from by omega, Int.pow_add]
    rfl
theorem numL_be (s : Nat) (n : Int) (h0 : 0 ≤ n) (h1 : n < 2 ^ (8 * s)) : numL (be s n) = n := by
  unfold numL
  rw [be_fold, Int.emod_eq_of_lt h0 h1]
  simp
theorem Bd_num (s : Nat) (n : Int) : Bd (wnum s n) = decide (n < 0 ∨ 2 ^ (8 * s) ≤ n) := by
  unfold Bd wnum wadd putL
  by_cases h : n < 0 ∨ 2 ^ (8 * s) ≤ n
  · rw [if_pos h, decide_eq_true h]; rfl
  · rw [if_neg h, decide_eq_false h]; rfl
theorem E_num (s : Nat) (n : Int) (h : ¬ (n < 0 ∨ 2 ^ (8 * s) ≤ n)) : E (wnum s n) = be s n := by
  unfold E wnum wadd putL
  rw [if_neg h]; rfl
theorem Back.num (s : Nat) (n : Int) : Back (wnum s n) (rnum s) n := by
  intro h tl
  rw [Bd_num, decide_eq_false_iff_not] at h
  rw [E_num s n h]
  unfold rnum
  have hl := be_length n s
  rw [if_neg (by rintro (h | h)
                 · cases h
                 · simp only [List.length_append] at h; omega)]
  rw [List.take_left' hl, List.drop_left' hl, numL_be s n (by omega) (by omega)]
/-! #### texts -/
theorem str_bytes (s : ByteArray) : strOfNums (bytesOf s) = s := by
  apply ByteArray.ext
  apply Array.ext'
  rw [strOfNums_data]
  unfold bytesOf
  rw [List.map_map]
  conv => rhs; rw [← List.map_id s.data.toList]
  apply List.map_congr_left
  intro c _
  simp
theorem Back.text (t : ByteArray) : Back (wtext t) rtext t := by
  intro h tl
  have hs : ¬ (t.size : Int) > 24 := by
    intro hs
    unfold Bd wtext wadd putT at h
    rw [if_pos hs] at h
    revert h; decide
  have e : E (wtext t) = (t.size : Int) % 256 :: bytesOf t := by
    unfold E wtext wadd putT
    rw [if_neg hs]; rfl
  have hm : (t.size : Int) % 256 = (t.size : Int) := Int.emod_eq_of_lt (by omega) (by omega)
  rw [e, hm, List.cons_append]
  unfold rtext
  simp only []
  have hl := bytesOf_length t
  rw [if_neg (by rintro (h | h | h)
                 · cases h
                 · exact hs h
                 · simp only [List.length_append] at h; omega), Int.toNat_natCast, List.take_left' hl, List.drop_left' hl, str_bytes]
/-! #### in line -/
theorem Bd_comp {w v : Ws → Ws} (hw : Adds w) : Bd (fun st => w (v st)) = (Bd v || Bd w) := by
  show (w (v ([], false))).2 = _
  rw [hw (v ([], false))]; rfl
theorem E_comp {w v : Ws → Ws} (hw : Adds w) : E (fun st => w (v st)) = E v ++ E w := by
  show (w (v ([], false))).1 = _
  rw [hw (v ([], false))]; rfl
/-- One writer behind another one: its bytes, and that both are well. -/
theorem Back.step {α β : Type} {w v : Ws → Ws} {rv : Ws → α × Ws} {rw_ : Ws → β × Ws} {x : α} {y : β} (hw : Adds w) (hv : Back v rv x) (hy : Back w rw_ y) : Back (fun st => w (v st)) (fun st => (((rv st).1, (rw_ (rv st).2).1), (rw_ (rv st).2).2)) (x, y) := by
  intro h tl
  rw [Bd_comp hw, Bool.or_eq_false_iff] at h
  rw [E_comp hw, List.append_assoc]
  simp only [hv h.1, hy h.2]
theorem Back.dot (d : Dt) : Back (wdot d.f0 d.f1) rdot d := by
  intro h tl
  have := Back.step (Adds.num 4 d.f1) (Back.num 1 d.f0) (Back.num 4 d.f1) h tl
  simp only [Prod.mk.injEq] at this
  obtain ⟨⟨h1, h2⟩, h3⟩ := this
  show ((⟨_, _⟩ : Dt), _) = _
  rw [Prod.mk.injEq]
  exact ⟨by rw [show E (wdot d.f0 d.f1) = E (fun st => wnum 4 d.f1 (wnum 1 d.f0 st)) from rfl, h1, h2], h3⟩
theorem Back.stamp (t : S51) : Back (wstamp t.f0 t.f1 t.f2) rstamp t := by
  intro h tl
  have := Back.step (Adds.num 1 t.f2) (Back.step (Adds.num 3 t.f1) (Back.num 6 t.f0) (Back.num 3 t.f1)) (Back.num 1 t.f2) h tl
  simp only [Prod.mk.injEq] at this
  obtain ⟨⟨⟨h1, h2⟩, h3⟩, h4⟩ := this
  show ((⟨_, _, _⟩ : S51), _) = _
  rw [Prod.mk.injEq]
  exact ⟨by rw [show E (wstamp t.f0 t.f1 t.f2) = E (fun st => wnum 1 t.f2 (wnum 3 t.f1 (wnum 6 t.f0 st))) from rfl, h1, h2, h3], h4⟩
theorem rints_front (st : Ws) : ∀ k, rints (k + 1) st = ((rnum 4 st).1 :: (rints k (rnum 4 st).2).1, (rints k (rnum 4 st).2).2)
  | 0 => rfl
  | k + 1 => by
    have ih := rints_front st k
    show ((rints (k + 1) st).1 ++ [(rnum 4 (rints (k + 1) st).2).1], (rnum 4 (rints (k + 1) st).2).2) = _
    rw [ih]; rfl
theorem rdots_front (st : Ws) : ∀ k, rdots (k + 1) st = ((rdot st).1 :: (rdots k (rdot st).2).1, (rdots k (rdot st).2).2)
  | 0 => rfl
  | k + 1 => by
    have ih := rdots_front st k
    show ((rdots (k + 1) st).1 ++ [(rdot (rdots (k + 1) st).2).1], (rdot (rdots (k + 1) st).2).2) = _
    rw [ih]; rfl
theorem Back.ints : ∀ l : List Int, Back (wints l) (rints l.length) l
  | [] => fun _ tl => rfl
  | n :: l => fun h tl => by
    have h2 : Bd (wnum 4 n) = false ∧ Bd (wints l) = false := by
      rw [show Bd (wints (n :: l)) = Bd (fun st => wints l (wnum 4 n st)) from rfl, Bd_comp (Adds.ints l), Bool.or_eq_false_iff] at h
      exact h
    rw [show E (wints (n :: l)) = E (fun st => wints l (wnum 4 n st)) from rfl, E_comp (Adds.ints l), List.append_assoc, List.length_cons, rints_front, Back.num 4 n h2.1, Back.ints l h2.2]
theorem Back.dots : ∀ l : List Dt, Back (wdots l) (rdots l.length) l
  | [] => fun _ tl => rfl
  | d :: l => fun h tl => by
    have h2 : Bd (wdot d.f0 d.f1) = false ∧ Bd (wdots l) = false := by
      rw [show Bd (wdots (d :: l)) = Bd (fun st => wdots l (wdot d.f0 d.f1 st)) from rfl, Bd_comp (Adds.dots l), Bool.or_eq_false_iff] at h
      exact h
    rw [show E (wdots (d :: l)) = E (fun st => wdots l (wdot d.f0 d.f1 st)) from rfl, E_comp (Adds.dots l), List.append_assoc, List.length_cons, rdots_front, Back.dot d h2.1, Back.dots l h2.2]
theorem Back.many (s : Nat) (m n : Int) (hm : n ≤ m) : Back (wnum s n) (rmany s m) n := fun h tl => by
  have := Back.num s n h tl
  unfold rmany
  rw [this, if_neg (by show ¬ n > m; omega)]
theorem Bd_bad (b : Bool) : Bd (wbad b) = b := by simp [Bd, wbad]
theorem E_bad (b : Bool) : E (wbad b) = [] := rfl
theorem nums_parts (l : List Int) (h : Bd (wnums l) = false) : l.length ≤ 5 ∧ Bd (wnum 1 (l.length : Int)) = false ∧ Bd (wints l) = false := by
  rw [show Bd (wnums l) = Bd (fun st => wints l ((fun st => wnum 1 (l.length : Int) (wbad (decide ((l.length : Int) > 5)) st)) st)) from rfl, Bd_comp (Adds.ints l), Bd_comp (Adds.num 1 _), Bd_bad, Bool.or_eq_false_iff, Bool.or_eq_false_iff, decide_eq_false_iff_not] at h
  exact ⟨by omega, h.1.2, h.2⟩
theorem E_nums (l : List Int) : E (wnums l) = E (wnum 1 (l.length : Int)) ++ E (wints l) := by
  rw [show E (wnums l) = E (fun st => wints l ((fun st => wnum 1 (l.length : Int) (wbad (decide ((l.length : Int) > 5)) st)) st)) from rfl, E_comp (Adds.ints l), E_comp (Adds.num 1 _), E_bad, List.nil_append]
theorem Back.nums (l : List Int) : Back (wnums l) rnums l := fun h tl => by
  obtain ⟨h1, h2, h3⟩ := nums_parts l h
  unfold rnums
  rw [E_nums, List.append_assoc, Back.many 1 5 _ (by omega) h2, Int.toNat_natCast, Back.ints l h3]
/-! #### values -/
theorem empty_of {s : ByteArray} (h : s.toList = []) : s = ⟨#[]⟩ := by
  have e : bytesOf s = [] := by
    have h1 := Go.Lib.strOfNums_toList (bytesOf s)
    rw [str_bytes, h] at h1
    have h2 := congrArg List.length h1.symm
    rw [Go.Lib.bytesOf_length] at h2
    exact List.eq_nil_of_length_eq_zero h2
  rw [← str_bytes s, e]; rfl
theorem back_int (n : Int) (h0 : -1152921504606846976 ≤ n) (h1 : n ≤ 1152921504606846976) (tl : List Int) : gint (intL n ++ tl) = some (n, tl) := by
  have hl : ∀ m : Int, (be 8 m).length = 8 := fun m => be_length m 8
  unfold intL
  by_cases hn : n < 0
  · rw [if_pos hn]
    have e1 : ((1 : Int) :: be 8 (-n) ++ tl).drop 1 = be 8 (-n) ++ tl := rfl
    have e2 : ((1 : Int) :: be 8 (-n) ++ tl).getD 0 0 = 1 := rfl
    have e3 : ((1 : Int) :: be 8 (-n) ++ tl).drop 9 = tl := by
      show ((be 8 (-n) ++ tl).drop 8) = tl
      exact List.drop_left' (hl _)
    have e4 : numL (be 8 (-n)) = -n := numL_be 8 (-n) (by omega) (by omega)
    unfold gint
    have e5 : ¬ (((1 : Int) :: be 8 (-n) ++ tl).length < 9 ∨ (1 : Int) > 1) := by
      simp only [List.length_append, List.length_cons, hl]; omega
    rw [e1, e2, e3, List.take_left' (hl _), e4, if_neg e5, if_neg (by omega), if_pos rfl]
    simp
  · rw [if_neg hn]
    have e1 : ((0 : Int) :: be 8 n ++ tl).drop 1 = be 8 n ++ tl := rfl
    have e2 : ((0 : Int) :: be 8 n ++ tl).getD 0 0 = 0 := rfl
    have e3 : ((0 : Int) :: be 8 n ++ tl).drop 9 = tl := by
      show ((be 8 n ++ tl).drop 8) = tl
      exact List.drop_left' (hl _)
    have e4 : numL (be 8 n) = n := numL_be 8 n (by omega) (by omega)
    unfold gint
    have e5 : ¬ (((0 : Int) :: be 8 n ++ tl).length < 9 ∨ (0 : Int) > 1) := by
      simp only [List.length_append, List.length_cons, hl]; omega
    rw [e1, e2, e3, List.take_left' (hl _), e4, if_neg e5, if_neg (by omega), if_neg (by decide)]
theorem back_val (v : Val) (hg : goodV v) (tl : List Int) : rval (valL v ++ tl) = some (v, tl) := by
  have hg2 := hg
  obtain ⟨a, b, s⟩ := v
  rcases hg with ⟨h1, h2, h3⟩ | ⟨h1, h2, h3⟩ | ⟨h1, h2, h3, h4⟩ | ⟨h1, h2, h3⟩
  · simp only at h1 h2 h3
    subst h1 h2
    obtain rfl := empty_of h3
    show ok ⟨1, 0, ⟨#[]⟩⟩ tl = _
    exact ok_pos hg2 tl
  · simp only at h1 h2 h3
    subst h1
    obtain rfl := empty_of h3
    have e : b % 256 = b := by omega
    show ok ⟨2, b % 256, ⟨#[]⟩⟩ tl = _
    rw [e]; exact ok_pos hg2 tl
  · simp only at h1 h2 h3 h4
    subst h1
    obtain rfl := empty_of h4
    show rval3 (intL b ++ tl) = _
    unfold rval3
    rw [back_int b h2 h3, Option.bind_some]
    exact ok_pos hg2 tl
  · simp only at h1 h2 h3
    subst h1 h2
    have hm : (s.size : Int) % 256 = (s.size : Int) := Int.emod_eq_of_lt (by omega) (by omega)
    show rval4 ((s.size : Int) % 256 :: (bytesOf s ++ tl)) = _
    rw [hm]
    unfold rval4
    have hl := bytesOf_length s
    have e5 : ¬ ((s.size : Int) > 24 ∨ ((bytesOf s ++ tl).length : Int) < (s.size : Int)) := by
      simp only [List.length_append]; omega
    simp only []
    rw [if_neg e5, Int.toNat_natCast, List.take_left' hl, List.drop_left' hl, str_bytes]
    exact ok_pos hg2 tl
theorem back_vals : ∀ (l : List Val), (∀ v ∈ l, goodV v) → ∀ tl, rvals l.length (valsL l ++ tl) = some (l, tl)
  | [], _, tl => rfl
  | v :: l, h, tl => by
    have e : valsL (v :: l) = valL v ++ valsL l := by simp [valsL]
    rw [e, List.append_assoc, List.length_cons]
    unfold rvals
    rw [back_val v (h v (by simp)), Option.bind_some, back_vals l (fun u hu => h u (by simp [hu])), Option.bind_some]
theorem row_parts (l : List Val) (h : Bd (wrow l) = false) : l.length ≤ 12 ∧ (∀ v ∈ l, goodV v) ∧ E (wrow l) = rowL l := by
  unfold Bd wrow wadd rowB at h
  by_cases h1 : l.length > 12
  · rw [if_pos h1] at h; exact absurd h (by decide)
  · rw [if_neg h1] at h
    by_cases h2 : ∀ v ∈ l, goodV v
    · refine ⟨by omega, h2, ?_⟩
      unfold E wrow wadd rowB
      rw [if_neg h1, if_pos h2]; rfl
    · rw [if_neg h2] at h; exact absurd h (by decide)
theorem back_row (l : List Val) (h : Bd (wrow l) = false) (tl : List Int) : rrow (E (wrow l) ++ tl) = some (l, tl) := by
  obtain ⟨h1, h2, h3⟩ := row_parts l h
  have hm : (l.length : Int) % 256 = (l.length : Int) := Int.emod_eq_of_lt (by omega) (by omega)
  rw [h3]
  show (if (l.length : Int) % 256 > 12 then none else rvals ((l.length : Int) % 256).toNat (valsL l ++ tl)) = _
  rw [hm, if_neg (by omega), Int.toNat_natCast, back_vals l h2]
/-! #### operations -/
theorem op_parts (x : Opr) (h : Bd (wop x) = false) : (Bd (wnum 1 x.f3) = false ∧ Bd (wdot x.f0.f0 x.f0.f1) = false ∧ Bd (wnums x.f1) = false ∧ Bd (wstamp x.f2.f0 x.f2.f1 x.f2.f2) = false) ∧ (Bd (wnum 1 x.f4) = false ∧ Bd (wtext x.f5) = false ∧ Bd (wnum 1 x.f6) = false ∧ Bd (wrow x.f7) = false) ∧
    x.f8.length ≤ 64 ∧ Bd (wnum 1 (x.f8.length : Int)) = false ∧ Bd (wdots x.f8) = false := by
  rw [show Bd (wop x) = Bd (fun st => wdots x.f8 ((fun st => wnum 1 (x.f8.length : Int) ((fun st => wbad (decide ((x.f8.length : Int) > 64)) ((fun st => wrow x.f7 ((fun st => wnum 1 x.f6 ((fun st => wtext x.f5 ((fun st => wnum 1 x.f4 ((fun st => wstamp x.f2.f0 x.f2.f1 x.f2.f2 ((fun st => wnums x.f1 ((fun st => wdot x.f0.f0 x.f0.f1 (wnum 1 x.f3 st)) st)) st)) st)) st)) st)) st)) st)) st)) st)) from rfl] at h
  rw [Bd_comp (Adds.dots _), Bd_comp (Adds.num 1 _), Bd_comp (Adds.bad _), Bd_comp (Adds.row _), Bd_comp (Adds.num 1 _), Bd_comp (Adds.text _), Bd_comp (Adds.num 1 _), Bd_comp (Adds.stamp _ _ _), Bd_comp (Adds.nums _), Bd_comp (Adds.dot _ _), Bd_bad] at h
  simp only [Bool.or_eq_false_iff, decide_eq_false_iff_not] at h
  obtain ⟨⟨⟨⟨⟨⟨⟨⟨⟨⟨a1, a2⟩, a3⟩, a4⟩, a5⟩, a6⟩, a7⟩, a8⟩, a9⟩, a10⟩, a11⟩ := h
  exact ⟨⟨a1, a2, a3, a4⟩, ⟨a5, a6, a7, a8⟩, by omega, a10, a11⟩
theorem E_op (x : Opr) : E (wop x) = E (wnum 1 x.f3) ++ (E (wdot x.f0.f0 x.f0.f1) ++ (E (wnums x.f1) ++ (E (wstamp x.f2.f0 x.f2.f1 x.f2.f2) ++ (E (wnum 1 x.f4) ++ (E (wtext x.f5) ++ (E (wnum 1 x.f6) ++ (E (wrow x.f7) ++ (E (wnum 1 (x.f8.length : Int)) ++ E (wdots x.f8))))))))) := by
  rw [show E (wop x) = E (fun st => wdots x.f8 ((fun st => wnum 1 (x.f8.length : Int) ((fun st => wbad (decide ((x.f8.length : Int) > 64)) ((fun st => wrow x.f7 ((fun st => wnum 1 x.f6 ((fun st => wtext x.f5 ((fun st => wnum 1 x.f4 ((fun st => wstamp x.f2.f0 x.f2.f1 x.f2.f2 ((fun st => wnums x.f1 ((fun st => wdot x.f0.f0 x.f0.f1 (wnum 1 x.f3 st)) st)) st)) st)) st)) st)) st)) st)) st)) st)) from rfl]
  rw [E_comp (Adds.dots _), E_comp (Adds.num 1 _), E_comp (Adds.bad _), E_comp (Adds.row _), E_comp (Adds.num 1 _), E_comp (Adds.text _), E_comp (Adds.num 1 _), E_comp (Adds.stamp _ _ _), E_comp (Adds.nums _), E_comp (Adds.dot _ _), E_bad, List.append_nil]
  simp only [List.append_assoc]
theorem Back.op (x : Opr) : Back (wop x) rop x := fun h tl => by
  obtain ⟨⟨a1, a2, a3, a4⟩, ⟨a5, a6, a7, a8⟩, a9, a10, a11⟩ := op_parts x h
  have hh : ∀ tl, rhead (E (wnum 1 x.f3) ++ (E (wdot x.f0.f0 x.f0.f1) ++ (E (wnums x.f1) ++ (E (wstamp x.f2.f0 x.f2.f1 x.f2.f2) ++ (E (wnum 1 x.f4) ++ (E (wtext x.f5) ++ (E (wnum 1 x.f6) ++ tl)))))), false) = (⟨x.f3, x.f0, x.f1, x.f2, x.f4, x.f5, x.f6⟩, (tl, false)) := fun tl => by
    unfold rhead
    rw [Back.num 1 _ a1, Back.dot x.f0 a2, Back.nums _ a3, Back.stamp x.f2 a4, Back.num 1 _ a5, Back.text _ a6, Back.num 1 _ a7]
  unfold rop
  rw [E_op]
  simp only [List.append_assoc]
  rw [hh, back_row _ a8]
  unfold rtail rdl
  simp only [Bool.false_eq_true, if_false]
  rw [Back.many 1 64 _ (by omega) a10, Int.toNat_natCast, Back.dots _ a11]
  rfl
theorem Back.ops : ∀ l : List Opr, Back (wops l) (rops l.length) l
  | [] => fun _ tl => rfl
  | x :: l => fun h tl => by
    have h2 : Bd (wop x) = false ∧ Bd (wops l) = false := by
      rw [show Bd (wops (x :: l)) = Bd (fun st => wops l (wop x st)) from rfl, Bd_comp (Adds.ops l), Bool.or_eq_false_iff] at h
      exact h
    rw [show E (wops (x :: l)) = E (fun st => wops l (wop x st)) from rfl, E_comp (Adds.ops l), List.append_assoc, List.length_cons]
    show (if false = true then _ else _) = _
    rw [if_neg (by decide), Back.op x h2.1, Back.ops l h2.2]
/-! #### messages -/
def wmsg (a b c : Int) (h s : List Int) (l : List Opr) (st : Ws) : Ws := wops l (wnum 2 (l.length : Int) (wnums s (wnums h (wnum 1 c (wnum 1 b (wnum 1 a st))))))
theorem msg_parts (a b c : Int) (h s : List Int) (l : List Opr) (hb : Bd (wmsg a b c h s l) = false) : (Bd (wnum 1 a) = false ∧ Bd (wnum 1 b) = false ∧ Bd (wnum 1 c) = false) ∧ Bd (wnums h) = false ∧ Bd (wnums s) = false ∧ Bd (wnum 2 (l.length : Int)) = false ∧ Bd (wops l) = false := by
  rw [show Bd (wmsg a b c h s l) = Bd (fun st => wops l ((fun st => wnum 2 (l.length : Int) ((fun st => wnums s ((fun st => wnums h ((fun st => wnum 1 c ((fun st => wnum 1 b (wnum 1 a st)) st)) st)) st)) st)) st)) from rfl] at hb
  rw [Bd_comp (Adds.ops _), Bd_comp (Adds.num 2 _), Bd_comp (Adds.nums _), Bd_comp (Adds.nums _), Bd_comp (Adds.num 1 _), Bd_comp (Adds.num 1 _)] at hb
  simp only [Bool.or_eq_false_iff] at hb
  obtain ⟨⟨⟨⟨⟨⟨a1, a2⟩, a3⟩, a4⟩, a5⟩, a6⟩, a7⟩ := hb
  exact ⟨⟨a1, a2, a3⟩, a4, a5, a6, a7⟩
theorem E_msg (a b c : Int) (h s : List Int) (l : List Opr) : E (wmsg a b c h s l) = E (wnum 1 a) ++ (E (wnum 1 b) ++ (E (wnum 1 c) ++ (E (wnums h) ++ (E (wnums s) ++ (E (wnum 2 (l.length : Int)) ++ E (wops l)))))) := by
  rw [show E (wmsg a b c h s l) = E (fun st => wops l ((fun st => wnum 2 (l.length : Int) ((fun st => wnums s ((fun st => wnums h ((fun st => wnum 1 c ((fun st => wnum 1 b (wnum 1 a st)) st)) st)) st)) st)) st)) from rfl]
  rw [E_comp (Adds.ops _), E_comp (Adds.num 2 _), E_comp (Adds.nums _), E_comp (Adds.nums _), E_comp (Adds.num 1 _), E_comp (Adds.num 1 _)]
  simp only [List.append_assoc]
theorem msgW_eq (a b c : Int) (h s : List Int) (l : List Opr) : msgW a b c h s l = (E (wmsg a b c h s l), Bd (wmsg a b c h s l)) := rfl
theorem rmsg_back (a b c : Int) (h s : List Int) (l : List Opr) (hb : Bd (wmsg a b c h s l) = false) : rmsg (E (wmsg a b c h s l)) = ((a, b, c, h, s, l), 0) := by
  obtain ⟨⟨a1, a2, a3⟩, a4, a5, a6, a7⟩ := msg_parts a b c h s l hb
  have hh : ∀ tl, rheadM (E (wnum 1 a) ++ (E (wnum 1 b) ++ (E (wnum 1 c) ++ (E (wnums h) ++ (E (wnums s) ++ (E (wnum 2 (l.length : Int)) ++ tl))))), false) = ((a, b, c, h, s, (l.length : Int)), (tl, false)) := fun tl => by
    unfold rheadM
    rw [Back.num 1 _ a1, Back.num 1 _ a2, Back.num 1 _ a3, Back.nums _ a4, Back.nums _ a5, Back.num 2 _ a6]
  have ho := Back.ops l a7 []
  rw [List.append_nil] at ho
  unfold rmsg
  rw [E_msg, hh, Int.toNat_natCast, ho]
  rfl
/-- What is written is read. -/
theorem readB_msgB (a b c : Int) (h s : List Int) (l : List Opr) (he : (msgB a b c h s l).2 = 0) : readB (msgB a b c h s l).1 = ((a, b, c, h, s, l), 0) := by
  unfold msgB at he ⊢
  rw [msgW_eq] at he ⊢
  cases hb : Bd (wmsg a b c h s l)
  · simp only [hb, Bool.false_eq_true, if_false] at he ⊢
    unfold sealB at he ⊢
    by_cases hl : (E (wmsg a b c h s l)).length ≤ 65532
    · rw [if_pos hl]
      unfold readB
      rw [openL_seal _ hl, if_pos rfl]
      exact rmsg_back a b c h s l hb
    · rw [if_neg hl] at he; exact absurd he (by decide)
  · simp only [hb, if_true] at he
    exact absurd he (by decide)
end Go.Proofs.Ytnbjflcfdncocaa.M

namespace Go.Proofs.Ytnbjflcfdncocaa.M
open Go.RowKit Go.Proofs.YtnbjflcfdncocaaW.PrintWords Go.Proofs.YtnbjflcfdncocaaW.PrintLast Go.Proofs.YtnbjflcfdncocaaW.PrintMore
attribute [local go_sem] max2_int min2_int max_two min_two max_three min_three max_four min_four   -- for this text's walks alone
set_option linter.unusedVariables false
set_option linter.unusedSimpArgs false

/-! ### op_Forms_1: function 63 -/
def op_Forms_1.f (l0_0 : List Int) : Option (Bool) := if (l0_0.length : Int) < 1 then (some true) else (some (decide ((l0_0.length : Int) > 4)))
set_option maxHeartbeats 8000000 in
set_option maxRecDepth 100000 in
theorem op_Forms_1.calls (A0_0 : Option Addr) (c0_0 : Nat) (l0_0 : List Int) (r : Bool) (w : World) (hr0_0 : Kd.C (Kd.int .i64) w A0_0 l0_0.length l0_0) (hc0_0 : l0_0.length ≤ c0_0) (h : op_Forms_1.f l0_0 = some r) :
  Calls Try.prog 63 #[.agg #[.slice A0_0 l0_0.length c0_0]] w fun e w' => e = .returned (.bool r) ∧ Below w.heap.size w w' := by
 have hu68 := Try.underlying68
 have HR0_0 := Aside0.mk hr0_0
 have HC0_0 := Aside0.mk hc0_0
 clear hr0_0 hc0_0
 have HB := Aside0.mk (Below.refl w.heap.size w)
 have H : (if (l0_0.length : Int) < 1 then (some true) else (some (decide ((l0_0.length : Int) > 4)))) = some r := h
 clear h
 by_cases c2 : (l0_0.length : Int) < 1
 ·rw [if_pos c2] at H
  have c2b0 : decide ((l0_0.length : Int) < 1) = true := decide_eq_true c2
  have c2b1 : decide (l0_0.length < 1) = true := decide_eq_true (by omega)
  clear c2
  obtain rfl := Option.some.inj H
  go_enter Try.func63, Try.ntmps63
  go_wp2_with (first | ((with_reducible refine gate_dst (N := 1) rfl ?_); (try (refine gate_guard (by rfl) ?_; dsimp only)); refine box_event ?hg (N := 1) ?hd (cs := #[.slice A0_0 l0_0.length c0_0]) (t := 68) ?hr ?_; (case hd => rfl); (case hg => rfl); (case hr => first | (go_simp; done) | (go_simp; rfl)); intro gb101 hg w3 hbox hb; have n0_ := Aside0.mk (below_step (by repeat (first | (with_reducible first | exact HB.out | apply below_alloc | apply pw_below_drewN | apply below_drew1) | exact HB.out)) hb); have n1_ := Aside0.mk (hbox); have n2_ := Aside0.mk ((by rw [hg]; exact (below_size (by repeat (first | (with_reducible first | exact HB.out | apply below_alloc | apply pw_below_drewN | apply below_drew1) | exact HB.out))) : w.heap.size ≤ gb101)); have n3_ := Aside0.mk ((by rw [hg]; exact (below_size (by repeat (first | (with_reducible first | exact HB.out | apply below_alloc | apply pw_below_drewN | apply below_drew1) | exact HB.out))) : w.heap.size ≤ gb101)); clear HB; have HB := n0_; have BK101 := n1_; have GW101 := n2_; have GE101 := n3_; clear n0_ n1_ n2_ n3_; clear hb hbox hg; have hcz4_0 : w3.cell? ⟨gb101, 0, none⟩ = some (.slice A0_0 l0_0.length c0_0) := (blk_cell BK101.out 0).trans rfl; have hfz4_0 := blk_frozen BK101.out 0))
  go_ret
  exact ⟨by first | rfl | (simp [errW_none, errW_some] <;> rfl) | (simp [*, errW_none, errW_some] <;> rfl), by repeat (first | (with_reducible first | exact HB.out | apply below_alloc | apply pw_below_drewN | apply below_drew1 | refine below_set ?_ GE101.out) | exact HB.out)⟩
 ·rw [if_neg c2] at H
  have c2b0 : decide ((l0_0.length : Int) < 1) = false := decide_eq_false c2
  have c2b1 : decide (l0_0.length < 1) = false := decide_eq_false (by omega)
  clear c2
  obtain rfl := Option.some.inj H
  go_enter Try.func63, Try.ntmps63
  go_wp2_with (first | ((with_reducible refine gate_dst (N := 1) rfl ?_); (try (refine gate_guard (by rfl) ?_; dsimp only)); refine box_event ?hg (N := 1) ?hd (cs := #[.slice A0_0 l0_0.length c0_0]) (t := 68) ?hr ?_; (case hd => rfl); (case hg => rfl); (case hr => first | (go_simp; done) | (go_simp; rfl)); intro gb101 hg w5 hbox hb; have n0_ := Aside0.mk (below_step (by repeat (first | (with_reducible first | exact HB.out | apply below_alloc | apply pw_below_drewN | apply below_drew1) | exact HB.out)) hb); have n1_ := Aside0.mk (hbox); have n2_ := Aside0.mk ((by rw [hg]; exact (below_size (by repeat (first | (with_reducible first | exact HB.out | apply below_alloc | apply pw_below_drewN | apply below_drew1) | exact HB.out))) : w.heap.size ≤ gb101)); have n3_ := Aside0.mk ((by rw [hg]; exact (below_size (by repeat (first | (with_reducible first | exact HB.out | apply below_alloc | apply pw_below_drewN | apply below_drew1) | exact HB.out))) : w.heap.size ≤ gb101)); clear HB; have HB := n0_; have BK101 := n1_; have GW101 := n2_; have GE101 := n3_; clear n0_ n1_ n2_ n3_; clear hb hbox hg; have hcz6_0 : w5.cell? ⟨gb101, 0, none⟩ = some (.slice A0_0 l0_0.length c0_0) := (blk_cell BK101.out 0).trans rfl; have hfz6_0 := blk_frozen BK101.out 0))
  go_ret
  exact ⟨by first | rfl | (simp [errW_none, errW_some] <;> rfl) | (simp [*, errW_none, errW_some] <;> rfl), by repeat (first | (with_reducible first | exact HB.out | apply below_alloc | apply pw_below_drewN | apply below_drew1 | refine below_set ?_ GE101.out) | exact HB.out)⟩

end Go.Proofs.Ytnbjflcfdncocaa.M

/- slices.ContainsFunc with raddle/op.Forms$1, as one function. -/
namespace Go.Proofs.Ytnbjflcfdncocaa.M
open Go.RowKit Go.Proofs.YtnbjflcfdncocaaW.PrintWords Go.Proofs.YtnbjflcfdncocaaW.PrintLast Go.Proofs.YtnbjflcfdncocaaW.PrintMore
def contains_Forms_1.p (x : S68) : Bool := (op_Forms_1.f x.f0).getD false
theorem contains_Forms_1.p_eq (x : S68) : op_Forms_1.f x.f0 = some (contains_Forms_1.p x) := by
  have h : (op_Forms_1.f x.f0).isSome = true := by
    unfold op_Forms_1.f; split <;> rfl
  unfold contains_Forms_1.p
  obtain ⟨b, hb⟩ := Option.isSome_iff_exists.1 h
  rw [hb]; rfl
def contains_Forms_1.f (l0 : List S68) : Option Bool := some (l0.any contains_Forms_1.p)
theorem contains_Forms_1.calls (A0 : Option Addr) (c0 : Nat) (l0 : List S68) (r : Bool) (w : World) (hr0 : Kd.C k68 w A0 l0.length l0) (_hc0 : l0.length ≤ c0) (h : contains_Forms_1.f l0 = some r) :
    Calls Try.prog 62 #[.slice A0 l0.length c0, .func (.func 63) #[] #[]] w fun e w' => e = .returned (.bool r) ∧ Below w.heap.size w w' := by
  obtain rfl := Option.some.inj h
  exact ContainsFunc_Table 63 (enters_ Try.func63 (by kernel_rfl) (by kernel_rfl)) contains_Forms_1.p (fun x W A1 c1 hl1 hr1 => (op_Forms_1.calls A1 c1 x.f0 _ W hr1 hl1 (contains_Forms_1.p_eq x)).mono fun e w' ⟨he, hd⟩ => ⟨he, hd⟩) A0 c0 l0 w hr0
end Go.Proofs.Ytnbjflcfdncocaa.M

namespace Go.Proofs.Ytnbjflcfdncocaa.M
open Go.RowKit Go.Proofs.YtnbjflcfdncocaaW.PrintWords Go.Proofs.YtnbjflcfdncocaaW.PrintLast Go.Proofs.YtnbjflcfdncocaaW.PrintMore
attribute [local go_sem] max2_int min2_int max_two min_two max_three min_three max_four min_four   -- for this text's walks alone
set_option linter.unusedVariables false
set_option linter.unusedSimpArgs false

/-! ### op_Forms_2: function 65 -/
def op_Forms_2.f (a0 : Int) : Option (Bool) := if a0 < 2 then (some true) else (some (decide (a0 > 4)))
set_option maxHeartbeats 8000000 in
set_option maxRecDepth 100000 in
theorem op_Forms_2.calls (a0 : Int) (r : Bool) (w : World) (h : op_Forms_2.f a0 = some r) :
  Calls Try.prog 65 #[.int .i64 a0] w fun e w' => e = .returned (.bool r) ∧ Drawn0 w w' := by
 have H : (if a0 < 2 then (some true) else (some (decide (a0 > 4)))) = some r := h
 clear h
 by_cases c2 : a0 < 2
 ·rw [if_pos c2] at H
  have c2b0 : decide (a0 < 2) = true := decide_eq_true c2
  clear c2
  obtain rfl := Option.some.inj H
  go_enter Try.func65, Try.ntmps65
  go_wp2
  go_ret
  exact ⟨by first | rfl | (simp; done) | (simp [*]; done), by repeat (first | exact Drawn0.refl _ | apply Drawn0.step)⟩
 ·rw [if_neg c2] at H
  have c2b0 : decide (a0 < 2) = false := decide_eq_false c2
  clear c2
  obtain rfl := Option.some.inj H
  go_enter Try.func65, Try.ntmps65
  go_wp2
  go_ret
  exact ⟨by first | rfl | (simp; done) | (simp [*]; done), by repeat (first | exact Drawn0.refl _ | apply Drawn0.step)⟩

end Go.Proofs.Ytnbjflcfdncocaa.M

/- slices.ContainsFunc with raddle/op.Forms$2, as one function. -/
namespace Go.Proofs.Ytnbjflcfdncocaa.M
open Go.RowKit Go.Proofs.YtnbjflcfdncocaaW.PrintWords Go.Proofs.YtnbjflcfdncocaaW.PrintLast Go.Proofs.YtnbjflcfdncocaaW.PrintMore
def contains_Forms_2.p (x : Int) : Bool := (op_Forms_2.f x).getD false
theorem contains_Forms_2.p_eq (x : Int) : op_Forms_2.f x = some (contains_Forms_2.p x) := by
  have h : (op_Forms_2.f x).isSome = true := by
    unfold op_Forms_2.f; split <;> rfl
  unfold contains_Forms_2.p
  obtain ⟨b, hb⟩ := Option.isSome_iff_exists.1 h
  rw [hb]; rfl
def contains_Forms_2.f (l0 : List Int) : Option Bool := some (l0.any contains_Forms_2.p)
theorem contains_Forms_2.calls (A0 : Option Addr) (c0 : Nat) (l0 : List Int) (r : Bool) (w : World) (hr0 : Kd.C (Kd.int .i64) w A0 l0.length l0) (_hc0 : l0.length ≤ c0) (h : contains_Forms_2.f l0 = some r) :
    Calls Try.prog 64 #[.slice A0 l0.length c0, .func (.func 65) #[] #[]] w fun e w' => e = .returned (.bool r) ∧ Below w.heap.size w w' := by
  obtain rfl := Option.some.inj h
  exact ContainsFunc_int 65 (enters_ Try.func65 (by kernel_rfl) (by kernel_rfl)) contains_Forms_2.p (fun x W => (op_Forms_2.calls x _ W (contains_Forms_2.p_eq x)).mono fun e w' ⟨he, hd⟩ => ⟨he, hd.below⟩) A0 c0 l0 w hr0
end Go.Proofs.Ytnbjflcfdncocaa.M

namespace Go.Proofs.Ytnbjflcfdncocaa.M
open Go.RowKit Go.Proofs.YtnbjflcfdncocaaW.PrintWords Go.Proofs.YtnbjflcfdncocaaW.PrintLast Go.Proofs.YtnbjflcfdncocaaW.PrintMore
attribute [local go_sem] max2_int min2_int max_two min_two max_three min_three max_four min_four   -- for this text's walks alone
set_option linter.unusedVariables false
set_option linter.unusedSimpArgs false

/-! ### op_Forms: function 48 -/
mutual
def op_Forms.j0 : Nat → List (S68) → Bool → Option (Int)
 | 0, _, _ => none
 | k + 1, x0, x12 => if x12 = true then (some 2) else ((contains_Forms_1.f x0).bind fun t102 => (if t102 = true then (some 2) else (op_Forms.l0 k x0 (x0.length : Int) 0)))
def op_Forms.l0 : Nat → List (S68) → Int → Int → Option (Int)
 | 0, _, _, _ => none
 | k + 1, x15, x16, x17 => if x17 < x16 then (if 0 ≤ x17 then (if x17 < (x15.length : Int) then ((contains_Forms_2.f ((rd_T68 x15 x17).f0)).bind fun t105 => (if t105 = true then (some 10) else (op_Forms.l0 k x15 x16 (wrap64 (x17 + 1))))) else (none)) else (none)) else (some 0)
end
def op_Forms.f (k : Nat) (l0 : List (S68)) : Option (Int) := if (l0.length : Int) < 1 then (op_Forms.j0 k l0 true) else (op_Forms.j0 k l0 (decide ((l0.length : Int) > 3)))
set_option maxHeartbeats 8000000 in
set_option maxRecDepth 100000 in
theorem op_Forms.calls (k : Nat) (A0 : Option Addr) (c0 : Nat) (l0 : List (S68)) (r : Int) (w : World) (hr0 : Kd.C k68 w A0 l0.length l0) (hc0 : l0.length ≤ c0) (h : op_Forms.f k l0 = some r) :
  Calls Try.prog 48 #[.slice A0 l0.length c0] w fun e w' => e = .returned (.int .i64 r) ∧ Below w.heap.size w w' := by
 have hu68 := Try.underlying68
 have HR0 := Aside0.mk hr0
 have HC0 := Aside0.mk hc0
 clear hr0 hc0
 have HB := Aside0.mk (Below.refl w.heap.size w)
 have H : (if (l0.length : Int) < 1 then (op_Forms.j0 k l0 true) else (op_Forms.j0 k l0 (decide ((l0.length : Int) > 3)))) = some r := h
 clear h
 have HC2 := Aside0.mk H
 clear H
 go_enter Try.func48, Try.ntmps48
 go_upto_region 1 with (fail)
 go_cut [12] (fun v12 wc => ∃ (kq : Nat) (x12_1 : Bool), v12 = .bool x12_1 ∧ Aside0 (op_Forms.j0 kq l0 x12_1 = some r) ∧ Aside0 (kq ≤ k) ∧ Aside0 (Below w.heap.size w wc))
 case first =>
  have H := HC2.out
  clear HC2
  by_cases c3 : (l0.length : Int) < 1
  ·rw [if_pos c3] at H
   have c3b0 : decide ((l0.length : Int) < 1) = true := decide_eq_true c3
   have c3b1 : decide (l0.length < 1) = true := decide_eq_true (by omega)
   clear c3
   (first | rw [c3b0] | (simp only [i64_w, i32_w]; rw [c3b0]) | skip)
   have H' := Aside0.mk H
   clear H
   go_wp2
   go_meet
   case rel => exact ⟨_, (true), (by first | rfl | (simp; done) | (simp [*]; done)), H', ⟨by first | omega | exact Nat.le_refl _⟩, ⟨by repeat (first | (with_reducible first | exact HB.out | apply below_alloc | apply pw_below_drewN | apply below_drew1) | exact HB.out)⟩⟩
  ·rw [if_neg c3] at H
   have c3b0 : decide ((l0.length : Int) < 1) = false := decide_eq_false c3
   have c3b1 : decide (l0.length < 1) = false := decide_eq_false (by omega)
   clear c3
   (first | rw [c3b0] | (simp only [i64_w, i32_w]; rw [c3b0]) | skip)
   have H' := Aside0.mk H
   clear H
   go_wp2
   go_meet
   case rel => exact ⟨_, (decide ((l0.length : Int) > 3)), (by first | rfl | (simp; done) | (simp [*]; done)), H', ⟨by first | omega | exact Nat.le_refl _⟩, ⟨by repeat (first | (with_reducible first | exact HB.out | apply below_alloc | apply pw_below_drewN | apply below_drew1) | exact HB.out)⟩⟩
 case rest =>
  clear HC2
  try clear p2
  try clear c3
  try clear c3b0
  try clear c3b1
  obtain ⟨kq, x12_1, rfl, HA, HJ1, HB⟩ := hcut
  cases kq with
  | zero => exact absurd HA.out (by simp [op_Forms.j0])
  | succ kj1 =>
   have H := HA.out
   clear HA
   simp only [op_Forms.j0] at H
   by_cases c4 : x12_1 = true
   ·subst c4
    have H1 : (some 2) = some r := by rw [if_pos rfl] at H; exact H
    clear H
    have H := H1
    clear H1
    obtain rfl := Option.some.inj H
    go_wp2
    go_ret
    exact ⟨by first | rfl | (simp [errW_none, errW_some] <;> rfl) | (simp [*, errW_none, errW_some] <;> rfl), by repeat (first | (with_reducible first | exact HB.out | apply below_alloc | apply pw_below_drewN | apply below_drew1) | exact HB.out)⟩
   ·replace c4 := Bool.eq_false_iff.mpr c4
    subst c4
    have H1 : ((contains_Forms_1.f l0).bind fun t102 => (if t102 = true then (some 2) else (op_Forms.l0 kj1 l0 (l0.length : Int) 0))) = some r := by rw [if_neg (show ¬ (false = true) by decide)] at H; exact H
    clear H
    have H := H1
    clear H1
    replace H := Option.bind_eq_some_iff.mp H
    obtain ⟨t102, A50, H⟩ := H
    replace H : (if t102 = true then (some 2) else (op_Forms.l0 kj1 l0 (l0.length : Int) 0)) = some r := H
    have A5 := Aside0.mk A50
    clear A50
    by_cases c6 : t102 = true
    ·subst c6
     have H1 : (some 2) = some r := by rw [if_pos rfl] at H; exact H
     clear H
     have H := H1
     clear H1
     obtain rfl := Option.some.inj H
     go_wp2_with (first | (go_at_call 62; (with_reducible refine (contains_Forms_1.calls _ _ l0 true _ ?side1 ?side2 A5.out).mono ?_); (case side1 => repeat (first | exact (Kd.C_below HR0.out HB.out) | (with_reducible refine Kd.C_alloc ?_ _) | (with_reducible refine Kd.C_drewN ?_ _) | (with_reducible refine Kd.C_drew ?_))); (case side2 => exact HC0.out); rintro e w7 ⟨rfl, hb⟩; have n0_ := Aside0.mk (below_step (by repeat (first | (with_reducible first | exact HB.out | apply below_alloc | apply pw_below_drewN | apply below_drew1) | exact HB.out)) hb); clear HB; have HB := n0_; clear n0_; (try clear hb); (try clear hb2); (try clear hk); (try clear hi)))
     go_ret
     exact ⟨by first | rfl | (simp [errW_none, errW_some] <;> rfl) | (simp [*, errW_none, errW_some] <;> rfl), by repeat (first | (with_reducible first | exact HB.out | apply below_alloc | apply pw_below_drewN | apply below_drew1) | exact HB.out)⟩
    ·replace c6 := Bool.eq_false_iff.mpr c6
     subst c6
     have H1 : (op_Forms.l0 kj1 l0 (l0.length : Int) 0) = some r := by rw [if_neg (show ¬ (false = true) by decide)] at H; exact H
     clear H
     have H := H1
     clear H1
     have H' := Aside0.mk H
     clear H
     go_wp2_with (first | (go_at_call 62; (with_reducible refine (contains_Forms_1.calls _ _ l0 false _ ?side1 ?side2 A5.out).mono ?_); (case side1 => repeat (first | exact (Kd.C_below HR0.out HB.out) | (with_reducible refine Kd.C_alloc ?_ _) | (with_reducible refine Kd.C_drewN ?_ _) | (with_reducible refine Kd.C_drew ?_))); (case side2 => exact HC0.out); rintro e w8 ⟨rfl, hb⟩; have n0_ := Aside0.mk (below_step (by repeat (first | (with_reducible first | exact HB.out | apply below_alloc | apply pw_below_drewN | apply below_drew1) | exact HB.out)) hb); clear HB; have HB := n0_; clear n0_; (try clear hb); (try clear hb2); (try clear hk); (try clear hi)))
     go_loopg [17] kj1 (fun kq v17 w' => ∃ (x17_2 : Int), v17 = .int .i64 x17_2 ∧ Aside0 (op_Forms.l0 kq l0 (l0.length : Int) x17_2 = some r) ∧ Aside0 (kq ≤ kj1) ∧ Aside0 (Below w.heap.size w w'))
     case atStart => exact ⟨(0), (by first | rfl | (simp; done) | (simp [*]; done)), H', ⟨Nat.le_refl _⟩, ⟨by repeat (first | (with_reducible first | exact HB.out | apply below_alloc | apply pw_below_drewN | apply below_drew1) | exact HB.out)⟩⟩
     case round =>
      clear H'
      try clear p2
      try clear c3
      try clear c3b0
      try clear c3b1
      try clear c4
      try clear c6
      try clear p2
      obtain ⟨x17_2, rfl, HA, HK2, HB⟩ := hrel
      cases gk with
      | zero => exact absurd HA.out (by simp [op_Forms.l0])
      | succ k2 =>
       have H := HA.out
       clear HA
       simp only [op_Forms.l0] at H
       by_cases c9 : x17_2 < (l0.length : Int)
       ·rw [if_pos c9] at H
        have c9b0 : decide (x17_2 < (l0.length : Int)) = true := decide_eq_true c9
        clear c9
        by_cases c10 : 0 ≤ x17_2
        ·rw [if_pos c10] at H
         have c10b0 : decide (0 ≤ x17_2) = true := decide_eq_true c10
         clear c10
         by_cases c11 : x17_2 < (l0.length : Int)
         ·rw [if_pos c11] at H
          have c11b0 : decide (x17_2 < (l0.length : Int)) = true := decide_eq_true c11
          clear c11
          replace H := Option.bind_eq_some_iff.mp H
          obtain ⟨t105, A120, H⟩ := H
          replace H : (if t105 = true then (some 10) else (op_Forms.l0 k2 l0 (l0.length : Int) (wrap64 (x17_2 + 1)))) = some r := H
          have A12 := Aside0.mk A120
          clear A120
          by_cases c13 : t105 = true
          ·subst c13
           have H1 : (some 10) = some r := by rw [if_pos rfl] at H; exact H
           clear H
           have H := H1
           clear H1
           obtain rfl := Option.some.inj H
           have p103 : 0 ≤ (x17_2 : Int) := of_decide_eq_true (by first | (with_reducible assumption) | assumption)
           have q103 : x17_2 < (l0.length : Int) := of_decide_eq_true (by first | (with_reducible assumption) | assumption)
           obtain ⟨ad103, A103_0, c103_0, e103, hx103_0, hl103_0, hi103_0⟩ := at_T68 HR0.out x17_2 p103 q103
           cases e103
           replace hx103_0 := (HB.out.cell (World.block_lt_of_cell? w _ hx103_0)).trans hx103_0
           have HR103_0 := Aside0.mk hi103_0
           have HC103_0 := Aside0.mk hl103_0
           clear hi103_0 hl103_0
           replace p103 := eq_true p103
           replace q103 := eq_true q103
           go_wp2_with (first | ((with_reducible refine gate_dst (N := 4) rfl ?_); (try (refine gate_guard (by rfl) ?_; dsimp only)); refine box_event ?hg (N := 4) ?hd (cs := #[.slice none 0 0]) (t := 68) ?hr ?_; (case hd => rfl); (case hg => rfl); (case hr => first | (go_simp; done) | (go_simp; rfl)); intro gb104 hg w14 hbox hb; have n0_ := Aside0.mk (below_step (by repeat (first | (with_reducible first | exact HB.out | apply below_alloc | apply pw_below_drewN | apply below_drew1) | exact HB.out)) hb); have n1_ := Aside0.mk (hbox); have n2_ := Aside0.mk ((by rw [hg]; exact (below_size (by repeat (first | (with_reducible first | exact HB.out | apply below_alloc | apply pw_below_drewN | apply below_drew1) | exact HB.out))) : w.heap.size ≤ gb104)); have n3_ := Aside0.mk ((by rw [hg]; exact (below_size (by repeat (first | (with_reducible first | exact HB.out | apply below_alloc | apply pw_below_drewN | apply below_drew1) | exact HB.out))) : w.heap.size ≤ gb104)); clear HB; have HB := n0_; have BK104 := n1_; have GW104 := n2_; have GE104 := n3_; clear n0_ n1_ n2_ n3_; clear hb hbox hg; have hcz15_0 : w14.cell? ⟨gb104, 0, none⟩ = some (.slice none 0 0) := (blk_cell BK104.out 0).trans rfl; have hfz15_0 := blk_frozen BK104.out 0) | (go_at_call 64; (with_reducible refine (contains_Forms_2.calls _ _ ((rd_T68 l0 x17_2).f0) true _ ?side1 ?side2 A12.out).mono ?_); (case side1 => exact Kd.C_below HR103_0.out (by repeat (first | (with_reducible first | exact HB.out | apply below_alloc | apply pw_below_drewN | apply below_drew1 | refine below_set ?_ GE104.out) | exact HB.out))); (case side2 => exact HC103_0.out); rintro e w16 ⟨rfl, hb⟩; have n0_ := Aside0.mk (blk_below (g := gb104) (o := .cells #[.slice A103_0 ((rd_T68 l0 x17_2).f0).length c103_0] 68 (0, 0)) (by (with_reducible repeat (first | refine blk_drewN ?_ _ | refine blk_drew ?_ | refine blk_alloc ?_ _)); refine blk_put (cs := #[.slice none 0 0]) ?_ 0 _ rfl; (with_reducible repeat (first | refine blk_drewN ?_ _ | refine blk_drew ?_ | refine blk_alloc ?_ _)); exact BK104.out) hb); have n1_ := Aside0.mk (below_step (by repeat (first | (with_reducible first | exact HB.out | apply below_alloc | apply pw_below_drewN | apply below_drew1 | refine below_set ?_ GE104.out) | exact HB.out)) hb); clear BK104; clear HB; have BK104 := n0_; have HB := n1_; clear n0_ n1_; (try clear hb); (try clear hb2); (try clear hk); (try clear hi)))
           go_ret
           exact ⟨by first | rfl | (simp [errW_none, errW_some] <;> rfl) | (simp [*, errW_none, errW_some] <;> rfl), by repeat (first | (with_reducible first | exact HB.out | apply below_alloc | apply pw_below_drewN | apply below_drew1 | refine below_set ?_ GE104.out) | exact HB.out)⟩
          ·replace c13 := Bool.eq_false_iff.mpr c13
           subst c13
           have H1 : (op_Forms.l0 k2 l0 (l0.length : Int) (wrap64 (x17_2 + 1))) = some r := by rw [if_neg (show ¬ (false = true) by decide)] at H; exact H
           clear H
           have H := H1
           clear H1
           have H' := Aside0.mk H
           clear H
           have p103 : 0 ≤ (x17_2 : Int) := of_decide_eq_true (by first | (with_reducible assumption) | assumption)
           have q103 : x17_2 < (l0.length : Int) := of_decide_eq_true (by first | (with_reducible assumption) | assumption)
           obtain ⟨ad103, A103_0, c103_0, e103, hx103_0, hl103_0, hi103_0⟩ := at_T68 HR0.out x17_2 p103 q103
           cases e103
           replace hx103_0 := (HB.out.cell (World.block_lt_of_cell? w _ hx103_0)).trans hx103_0
           have HR103_0 := Aside0.mk hi103_0
           have HC103_0 := Aside0.mk hl103_0
           clear hi103_0 hl103_0
           replace p103 := eq_true p103
           replace q103 := eq_true q103
           go_wp2_with (first | ((with_reducible refine gate_dst (N := 4) rfl ?_); (try (refine gate_guard (by rfl) ?_; dsimp only)); refine box_event ?hg (N := 4) ?hd (cs := #[.slice none 0 0]) (t := 68) ?hr ?_; (case hd => rfl); (case hg => rfl); (case hr => first | (go_simp; done) | (go_simp; rfl)); intro gb104 hg w17 hbox hb; have n0_ := Aside0.mk (below_step (by repeat (first | (with_reducible first | exact HB.out | apply below_alloc | apply pw_below_drewN | apply below_drew1) | exact HB.out)) hb); have n1_ := Aside0.mk (hbox); have n2_ := Aside0.mk ((by rw [hg]; exact (below_size (by repeat (first | (with_reducible first | exact HB.out | apply below_alloc | apply pw_below_drewN | apply below_drew1) | exact HB.out))) : w.heap.size ≤ gb104)); have n3_ := Aside0.mk ((by rw [hg]; exact (below_size (by repeat (first | (with_reducible first | exact HB.out | apply below_alloc | apply pw_below_drewN | apply below_drew1) | exact HB.out))) : w.heap.size ≤ gb104)); clear HB; have HB := n0_; have BK104 := n1_; have GW104 := n2_; have GE104 := n3_; clear n0_ n1_ n2_ n3_; clear hb hbox hg; have hcz18_0 : w17.cell? ⟨gb104, 0, none⟩ = some (.slice none 0 0) := (blk_cell BK104.out 0).trans rfl; have hfz18_0 := blk_frozen BK104.out 0) | (go_at_call 64; (with_reducible refine (contains_Forms_2.calls _ _ ((rd_T68 l0 x17_2).f0) false _ ?side1 ?side2 A12.out).mono ?_); (case side1 => exact Kd.C_below HR103_0.out (by repeat (first | (with_reducible first | exact HB.out | apply below_alloc | apply pw_below_drewN | apply below_drew1 | refine below_set ?_ GE104.out) | exact HB.out))); (case side2 => exact HC103_0.out); rintro e w19 ⟨rfl, hb⟩; have n0_ := Aside0.mk (blk_below (g := gb104) (o := .cells #[.slice A103_0 ((rd_T68 l0 x17_2).f0).length c103_0] 68 (0, 0)) (by (with_reducible repeat (first | refine blk_drewN ?_ _ | refine blk_drew ?_ | refine blk_alloc ?_ _)); refine blk_put (cs := #[.slice none 0 0]) ?_ 0 _ rfl; (with_reducible repeat (first | refine blk_drewN ?_ _ | refine blk_drew ?_ | refine blk_alloc ?_ _)); exact BK104.out) hb); have n1_ := Aside0.mk (below_step (by repeat (first | (with_reducible first | exact HB.out | apply below_alloc | apply pw_below_drewN | apply below_drew1 | refine below_set ?_ GE104.out) | exact HB.out)) hb); clear BK104; clear HB; have BK104 := n0_; have HB := n1_; clear n0_ n1_; (try clear hb); (try clear hb2); (try clear hk); (try clear hi)))
           go_roundg k2
           case measure => have := HJ1.out; have := HK2.out; omega
           case rel => exact ⟨(wrap64 (x17_2 + 1)), (by first | rfl | (simp; done) | (simp [*]; done)), H', ⟨by have := HJ1.out; have := HK2.out; omega⟩, ⟨by repeat (first | (with_reducible first | exact HB.out | apply below_alloc | apply pw_below_drewN | apply below_drew1 | refine below_set ?_ GE104.out) | exact HB.out)⟩⟩
         ·rw [if_neg c11] at H
          exact absurd H (by simp)
        ·rw [if_neg c10] at H
         exact absurd H (by simp)
       ·rw [if_neg c9] at H
        have c9b0 : decide (x17_2 < (l0.length : Int)) = false := decide_eq_false c9
        clear c9
        obtain rfl := Option.some.inj H
        go_wp2
        go_ret
        exact ⟨by first | rfl | (simp [errW_none, errW_some] <;> rfl) | (simp [*, errW_none, errW_some] <;> rfl), by repeat (first | (with_reducible first | exact HB.out | apply below_alloc | apply pw_below_drewN | apply below_drew1) | exact HB.out)⟩

/-! ### dot_Check_1: function 95 -/
def dot_Check_1.f (a0 : Int) : Option (Bool) := if a0 < 0 then (some true) else (some (decide (a0 > 1073741824)))
set_option maxHeartbeats 8000000 in
set_option maxRecDepth 100000 in
theorem dot_Check_1.calls (a0 : Int) (r : Bool) (w : World) (h : dot_Check_1.f a0 = some r) :
  Calls Try.prog 95 #[.int .i64 a0] w fun e w' => e = .returned (.bool r) ∧ Drawn0 w w' := by
 have H : (if a0 < 0 then (some true) else (some (decide (a0 > 1073741824)))) = some r := h
 clear h
 by_cases c2 : a0 < 0
 ·rw [if_pos c2] at H
  have c2b0 : decide (a0 < 0) = true := decide_eq_true c2
  clear c2
  obtain rfl := Option.some.inj H
  go_enter Try.func95, Try.ntmps95
  go_wp2
  go_ret
  exact ⟨by first | rfl | (simp; done) | (simp [*]; done), by repeat (first | exact Drawn0.refl _ | apply Drawn0.step)⟩
 ·rw [if_neg c2] at H
  have c2b0 : decide (a0 < 0) = false := decide_eq_false c2
  clear c2
  obtain rfl := Option.some.inj H
  go_enter Try.func95, Try.ntmps95
  go_wp2
  go_ret
  exact ⟨by first | rfl | (simp; done) | (simp [*]; done), by repeat (first | exact Drawn0.refl _ | apply Drawn0.step)⟩

end Go.Proofs.Ytnbjflcfdncocaa.M

/- slices.ContainsFunc with raddle/dot.Check$1, as one function. -/
namespace Go.Proofs.Ytnbjflcfdncocaa.M
open Go.RowKit Go.Proofs.YtnbjflcfdncocaaW.PrintWords Go.Proofs.YtnbjflcfdncocaaW.PrintLast Go.Proofs.YtnbjflcfdncocaaW.PrintMore
def contains_Check_1.p (x : Int) : Bool := (dot_Check_1.f x).getD false
theorem contains_Check_1.p_eq (x : Int) : dot_Check_1.f x = some (contains_Check_1.p x) := by
  have h : (dot_Check_1.f x).isSome = true := by
    unfold dot_Check_1.f; split <;> rfl
  unfold contains_Check_1.p
  obtain ⟨b, hb⟩ := Option.isSome_iff_exists.1 h
  rw [hb]; rfl
def contains_Check_1.f (l0 : List Int) : Option Bool := some (l0.any contains_Check_1.p)
theorem contains_Check_1.calls (A0 : Option Addr) (c0 : Nat) (l0 : List Int) (r : Bool) (w : World) (hr0 : Kd.C (Kd.int .i64) w A0 l0.length l0) (_hc0 : l0.length ≤ c0) (h : contains_Check_1.f l0 = some r) :
    Calls Try.prog 64 #[.slice A0 l0.length c0, .func (.func 95) #[] #[]] w fun e w' => e = .returned (.bool r) ∧ Below w.heap.size w w' := by
  obtain rfl := Option.some.inj h
  exact ContainsFunc_int 95 (enters_ Try.func95 (by kernel_rfl) (by kernel_rfl)) contains_Check_1.p (fun x W => (dot_Check_1.calls x _ W (contains_Check_1.p_eq x)).mono fun e w' ⟨he, hd⟩ => ⟨he, hd.below⟩) A0 c0 l0 w hr0
end Go.Proofs.Ytnbjflcfdncocaa.M

namespace Go.Proofs.Ytnbjflcfdncocaa.M
open Go.RowKit Go.Proofs.YtnbjflcfdncocaaW.PrintWords Go.Proofs.YtnbjflcfdncocaaW.PrintLast Go.Proofs.YtnbjflcfdncocaaW.PrintMore
attribute [local go_sem] max2_int min2_int max_two min_two max_three min_three max_four min_four   -- for this text's walks alone
set_option linter.unusedVariables false
set_option linter.unusedSimpArgs false

/-! ### dot_Check: function 85 -/
def dot_Check.j0 : Nat → List Int → Bool → Option (Int)
 | 0, _, _ => none
 | k + 1, x0, x3 => if x3 = true then (some 2) else ((contains_Check_1.f x0).bind fun t106 => (if t106 = true then (some 1) else (some 0)))
def dot_Check.f (k : Nat) (l0 : List Int) : Option (Int) := if (l0.length : Int) < 1 then (dot_Check.j0 k l0 true) else (dot_Check.j0 k l0 (decide ((l0.length : Int) > 5)))
set_option maxHeartbeats 8000000 in
set_option maxRecDepth 100000 in
theorem dot_Check.calls (k : Nat) (A0 : Option Addr) (c0 : Nat) (l0 : List Int) (r : Int) (w : World) (hr0 : Kd.C (Kd.int .i64) w A0 l0.length l0) (hc0 : l0.length ≤ c0) (h : dot_Check.f k l0 = some r) :
  Calls Try.prog 85 #[.slice A0 l0.length c0] w fun e w' => e = .returned (.int .i64 r) ∧ Below w.heap.size w w' := by
 have HR0 := Aside0.mk hr0
 have HC0 := Aside0.mk hc0
 clear hr0 hc0
 have HB := Aside0.mk (Below.refl w.heap.size w)
 have H : (if (l0.length : Int) < 1 then (dot_Check.j0 k l0 true) else (dot_Check.j0 k l0 (decide ((l0.length : Int) > 5)))) = some r := h
 clear h
 have HC2 := Aside0.mk H
 clear H
 go_enter Try.func85, Try.ntmps85
 go_upto_region 1 with (fail)
 go_cut [3] (fun v3 wc => ∃ (kq : Nat) (x3_1 : Bool), v3 = .bool x3_1 ∧ Aside0 (dot_Check.j0 kq l0 x3_1 = some r) ∧ Aside0 (kq ≤ k) ∧ Aside0 (Below w.heap.size w wc))
 case first =>
  have H := HC2.out
  clear HC2
  by_cases c3 : (l0.length : Int) < 1
  ·rw [if_pos c3] at H
   have c3b0 : decide ((l0.length : Int) < 1) = true := decide_eq_true c3
   have c3b1 : decide (l0.length < 1) = true := decide_eq_true (by omega)
   clear c3
   (first | rw [c3b0] | (simp only [i64_w, i32_w]; rw [c3b0]) | skip)
   have H' := Aside0.mk H
   clear H
   go_wp2
   go_meet
   case rel => exact ⟨_, (true), (by first | rfl | (simp; done) | (simp [*]; done)), H', ⟨by first | omega | exact Nat.le_refl _⟩, ⟨by repeat (first | (with_reducible first | exact HB.out | apply below_alloc | apply pw_below_drewN | apply below_drew1) | exact HB.out)⟩⟩
  ·rw [if_neg c3] at H
   have c3b0 : decide ((l0.length : Int) < 1) = false := decide_eq_false c3
   have c3b1 : decide (l0.length < 1) = false := decide_eq_false (by omega)
   clear c3
   (first | rw [c3b0] | (simp only [i64_w, i32_w]; rw [c3b0]) | skip)
   have H' := Aside0.mk H
   clear H
   go_wp2
   go_meet
   case rel => exact ⟨_, (decide ((l0.length : Int) > 5)), (by first | rfl | (simp; done) | (simp [*]; done)), H', ⟨by first | omega | exact Nat.le_refl _⟩, ⟨by repeat (first | (with_reducible first | exact HB.out | apply below_alloc | apply pw_below_drewN | apply below_drew1) | exact HB.out)⟩⟩
 case rest =>
  clear HC2
  try clear p2
  try clear c3
  try clear c3b0
  try clear c3b1
  obtain ⟨kq, x3_1, rfl, HA, HJ1, HB⟩ := hcut
  cases kq with
  | zero => exact absurd HA.out (by simp [dot_Check.j0])
  | succ kj1 =>
   have H := HA.out
   clear HA
   simp only [dot_Check.j0] at H
   by_cases c4 : x3_1 = true
   ·subst c4
    have H1 : (some 2) = some r := by rw [if_pos rfl] at H; exact H
    clear H
    have H := H1
    clear H1
    obtain rfl := Option.some.inj H
    go_wp2
    go_ret
    exact ⟨by first | rfl | (simp [errW_none, errW_some] <;> rfl) | (simp [*, errW_none, errW_some] <;> rfl), by repeat (first | (with_reducible first | exact HB.out | apply below_alloc | apply pw_below_drewN | apply below_drew1) | exact HB.out)⟩
   ·replace c4 := Bool.eq_false_iff.mpr c4
    subst c4
    have H1 : ((contains_Check_1.f l0).bind fun t106 => (if t106 = true then (some 1) else (some 0))) = some r := by rw [if_neg (show ¬ (false = true) by decide)] at H; exact H
    clear H
    have H := H1
    clear H1
    replace H := Option.bind_eq_some_iff.mp H
    obtain ⟨t106, A50, H⟩ := H
    replace H : (if t106 = true then (some 1) else (some 0)) = some r := H
    have A5 := Aside0.mk A50
    clear A50
    by_cases c6 : t106 = true
    ·subst c6
     have H1 : (some 1) = some r := by rw [if_pos rfl] at H; exact H
     clear H
     have H := H1
     clear H1
     obtain rfl := Option.some.inj H
     go_wp2_with (first | (go_at_call 64; (with_reducible refine (contains_Check_1.calls _ _ l0 true _ ?side1 ?side2 A5.out).mono ?_); (case side1 => repeat (first | exact (Kd.C_below HR0.out HB.out) | (with_reducible refine Kd.C_alloc ?_ _) | (with_reducible refine Kd.C_drewN ?_ _) | (with_reducible refine Kd.C_drew ?_))); (case side2 => exact HC0.out); rintro e w7 ⟨rfl, hb⟩; have n0_ := Aside0.mk (below_step (by repeat (first | (with_reducible first | exact HB.out | apply below_alloc | apply pw_below_drewN | apply below_drew1) | exact HB.out)) hb); clear HB; have HB := n0_; clear n0_; (try clear hb); (try clear hb2); (try clear hk); (try clear hi)))
     go_ret
     exact ⟨by first | rfl | (simp [errW_none, errW_some] <;> rfl) | (simp [*, errW_none, errW_some] <;> rfl), by repeat (first | (with_reducible first | exact HB.out | apply below_alloc | apply pw_below_drewN | apply below_drew1) | exact HB.out)⟩
    ·replace c6 := Bool.eq_false_iff.mpr c6
     subst c6
     have H1 : (some 0) = some r := by rw [if_neg (show ¬ (false = true) by decide)] at H; exact H
     clear H
     have H := H1
     clear H1
     obtain rfl := Option.some.inj H
     go_wp2_with (first | (go_at_call 64; (with_reducible refine (contains_Check_1.calls _ _ l0 false _ ?side1 ?side2 A5.out).mono ?_); (case side1 => repeat (first | exact (Kd.C_below HR0.out HB.out) | (with_reducible refine Kd.C_alloc ?_ _) | (with_reducible refine Kd.C_drewN ?_ _) | (with_reducible refine Kd.C_drew ?_))); (case side2 => exact HC0.out); rintro e w8 ⟨rfl, hb⟩; have n0_ := Aside0.mk (below_step (by repeat (first | (with_reducible first | exact HB.out | apply below_alloc | apply pw_below_drewN | apply below_drew1) | exact HB.out)) hb); clear HB; have HB := n0_; clear n0_; (try clear hb); (try clear hb2); (try clear hk); (try clear hi)))
     go_ret
     exact ⟨by first | rfl | (simp [errW_none, errW_some] <;> rfl) | (simp [*, errW_none, errW_some] <;> rfl), by repeat (first | (with_reducible first | exact HB.out | apply below_alloc | apply pw_below_drewN | apply below_drew1) | exact HB.out)⟩

/-! ### hlc_in: function 104 -/
/-! ### hlc_Check: function 98 -/

/-! ### op_Key: function 92 -/
end Go.Proofs.Ytnbjflcfdncocaa.M

namespace Go.Proofs.Ytnbjflcfdncocaa.M
open Go.RowKit Go.Proofs.YtnbjflcfdncocaaW.PrintWords Go.Proofs.YtnbjflcfdncocaaW.PrintLast Go.Proofs.YtnbjflcfdncocaaW.PrintMore
attribute [local go_sem] max2_int min2_int max_two min_two max_three min_three max_four min_four   -- for this text's walks alone
set_option linter.unusedVariables false
set_option linter.unusedSimpArgs false

/-! ### dot_Le_1: function 97 -/
def dot_Le_1.f (a0 : Int) (a1 : Int) : Option (Bool) := some (decide (a0 ≤ a1))
set_option maxHeartbeats 8000000 in
set_option maxRecDepth 100000 in
theorem dot_Le_1.calls (a0 : Int) (a1 : Int) (r : Bool) (w : World) (h : dot_Le_1.f a0 a1 = some r) :
  Calls Try.prog 97 #[.int .i64 a0, .int .i64 a1] w fun e w' => e = .returned (.bool r) ∧ Drawn0 w w' := by
 have H : (some (decide (a0 ≤ a1))) = some r := h
 clear h
 obtain rfl := Option.some.inj H
 go_enter Try.func97, Try.ntmps97
 go_wp2
 go_ret
 exact ⟨by first | rfl | (simp; done) | (simp [*]; done), by repeat (first | exact Drawn0.refl _ | apply Drawn0.step)⟩

end Go.Proofs.Ytnbjflcfdncocaa.M

/- slices.EqualFunc with raddle/dot.Le$1, as one function. -/
namespace Go.Proofs.Ytnbjflcfdncocaa.M
open Go.RowKit Go.Proofs.YtnbjflcfdncocaaW.PrintWords Go.Proofs.YtnbjflcfdncocaaW.PrintLast Go.Proofs.YtnbjflcfdncocaaW.PrintMore
def equal_Le_1.p (x : Int) (y : Int) : Bool := (dot_Le_1.f x y).getD false
theorem equal_Le_1.p_eq (x : Int) (y : Int) : dot_Le_1.f x y = some (equal_Le_1.p x y) := by
  have h : (dot_Le_1.f x y).isSome = true := by
    rfl
  unfold equal_Le_1.p
  obtain ⟨b, hb⟩ := Option.isSome_iff_exists.1 h
  rw [hb]; rfl
def equal_Le_1.f (l0 : List Int) (l1 : List Int) : Option Bool := some (allF equal_Le_1.p l0 l1)
theorem equal_Le_1.calls (A0 : Option Addr) (c0 : Nat) (l0 : List Int) (A1 : Option Addr) (c1 : Nat) (l1 : List Int) (r : Bool) (w : World) (hr0 : Kd.C (Kd.int .i64) w A0 l0.length l0) (_hc0 : l0.length ≤ c0) (hr1 : Kd.C (Kd.int .i64) w A1 l1.length l1) (_hc1 : l1.length ≤ c1) (h : equal_Le_1.f l0 l1 = some r) :
    Calls Try.prog 96 #[.slice A0 l0.length c0, .slice A1 l1.length c1, .func (.func 97) #[] #[]] w fun e w' => e = .returned (.bool r) ∧ Below w.heap.size w w' := by
  obtain rfl := Option.some.inj h
  exact EqualFunc_int_int 97 (enters_ Try.func97 (by kernel_rfl) (by kernel_rfl)) equal_Le_1.p (fun x y W => (dot_Le_1.calls x y _ W (equal_Le_1.p_eq x y)).mono fun e w' ⟨he, hd⟩ => ⟨he, hd.below⟩) A0 c0 l0 A1 c1 l1 w hr0 hr1
end Go.Proofs.Ytnbjflcfdncocaa.M

namespace Go.Proofs.Ytnbjflcfdncocaa.M
open Go.RowKit Go.Proofs.YtnbjflcfdncocaaW.PrintWords Go.Proofs.YtnbjflcfdncocaaW.PrintLast Go.Proofs.YtnbjflcfdncocaaW.PrintMore
attribute [local go_sem] max2_int min2_int max_two min_two max_three min_three max_four min_four   -- for this text's walks alone
set_option linter.unusedVariables false
set_option linter.unusedSimpArgs false

/-! ### dot_Le: function 86 -/
def dot_Le.f (l0 : List Int) (l1 : List Int) : Option (Bool) := (equal_Le_1.f l0 l1).bind fun t156 => (some t156)
set_option maxHeartbeats 8000000 in
set_option maxRecDepth 100000 in
theorem dot_Le.calls (A0 : Option Addr) (c0 : Nat) (l0 : List Int) (A1 : Option Addr) (c1 : Nat) (l1 : List Int) (r : Bool) (w : World) (hr0 : Kd.C (Kd.int .i64) w A0 l0.length l0) (hc0 : l0.length ≤ c0) (hr1 : Kd.C (Kd.int .i64) w A1 l1.length l1) (hc1 : l1.length ≤ c1) (h : dot_Le.f l0 l1 = some r) :
  Calls Try.prog 86 #[.slice A0 l0.length c0, .slice A1 l1.length c1] w fun e w' => e = .returned (.bool r) ∧ Below w.heap.size w w' := by
 have HR0 := Aside0.mk hr0
 have HC0 := Aside0.mk hc0
 clear hr0 hc0
 have HR1 := Aside0.mk hr1
 have HC1 := Aside0.mk hc1
 clear hr1 hc1
 have HB := Aside0.mk (Below.refl w.heap.size w)
 have H : ((equal_Le_1.f l0 l1).bind fun t156 => (some t156)) = some r := h
 clear h
 replace H := Option.bind_eq_some_iff.mp H
 obtain ⟨t156, A30, H⟩ := H
 replace H : (some t156) = some r := H
 have A3 := Aside0.mk A30
 clear A30
 obtain rfl := Option.some.inj H
 go_enter Try.func86, Try.ntmps86
 go_wp2_with (first | (go_at_call 96; (with_reducible refine (equal_Le_1.calls _ _ l0 _ _ l1 t156 _ ?side1 ?side2 ?side3 ?side4 A3.out).mono ?_); (case side1 => repeat (first | exact HR0.out | (with_reducible refine Kd.C_alloc ?_ _) | (with_reducible refine Kd.C_drewN ?_ _) | (with_reducible refine Kd.C_drew ?_))); (case side2 => exact HC0.out); (case side3 => repeat (first | exact HR1.out | (with_reducible refine Kd.C_alloc ?_ _) | (with_reducible refine Kd.C_drewN ?_ _) | (with_reducible refine Kd.C_drew ?_))); (case side4 => exact HC1.out); rintro e w4 ⟨rfl, hb⟩; have n0_ := Aside0.mk (below_step (by repeat (first | (with_reducible first | exact HB.out | apply below_alloc | apply pw_below_drewN | apply below_drew1) | exact HB.out)) hb); clear HB; have HB := n0_; clear n0_; (try clear hb); (try clear hb2); (try clear hk); (try clear hi)))
 go_ret
 exact ⟨by first | rfl | (simp [errW_none, errW_some] <;> rfl) | (simp [*, errW_none, errW_some] <;> rfl), by repeat (first | (with_reducible first | exact HB.out | apply below_alloc | apply pw_below_drewN | apply below_drew1) | exact HB.out)⟩

/-! ### msg_tells: function 69 -/
def msg_tells.f (k : Nat) (a0 : Int) (a1_0 : Int) (a1_1 : Int) (a1_2 : Int) (l1_3 : List Int) (l1_4 : List Int) (l1_5 : List (S55)) : Option (Bool) := if (l1_3.length : Int) = a0 then ((dot_Check.f k l1_3).bind fun t158 => (if t158 = 0 then ((dot_Check.f k l1_4).bind fun t159 => (if t159 = 0 then ((dot_Le.f l1_4 l1_3).bind fun t160 => (some t160)) else (some false))) else (some false))) else (some false)
set_option maxHeartbeats 8000000 in
set_option maxRecDepth 100000 in
theorem msg_tells.calls (k : Nat) (a0 : Int) (a1_0 : Int) (a1_1 : Int) (a1_2 : Int) (A1_3 : Option Addr) (c1_3 : Nat) (l1_3 : List Int) (A1_4 : Option Addr) (c1_4 : Nat) (l1_4 : List Int) (A1_5 : Option Addr) (c1_5 : Nat) (l1_5 : List (S55)) (r : Bool) (w : World) (hr1_3 : Kd.C (Kd.int .i64) w A1_3 l1_3.length l1_3) (hc1_3 : l1_3.length ≤ c1_3) (hr1_4 : Kd.C (Kd.int .i64) w A1_4 l1_4.length l1_4) (hc1_4 : l1_4.length ≤ c1_4) (hr1_5 : Kd.C k55 w A1_5 l1_5.length l1_5) (hc1_5 : l1_5.length ≤ c1_5) (h : msg_tells.f k a0 a1_0 a1_1 a1_2 l1_3 l1_4 l1_5 = some r) :
  Calls Try.prog 69 #[.int .i64 a0, .agg #[.int .i64 a1_0, .int .i64 a1_1, .int .i64 a1_2, .slice A1_3 l1_3.length c1_3, .slice A1_4 l1_4.length c1_4, .slice A1_5 l1_5.length c1_5]] w fun e w' => e = .returned (.bool r) ∧ Below w.heap.size w w' := by
 have hu40 := Try.underlying40
 have HR1_3 := Aside0.mk hr1_3
 have HC1_3 := Aside0.mk hc1_3
 clear hr1_3 hc1_3
 have HR1_4 := Aside0.mk hr1_4
 have HC1_4 := Aside0.mk hc1_4
 clear hr1_4 hc1_4
 have HR1_5 := Aside0.mk hr1_5
 have HC1_5 := Aside0.mk hc1_5
 clear hr1_5 hc1_5
 have HB := Aside0.mk (Below.refl w.heap.size w)
 have H : (if (l1_3.length : Int) = a0 then ((dot_Check.f k l1_3).bind fun t158 => (if t158 = 0 then ((dot_Check.f k l1_4).bind fun t159 => (if t159 = 0 then ((dot_Le.f l1_4 l1_3).bind fun t160 => (some t160)) else (some false))) else (some false))) else (some false)) = some r := h
 clear h
 by_cases c3 : (l1_3.length : Int) = a0
 ·rw [if_pos c3] at H
  have c3b0 : ((l1_3.length : Int) == a0) = true := beq_iff_eq.mpr c3
  have c3b1 : ((l1_3.length : Int) != a0) = false := bne_eq_false_iff_eq.mpr c3
  clear c3
  replace H := Option.bind_eq_some_iff.mp H
  obtain ⟨t158, A40, H⟩ := H
  replace H : (if t158 = 0 then ((dot_Check.f k l1_4).bind fun t159 => (if t159 = 0 then ((dot_Le.f l1_4 l1_3).bind fun t160 => (some t160)) else (some false))) else (some false)) = some r := H
  have A4 := Aside0.mk A40
  clear A40
  by_cases c5 : t158 = 0
  ·rw [if_pos c5] at H
   have c5b0 : (t158 == 0) = true := beq_iff_eq.mpr c5
   have c5b1 : (t158 != 0) = false := bne_eq_false_iff_eq.mpr c5
   clear c5
   replace H := Option.bind_eq_some_iff.mp H
   obtain ⟨t159, A60, H⟩ := H
   replace H : (if t159 = 0 then ((dot_Le.f l1_4 l1_3).bind fun t160 => (some t160)) else (some false)) = some r := H
   have A6 := Aside0.mk A60
   clear A60
   by_cases c7 : t159 = 0
   ·rw [if_pos c7] at H
    have c7b0 : (t159 == 0) = true := beq_iff_eq.mpr c7
    have c7b1 : (t159 != 0) = false := bne_eq_false_iff_eq.mpr c7
    clear c7
    replace H := Option.bind_eq_some_iff.mp H
    obtain ⟨t160, A80, H⟩ := H
    replace H : (some t160) = some r := H
    have A8 := Aside0.mk A80
    clear A80
    obtain rfl := Option.some.inj H
    go_enter Try.func69, Try.ntmps69
    go_wp2_with (first | ((with_reducible refine gate_dst (N := 3) rfl ?_); refine box_event ?hg (N := 3) ?hd (cs := #[.int .i64 a1_0, .int .i64 a1_1, .int .i64 a1_2, .slice A1_3 l1_3.length c1_3, .slice A1_4 l1_4.length c1_4, .slice A1_5 l1_5.length c1_5]) (t := 40) ?hr ?_; (case hd => rfl); (case hg => rfl); (case hr => first | (go_simp; done) | (go_simp; rfl)); intro gb157 hg w9 hbox hb; have n0_ := Aside0.mk (below_step (by repeat (first | (with_reducible first | exact HB.out | apply below_alloc | apply pw_below_drewN | apply below_drew1) | exact HB.out)) hb); have n1_ := Aside0.mk (hbox); have n2_ := Aside0.mk ((by rw [hg]; exact (below_size (by repeat (first | (with_reducible first | exact HB.out | apply below_alloc | apply pw_below_drewN | apply below_drew1) | exact HB.out))) : w.heap.size ≤ gb157)); have n3_ := Aside0.mk ((by rw [hg]; exact (below_size (by repeat (first | (with_reducible first | exact HB.out | apply below_alloc | apply pw_below_drewN | apply below_drew1) | exact HB.out))) : w.heap.size ≤ gb157)); clear HB; have HB := n0_; have BK157 := n1_; have GW157 := n2_; have GE157 := n3_; clear n0_ n1_ n2_ n3_; clear hb hbox hg; have hcz10 := fun i_ => blk_cell BK157.out i_; have hfz10 := fun i_ => blk_frozen BK157.out i_) | (go_at_call 85; (with_reducible refine (dot_Check.calls k _ _ l1_3 t158 _ ?side1 ?side2 A4.out).mono ?_); (case side1 => repeat (first | exact (Kd.C_below HR1_3.out HB.out) | (with_reducible refine Kd.C_alloc ?_ _) | (with_reducible refine Kd.C_drewN ?_ _) | (with_reducible refine Kd.C_drew ?_))); (case side2 => exact HC1_3.out); rintro e w11 ⟨rfl, hb⟩; have n0_ := Aside0.mk (blk_below (g := gb157) (o := .cells #[.int .i64 a1_0, .int .i64 a1_1, .int .i64 a1_2, .slice A1_3 l1_3.length c1_3, .slice A1_4 l1_4.length c1_4, .slice A1_5 l1_5.length c1_5] 40 (0, 0)) (by (with_reducible repeat (first | refine blk_drewN ?_ _ | refine blk_drew ?_ | refine blk_alloc ?_ _)); exact BK157.out) hb); have n1_ := Aside0.mk (below_step (by repeat (first | (with_reducible first | exact HB.out | apply below_alloc | apply pw_below_drewN | apply below_drew1 | refine below_set ?_ GE157.out) | exact HB.out)) hb); clear BK157; clear HB; have BK157 := n0_; have HB := n1_; clear n0_ n1_; (try clear hb); (try clear hb2); (try clear hk); (try clear hi); have hcz12 := fun i_ => blk_cell BK157.out i_; have hfz12 := fun i_ => blk_frozen BK157.out i_) | (go_at_call 85; (with_reducible refine (dot_Check.calls k _ _ l1_4 t159 _ ?side1 ?side2 A6.out).mono ?_); (case side1 => repeat (first | exact (Kd.C_below HR1_4.out HB.out) | (with_reducible refine Kd.C_alloc ?_ _) | (with_reducible refine Kd.C_drewN ?_ _) | (with_reducible refine Kd.C_drew ?_))); (case side2 => exact HC1_4.out); rintro e w13 ⟨rfl, hb⟩; have n0_ := Aside0.mk (blk_below (g := gb157) (o := .cells #[.int .i64 a1_0, .int .i64 a1_1, .int .i64 a1_2, .slice A1_3 l1_3.length c1_3, .slice A1_4 l1_4.length c1_4, .slice A1_5 l1_5.length c1_5] 40 (0, 0)) (by (with_reducible repeat (first | refine blk_drewN ?_ _ | refine blk_drew ?_ | refine blk_alloc ?_ _)); exact BK157.out) hb); have n1_ := Aside0.mk (below_step (by repeat (first | (with_reducible first | exact HB.out | apply below_alloc | apply pw_below_drewN | apply below_drew1 | refine below_set ?_ GE157.out) | exact HB.out)) hb); clear BK157; clear HB; have BK157 := n0_; have HB := n1_; clear n0_ n1_; (try clear hb); (try clear hb2); (try clear hk); (try clear hi); have hcz14 := fun i_ => blk_cell BK157.out i_; have hfz14 := fun i_ => blk_frozen BK157.out i_) | (go_at_call 86; (with_reducible refine (dot_Le.calls _ _ l1_4 _ _ l1_3 t160 _ ?side1 ?side2 ?side3 ?side4 A8.out).mono ?_); (case side1 => repeat (first | exact (Kd.C_below HR1_4.out HB.out) | (with_reducible refine Kd.C_alloc ?_ _) | (with_reducible refine Kd.C_drewN ?_ _) | (with_reducible refine Kd.C_drew ?_))); (case side2 => exact HC1_4.out); (case side3 => repeat (first | exact (Kd.C_below HR1_3.out HB.out) | (with_reducible refine Kd.C_alloc ?_ _) | (with_reducible refine Kd.C_drewN ?_ _) | (with_reducible refine Kd.C_drew ?_))); (case side4 => exact HC1_3.out); rintro e w15 ⟨rfl, hb⟩; have n0_ := Aside0.mk (blk_below (g := gb157) (o := .cells #[.int .i64 a1_0, .int .i64 a1_1, .int .i64 a1_2, .slice A1_3 l1_3.length c1_3, .slice A1_4 l1_4.length c1_4, .slice A1_5 l1_5.length c1_5] 40 (0, 0)) (by (with_reducible repeat (first | refine blk_drewN ?_ _ | refine blk_drew ?_ | refine blk_alloc ?_ _)); exact BK157.out) hb); have n1_ := Aside0.mk (below_step (by repeat (first | (with_reducible first | exact HB.out | apply below_alloc | apply pw_below_drewN | apply below_drew1 | refine below_set ?_ GE157.out) | exact HB.out)) hb); clear BK157; clear HB; have BK157 := n0_; have HB := n1_; clear n0_ n1_; (try clear hb); (try clear hb2); (try clear hk); (try clear hi)))
    go_ret
    exact ⟨by first | rfl | (simp [errW_none, errW_some] <;> rfl) | (simp [*, errW_none, errW_some] <;> rfl), by repeat (first | (with_reducible first | exact HB.out | apply below_alloc | apply pw_below_drewN | apply below_drew1 | refine below_set ?_ GE157.out) | exact HB.out)⟩
   ·rw [if_neg c7] at H
    have c7b0 : (t159 == 0) = false := beq_eq_false_iff_ne.mpr c7
    have c7b1 : (t159 != 0) = true := bne_iff_ne.mpr c7
    obtain rfl := Option.some.inj H
    go_enter Try.func69, Try.ntmps69
    go_wp2_with (first | ((with_reducible refine gate_dst (N := 3) rfl ?_); refine box_event ?hg (N := 3) ?hd (cs := #[.int .i64 a1_0, .int .i64 a1_1, .int .i64 a1_2, .slice A1_3 l1_3.length c1_3, .slice A1_4 l1_4.length c1_4, .slice A1_5 l1_5.length c1_5]) (t := 40) ?hr ?_; (case hd => rfl); (case hg => rfl); (case hr => first | (go_simp; done) | (go_simp; rfl)); intro gb157 hg w16 hbox hb; have n0_ := Aside0.mk (below_step (by repeat (first | (with_reducible first | exact HB.out | apply below_alloc | apply pw_below_drewN | apply below_drew1) | exact HB.out)) hb); have n1_ := Aside0.mk (hbox); have n2_ := Aside0.mk ((by rw [hg]; exact (below_size (by repeat (first | (with_reducible first | exact HB.out | apply below_alloc | apply pw_below_drewN | apply below_drew1) | exact HB.out))) : w.heap.size ≤ gb157)); have n3_ := Aside0.mk ((by rw [hg]; exact (below_size (by repeat (first | (with_reducible first | exact HB.out | apply below_alloc | apply pw_below_drewN | apply below_drew1) | exact HB.out))) : w.heap.size ≤ gb157)); clear HB; have HB := n0_; have BK157 := n1_; have GW157 := n2_; have GE157 := n3_; clear n0_ n1_ n2_ n3_; clear hb hbox hg; have hcz17 := fun i_ => blk_cell BK157.out i_; have hfz17 := fun i_ => blk_frozen BK157.out i_) | (go_at_call 85; (with_reducible refine (dot_Check.calls k _ _ l1_3 t158 _ ?side1 ?side2 A4.out).mono ?_); (case side1 => repeat (first | exact (Kd.C_below HR1_3.out HB.out) | (with_reducible refine Kd.C_alloc ?_ _) | (with_reducible refine Kd.C_drewN ?_ _) | (with_reducible refine Kd.C_drew ?_))); (case side2 => exact HC1_3.out); rintro e w18 ⟨rfl, hb⟩; have n0_ := Aside0.mk (blk_below (g := gb157) (o := .cells #[.int .i64 a1_0, .int .i64 a1_1, .int .i64 a1_2, .slice A1_3 l1_3.length c1_3, .slice A1_4 l1_4.length c1_4, .slice A1_5 l1_5.length c1_5] 40 (0, 0)) (by (with_reducible repeat (first | refine blk_drewN ?_ _ | refine blk_drew ?_ | refine blk_alloc ?_ _)); exact BK157.out) hb); have n1_ := Aside0.mk (below_step (by repeat (first | (with_reducible first | exact HB.out | apply below_alloc | apply pw_below_drewN | apply below_drew1 | refine below_set ?_ GE157.out) | exact HB.out)) hb); clear BK157; clear HB; have BK157 := n0_; have HB := n1_; clear n0_ n1_; (try clear hb); (try clear hb2); (try clear hk); (try clear hi); have hcz19 := fun i_ => blk_cell BK157.out i_; have hfz19 := fun i_ => blk_frozen BK157.out i_) | (go_at_call 85; (with_reducible refine (dot_Check.calls k _ _ l1_4 t159 _ ?side1 ?side2 A6.out).mono ?_); (case side1 => repeat (first | exact (Kd.C_below HR1_4.out HB.out) | (with_reducible refine Kd.C_alloc ?_ _) | (with_reducible refine Kd.C_drewN ?_ _) | (with_reducible refine Kd.C_drew ?_))); (case side2 => exact HC1_4.out); rintro e w20 ⟨rfl, hb⟩; have n0_ := Aside0.mk (blk_below (g := gb157) (o := .cells #[.int .i64 a1_0, .int .i64 a1_1, .int .i64 a1_2, .slice A1_3 l1_3.length c1_3, .slice A1_4 l1_4.length c1_4, .slice A1_5 l1_5.length c1_5] 40 (0, 0)) (by (with_reducible repeat (first | refine blk_drewN ?_ _ | refine blk_drew ?_ | refine blk_alloc ?_ _)); exact BK157.out) hb); have n1_ := Aside0.mk (below_step (by repeat (first | (with_reducible first | exact HB.out | apply below_alloc | apply pw_below_drewN | apply below_drew1 | refine below_set ?_ GE157.out) | exact HB.out)) hb); clear BK157; clear HB; have BK157 := n0_; have HB := n1_; clear n0_ n1_; (try clear hb); (try clear hb2); (try clear hk); (try clear hi)))
    go_ret
    exact ⟨by first | rfl | (simp [errW_none, errW_some] <;> rfl) | (simp [*, errW_none, errW_some] <;> rfl), by repeat (first | (with_reducible first | exact HB.out | apply below_alloc | apply pw_below_drewN | apply below_drew1 | refine below_set ?_ GE157.out) | exact HB.out)⟩
  ·rw [if_neg c5] at H
   have c5b0 : (t158 == 0) = false := beq_eq_false_iff_ne.mpr c5
   have c5b1 : (t158 != 0) = true := bne_iff_ne.mpr c5
   obtain rfl := Option.some.inj H
   go_enter Try.func69, Try.ntmps69
   go_wp2_with (first | ((with_reducible refine gate_dst (N := 3) rfl ?_); refine box_event ?hg (N := 3) ?hd (cs := #[.int .i64 a1_0, .int .i64 a1_1, .int .i64 a1_2, .slice A1_3 l1_3.length c1_3, .slice A1_4 l1_4.length c1_4, .slice A1_5 l1_5.length c1_5]) (t := 40) ?hr ?_; (case hd => rfl); (case hg => rfl); (case hr => first | (go_simp; done) | (go_simp; rfl)); intro gb157 hg w21 hbox hb; have n0_ := Aside0.mk (below_step (by repeat (first | (with_reducible first | exact HB.out | apply below_alloc | apply pw_below_drewN | apply below_drew1) | exact HB.out)) hb); have n1_ := Aside0.mk (hbox); have n2_ := Aside0.mk ((by rw [hg]; exact (below_size (by repeat (first | (with_reducible first | exact HB.out | apply below_alloc | apply pw_below_drewN | apply below_drew1) | exact HB.out))) : w.heap.size ≤ gb157)); have n3_ := Aside0.mk ((by rw [hg]; exact (below_size (by repeat (first | (with_reducible first | exact HB.out | apply below_alloc | apply pw_below_drewN | apply below_drew1) | exact HB.out))) : w.heap.size ≤ gb157)); clear HB; have HB := n0_; have BK157 := n1_; have GW157 := n2_; have GE157 := n3_; clear n0_ n1_ n2_ n3_; clear hb hbox hg; have hcz22 := fun i_ => blk_cell BK157.out i_; have hfz22 := fun i_ => blk_frozen BK157.out i_) | (go_at_call 85; (with_reducible refine (dot_Check.calls k _ _ l1_3 t158 _ ?side1 ?side2 A4.out).mono ?_); (case side1 => repeat (first | exact (Kd.C_below HR1_3.out HB.out) | (with_reducible refine Kd.C_alloc ?_ _) | (with_reducible refine Kd.C_drewN ?_ _) | (with_reducible refine Kd.C_drew ?_))); (case side2 => exact HC1_3.out); rintro e w23 ⟨rfl, hb⟩; have n0_ := Aside0.mk (blk_below (g := gb157) (o := .cells #[.int .i64 a1_0, .int .i64 a1_1, .int .i64 a1_2, .slice A1_3 l1_3.length c1_3, .slice A1_4 l1_4.length c1_4, .slice A1_5 l1_5.length c1_5] 40 (0, 0)) (by (with_reducible repeat (first | refine blk_drewN ?_ _ | refine blk_drew ?_ | refine blk_alloc ?_ _)); exact BK157.out) hb); have n1_ := Aside0.mk (below_step (by repeat (first | (with_reducible first | exact HB.out | apply below_alloc | apply pw_below_drewN | apply below_drew1 | refine below_set ?_ GE157.out) | exact HB.out)) hb); clear BK157; clear HB; have BK157 := n0_; have HB := n1_; clear n0_ n1_; (try clear hb); (try clear hb2); (try clear hk); (try clear hi)))
   go_ret
   exact ⟨by first | rfl | (simp [errW_none, errW_some] <;> rfl) | (simp [*, errW_none, errW_some] <;> rfl), by repeat (first | (with_reducible first | exact HB.out | apply below_alloc | apply pw_below_drewN | apply below_drew1 | refine below_set ?_ GE157.out) | exact HB.out)⟩
 ·rw [if_neg c3] at H
  have c3b0 : ((l1_3.length : Int) == a0) = false := beq_eq_false_iff_ne.mpr c3
  have c3b1 : ((l1_3.length : Int) != a0) = true := bne_iff_ne.mpr c3
  obtain rfl := Option.some.inj H
  go_enter Try.func69, Try.ntmps69
  go_wp2_with (first | ((with_reducible refine gate_dst (N := 3) rfl ?_); refine box_event ?hg (N := 3) ?hd (cs := #[.int .i64 a1_0, .int .i64 a1_1, .int .i64 a1_2, .slice A1_3 l1_3.length c1_3, .slice A1_4 l1_4.length c1_4, .slice A1_5 l1_5.length c1_5]) (t := 40) ?hr ?_; (case hd => rfl); (case hg => rfl); (case hr => first | (go_simp; done) | (go_simp; rfl)); intro gb157 hg w24 hbox hb; have n0_ := Aside0.mk (below_step (by repeat (first | (with_reducible first | exact HB.out | apply below_alloc | apply pw_below_drewN | apply below_drew1) | exact HB.out)) hb); have n1_ := Aside0.mk (hbox); have n2_ := Aside0.mk ((by rw [hg]; exact (below_size (by repeat (first | (with_reducible first | exact HB.out | apply below_alloc | apply pw_below_drewN | apply below_drew1) | exact HB.out))) : w.heap.size ≤ gb157)); have n3_ := Aside0.mk ((by rw [hg]; exact (below_size (by repeat (first | (with_reducible first | exact HB.out | apply below_alloc | apply pw_below_drewN | apply below_drew1) | exact HB.out))) : w.heap.size ≤ gb157)); clear HB; have HB := n0_; have BK157 := n1_; have GW157 := n2_; have GE157 := n3_; clear n0_ n1_ n2_ n3_; clear hb hbox hg; have hcz25 := fun i_ => blk_cell BK157.out i_; have hfz25 := fun i_ => blk_frozen BK157.out i_))
  go_ret
  exact ⟨by first | rfl | (simp [errW_none, errW_some] <;> rfl) | (simp [*, errW_none, errW_some] <;> rfl), by repeat (first | (with_reducible first | exact HB.out | apply below_alloc | apply pw_below_drewN | apply below_drew1 | refine below_set ?_ GE157.out) | exact HB.out)⟩



/-! ### raddlelaw03_Long: function 57 -/
def raddlelaw03_Long.l0 : Nat → List (S101) → Int → Option (Bool)
 | 0, _, _ => none
 | k + 1, x0, x3 => if x3 < (x0.length : Int) then (if 0 ≤ x3 then (if (((rd_T101 x0 x3).f2).size : Int) > 300 then (some true) else (raddlelaw03_Long.l0 k x0 (wrap64 (x3 + 1)))) else (none)) else (some false)
def raddlelaw03_Long.f (k : Nat) (l0 : List (S101)) : Option (Bool) := raddlelaw03_Long.l0 k l0 0
set_option maxHeartbeats 8000000 in
set_option maxRecDepth 100000 in
theorem raddlelaw03_Long.calls (k : Nat) (A0 : Option Addr) (c0 : Nat) (l0 : List (S101)) (r : Bool) (w : World) (hr0 : Kd.C k101 w A0 l0.length l0) (hc0 : l0.length ≤ c0) (h : raddlelaw03_Long.f k l0 = some r) :
  Calls Try.prog 57 #[.slice A0 l0.length c0] w fun e w' => e = .returned (.bool r) ∧ Drawn0 w w' := by
 have HR0 := Aside0.mk hr0
 have HC0 := Aside0.mk hc0
 clear hr0 hc0
 have H : (raddlelaw03_Long.l0 k l0 0) = some r := h
 clear h
 have H' := Aside0.mk H
 clear H
 go_enter Try.func57, Try.ntmps57
 go_wp2
 go_loopg [3] k (fun kq v3 w' => ∃ (x3_1 : Int), v3 = .int .i64 x3_1 ∧ Aside0 (raddlelaw03_Long.l0 kq l0 x3_1 = some r) ∧ Aside0 (kq ≤ k) ∧ Drawn0 w w')
 case atStart => exact ⟨(0), (by first | rfl | (simp; done) | (simp [*]; done)), H', ⟨Nat.le_refl _⟩, by repeat (first | exact Drawn0.refl _ | apply Drawn0.step)⟩
 case round =>
  clear H'
  obtain ⟨x3_1, rfl, HA, HK1, ⟨m1, rfl⟩⟩ := hrel
  cases gk with
  | zero => exact absurd HA.out (by simp [raddlelaw03_Long.l0])
  | succ k1 =>
   have H := HA.out
   clear HA
   simp only [raddlelaw03_Long.l0] at H
   by_cases c2 : x3_1 < (l0.length : Int)
   ·rw [if_pos c2] at H
    have c2b0 : decide (x3_1 < (l0.length : Int)) = true := decide_eq_true c2
    clear c2
    by_cases c3 : 0 ≤ x3_1
    ·rw [if_pos c3] at H
     have c3b0 : decide (0 ≤ x3_1) = true := decide_eq_true c3
     clear c3
     by_cases c4 : (((rd_T101 l0 x3_1).f2).size : Int) > 300
     ·rw [if_pos c4] at H
      have c4b0 : decide (300 < (((rd_T101 l0 x3_1).f2).size : Int)) = true := decide_eq_true c4
      have c4b1 : decide (300 < ((rd_T101 l0 x3_1).f2).size) = true := decide_eq_true (by omega)
      clear c4
      obtain rfl := Option.some.inj H
      have p163 : 0 ≤ (x3_1 : Int) := of_decide_eq_true (by first | (with_reducible assumption) | assumption)
      have q163 : x3_1 < (l0.length : Int) := of_decide_eq_true (by first | (with_reducible assumption) | assumption)
      obtain ⟨ad163, e163, hx163_0, hx163_1, hx163_2⟩ := at_T101 HR0.out x3_1 p163 q163
      cases e163
      replace p163 := eq_true p163
      replace q163 := eq_true q163
      go_wp2
      go_ret
      exact ⟨by first | rfl | (simp; done) | (simp [*]; done), by repeat (first | exact Drawn0.refl _ | apply Drawn0.step)⟩
     ·rw [if_neg c4] at H
      have c4b0 : decide (300 < (((rd_T101 l0 x3_1).f2).size : Int)) = false := decide_eq_false c4
      have c4b1 : decide (300 < ((rd_T101 l0 x3_1).f2).size) = false := decide_eq_false (by omega)
      clear c4
      have H' := Aside0.mk H
      clear H
      have p163 : 0 ≤ (x3_1 : Int) := of_decide_eq_true (by first | (with_reducible assumption) | assumption)
      have q163 : x3_1 < (l0.length : Int) := of_decide_eq_true (by first | (with_reducible assumption) | assumption)
      obtain ⟨ad163, e163, hx163_0, hx163_1, hx163_2⟩ := at_T101 HR0.out x3_1 p163 q163
      cases e163
      replace p163 := eq_true p163
      replace q163 := eq_true q163
      go_wp2
      go_roundg k1
      case measure => have := HK1.out; omega
      case rel => exact ⟨(wrap64 (x3_1 + 1)), (by first | rfl | (simp; done) | (simp [*]; done)), H', ⟨by have := HK1.out; omega⟩, by repeat (first | exact Drawn0.refl _ | apply Drawn0.step)⟩
    ·rw [if_neg c3] at H
     exact absurd H (by simp)
   ·rw [if_neg c2] at H
    have c2b0 : decide (x3_1 < (l0.length : Int)) = false := decide_eq_false c2
    clear c2
    obtain rfl := Option.some.inj H
    go_wp2
    go_ret
    exact ⟨by first | rfl | (simp; done) | (simp [*]; done), by repeat (first | exact Drawn0.refl _ | apply Drawn0.step)⟩

/-! ### raddlelaw04_Heavy: function 41 -/
def raddlelaw04_Heavy.f (k : Nat) (l0 : List (S101)) : Option (Bool) := if (l0.length : Int) > 40 then (some true) else ((raddlelaw03_Long.f k l0).bind fun t164 => (some t164))
set_option maxHeartbeats 8000000 in
set_option maxRecDepth 100000 in
theorem raddlelaw04_Heavy.calls (k : Nat) (A0 : Option Addr) (c0 : Nat) (l0 : List (S101)) (r : Bool) (w : World) (hr0 : Kd.C k101 w A0 l0.length l0) (hc0 : l0.length ≤ c0) (h : raddlelaw04_Heavy.f k l0 = some r) :
  Calls Try.prog 41 #[.slice A0 l0.length c0] w fun e w' => e = .returned (.bool r) ∧ Drawn0 w w' := by
 have HR0 := Aside0.mk hr0
 have HC0 := Aside0.mk hc0
 clear hr0 hc0
 have H : (if (l0.length : Int) > 40 then (some true) else ((raddlelaw03_Long.f k l0).bind fun t164 => (some t164))) = some r := h
 clear h
 by_cases c2 : (l0.length : Int) > 40
 ·rw [if_pos c2] at H
  have c2b0 : decide (40 < (l0.length : Int)) = true := decide_eq_true c2
  have c2b1 : decide (40 < l0.length) = true := decide_eq_true (by omega)
  clear c2
  obtain rfl := Option.some.inj H
  go_enter Try.func41, Try.ntmps41
  go_wp2
  go_ret
  exact ⟨by first | rfl | (simp; done) | (simp [*]; done), by repeat (first | exact Drawn0.refl _ | apply Drawn0.step)⟩
 ·rw [if_neg c2] at H
  have c2b0 : decide (40 < (l0.length : Int)) = false := decide_eq_false c2
  have c2b1 : decide (40 < l0.length) = false := decide_eq_false (by omega)
  clear c2
  replace H := Option.bind_eq_some_iff.mp H
  obtain ⟨t164, A30, H⟩ := H
  replace H : (some t164) = some r := H
  have A3 := Aside0.mk A30
  clear A30
  obtain rfl := Option.some.inj H
  go_enter Try.func41, Try.ntmps41
  go_wp2_with (first | (go_at_call 57; (with_reducible refine (raddlelaw03_Long.calls k _ _ l0 t164 _ ?side1 ?side2 A3.out).mono ?_); (case side1 => repeat (first | exact HR0.out | (with_reducible refine Kd.C_alloc ?_ _) | (with_reducible refine Kd.C_drewN ?_ _) | (with_reducible refine Kd.C_drew ?_))); (case side2 => exact HC0.out); rintro e w' ⟨rfl, ⟨nd, rfl⟩⟩))
  go_ret
  exact ⟨by first | rfl | (simp; done) | (simp [*]; done), by repeat (first | exact Drawn0.refl _ | apply Drawn0.step)⟩

/-! ### raddlelaw07_Heavy: function 31 -/
def raddlelaw07_Heavy.l0 : Nat → List (S55) → Int → Option (Bool)
 | 0, _, _ => none
 | k + 1, x0, x3 => if x3 < (x0.length : Int) then (if 0 ≤ x3 then (if (((rd_T55 x0 x3).f1).length : Int) > 30 then (some true) else (if (((rd_T55 x0 x3).f5).size : Int) > 100 then (some true) else ((raddlelaw04_Heavy.f k ((rd_T55 x0 x3).f7)).bind fun t168 => (if t168 = true then (some true) else (if (((rd_T55 x0 x3).f8).length : Int) > 100 then (some true) else (raddlelaw07_Heavy.l0 k x0 (wrap64 (x3 + 1)))))))) else (none)) else (some false)
def raddlelaw07_Heavy.f (k : Nat) (l0 : List (S55)) : Option (Bool) := if (l0.length : Int) > 300 then (some true) else (raddlelaw07_Heavy.l0 k l0 0)
set_option maxHeartbeats 8000000 in
set_option maxRecDepth 100000 in
theorem raddlelaw07_Heavy.calls (k : Nat) (A0 : Option Addr) (c0 : Nat) (l0 : List (S55)) (r : Bool) (w : World) (hr0 : Kd.C k55 w A0 l0.length l0) (hc0 : l0.length ≤ c0) (h : raddlelaw07_Heavy.f k l0 = some r) :
  Calls Try.prog 31 #[.slice A0 l0.length c0] w fun e w' => e = .returned (.bool r) ∧ Drawn0 w w' := by
 have HR0 := Aside0.mk hr0
 have HC0 := Aside0.mk hc0
 clear hr0 hc0
 have H : (if (l0.length : Int) > 300 then (some true) else (raddlelaw07_Heavy.l0 k l0 0)) = some r := h
 clear h
 by_cases c2 : (l0.length : Int) > 300
 ·rw [if_pos c2] at H
  have c2b0 : decide (300 < (l0.length : Int)) = true := decide_eq_true c2
  have c2b1 : decide (300 < l0.length) = true := decide_eq_true (by omega)
  clear c2
  obtain rfl := Option.some.inj H
  go_enter Try.func31, Try.ntmps31
  go_wp2
  go_ret
  exact ⟨by first | rfl | (simp; done) | (simp [*]; done), by repeat (first | exact Drawn0.refl _ | apply Drawn0.step)⟩
 ·rw [if_neg c2] at H
  have c2b0 : decide (300 < (l0.length : Int)) = false := decide_eq_false c2
  have c2b1 : decide (300 < l0.length) = false := decide_eq_false (by omega)
  clear c2
  have H' := Aside0.mk H
  clear H
  go_enter Try.func31, Try.ntmps31
  go_wp2
  go_loopg [3] k (fun kq v3 w' => ∃ (x3_1 : Int), v3 = .int .i64 x3_1 ∧ Aside0 (raddlelaw07_Heavy.l0 kq l0 x3_1 = some r) ∧ Aside0 (kq ≤ k) ∧ Drawn0 w w')
  case atStart => exact ⟨(0), (by first | rfl | (simp; done) | (simp [*]; done)), H', ⟨Nat.le_refl _⟩, by repeat (first | exact Drawn0.refl _ | apply Drawn0.step)⟩
  case round =>
   clear H'
   try clear c2
   try clear c2b0
   try clear c2b1
   try clear p2
   obtain ⟨x3_1, rfl, HA, HK1, ⟨m1, rfl⟩⟩ := hrel
   cases gk with
   | zero => exact absurd HA.out (by simp [raddlelaw07_Heavy.l0])
   | succ k1 =>
    have H := HA.out
    clear HA
    simp only [raddlelaw07_Heavy.l0] at H
    by_cases c3 : x3_1 < (l0.length : Int)
    ·rw [if_pos c3] at H
     have c3b0 : decide (x3_1 < (l0.length : Int)) = true := decide_eq_true c3
     clear c3
     by_cases c4 : 0 ≤ x3_1
     ·rw [if_pos c4] at H
      have c4b0 : decide (0 ≤ x3_1) = true := decide_eq_true c4
      clear c4
      by_cases c5 : (((rd_T55 l0 x3_1).f1).length : Int) > 30
      ·rw [if_pos c5] at H
       have c5b0 : decide (30 < (((rd_T55 l0 x3_1).f1).length : Int)) = true := decide_eq_true c5
       have c5b1 : decide (30 < ((rd_T55 l0 x3_1).f1).length) = true := decide_eq_true (by omega)
       clear c5
       obtain rfl := Option.some.inj H
       have p165 : 0 ≤ (x3_1 : Int) := of_decide_eq_true (by first | (with_reducible assumption) | assumption)
       have q165 : x3_1 < (l0.length : Int) := of_decide_eq_true (by first | (with_reducible assumption) | assumption)
       obtain ⟨ad165, A165_2, c165_2, A165_10, c165_10, A165_11, c165_11, e165, hx165_0, hx165_1, hx165_2, hx165_3, hx165_4, hx165_5, hx165_6, hx165_7, hx165_8, hx165_9, hx165_10, hx165_11, hl165_2, hi165_2, hl165_10, hi165_10, hl165_11, hi165_11⟩ := at_T55 HR0.out x3_1 p165 q165
       cases e165
       have HR165_2 := Aside0.mk hi165_2
       have HC165_2 := Aside0.mk hl165_2
       clear hi165_2 hl165_2
       have HR165_10 := Aside0.mk hi165_10
       have HC165_10 := Aside0.mk hl165_10
       clear hi165_10 hl165_10
       have HR165_11 := Aside0.mk hi165_11
       have HC165_11 := Aside0.mk hl165_11
       clear hi165_11 hl165_11
       replace p165 := eq_true p165
       replace q165 := eq_true q165
       go_wp2
       go_ret
       exact ⟨by first | rfl | (simp; done) | (simp [*]; done), by repeat (first | exact Drawn0.refl _ | apply Drawn0.step)⟩
      ·rw [if_neg c5] at H
       have c5b0 : decide (30 < (((rd_T55 l0 x3_1).f1).length : Int)) = false := decide_eq_false c5
       have c5b1 : decide (30 < ((rd_T55 l0 x3_1).f1).length) = false := decide_eq_false (by omega)
       clear c5
       by_cases c6 : (((rd_T55 l0 x3_1).f5).size : Int) > 100
       ·rw [if_pos c6] at H
        have c6b0 : decide (100 < (((rd_T55 l0 x3_1).f5).size : Int)) = true := decide_eq_true c6
        have c6b1 : decide (100 < ((rd_T55 l0 x3_1).f5).size) = true := decide_eq_true (by omega)
        clear c6
        obtain rfl := Option.some.inj H
        have p165 : 0 ≤ (x3_1 : Int) := of_decide_eq_true (by first | (with_reducible assumption) | assumption)
        have q165 : x3_1 < (l0.length : Int) := of_decide_eq_true (by first | (with_reducible assumption) | assumption)
        obtain ⟨ad165, A165_2, c165_2, A165_10, c165_10, A165_11, c165_11, e165, hx165_0, hx165_1, hx165_2, hx165_3, hx165_4, hx165_5, hx165_6, hx165_7, hx165_8, hx165_9, hx165_10, hx165_11, hl165_2, hi165_2, hl165_10, hi165_10, hl165_11, hi165_11⟩ := at_T55 HR0.out x3_1 p165 q165
        cases e165
        have HR165_2 := Aside0.mk hi165_2
        have HC165_2 := Aside0.mk hl165_2
        clear hi165_2 hl165_2
        have HR165_10 := Aside0.mk hi165_10
        have HC165_10 := Aside0.mk hl165_10
        clear hi165_10 hl165_10
        have HR165_11 := Aside0.mk hi165_11
        have HC165_11 := Aside0.mk hl165_11
        clear hi165_11 hl165_11
        replace p165 := eq_true p165
        replace q165 := eq_true q165
        have p166 : 0 ≤ (x3_1 : Int) := of_decide_eq_true (by first | (with_reducible assumption) | assumption)
        have q166 : x3_1 < (l0.length : Int) := of_decide_eq_true (by first | (with_reducible assumption) | assumption)
        obtain ⟨ad166, A166_2, c166_2, A166_10, c166_10, A166_11, c166_11, e166, hx166_0, hx166_1, hx166_2, hx166_3, hx166_4, hx166_5, hx166_6, hx166_7, hx166_8, hx166_9, hx166_10, hx166_11, hl166_2, hi166_2, hl166_10, hi166_10, hl166_11, hi166_11⟩ := at_T55 HR0.out x3_1 p166 q166
        obtain rfl : ad165 = ad166 := (by injection e166)
        have HR166_2 := Aside0.mk hi166_2
        have HC166_2 := Aside0.mk hl166_2
        clear hi166_2 hl166_2
        have HR166_10 := Aside0.mk hi166_10
        have HC166_10 := Aside0.mk hl166_10
        clear hi166_10 hl166_10
        have HR166_11 := Aside0.mk hi166_11
        have HC166_11 := Aside0.mk hl166_11
        clear hi166_11 hl166_11
        replace p166 := eq_true p166
        replace q166 := eq_true q166
        have ea_ := Option.some.inj (hx165_2.symm.trans hx166_2)
        injection ea_ with ea_ en_ ec_
        subst ea_
        subst ec_
        clear en_
        have ea_ := Option.some.inj (hx165_10.symm.trans hx166_10)
        injection ea_ with ea_ en_ ec_
        subst ea_
        subst ec_
        clear en_
        have ea_ := Option.some.inj (hx165_11.symm.trans hx166_11)
        injection ea_ with ea_ en_ ec_
        subst ea_
        subst ec_
        clear en_
        go_wp2
        go_ret
        exact ⟨by first | rfl | (simp; done) | (simp [*]; done), by repeat (first | exact Drawn0.refl _ | apply Drawn0.step)⟩
       ·rw [if_neg c6] at H
        have c6b0 : decide (100 < (((rd_T55 l0 x3_1).f5).size : Int)) = false := decide_eq_false c6
        have c6b1 : decide (100 < ((rd_T55 l0 x3_1).f5).size) = false := decide_eq_false (by omega)
        clear c6
        replace H := Option.bind_eq_some_iff.mp H
        obtain ⟨t168, A70, H⟩ := H
        replace H : (if t168 = true then (some true) else (if (((rd_T55 l0 x3_1).f8).length : Int) > 100 then (some true) else (raddlelaw07_Heavy.l0 k1 l0 (wrap64 (x3_1 + 1))))) = some r := H
        have A7 := Aside0.mk A70
        clear A70
        by_cases c8 : t168 = true
        ·subst c8
         have H1 : (some true) = some r := by rw [if_pos rfl] at H; exact H
         clear H
         have H := H1
         clear H1
         obtain rfl := Option.some.inj H
         have p165 : 0 ≤ (x3_1 : Int) := of_decide_eq_true (by first | (with_reducible assumption) | assumption)
         have q165 : x3_1 < (l0.length : Int) := of_decide_eq_true (by first | (with_reducible assumption) | assumption)
         obtain ⟨ad165, A165_2, c165_2, A165_10, c165_10, A165_11, c165_11, e165, hx165_0, hx165_1, hx165_2, hx165_3, hx165_4, hx165_5, hx165_6, hx165_7, hx165_8, hx165_9, hx165_10, hx165_11, hl165_2, hi165_2, hl165_10, hi165_10, hl165_11, hi165_11⟩ := at_T55 HR0.out x3_1 p165 q165
         cases e165
         have HR165_2 := Aside0.mk hi165_2
         have HC165_2 := Aside0.mk hl165_2
         clear hi165_2 hl165_2
         have HR165_10 := Aside0.mk hi165_10
         have HC165_10 := Aside0.mk hl165_10
         clear hi165_10 hl165_10
         have HR165_11 := Aside0.mk hi165_11
         have HC165_11 := Aside0.mk hl165_11
         clear hi165_11 hl165_11
         replace p165 := eq_true p165
         replace q165 := eq_true q165
         have p166 : 0 ≤ (x3_1 : Int) := of_decide_eq_true (by first | (with_reducible assumption) | assumption)
         have q166 : x3_1 < (l0.length : Int) := of_decide_eq_true (by first | (with_reducible assumption) | assumption)
         obtain ⟨ad166, A166_2, c166_2, A166_10, c166_10, A166_11, c166_11, e166, hx166_0, hx166_1, hx166_2, hx166_3, hx166_4, hx166_5, hx166_6, hx166_7, hx166_8, hx166_9, hx166_10, hx166_11, hl166_2, hi166_2, hl166_10, hi166_10, hl166_11, hi166_11⟩ := at_T55 HR0.out x3_1 p166 q166
         obtain rfl : ad165 = ad166 := (by injection e166)
         have HR166_2 := Aside0.mk hi166_2
         have HC166_2 := Aside0.mk hl166_2
         clear hi166_2 hl166_2
         have HR166_10 := Aside0.mk hi166_10
         have HC166_10 := Aside0.mk hl166_10
         clear hi166_10 hl166_10
         have HR166_11 := Aside0.mk hi166_11
         have HC166_11 := Aside0.mk hl166_11
         clear hi166_11 hl166_11
         replace p166 := eq_true p166
         replace q166 := eq_true q166
         have ea_ := Option.some.inj (hx165_2.symm.trans hx166_2)
         injection ea_ with ea_ en_ ec_
         subst ea_
         subst ec_
         clear en_
         have ea_ := Option.some.inj (hx165_10.symm.trans hx166_10)
         injection ea_ with ea_ en_ ec_
         subst ea_
         subst ec_
         clear en_
         have ea_ := Option.some.inj (hx165_11.symm.trans hx166_11)
         injection ea_ with ea_ en_ ec_
         subst ea_
         subst ec_
         clear en_
         have p167 : 0 ≤ (x3_1 : Int) := of_decide_eq_true (by first | (with_reducible assumption) | assumption)
         have q167 : x3_1 < (l0.length : Int) := of_decide_eq_true (by first | (with_reducible assumption) | assumption)
         obtain ⟨ad167, A167_2, c167_2, A167_10, c167_10, A167_11, c167_11, e167, hx167_0, hx167_1, hx167_2, hx167_3, hx167_4, hx167_5, hx167_6, hx167_7, hx167_8, hx167_9, hx167_10, hx167_11, hl167_2, hi167_2, hl167_10, hi167_10, hl167_11, hi167_11⟩ := at_T55 HR0.out x3_1 p167 q167
         obtain rfl : ad165 = ad167 := (by injection e167)
         have HR167_2 := Aside0.mk hi167_2
         have HC167_2 := Aside0.mk hl167_2
         clear hi167_2 hl167_2
         have HR167_10 := Aside0.mk hi167_10
         have HC167_10 := Aside0.mk hl167_10
         clear hi167_10 hl167_10
         have HR167_11 := Aside0.mk hi167_11
         have HC167_11 := Aside0.mk hl167_11
         clear hi167_11 hl167_11
         replace p167 := eq_true p167
         replace q167 := eq_true q167
         have ea_ := Option.some.inj (hx165_2.symm.trans hx167_2)
         injection ea_ with ea_ en_ ec_
         subst ea_
         subst ec_
         clear en_
         have ea_ := Option.some.inj (hx165_10.symm.trans hx167_10)
         injection ea_ with ea_ en_ ec_
         subst ea_
         subst ec_
         clear en_
         have ea_ := Option.some.inj (hx165_11.symm.trans hx167_11)
         injection ea_ with ea_ en_ ec_
         subst ea_
         subst ec_
         clear en_
         go_wp2_with (first | (go_at_call 41; (with_reducible refine (raddlelaw04_Heavy.calls k1 _ _ ((rd_T55 l0 x3_1).f7) true _ ?side1 ?side2 A7.out).mono ?_); (case side1 => repeat (first | exact HR167_10.out | (with_reducible refine Kd.C_alloc ?_ _) | (with_reducible refine Kd.C_drewN ?_ _) | (with_reducible refine Kd.C_drew ?_))); (case side2 => exact HC167_10.out); rintro e w' ⟨rfl, ⟨nd, rfl⟩⟩))
         go_ret
         exact ⟨by first | rfl | (simp; done) | (simp [*]; done), by repeat (first | exact Drawn0.refl _ | apply Drawn0.step)⟩
        ·replace c8 := Bool.eq_false_iff.mpr c8
         subst c8
         have H1 : (if (((rd_T55 l0 x3_1).f8).length : Int) > 100 then (some true) else (raddlelaw07_Heavy.l0 k1 l0 (wrap64 (x3_1 + 1)))) = some r := by rw [if_neg (show ¬ (false = true) by decide)] at H; exact H
         clear H
         have H := H1
         clear H1
         by_cases c9 : (((rd_T55 l0 x3_1).f8).length : Int) > 100
         ·rw [if_pos c9] at H
          have c9b0 : decide (100 < (((rd_T55 l0 x3_1).f8).length : Int)) = true := decide_eq_true c9
          have c9b1 : decide (100 < ((rd_T55 l0 x3_1).f8).length) = true := decide_eq_true (by omega)
          clear c9
          obtain rfl := Option.some.inj H
          have p165 : 0 ≤ (x3_1 : Int) := of_decide_eq_true (by first | (with_reducible assumption) | assumption)
          have q165 : x3_1 < (l0.length : Int) := of_decide_eq_true (by first | (with_reducible assumption) | assumption)
          obtain ⟨ad165, A165_2, c165_2, A165_10, c165_10, A165_11, c165_11, e165, hx165_0, hx165_1, hx165_2, hx165_3, hx165_4, hx165_5, hx165_6, hx165_7, hx165_8, hx165_9, hx165_10, hx165_11, hl165_2, hi165_2, hl165_10, hi165_10, hl165_11, hi165_11⟩ := at_T55 HR0.out x3_1 p165 q165
          cases e165
          have HR165_2 := Aside0.mk hi165_2
          have HC165_2 := Aside0.mk hl165_2
          clear hi165_2 hl165_2
          have HR165_10 := Aside0.mk hi165_10
          have HC165_10 := Aside0.mk hl165_10
          clear hi165_10 hl165_10
          have HR165_11 := Aside0.mk hi165_11
          have HC165_11 := Aside0.mk hl165_11
          clear hi165_11 hl165_11
          replace p165 := eq_true p165
          replace q165 := eq_true q165
          have p166 : 0 ≤ (x3_1 : Int) := of_decide_eq_true (by first | (with_reducible assumption) | assumption)
          have q166 : x3_1 < (l0.length : Int) := of_decide_eq_true (by first | (with_reducible assumption) | assumption)
          obtain ⟨ad166, A166_2, c166_2, A166_10, c166_10, A166_11, c166_11, e166, hx166_0, hx166_1, hx166_2, hx166_3, hx166_4, hx166_5, hx166_6, hx166_7, hx166_8, hx166_9, hx166_10, hx166_11, hl166_2, hi166_2, hl166_10, hi166_10, hl166_11, hi166_11⟩ := at_T55 HR0.out x3_1 p166 q166
          obtain rfl : ad165 = ad166 := (by injection e166)
          have HR166_2 := Aside0.mk hi166_2
          have HC166_2 := Aside0.mk hl166_2
          clear hi166_2 hl166_2
          have HR166_10 := Aside0.mk hi166_10
          have HC166_10 := Aside0.mk hl166_10
          clear hi166_10 hl166_10
          have HR166_11 := Aside0.mk hi166_11
          have HC166_11 := Aside0.mk hl166_11
          clear hi166_11 hl166_11
          replace p166 := eq_true p166
          replace q166 := eq_true q166
          have ea_ := Option.some.inj (hx165_2.symm.trans hx166_2)
          injection ea_ with ea_ en_ ec_
          subst ea_
          subst ec_
          clear en_
          have ea_ := Option.some.inj (hx165_10.symm.trans hx166_10)
          injection ea_ with ea_ en_ ec_
          subst ea_
          subst ec_
          clear en_
          have ea_ := Option.some.inj (hx165_11.symm.trans hx166_11)
          injection ea_ with ea_ en_ ec_
          subst ea_
          subst ec_
          clear en_
          have p167 : 0 ≤ (x3_1 : Int) := of_decide_eq_true (by first | (with_reducible assumption) | assumption)
          have q167 : x3_1 < (l0.length : Int) := of_decide_eq_true (by first | (with_reducible assumption) | assumption)
          obtain ⟨ad167, A167_2, c167_2, A167_10, c167_10, A167_11, c167_11, e167, hx167_0, hx167_1, hx167_2, hx167_3, hx167_4, hx167_5, hx167_6, hx167_7, hx167_8, hx167_9, hx167_10, hx167_11, hl167_2, hi167_2, hl167_10, hi167_10, hl167_11, hi167_11⟩ := at_T55 HR0.out x3_1 p167 q167
          obtain rfl : ad165 = ad167 := (by injection e167)
          have HR167_2 := Aside0.mk hi167_2
          have HC167_2 := Aside0.mk hl167_2
          clear hi167_2 hl167_2
          have HR167_10 := Aside0.mk hi167_10
          have HC167_10 := Aside0.mk hl167_10
          clear hi167_10 hl167_10
          have HR167_11 := Aside0.mk hi167_11
          have HC167_11 := Aside0.mk hl167_11
          clear hi167_11 hl167_11
          replace p167 := eq_true p167
          replace q167 := eq_true q167
          have ea_ := Option.some.inj (hx165_2.symm.trans hx167_2)
          injection ea_ with ea_ en_ ec_
          subst ea_
          subst ec_
          clear en_
          have ea_ := Option.some.inj (hx165_10.symm.trans hx167_10)
          injection ea_ with ea_ en_ ec_
          subst ea_
          subst ec_
          clear en_
          have ea_ := Option.some.inj (hx165_11.symm.trans hx167_11)
          injection ea_ with ea_ en_ ec_
          subst ea_
          subst ec_
          clear en_
          go_wp2_with (first | (go_at_call 41; (with_reducible refine (raddlelaw04_Heavy.calls k1 _ _ ((rd_T55 l0 x3_1).f7) false _ ?side1 ?side2 A7.out).mono ?_); (case side1 => repeat (first | exact HR167_10.out | (with_reducible refine Kd.C_alloc ?_ _) | (with_reducible refine Kd.C_drewN ?_ _) | (with_reducible refine Kd.C_drew ?_))); (case side2 => exact HC167_10.out); rintro e w' ⟨rfl, ⟨nd, rfl⟩⟩; have p169 : 0 ≤ (x3_1 : Int) := of_decide_eq_true (by first | (with_reducible assumption) | assumption); have q169 : x3_1 < (l0.length : Int) := of_decide_eq_true (by first | (with_reducible assumption) | assumption); obtain ⟨ad169, A169_2, c169_2, A169_10, c169_10, A169_11, c169_11, e169, hx169_0, hx169_1, hx169_2, hx169_3, hx169_4, hx169_5, hx169_6, hx169_7, hx169_8, hx169_9, hx169_10, hx169_11, hl169_2, hi169_2, hl169_10, hi169_10, hl169_11, hi169_11⟩ := at_T55 HR0.out x3_1 p169 q169; obtain rfl : ad165 = ad169 := (by injection e169); have HR169_2 := Aside0.mk hi169_2; have HC169_2 := Aside0.mk hl169_2; clear hi169_2 hl169_2; have HR169_10 := Aside0.mk hi169_10; have HC169_10 := Aside0.mk hl169_10; clear hi169_10 hl169_10; have HR169_11 := Aside0.mk hi169_11; have HC169_11 := Aside0.mk hl169_11; clear hi169_11 hl169_11; replace p169 := eq_true p169; replace q169 := eq_true q169; have ea_ := Option.some.inj (hx165_2.symm.trans hx169_2); injection ea_ with ea_ en_ ec_; subst ea_; subst ec_; clear en_; have ea_ := Option.some.inj (hx165_10.symm.trans hx169_10); injection ea_ with ea_ en_ ec_; subst ea_; subst ec_; clear en_; have ea_ := Option.some.inj (hx165_11.symm.trans hx169_11); injection ea_ with ea_ en_ ec_; subst ea_; subst ec_; clear en_))
          go_ret
          exact ⟨by first | rfl | (simp; done) | (simp [*]; done), by repeat (first | exact Drawn0.refl _ | apply Drawn0.step)⟩
         ·rw [if_neg c9] at H
          have c9b0 : decide (100 < (((rd_T55 l0 x3_1).f8).length : Int)) = false := decide_eq_false c9
          have c9b1 : decide (100 < ((rd_T55 l0 x3_1).f8).length) = false := decide_eq_false (by omega)
          clear c9
          have H' := Aside0.mk H
          clear H
          have p165 : 0 ≤ (x3_1 : Int) := of_decide_eq_true (by first | (with_reducible assumption) | assumption)
          have q165 : x3_1 < (l0.length : Int) := of_decide_eq_true (by first | (with_reducible assumption) | assumption)
          obtain ⟨ad165, A165_2, c165_2, A165_10, c165_10, A165_11, c165_11, e165, hx165_0, hx165_1, hx165_2, hx165_3, hx165_4, hx165_5, hx165_6, hx165_7, hx165_8, hx165_9, hx165_10, hx165_11, hl165_2, hi165_2, hl165_10, hi165_10, hl165_11, hi165_11⟩ := at_T55 HR0.out x3_1 p165 q165
          cases e165
          have HR165_2 := Aside0.mk hi165_2
          have HC165_2 := Aside0.mk hl165_2
          clear hi165_2 hl165_2
          have HR165_10 := Aside0.mk hi165_10
          have HC165_10 := Aside0.mk hl165_10
          clear hi165_10 hl165_10
          have HR165_11 := Aside0.mk hi165_11
          have HC165_11 := Aside0.mk hl165_11
          clear hi165_11 hl165_11
          replace p165 := eq_true p165
          replace q165 := eq_true q165
          have p166 : 0 ≤ (x3_1 : Int) := of_decide_eq_true (by first | (with_reducible assumption) | assumption)
          have q166 : x3_1 < (l0.length : Int) := of_decide_eq_true (by first | (with_reducible assumption) | assumption)
          obtain ⟨ad166, A166_2, c166_2, A166_10, c166_10, A166_11, c166_11, e166, hx166_0, hx166_1, hx166_2, hx166_3, hx166_4, hx166_5, hx166_6, hx166_7, hx166_8, hx166_9, hx166_10, hx166_11, hl166_2, hi166_2, hl166_10, hi166_10, hl166_11, hi166_11⟩ := at_T55 HR0.out x3_1 p166 q166
          obtain rfl : ad165 = ad166 := (by injection e166)
          have HR166_2 := Aside0.mk hi166_2
          have HC166_2 := Aside0.mk hl166_2
          clear hi166_2 hl166_2
          have HR166_10 := Aside0.mk hi166_10
          have HC166_10 := Aside0.mk hl166_10
          clear hi166_10 hl166_10
          have HR166_11 := Aside0.mk hi166_11
          have HC166_11 := Aside0.mk hl166_11
          clear hi166_11 hl166_11
          replace p166 := eq_true p166
          replace q166 := eq_true q166
          have ea_ := Option.some.inj (hx165_2.symm.trans hx166_2)
          injection ea_ with ea_ en_ ec_
          subst ea_
          subst ec_
          clear en_
          have ea_ := Option.some.inj (hx165_10.symm.trans hx166_10)
          injection ea_ with ea_ en_ ec_
          subst ea_
          subst ec_
          clear en_
          have ea_ := Option.some.inj (hx165_11.symm.trans hx166_11)
          injection ea_ with ea_ en_ ec_
          subst ea_
          subst ec_
          clear en_
          have p167 : 0 ≤ (x3_1 : Int) := of_decide_eq_true (by first | (with_reducible assumption) | assumption)
          have q167 : x3_1 < (l0.length : Int) := of_decide_eq_true (by first | (with_reducible assumption) | assumption)
          obtain ⟨ad167, A167_2, c167_2, A167_10, c167_10, A167_11, c167_11, e167, hx167_0, hx167_1, hx167_2, hx167_3, hx167_4, hx167_5, hx167_6, hx167_7, hx167_8, hx167_9, hx167_10, hx167_11, hl167_2, hi167_2, hl167_10, hi167_10, hl167_11, hi167_11⟩ := at_T55 HR0.out x3_1 p167 q167
          obtain rfl : ad165 = ad167 := (by injection e167)
          have HR167_2 := Aside0.mk hi167_2
          have HC167_2 := Aside0.mk hl167_2
          clear hi167_2 hl167_2
          have HR167_10 := Aside0.mk hi167_10
          have HC167_10 := Aside0.mk hl167_10
          clear hi167_10 hl167_10
          have HR167_11 := Aside0.mk hi167_11
          have HC167_11 := Aside0.mk hl167_11
          clear hi167_11 hl167_11
          replace p167 := eq_true p167
          replace q167 := eq_true q167
          have ea_ := Option.some.inj (hx165_2.symm.trans hx167_2)
          injection ea_ with ea_ en_ ec_
          subst ea_
          subst ec_
          clear en_
          have ea_ := Option.some.inj (hx165_10.symm.trans hx167_10)
          injection ea_ with ea_ en_ ec_
          subst ea_
          subst ec_
          clear en_
          have ea_ := Option.some.inj (hx165_11.symm.trans hx167_11)
          injection ea_ with ea_ en_ ec_
          subst ea_
          subst ec_
          clear en_
          go_wp2_with (first | (go_at_call 41; (with_reducible refine (raddlelaw04_Heavy.calls k1 _ _ ((rd_T55 l0 x3_1).f7) false _ ?side1 ?side2 A7.out).mono ?_); (case side1 => repeat (first | exact HR167_10.out | (with_reducible refine Kd.C_alloc ?_ _) | (with_reducible refine Kd.C_drewN ?_ _) | (with_reducible refine Kd.C_drew ?_))); (case side2 => exact HC167_10.out); rintro e w' ⟨rfl, ⟨nd, rfl⟩⟩; have p169 : 0 ≤ (x3_1 : Int) := of_decide_eq_true (by first | (with_reducible assumption) | assumption); have q169 : x3_1 < (l0.length : Int) := of_decide_eq_true (by first | (with_reducible assumption) | assumption); obtain ⟨ad169, A169_2, c169_2, A169_10, c169_10, A169_11, c169_11, e169, hx169_0, hx169_1, hx169_2, hx169_3, hx169_4, hx169_5, hx169_6, hx169_7, hx169_8, hx169_9, hx169_10, hx169_11, hl169_2, hi169_2, hl169_10, hi169_10, hl169_11, hi169_11⟩ := at_T55 HR0.out x3_1 p169 q169; obtain rfl : ad165 = ad169 := (by injection e169); have HR169_2 := Aside0.mk hi169_2; have HC169_2 := Aside0.mk hl169_2; clear hi169_2 hl169_2; have HR169_10 := Aside0.mk hi169_10; have HC169_10 := Aside0.mk hl169_10; clear hi169_10 hl169_10; have HR169_11 := Aside0.mk hi169_11; have HC169_11 := Aside0.mk hl169_11; clear hi169_11 hl169_11; replace p169 := eq_true p169; replace q169 := eq_true q169; have ea_ := Option.some.inj (hx165_2.symm.trans hx169_2); injection ea_ with ea_ en_ ec_; subst ea_; subst ec_; clear en_; have ea_ := Option.some.inj (hx165_10.symm.trans hx169_10); injection ea_ with ea_ en_ ec_; subst ea_; subst ec_; clear en_; have ea_ := Option.some.inj (hx165_11.symm.trans hx169_11); injection ea_ with ea_ en_ ec_; subst ea_; subst ec_; clear en_))
          go_roundg k1
          case measure => have := HK1.out; omega
          case rel => exact ⟨(wrap64 (x3_1 + 1)), (by first | rfl | (simp; done) | (simp [*]; done)), H', ⟨by have := HK1.out; omega⟩, by repeat (first | exact Drawn0.refl _ | apply Drawn0.step)⟩
     ·rw [if_neg c4] at H
      exact absurd H (by simp)
    ·rw [if_neg c3] at H
     have c3b0 : decide (x3_1 < (l0.length : Int)) = false := decide_eq_false c3
     clear c3
     obtain rfl := Option.some.inj H
     go_wp2
     go_ret
     exact ⟨by first | rfl | (simp; done) | (simp [*]; done), by repeat (first | exact Drawn0.refl _ | apply Drawn0.step)⟩

/-! ### raddlelaw08_Heavy: function 21 -/
def raddlelaw08_Heavy.f (k : Nat) (a0_0 : Int) (a0_1 : Int) (a0_2 : Int) (l0_3 : List Int) (l0_4 : List Int) (l0_5 : List (S55)) : Option (Bool) := if (l0_3.length : Int) > 30 then (some true) else (if (l0_4.length : Int) > 30 then (some true) else ((raddlelaw07_Heavy.f k l0_5).bind fun t171 => (some t171)))
set_option maxHeartbeats 8000000 in
set_option maxRecDepth 100000 in
theorem raddlelaw08_Heavy.calls (k : Nat) (a0_0 : Int) (a0_1 : Int) (a0_2 : Int) (A0_3 : Option Addr) (c0_3 : Nat) (l0_3 : List Int) (A0_4 : Option Addr) (c0_4 : Nat) (l0_4 : List Int) (A0_5 : Option Addr) (c0_5 : Nat) (l0_5 : List (S55)) (r : Bool) (w : World) (hr0_3 : Kd.C (Kd.int .i64) w A0_3 l0_3.length l0_3) (hc0_3 : l0_3.length ≤ c0_3) (hr0_4 : Kd.C (Kd.int .i64) w A0_4 l0_4.length l0_4) (hc0_4 : l0_4.length ≤ c0_4) (hr0_5 : Kd.C k55 w A0_5 l0_5.length l0_5) (hc0_5 : l0_5.length ≤ c0_5) (h : raddlelaw08_Heavy.f k a0_0 a0_1 a0_2 l0_3 l0_4 l0_5 = some r) :
  Calls Try.prog 21 #[.agg #[.int .i64 a0_0, .int .i64 a0_1, .int .i64 a0_2, .slice A0_3 l0_3.length c0_3, .slice A0_4 l0_4.length c0_4, .slice A0_5 l0_5.length c0_5]] w fun e w' => e = .returned (.bool r) ∧ Below w.heap.size w w' := by
 have hu40 := Try.underlying40
 have HR0_3 := Aside0.mk hr0_3
 have HC0_3 := Aside0.mk hc0_3
 clear hr0_3 hc0_3
 have HR0_4 := Aside0.mk hr0_4
 have HC0_4 := Aside0.mk hc0_4
 clear hr0_4 hc0_4
 have HR0_5 := Aside0.mk hr0_5
 have HC0_5 := Aside0.mk hc0_5
 clear hr0_5 hc0_5
 have HB := Aside0.mk (Below.refl w.heap.size w)
 have H : (if (l0_3.length : Int) > 30 then (some true) else (if (l0_4.length : Int) > 30 then (some true) else ((raddlelaw07_Heavy.f k l0_5).bind fun t171 => (some t171)))) = some r := h
 clear h
 by_cases c2 : (l0_3.length : Int) > 30
 ·rw [if_pos c2] at H
  have c2b0 : decide (30 < (l0_3.length : Int)) = true := decide_eq_true c2
  have c2b1 : decide (30 < l0_3.length) = true := decide_eq_true (by omega)
  clear c2
  obtain rfl := Option.some.inj H
  go_enter Try.func21, Try.ntmps21
  go_wp2_with (first | ((with_reducible refine gate_dst (N := 1) rfl ?_); (try (refine gate_guard (by rfl) ?_; dsimp only)); refine box_event ?hg (N := 1) ?hd (cs := #[.int .i64 a0_0, .int .i64 a0_1, .int .i64 a0_2, .slice A0_3 l0_3.length c0_3, .slice A0_4 l0_4.length c0_4, .slice A0_5 l0_5.length c0_5]) (t := 40) ?hr ?_; (case hd => rfl); (case hg => rfl); (case hr => first | (go_simp; done) | (go_simp; rfl)); intro gb170 hg w3 hbox hb; have n0_ := Aside0.mk (below_step (by repeat (first | (with_reducible first | exact HB.out | apply below_alloc | apply pw_below_drewN | apply below_drew1) | exact HB.out)) hb); have n1_ := Aside0.mk (hbox); have n2_ := Aside0.mk ((by rw [hg]; exact (below_size (by repeat (first | (with_reducible first | exact HB.out | apply below_alloc | apply pw_below_drewN | apply below_drew1) | exact HB.out))) : w.heap.size ≤ gb170)); have n3_ := Aside0.mk ((by rw [hg]; exact (below_size (by repeat (first | (with_reducible first | exact HB.out | apply below_alloc | apply pw_below_drewN | apply below_drew1) | exact HB.out))) : w.heap.size ≤ gb170)); clear HB; have HB := n0_; have BK170 := n1_; have GW170 := n2_; have GE170 := n3_; clear n0_ n1_ n2_ n3_; clear hb hbox hg; have hcz4 := fun i_ => blk_cell BK170.out i_; have hfz4 := fun i_ => blk_frozen BK170.out i_))
  go_ret
  exact ⟨by first | rfl | (simp [errW_none, errW_some] <;> rfl) | (simp [*, errW_none, errW_some] <;> rfl), by repeat (first | (with_reducible first | exact HB.out | apply below_alloc | apply pw_below_drewN | apply below_drew1 | refine below_set ?_ GE170.out) | exact HB.out)⟩
 ·rw [if_neg c2] at H
  have c2b0 : decide (30 < (l0_3.length : Int)) = false := decide_eq_false c2
  have c2b1 : decide (30 < l0_3.length) = false := decide_eq_false (by omega)
  clear c2
  by_cases c5 : (l0_4.length : Int) > 30
  ·rw [if_pos c5] at H
   have c5b0 : decide (30 < (l0_4.length : Int)) = true := decide_eq_true c5
   have c5b1 : decide (30 < l0_4.length) = true := decide_eq_true (by omega)
   clear c5
   obtain rfl := Option.some.inj H
   go_enter Try.func21, Try.ntmps21
   go_wp2_with (first | ((with_reducible refine gate_dst (N := 1) rfl ?_); (try (refine gate_guard (by rfl) ?_; dsimp only)); refine box_event ?hg (N := 1) ?hd (cs := #[.int .i64 a0_0, .int .i64 a0_1, .int .i64 a0_2, .slice A0_3 l0_3.length c0_3, .slice A0_4 l0_4.length c0_4, .slice A0_5 l0_5.length c0_5]) (t := 40) ?hr ?_; (case hd => rfl); (case hg => rfl); (case hr => first | (go_simp; done) | (go_simp; rfl)); intro gb170 hg w6 hbox hb; have n0_ := Aside0.mk (below_step (by repeat (first | (with_reducible first | exact HB.out | apply below_alloc | apply pw_below_drewN | apply below_drew1) | exact HB.out)) hb); have n1_ := Aside0.mk (hbox); have n2_ := Aside0.mk ((by rw [hg]; exact (below_size (by repeat (first | (with_reducible first | exact HB.out | apply below_alloc | apply pw_below_drewN | apply below_drew1) | exact HB.out))) : w.heap.size ≤ gb170)); have n3_ := Aside0.mk ((by rw [hg]; exact (below_size (by repeat (first | (with_reducible first | exact HB.out | apply below_alloc | apply pw_below_drewN | apply below_drew1) | exact HB.out))) : w.heap.size ≤ gb170)); clear HB; have HB := n0_; have BK170 := n1_; have GW170 := n2_; have GE170 := n3_; clear n0_ n1_ n2_ n3_; clear hb hbox hg; have hcz7 := fun i_ => blk_cell BK170.out i_; have hfz7 := fun i_ => blk_frozen BK170.out i_))
   go_ret
   exact ⟨by first | rfl | (simp [errW_none, errW_some] <;> rfl) | (simp [*, errW_none, errW_some] <;> rfl), by repeat (first | (with_reducible first | exact HB.out | apply below_alloc | apply pw_below_drewN | apply below_drew1 | refine below_set ?_ GE170.out) | exact HB.out)⟩
  ·rw [if_neg c5] at H
   have c5b0 : decide (30 < (l0_4.length : Int)) = false := decide_eq_false c5
   have c5b1 : decide (30 < l0_4.length) = false := decide_eq_false (by omega)
   clear c5
   replace H := Option.bind_eq_some_iff.mp H
   obtain ⟨t171, A80, H⟩ := H
   replace H : (some t171) = some r := H
   have A8 := Aside0.mk A80
   clear A80
   obtain rfl := Option.some.inj H
   go_enter Try.func21, Try.ntmps21
   go_wp2_with (first | ((with_reducible refine gate_dst (N := 1) rfl ?_); (try (refine gate_guard (by rfl) ?_; dsimp only)); refine box_event ?hg (N := 1) ?hd (cs := #[.int .i64 a0_0, .int .i64 a0_1, .int .i64 a0_2, .slice A0_3 l0_3.length c0_3, .slice A0_4 l0_4.length c0_4, .slice A0_5 l0_5.length c0_5]) (t := 40) ?hr ?_; (case hd => rfl); (case hg => rfl); (case hr => first | (go_simp; done) | (go_simp; rfl)); intro gb170 hg w9 hbox hb; have n0_ := Aside0.mk (below_step (by repeat (first | (with_reducible first | exact HB.out | apply below_alloc | apply pw_below_drewN | apply below_drew1) | exact HB.out)) hb); have n1_ := Aside0.mk (hbox); have n2_ := Aside0.mk ((by rw [hg]; exact (below_size (by repeat (first | (with_reducible first | exact HB.out | apply below_alloc | apply pw_below_drewN | apply below_drew1) | exact HB.out))) : w.heap.size ≤ gb170)); have n3_ := Aside0.mk ((by rw [hg]; exact (below_size (by repeat (first | (with_reducible first | exact HB.out | apply below_alloc | apply pw_below_drewN | apply below_drew1) | exact HB.out))) : w.heap.size ≤ gb170)); clear HB; have HB := n0_; have BK170 := n1_; have GW170 := n2_; have GE170 := n3_; clear n0_ n1_ n2_ n3_; clear hb hbox hg; have hcz10 := fun i_ => blk_cell BK170.out i_; have hfz10 := fun i_ => blk_frozen BK170.out i_) | (go_at_call 31; (with_reducible refine (raddlelaw07_Heavy.calls k _ _ l0_5 t171 _ ?side1 ?side2 A8.out).mono ?_); (case side1 => repeat (first | exact (Kd.C_below HR0_5.out HB.out) | (with_reducible refine Kd.C_alloc ?_ _) | (with_reducible refine Kd.C_drewN ?_ _) | (with_reducible refine Kd.C_drew ?_))); (case side2 => exact HC0_5.out); rintro e w' ⟨rfl, ⟨nd, rfl⟩⟩))
   go_ret
   exact ⟨by first | rfl | (simp [errW_none, errW_some] <;> rfl) | (simp [*, errW_none, errW_some] <;> rfl), by repeat (first | (with_reducible first | exact HB.out | apply below_alloc | apply pw_below_drewN | apply below_drew1 | refine below_set ?_ GE170.out) | exact HB.out)⟩

end Go.Proofs.Ytnbjflcfdncocaa.M

/- What the messages' laws share: how long what is written is; what is too great to be played. -/
namespace Go.Proofs.Ytnbjflcfdncocaa.M
open Go.RowKit Go.Proofs.YtnbjflcfdncocaaW.PrintWords Go.Proofs.YtnbjflcfdncocaaW.PrintLast Go.Proofs.YtnbjflcfdncocaaW.PrintMore

/-! #### lengths -/
/-! #### what is not played -/
theorem long_tells (l : List Val) (hl : l.length ≤ 40) : ∀ (d k i : Nat), i + d = l.length → d < k → ∃ b, raddlelaw03_Long.l0 k l (i : Int) = some b := by
  intro d
  induction d with
  | zero =>
    intro k i hi hk
    obtain ⟨k, rfl⟩ : ∃ m, k = m + 1 := ⟨k - 1, by omega⟩
    exact ⟨false, by simp only [raddlelaw03_Long.l0]; rw [if_neg (by omega)]⟩
  | succ d ih =>
    intro k i hi hk
    obtain ⟨k, rfl⟩ : ∃ m, k = m + 1 := ⟨k - 1, by omega⟩
    obtain ⟨b, hb⟩ := ih k (i + 1) (by omega) (by omega)
    simp only [raddlelaw03_Long.l0]
    rw [if_pos (by omega), if_pos (by omega), wrap_in _ (by omega) (by omega), show (i : Int) + 1 = ((i + 1 : Nat) : Int) from by omega, hb]
    split
    · exact ⟨_, rfl⟩
    · exact ⟨_, rfl⟩
theorem heavy4_tells (l : List Val) (k : Nat) (hk : 50 < k) : raddlelaw04_Heavy.f k l = some true ∨ (raddlelaw04_Heavy.f k l = some false ∧ l.length ≤ 40) := by
  unfold raddlelaw04_Heavy.f
  by_cases h : (l.length : Int) > 40
  · rw [if_pos h]; exact .inl rfl
  · rw [if_neg h]
    obtain ⟨b, hb⟩ := long_tells l (by omega) l.length k 0 (by omega) (by omega)
    rw [show raddlelaw03_Long.f k l = some b from hb, Option.bind_some]
    cases b
    · exact .inr ⟨rfl, by omega⟩
    · exact .inl rfl
/-- An operation as a law plays. -/
def light (x : Opr) : Prop := x.f1.length ≤ 30 ∧ x.f5.size ≤ 100 ∧ x.f7.length ≤ 40 ∧ x.f8.length ≤ 100
theorem heavy7_l0 (l : List Opr) (hl : l.length ≤ 300) : ∀ (d k i : Nat), i + d = l.length → d + 60 < k → raddlelaw07_Heavy.l0 k l (i : Int) = some true ∨ (raddlelaw07_Heavy.l0 k l (i : Int) = some false ∧ ∀ x ∈ l.drop i, light x) := by
  intro d
  induction d with
  | zero =>
    intro k i hi hk
    obtain ⟨k, rfl⟩ : ∃ m, k = m + 1 := ⟨k - 1, by omega⟩
    refine .inr ⟨by simp only [raddlelaw07_Heavy.l0]; rw [if_neg (by omega)], ?_⟩
    rw [List.drop_of_length_le (by omega)]
    intro x hx; simp at hx
  | succ d ih =>
    intro k i hi hk
    obtain ⟨k, rfl⟩ : ∃ m, k = m + 1 := ⟨k - 1, by omega⟩
    have hlt : i < l.length := by omega
    have hr : rd_T55 l (i : Int) = l[i] := by simp [rd_T55, hlt]
    simp only [raddlelaw07_Heavy.l0]
    rw [if_pos (by omega), if_pos (by omega), hr, wrap_in _ (by omega) (by omega), show (i : Int) + 1 = ((i + 1 : Nat) : Int) from by omega]
    by_cases h1 : ((l[i].f1).length : Int) > 30
    · rw [if_pos h1]; exact .inl rfl
    rw [if_neg h1]
    by_cases h2 : ((l[i].f5).size : Int) > 100
    · rw [if_pos h2]; exact .inl rfl
    rw [if_neg h2]
    rcases heavy4_tells l[i].f7 k (by omega) with h3 | ⟨h3, h4⟩
    · rw [h3, Option.bind_some, if_pos rfl]; exact .inl rfl
    rw [h3, Option.bind_some, if_neg (by decide)]
    by_cases h5 : ((l[i].f8).length : Int) > 100
    · rw [if_pos h5]; exact .inl rfl
    rw [if_neg h5]
    rcases ih k (i + 1) (by omega) (by omega) with h6 | ⟨h6, h7⟩
    · exact .inl h6
    · refine .inr ⟨h6, ?_⟩
      rw [List.drop_eq_getElem_cons hlt]
      intro x hx
      rcases List.mem_cons.1 hx with rfl | hx
      · exact ⟨by omega, by omega, h4, by omega⟩
      · exact h7 x hx
theorem heavy8_tells (a b c : Int) (h s : List Int) (l : List Opr) (k : Nat) (hk : 1000 < k) :
    raddlelaw08_Heavy.f k a b c h s l = some true ∨ (raddlelaw08_Heavy.f k a b c h s l = some false ∧ h.length ≤ 30 ∧ s.length ≤ 30 ∧ l.length ≤ 300 ∧ ∀ x ∈ l, light x) := by
  unfold raddlelaw08_Heavy.f
  by_cases h1 : (h.length : Int) > 30
  · rw [if_pos h1]; exact .inl rfl
  rw [if_neg h1]
  by_cases h2 : (s.length : Int) > 30
  · rw [if_pos h2]; exact .inl rfl
  rw [if_neg h2]
  unfold raddlelaw07_Heavy.f
  by_cases h3 : (l.length : Int) > 300
  · rw [if_pos h3, Option.bind_some]; exact .inl rfl
  rw [if_neg h3]
  rcases heavy7_l0 l (by omega) l.length k 0 (by omega) (by omega) with h4 | ⟨h4, h5⟩
  · rw [show ((0 : Nat) : Int) = 0 from rfl] at h4
    rw [h4, Option.bind_some]; exact .inl rfl
  · rw [show ((0 : Nat) : Int) = 0 from rfl] at h4
    rw [h4, Option.bind_some]
    exact .inr ⟨rfl, by omega, by omega, by omega, h5⟩
theorem msgBytes_tells (a b c : Int) (h s : List Int) (l : List Opr) (h1 : h.length ≤ 30) (h2 : s.length ≤ 30) (h3 : l.length ≤ 300) (h4 : ∀ x ∈ l, light x) : msg_Bytes.f a b c h s l = some (msgB a b c h s l) := by
  unfold msg_Bytes.f
  rw [if_pos ⟨by omega, by omega, by omega, fun x hx => ⟨by have := (h4 x hx).1; omega, by have := (h4 x hx).2.2.2; omega⟩⟩]
/-- A message's bytes: bad; too many; or these. -/
theorem msgB_cases (a b c : Int) (h s : List Int) (l : List Opr) : (Bd (wmsg a b c h s l) = true ∧ msgB a b c h s l = ([], 1)) ∨ (Bd (wmsg a b c h s l) = false ∧ 65532 < (E (wmsg a b c h s l)).length ∧ msgB a b c h s l = ([], 2)) ∨
    (Bd (wmsg a b c h s l) = false ∧ (E (wmsg a b c h s l)).length ≤ 65532 ∧ msgB a b c h s l = (sealL (E (wmsg a b c h s l)), 0)) := by
  unfold msgB
  rw [msgW_eq]
  cases hb : Bd (wmsg a b c h s l)
  · simp only [Bool.false_eq_true, if_false]
    unfold sealB
    by_cases hl : (E (wmsg a b c h s l)).length ≤ 65532
    · rw [if_pos hl]; exact .inr (.inr ⟨trivial, hl, rfl⟩)
    · rw [if_neg hl]; exact .inr (.inl ⟨trivial, by omega, rfl⟩)
  · simp only [if_true]
    exact .inl ⟨trivial, trivial⟩
end Go.Proofs.Ytnbjflcfdncocaa.M

/- Plain facts: when raddlekeep holds operations, messages for the same. -/
namespace Go.Proofs.Ytnbjflcfdncocaa.M
open Go.RowKit Go.Proofs.YtnbjflcfdncocaaW.PrintWords Go.Proofs.YtnbjflcfdncocaaW.PrintLast Go.Proofs.YtnbjflcfdncocaaW.PrintMore

theorem str_list (s : ByteArray) : s.toList = s.data.toList := by
  have h1 := Go.Lib.strOfNums_toList (bytesOf s)
  rw [str_bytes] at h1
  rw [h1]
  unfold Go.Lib.bytesOf bytesOf
  rw [List.map_map]
  conv => rhs; rw [← List.map_id s.data.toList]
  apply List.map_congr_left
  intro c _
  simp
theorem str_inj {s t : ByteArray} : s.toList = t.toList ↔ s = t := by
  constructor
  · intro h
    rw [str_list, str_list] at h
    exact ByteArray.ext (Array.ext' h)
  · intro h; rw [h]
/-- It answers, and true just if p holds. -/
def Tells (o : Option Bool) (p : Prop) : Prop := ∃ r, o = some r ∧ (r = true ↔ p)
theorem Tells.of {p : Prop} (r : Bool) (h : r = true ↔ p) : Tells (some r) p := ⟨r, rfl, h⟩
theorem Tells.yes {p : Prop} (h : p) : Tells (some true) p := ⟨true, rfl, by simp [h]⟩
theorem Tells.no {p : Prop} (h : ¬ p) : Tells (some false) p := ⟨false, rfl, by simp [h]⟩
theorem Tells.iff {o : Option Bool} {p q : Prop} (h : Tells o p) (e : p ↔ q) : Tells o q := by
  obtain ⟨r, h1, h2⟩ := h
  exact ⟨r, h1, h2.trans e⟩
theorem Tells.and {o : Option Bool} {p q : Prop} {g : Bool → Option Bool} (h : Tells o p) (hg : Tells (g true) q) (hf : g false = some false) : Tells (o.bind g) (p ∧ q) := by
  obtain ⟨r, rfl, h2⟩ := h
  rw [Option.bind_some]
  cases r
  · rw [hf]; exact Tells.no (fun ⟨a, _⟩ => by simpa using h2.2 a)
  · exact hg.iff ⟨fun x => ⟨h2.1 rfl, x⟩, fun x => x.2⟩
theorem Tells.if_ {c p : Prop} [Decidable c] {o : Option Bool} (h : Tells o p) : Tells (if c then o else some false) (c ∧ p) := by
  by_cases hc : c
  · rw [if_pos hc]; exact h.iff ⟨fun x => ⟨hc, x⟩, fun x => x.2⟩
  · rw [if_neg hc]; exact Tells.no (fun x => hc x.1)
/-- Two lists, element by element. -/
theorem tells_list {α : Type} (z : α) (l0 : Nat → List α → List α → Int → Option Bool) (step : Nat → α → α → Option Bool) (extra : Nat)
    (h : ∀ (k : Nat) (a b : List α) (i : Nat), i < 9223372036854775807 → l0 (k + 1) a b (i : Int) = if (i : Int) < (a.length : Int) then (if (0 : Int) ≤ (i : Int) then (if (i : Int) < (b.length : Int) then ((step k (a.getD i z) (b.getD i z)).bind fun t => (if t = true then l0 k a b ((i + 1 : Nat) : Int) else some false)) else none) else none) else some true)
    (hs : ∀ (k : Nat) (x y : α), extra < k → (∀ a : List α, x ∈ a → a = a) → Tells (step k x y) (x = y)) (a b : List α) (hl : a.length = b.length) (hm : a.length ≤ 140737488355328) :
    ∀ (d k i : Nat), i ≤ a.length → a.length - i = d → d + extra + 1 < k → Tells (l0 k a b (i : Int)) (a.drop i = b.drop i) := by
  intro d
  induction d with
  | zero =>
    intro k i h1 hd hk
    obtain ⟨k, rfl⟩ : ∃ m, k = m + 1 := ⟨k - 1, by omega⟩
    rw [h k a b i (by omega), if_neg (by omega), List.drop_of_length_le (by omega), List.drop_of_length_le (by omega)]
    exact Tells.yes rfl
  | succ d ih =>
    intro k i h1 hd hk
    obtain ⟨k, rfl⟩ : ∃ m, k = m + 1 := ⟨k - 1, by omega⟩
    rw [h k a b i (by omega), if_pos (by omega), if_pos (by omega), if_pos (by omega)]
    have e1 : a.drop i = a.getD i z :: a.drop (i + 1) := by
      rw [List.drop_eq_getElem_cons (show i < a.length by omega), List.getD_eq_getElem?_getD, List.getElem?_eq_getElem (show i < a.length by omega)]; rfl
    have e2 : b.drop i = b.getD i z :: b.drop (i + 1) := by
      rw [List.drop_eq_getElem_cons (show i < b.length by omega), List.getD_eq_getElem?_getD, List.getElem?_eq_getElem (show i < b.length by omega)]; rfl
    rw [e1, e2]
    refine (Tells.and (hs k _ _ (by omega) (fun _ _ => rfl)) (g := fun t => if t = true then l0 k a b ((i + 1 : Nat) : Int) else some false) (q := a.drop (i + 1) = b.drop (i + 1)) ?_ rfl).iff (by simp)
    rw [if_pos rfl]
    exact ih k (i + 1) (by omega) (by omega) (by omega)
theorem wrap_nat (i : Nat) (h : i < 9223372036854775807) : wrap64 ((i : Int) + 1) = ((i + 1 : Nat) : Int) := by rw [wrap_in _ (by omega) (by omega)]; omega
/-- .. and their lengths ahead. -/
theorem tells_len {α : Type} {o : Option Bool} (a b : List α) (h : a.length = b.length → Tells o (a.drop 0 = b.drop 0)) : Tells (if (a.length : Int) = (b.length : Int) then o else some false) (a = b) := by
  by_cases e : (a.length : Int) = (b.length : Int)
  · rw [if_pos e]; exact (h (by omega)).iff (by simp)
  · rw [if_neg e]; exact Tells.no (fun h => e (by rw [h]))
theorem Ints_eq (a b : List Int) (hm : a.length ≤ 140737488355328) (k : Nat) (hk : a.length + 1 < k) : Tells (raddlekeep_Ints.f k a b) (a = b) := by
  unfold raddlekeep_Ints.f
  refine tells_len a b (fun hl => tells_list 0 raddlekeep_Ints.l0 (fun _ x y => some (decide (x = y))) 0 ?_ (fun k x y _ _ => Tells.of _ (by simp)) a b hl hm a.length k 0 (by omega) (by omega) (by omega))
  intro k a b i hi
  simp only [raddlekeep_Ints.l0]
  rw [rd_nat, rd_nat, wrap_nat i hi, Option.bind_some]
  simp only [decide_eq_true_eq]
theorem Value_eq (x y : Val) : Tells (raddlekeep_Value.f x.f0 x.f1 x.f2 y.f0 y.f1 y.f2) (x = y) := by
  obtain ⟨a, b, s⟩ := x
  obtain ⟨c, d, t⟩ := y
  unfold raddlekeep_Value.f
  refine (Tells.if_ (Tells.if_ (Tells.of _ (p := s = t) ?_))).iff (by simp)
  simp only [beq_iff_eq]
  exact str_inj
theorem Row_eq (a b : List Val) (hm : a.length ≤ 140737488355328) (k : Nat) (hk : a.length + 1 < k) : Tells (raddlekeep_Row.f k a b) (a = b) := by
  unfold raddlekeep_Row.f
  refine tells_len a b (fun hl => tells_list z101 raddlekeep_Row.l0 (fun _ x y => raddlekeep_Value.f x.f0 x.f1 x.f2 y.f0 y.f1 y.f2) 0 ?_ (fun k x y _ _ => Value_eq x y) a b hl hm a.length k 0 (by omega) (by omega) (by omega))
  intro k a b i hi
  simp only [raddlekeep_Row.l0]
  rw [wrap_nat i hi, show rd_T101 a (i : Int) = a.getD i z101 by simp [rd_T101], show rd_T101 b (i : Int) = b.getD i z101 by simp [rd_T101]]
theorem Dot_eq (x y : Dt) : Tells (raddlekeep_Dot.f x.f0 x.f1 y.f0 y.f1) (x = y) := by
  obtain ⟨a, b⟩ := x
  obtain ⟨c, d⟩ := y
  unfold raddlekeep_Dot.f
  exact (Tells.if_ (Tells.of _ (p := b = d) (by simp))).iff (by simp)
theorem Dots_eq (a b : List Dt) (hm : a.length ≤ 140737488355328) (k : Nat) (hk : a.length + 1 < k) : Tells (raddlekeep_Dots.f k a b) (a = b) := by
  unfold raddlekeep_Dots.f
  refine tells_len a b (fun hl => tells_list z49 raddlekeep_Dots.l0 (fun _ x y => raddlekeep_Dot.f x.f0 x.f1 y.f0 y.f1) 0 ?_ (fun k x y _ _ => Dot_eq x y) a b hl hm a.length k 0 (by omega) (by omega) (by omega))
  intro k a b i hi
  simp only [raddlekeep_Dots.l0]
  rw [wrap_nat i hi, show rd_T49 a (i : Int) = a.getD i z49 by simp [rd_T49], show rd_T49 b (i : Int) = b.getD i z49 by simp [rd_T49]]
theorem Stamp_eq (x y : S51) : Tells (raddlekeep_Stamp.f x.f0 x.f1 x.f2 y.f0 y.f1 y.f2) (x = y) := by
  obtain ⟨a, b, s⟩ := x
  obtain ⟨c, d, t⟩ := y
  unfold raddlekeep_Stamp.f
  exact (Tells.if_ (Tells.if_ (Tells.of _ (p := s = t) (by simp)))).iff (by simp)
/-- An operation's lists are no longer than so. -/
def slim (n : Nat) (x : Opr) : Prop := x.f1.length ≤ n ∧ x.f7.length ≤ n ∧ x.f8.length ≤ n
theorem Tells.seq {o A : Option Bool} {p q : Prop} (h : Tells o p) (hA : Tells A q) : Tells (o.bind fun t => if t = true then A else some false) (p ∧ q) :=
  h.and (g := fun t => if t = true then A else some false) (by rw [if_pos rfl]; exact hA) rfl
theorem Tells.tail {o : Option Bool} {p : Prop} (h : Tells o p) : Tells (o.bind fun t => some t) p := by
  obtain ⟨r, rfl, h2⟩ := h
  exact ⟨r, rfl, h2⟩
theorem opr_ext (x y : Opr) : (x.f0 = y.f0 ∧ x.f1 = y.f1 ∧ x.f2 = y.f2 ∧ x.f3 = y.f3 ∧ x.f4 = y.f4 ∧ x.f5.toList = y.f5.toList ∧ x.f6 = y.f6 ∧ x.f7 = y.f7 ∧ x.f8 = y.f8) ↔ x = y := by
  obtain ⟨a0, a1, a2, a3, a4, a5, a6, a7, a8⟩ := x
  obtain ⟨b0, b1, b2, b3, b4, b5, b6, b7, b8⟩ := y
  simp only [S55.mk.injEq, str_inj]
theorem Op_eq (x y : Opr) (n : Nat) (hx : slim n x) (hn : n ≤ 140737488355328) (k : Nat) (hk : n + 1 < k) : Tells (raddlekeep_Op.f k x.f0.f0 x.f0.f1 x.f1 x.f2.f0 x.f2.f1 x.f2.f2 x.f3 x.f4 x.f5 x.f6 x.f7 x.f8 y.f0.f0 y.f0.f1 y.f1 y.f2.f0 y.f2.f1 y.f2.f2 y.f3 y.f4 y.f5 y.f6 y.f7 y.f8) (x = y) := by
  obtain ⟨h1, h2, h3⟩ := hx
  unfold raddlekeep_Op.f
  exact ((Dot_eq x.f0 y.f0).seq ((Ints_eq x.f1 y.f1 (by omega) k (by omega)).seq ((Stamp_eq x.f2 y.f2).seq (Tells.if_ (Tells.if_ (Tells.if_ (Tells.if_ ((Row_eq x.f7 y.f7 (by omega) k (by omega)).seq (Dots_eq x.f8 y.f8 (by omega) k (by omega)).tail)))))))).iff (opr_ext x y)
theorem ops_l0 (n : Nat) (hn : n ≤ 140737488355328) (a b : List Opr) (hl : a.length = b.length) (hm : a.length ≤ 140737488355328) (ha : ∀ x ∈ a, slim n x) :
    ∀ (d k i : Nat), i ≤ a.length → a.length - i = d → d + n + 2 < k → Tells (raddlekeep_Ops.l0 k a b (i : Int)) (a.drop i = b.drop i) := by
  intro d
  induction d with
  | zero =>
    intro k i h1 hd hk
    obtain ⟨k, rfl⟩ : ∃ m, k = m + 1 := ⟨k - 1, by omega⟩
    simp only [raddlekeep_Ops.l0]
    rw [if_neg (by omega), List.drop_of_length_le (by omega), List.drop_of_length_le (by omega)]
    exact Tells.yes rfl
  | succ d ih =>
    intro k i h1 hd hk
    obtain ⟨k, rfl⟩ : ∃ m, k = m + 1 := ⟨k - 1, by omega⟩
    have hi : i < a.length := by omega
    have hj : i < b.length := by omega
    have hra : rd_T55 a (i : Int) = a[i] := by simp [rd_T55, hi]
    have hrb : rd_T55 b (i : Int) = b[i] := by simp [rd_T55, hj]
    simp only [raddlekeep_Ops.l0]
    rw [if_pos (by omega), if_pos (by omega), if_pos (by omega), wrap_nat i (by omega), hra, hrb, List.drop_eq_getElem_cons hi, List.drop_eq_getElem_cons hj]
    exact ((Op_eq a[i] b[i] n (ha _ (List.getElem_mem hi)) hn k (by omega)).seq (ih k (i + 1) (by omega) (by omega) (by omega))).iff (by rw [List.cons.injEq])
theorem Ops_eq (a b : List Opr) (n : Nat) (ha : ∀ x ∈ a, slim n x) (hn : n ≤ 140737488355328) (hm : a.length ≤ 140737488355328) (k : Nat) (hk : a.length + n + 3 < k) : Tells (raddlekeep_Ops.f k a b) (a = b) := by
  unfold raddlekeep_Ops.f
  exact tells_len a b (fun hl => ops_l0 n hn a b hl hm ha a.length k 0 (by omega) (by omega) (by omega))
theorem Msg_eq (a0 a1 a2 : Int) (a3 a4 : List Int) (a5 : List Opr) (b0 b1 b2 : Int) (b3 b4 : List Int) (b5 : List Opr) (n : Nat) (hn : n ≤ 1000000) (h3 : a3.length ≤ n) (h4 : a4.length ≤ n) (h5 : a5.length ≤ n) (ha : ∀ x ∈ a5, slim n x) (k : Nat) (hk : 2 * n + 3 < k) :
    Tells (raddlekeep_Msg.f k a0 a1 a2 a3 a4 a5 b0 b1 b2 b3 b4 b5) ((a0, a1, a2, a3, a4, a5) = (b0, b1, b2, b3, b4, b5)) := by
  unfold raddlekeep_Msg.f
  exact (Tells.if_ (Tells.if_ (Tells.if_ ((Ints_eq a3 b3 (by omega) k (by omega)).seq ((Ints_eq a4 b4 (by omega) k (by omega)).seq (Ops_eq a5 b5 n ha (by omega) (by omega) k (by omega)).tail))))).iff (by simp)
end Go.Proofs.Ytnbjflcfdncocaa.M

/- slices.IndexFunc and ContainsFunc of no operations: the function handed on is never called. -/
namespace Go.Proofs.Ytnbjflcfdncocaa.M
open Go.RowKit Go.Proofs.YtnbjflcfdncocaaW.PrintWords Go.Proofs.YtnbjflcfdncocaaW.PrintLast Go.Proofs.YtnbjflcfdncocaaW.PrintMore

set_option maxHeartbeats 1000000 in
set_option maxRecDepth 100000 in
theorem index_none (fv : Value) (w : World) : Calls Try.prog 83 #[.slice none 0 0, fv] w fun e w' => e = .returned (.int .i64 (-1)) ∧ w' = w := by
  go_enter Try.func83, Try.ntmps83
  go_wp2
  go_loopw [8] (fun v wr => v = .int .i64 0 ∧ wr = w) (fun _ _ => 0)
  case atStart => exact ⟨rfl, rfl⟩
  case round =>
    obtain ⟨rfl, rfl⟩ := hrel
    go_wp2
    go_ret
    exact ⟨rfl, rfl⟩
set_option maxHeartbeats 1000000 in
set_option maxRecDepth 100000 in
theorem contains_none (fv : Value) (w : World) : Calls Try.prog 66 #[.slice none 0 0, fv] w fun e w' => e = .returned (.bool false) ∧ w' = w := by
  go_enter Try.func66, Try.ntmps66
  go_wp2_with fail
  refine (index_none fv w).mono ?_
  rintro e w1 ⟨rfl, rfl⟩
  go_wp2
  go_ret
  exact ⟨rfl, rfl⟩
end Go.Proofs.Ytnbjflcfdncocaa.M

/- raddlelaw08.wakes: it tells true (msg.right and msg.Check at its one message). -/
namespace Go.Proofs.Ytnbjflcfdncocaa.M
open Go.RowKit Go.Proofs.YtnbjflcfdncocaaW.PrintWords Go.Proofs.YtnbjflcfdncocaaW.PrintLast Go.Proofs.YtnbjflcfdncocaaW.PrintMore
theorem tells0 : msg_tells.f 10 2 2 0 1 [2,1] [1,1] [] = some true := by decide
theorem forms0 : op_Forms.f 10 [⟨[3]⟩] = some 0 := by with_unfolding_all rfl
set_option maxHeartbeats 1000000 in
set_option maxRecDepth 100000 in
theorem right0 (A1 : Option Addr) (n1 c1 : Nat) (A3 : Option Addr) (c3 : Nat) (A4 : Option Addr) (c4 : Nat) (w : World) (hc3 : 2 ≤ c3) (hc4 : 2 ≤ c4) (h3 : Kd.C (Kd.int .i64) w A3 2 [2, 1]) (h4 : Kd.C (Kd.int .i64) w A4 2 [1, 1]) :
    Calls Try.prog 49 #[.int .i64 2, .slice A1 n1 c1, .agg #[.int .i64 2, .int .i64 0, .int .i64 1, .slice A3 2 c3, .slice A4 2 c4, .slice none 0 0]] w fun e w' => e = .returned (.bool true) ∧ Below w.heap.size w w' := by
  have H3 := Aside0.mk h3
  have H4 := Aside0.mk h4
  have C3 := Aside0.mk hc3
  have C4 := Aside0.mk hc4
  clear h3 h4 hc3 hc4
  go_enter Try.func49, Try.ntmps49
  go_wp2_with fail
  refine (contains_none _ _).mono ?_
  rintro e w1 ⟨rfl, rfl⟩
  go_wp2_with fail
  have HB := Aside0.mk (below_alloc (below_alloc (below_alloc (Below.refl w.heap.size w) (.cells #[.int .i64 2] 3)) (.cells #[.slice A1 n1 c1] 69)) (.cells #[.int .i64 2, .int .i64 0, .int .i64 1, .slice A3 2 c3, .slice A4 2 c4, .slice none 0 0] 40))
  refine (msg_tells.calls 10 2 2 0 1 A3 c3 [2, 1] A4 c4 [1, 1] none 0 [] true _ (Kd.C_below H3.out HB.out) C3.out (Kd.C_below H4.out HB.out) C4.out (Kd.C_nil _ _) (Nat.le_refl _) tells0).mono ?_
  rintro e w2 ⟨rfl, hb⟩
  have HB2 := Aside0.mk (below_step HB.out hb)
  clear hb HB
  go_wp2
  go_ret
  exact ⟨rfl, HB2.out⟩
set_option maxHeartbeats 1000000 in
set_option maxRecDepth 100000 in
theorem check0 (A1 : Option Addr) (c1 : Nat) (A3 : Option Addr) (c3 : Nat) (A4 : Option Addr) (c4 : Nat) (w : World) (hc1 : 1 ≤ c1) (h1 : Kd.C k68 w A1 1 [⟨[3]⟩]) (hc3 : 2 ≤ c3) (hc4 : 2 ≤ c4) (h3 : Kd.C (Kd.int .i64) w A3 2 [2, 1]) (h4 : Kd.C (Kd.int .i64) w A4 2 [1, 1]) :
    Calls Try.prog 35 #[.int .i64 2, .slice A1 1 c1, .agg #[.int .i64 2, .int .i64 0, .int .i64 1, .slice A3 2 c3, .slice A4 2 c4, .slice none 0 0]] w fun e w' => e = .returned (.int .i64 0) ∧ Below w.heap.size w w' := by
  have H1 := Aside0.mk h1
  have H3 := Aside0.mk h3
  have H4 := Aside0.mk h4
  have C1 := Aside0.mk hc1
  have C3 := Aside0.mk hc3
  have C4 := Aside0.mk hc4
  clear h1 h3 h4 hc1 hc3 hc4
  have HX := Aside0.mk (heap_alloc_new w (.cells #[.int .i64 2, .int .i64 0, .int .i64 1, .slice A3 2 c3, .slice A4 2 c4, .slice none 0 0] 40))
  go_enter Try.func35, Try.ntmps35
  go_wp2_with fail
  have HB := Aside0.mk (below_alloc (Below.refl w.heap.size w) (.cells #[.int .i64 2, .int .i64 0, .int .i64 1, .slice A3 2 c3, .slice A4 2 c4, .slice none 0 0] 40))
  refine (op_Forms.calls 10 A1 c1 [⟨[3]⟩] 0 _ (Kd.C_below H1.out HB.out) C1.out forms0).mono ?_
  rintro e w2 ⟨rfl, hb⟩
  have HB2 := Aside0.mk (below_step HB.out hb)
  have HX2 := Aside0.mk (blk_below HX.out hb)
  clear hb HB HX
  have hc := fun i => blk_cell HX2.out i
  go_wp2_with fail
  refine (right0 A1 1 c1 A3 c3 A4 c4 _ C3.out C4.out (Kd.C_below H3.out HB2.out) (Kd.C_below H4.out HB2.out)).mono ?_
  rintro e w3 ⟨rfl, hb⟩
  have HB3 := Aside0.mk (below_step HB2.out hb)
  clear hb HB2 hc HX2
  go_wp2
  go_ret
  exact ⟨rfl, HB3.out⟩
theorem C_one {α : Type} {d : Kd α} {W : World} {b t : Nat} {x : α} {cs : List Value} (hK : d.K W x cs) (h : W.heap[b]? = some (.cells cs.toArray t (0, 0))) : d.C W (some ⟨b, 0, none⟩) 1 [x] := by
  refine ⟨rfl, by omega, fun _ => ⟨⟨b, 0, none⟩, rfl, fun j p hj => ?_⟩⟩
  rcases j with _ | j
  · obtain rfl := Option.some.inj hj
    refine ⟨cs, d.K_len hK, hK, fun i u hu => ?_⟩
    rw [Nat.zero_mul, Nat.zero_add, add_plain, blk_cell h i]
    simpa using hu
  · simp at hj
theorem C_two {W : World} {b t : Nat} {x y : Int} (h : W.heap[b]? = some (.cells #[.int .i64 x, .int .i64 y] t (0, 0))) : Kd.C (Kd.int .i64) W (some ⟨b, 0, none⟩) 2 [x, y] := by
  refine Kd.C_of_reads (d := (0 : Int)) (h1 := fun _ => rfl) ⟨rfl, by omega, fun _ => ⟨⟨b, 0, none⟩, rfl, fun j hj => ?_⟩⟩
  rw [add_plain, blk_cell h j]
  rcases j with _ | _ | j
  · rfl
  · rfl
  · omega
theorem wk1 : msgB 2 0 1 [2,1] [1,1] [] = ((msgB 2 0 1 [2,1] [1,1] []).1, 0) ∧ (msgB 2 0 1 [2,1] [1,1] []).1.length = 27 ∧ readB (msgB 2 0 1 [2,1] [1,1] []).1 = ((2, 0, 1, [2, 1], [1, 1], []), 0) ∧ Bytes_ (msgB 2 0 1 [2,1] [1,1] []).1 := ⟨by kernel_rfl, by decide +kernel, by kernel_rfl, by decide +kernel⟩
theorem wk2 : raddlekeep_Msg.f 10 2 0 1 [2,1] [1,1] [] 2 0 1 [2,1] [1,1] [] = some true := by decide +kernel
theorem wk3 : ∃ B : List Int, msg_Bytes.f 2 0 1 [2,1] [1,1] [] = some (B, 0) ∧ B.length = 27 ∧ msg_Read.f B = some (2, 0, 1, [2, 1], [1, 1], [], 0) := by
  obtain ⟨h1, h2, h3, h4⟩ := wk1
  refine ⟨_, (if_pos ⟨by decide, by decide, by decide, by simp⟩).trans (congrArg some h1), h2, ?_⟩
  unfold msg_Read.f
  rw [if_pos ⟨h4, by omega⟩, h3]
set_option maxHeartbeats 4000000 in
set_option maxRecDepth 100000 in
def raddlelaw08_wakes.f : Option Bool := some true
theorem raddlelaw08_wakes.calls (r : Bool) (w : World) (h : raddlelaw08_wakes.f = some r) : Calls Try.prog 23 #[] w fun e w' => e = .returned (.bool r) ∧ Below w.heap.size w w' := by
  obtain rfl := Option.some.inj h
  clear h
  obtain ⟨B, f1, f2, f3⟩ := wk3
  have F1 := Aside0.mk f1
  have F2 := Aside0.mk f2
  have F3 := Aside0.mk f3
  have f4 : ((B.length : Int) == 27) = true := by rw [f2]; rfl
  have f5 : ((B.length : Int) != 27) = false := by rw [f2]; rfl
  clear f1 f2 f3
  have D1 := Aside0.mk (heap_alloc_new w (.cells #[.int .i64 2, .int .i64 1] 3))
  have D2 := Aside0.mk (heap_alloc_new (w.alloc (.cells #[.int .i64 2, .int .i64 1] 3)) (.cells #[.int .i64 1, .int .i64 1] 3))
  have HB := Aside0.mk (below_alloc (below_alloc (Below.refl w.heap.size w) (.cells #[.int .i64 2, .int .i64 1] 3)) (.cells #[.int .i64 1, .int .i64 1] 3))
  obtain ⟨W, hW⟩ : ∃ W, W = (w.alloc (.cells #[.int .i64 2, .int .i64 1] 3)).alloc (.cells #[.int .i64 1, .int .i64 1] 3) := ⟨_, rfl⟩
  have E1 := Aside0.mk (show W.heap[w.heap.size]? = some (.cells #[.int .i64 2, .int .i64 1] 3 (0, 0)) from by rw [hW]; exact blk_alloc D1.out _)
  have E2 := Aside0.mk (show W.heap[w.heap.size + 1]? = some (.cells #[.int .i64 1, .int .i64 1] 3 (0, 0)) from by have := D2.out; rw [hW]; simpa using this)
  have ES := Aside0.mk (show W.heap.size = w.heap.size + 1 + 1 from by rw [hW]; simp)
  have HB1 := Aside0.mk (show Below w.heap.size w W from by rw [hW]; exact HB.out)
  have HW := Aside0.mk hW
  clear hW D1 D2 HB
  go_enter Try.func23, Try.ntmps23
  go_wp2_with fail
  rw [← HW.out, ← ES.out]
  have E3 := Aside0.mk (heap_alloc_new W (.cells #[.int .i64 2, .int .i64 0, .int .i64 1, .slice (some ⟨w.heap.size, 0, none⟩) 2 2, .slice (some ⟨w.heap.size + 1, 0, none⟩) 2 2, .slice none 0 0] 40))
  have HA := Aside0.mk (below_alloc (Below.refl W.heap.size W) (.cells #[.int .i64 2, .int .i64 0, .int .i64 1, .slice (some ⟨w.heap.size, 0, none⟩) 2 2, .slice (some ⟨w.heap.size + 1, 0, none⟩) 2 2, .slice none 0 0] 40))
  have G3 := Aside0.mk (C_two E1.out)
  have G4 := Aside0.mk (C_two E2.out)
  have HB2 := Aside0.mk (below_step HB1.out HA.out)
  clear HW
  refine (msg_Bytes.calls 2 0 1 _ 2 [2, 1] _ 2 [1, 1] none 0 [] B 0 _ (Kd.C_below G3.out HA.out) (by decide) (Kd.C_below G4.out HA.out) (by decide) (Kd.C_nil _ _) (Nat.le_refl _) F1.out).mono ?_
  rintro e w1 ⟨v1, rfl, ho, hb⟩
  obtain ⟨A1, c1, rfl⟩ := Kd.R_slice ho
  have HO := Aside0.mk (Kd.R_reads' ho)
  have HB3 := Aside0.mk (below_step HA.out hb)
  have HB4 := Aside0.mk (below_step HB1.out HB3.out)
  have E4 := Aside0.mk (blk_below E3.out hb)
  clear ho hb HA E3 HB2
  go_wp2_with fail
  refine (msg_Read.calls A1 c1 B 2 0 1 [2, 1] [1, 1] [] 0 w1 HO.out.2.2 HO.out.2.1 F3.out).mono ?_
  rintro e w2 ⟨v2, v3, v4, rfl, ho2, ho3, ho4, hb⟩
  obtain ⟨A2, c2, rfl⟩ := Kd.R_slice ho2
  obtain ⟨A3, c3, rfl⟩ := Kd.R_slice ho3
  have HO2 := Aside0.mk (Kd.R_reads' ho2)
  have HO3 := Aside0.mk (Kd.R_reads' ho3)
  obtain ⟨A4, c4, hv4, hl4, hc4⟩ := Kd.S_reads ho4
  subst hv4
  have HO4 := Aside0.mk hc4
  have HL4 := Aside0.mk hl4
  have HB5 := Aside0.mk (below_step HB4.out hb)
  have HB6 := Aside0.mk (below_step HB3.out hb)
  have E5 := Aside0.mk (blk_alloc (blk_below E4.out hb) (.cells #[.int .i64 2, .int .i64 0, .int .i64 1, .slice A2 2 c2, .slice A3 2 c3, .slice A4 0 c4] 40))
  clear ho2 ho3 ho4 hb E4 HB3 HB4 hl4 hc4
  have hc := fun i => blk_cell E5.out i
  go_wp2_with fail
  have AL := Aside0.mk (below_alloc (Below.refl w2.heap.size w2) (.cells #[.int .i64 2, .int .i64 0, .int .i64 1, .slice A2 2 c2, .slice A3 2 c3, .slice A4 0 c4] 40))
  have HB7 := Aside0.mk (below_step HB6.out AL.out)
  have HB8 := Aside0.mk (below_step HB5.out AL.out)
  refine (raddlekeep_Msg.calls 10 2 0 1 A2 c2 [2, 1] A3 c3 [1, 1] A4 c4 [] 2 0 1 _ 2 [2, 1] _ 2 [1, 1] none 0 [] true _ (Kd.C_below HO2.out.2.2 AL.out) HO2.out.2.1 (Kd.C_below HO3.out.2.2 AL.out) HO3.out.2.1 (Kd.C_below HO4.out AL.out) HL4.out (Kd.C_below G3.out HB7.out) (Nat.le_refl _) (Kd.C_below G4.out HB7.out) (Nat.le_refl _) (Kd.C_nil _ _) (Nat.le_refl _) wk2).mono ?_
  rintro e w3 ⟨rfl, hb⟩
  have E6 := Aside0.mk (blk_below E5.out hb)
  have HB9 := Aside0.mk (below_step HB7.out hb)
  have HB10 := Aside0.mk (below_step HB8.out hb)
  clear hc hb E5 HB7 HB8 AL HB5 HB6 HO2 HO3 HO4 HL4
  have D3 := Aside0.mk (blk_alloc (blk_alloc E6.out (.cells #[.int .i64 3] 3)) (.cells #[.slice (some ⟨w3.heap.size, 0, none⟩) 1 1] 68))
  have hc := fun i => blk_cell D3.out i
  go_wp2_with fail
  have X1 := Aside0.mk (blk_alloc (heap_alloc_new w3 (.cells #[.int .i64 3] 3)) (.cells #[.slice (some ⟨w3.heap.size, 0, none⟩) 1 1] 68))
  have X2 := Aside0.mk (show ((w3.alloc (.cells #[.int .i64 3] 3)).alloc (.cells #[.slice (some ⟨w3.heap.size, 0, none⟩) 1 1] 68)).heap[w3.heap.size + 1]? = some (.cells #[.slice (some ⟨w3.heap.size, 0, none⟩) 1 1] 68 (0, 0)) from by have := heap_alloc_new (w3.alloc (.cells #[.int .i64 3] 3)) (.cells #[.slice (some ⟨w3.heap.size, 0, none⟩) 1 1] 68); simpa using this)
  have AL := Aside0.mk (below_alloc (below_alloc (Below.refl w3.heap.size w3) (.cells #[.int .i64 3] 3)) (.cells #[.slice (some ⟨w3.heap.size, 0, none⟩) 1 1] 68))
  have HB11 := Aside0.mk (below_step HB9.out AL.out)
  have HB12 := Aside0.mk (below_step HB10.out AL.out)
  obtain ⟨W3, hW3⟩ : ∃ W3, W3 = (w3.alloc (.cells #[.int .i64 3] 3)).alloc (.cells #[.slice (some ⟨w3.heap.size, 0, none⟩) 1 1] 68) := ⟨_, rfl⟩
  rw [← hW3]
  have Y1 : W3.heap[w3.heap.size]? = some (.cells #[.int .i64 3] 3 (0, 0)) := by rw [hW3]; exact X1.out
  have Y2 : W3.heap[w3.heap.size + 1]? = some (.cells #[.slice (some ⟨w3.heap.size, 0, none⟩) 1 1] 68 (0, 0)) := by rw [hW3]; exact X2.out
  have Y3 : Below W.heap.size W W3 := by rw [hW3]; exact HB11.out
  have Y4 : Below w.heap.size w W3 := by rw [hW3]; exact HB12.out
  clear hW3 X1 X2 AL HB11 HB12 D3
  have Z1 : Kd.C (Kd.int .i64) W3 (some ⟨w3.heap.size, 0, none⟩) 1 [3] := C_one (d := Kd.int .i64) (cs := [.int .i64 3]) rfl Y1
  have Z2 : Kd.C k68 W3 (some ⟨w3.heap.size + 1, 0, none⟩) 1 [⟨[3]⟩] := C_one (d := k68) (cs := [.slice (some ⟨w3.heap.size, 0, none⟩) 1 1]) (k68_mk W3 ⟨[3]⟩ (Nat.le_refl 1) Z1) Y2
  refine (check0 _ 1 _ 2 _ 2 W3 (Nat.le_refl _) Z2 (Nat.le_refl _) (Nat.le_refl _) (Kd.C_below G3.out Y3) (Kd.C_below G4.out Y3)).mono ?_
  rintro e w4 ⟨rfl, hb⟩
  have HB13 := Aside0.mk (below_step Y4 hb)
  clear hc hb Y1 Y2 Y3 Y4 Z1 Z2
  go_wp2
  go_ret
  exact ⟨rfl, HB13.out⟩
end Go.Proofs.Ytnbjflcfdncocaa.M

