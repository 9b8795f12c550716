/- Messages that are right. No condition. -/
import Derived.Test.YthflichlfpmenaaGreatR1M
import Derived.Test.YthflichlfpmenaaGreatR1U
namespace Mg
open Go Go.RowKit
set_option maxRecDepth 100000
set_option linter.unusedVariables false
set_option linter.unusedSimpArgs false
attribute [local irreducible] W Pure
theorem c_l7None (e : Entry) (he : e.ok lim) : Pure PP false 39 [.agg e.cells] (ob (decide (e = zeroE false))) := by
  obtain ⟨n, ⟨q1, q2⟩, r⟩ := e
  refine Pure.vc [(16, .res (ob (decide (r = zeroRun))))] TTok hmo Go.Proofs.Tryz.func39 (by kernel_rfl) rfl (by kernel_rfl) ?_
  repeat' (first | refine And.intro ?_ ?_ | exact tf | exact ft | refine tt ?_ | refine ff ?_ | exact ⟨trivial⟩ | exact sAll rfl | exact sF1 rfl | exact sBld (by repeat' (first | exact trivial | rfl | exact Nat.le_of_ble_eq_true rfl | refine And.intro ?_ ?_)) rfl | exact sBS (by repeat' (first | exact trivial | rfl | exact Nat.le_of_ble_eq_true rfl | refine And.intro ?_ ?_)) rfl rfl rfl rfl | exact sLe rfl | exact Chk.mk (by kernel_rfl) | exact ⟨Chk.mk (by kernel_rfl)⟩ | exact sLeEq rfl rfl | exact sAnd (by repeat' constructor) (c_spec_ExecSame _ zeroRun he zeroRun_ok) | refine fun h => ?_)
  all_goals (refine Side.mk ?_; simp_all [zeroE])
  all_goals repeat' (first | rfl | refine And.intro ?_ ?_)
theorem wsum {a : Int} {n : Nat} (h : inr a 0 40 = true) (hn : n ≤ 1048576) : IntKind.i64.wrap (a + n) = a + n := by
  simp only [inr, Bool.and_eq_true, decide_eq_true_eq] at h
  rw [wrapi] <;> omega
/-- As the one walk has it. -/
def msgOkS (k f t b s : Int) (e : Entry) (vs : List Vote) : Bool :=
  if (decide (f < 0) || decide (f ≥ 3) || decide (t < 0) || decide (t ≥ 3) || f == t || decide (s < 0) || decide (s > 40) || ((k != 2) && decide (((vs.map Vote.cells).length : Int) > 0))) = true then false else
   if (k == 1) = true then inr b 1 3000 && decide (e = zeroE false) else
   if (k == 2) = true then inr b 1 3000 && decide (e = zeroE false) && votesOk vs && decide (IntKind.i64.wrap (s + (vs.map Vote.cells).length) ≤ 40) else
   if (k == 3) = true then inr b 1 3000 && (entryOk e && decide (s < 40)) else
   if (k == 4) = true then inr b 1 3000 && decide (e = zeroE false) else
   if (k == 5) = true then b == 0 && (entryOk e && decide (s < 40)) else
   if (k == 6) = true then inr b 1 3000 && decide (e = zeroE false) && s == 0 else
   if (k == 7) = true then b == 0 && s == 0 && entryOk e && !e.none else
   if (k == 8) = true then b == 0 && decide (e = zeroE false) else false
set_option maxHeartbeats 4000000 in
theorem c_spec_MsgOk (m : Msg) (hm : m.ok lim) : Pure PP false 14 [.agg m.cells] (ob (msgOkS m.kind m.src m.dst m.bal m.slot m.e m.votes)) := by
  obtain ⟨k, f, t, b, s, ⟨n, q, r⟩, vs⟩ := m
  have hl : vs.length ≤ 1048576 := hm.2.1
  refine Pure.vc [(53, .res (ob (decide (Entry.mk n q r = zeroE false)))), (56, .res (ob (entryOk ⟨n, q, r⟩))), (68, .res (ob (inr b 1 3000))), (76, .res (ob (inr b 1 3000))), (83, .res (ob (votesOk vs))), (98, .res (ob (inr b 1 3000))), (106, .res (ob (inr b 1 3000))), (122, .res (ob (inr b 1 3000))), (144, .res (ob (entryOk ⟨n, q, r⟩)))] TTok hmo Go.Proofs.Tryz.func14 (by kernel_rfl) rfl (by kernel_rfl) ?_
  repeat' (first | refine And.intro ?_ ?_ | exact tf | exact ft | refine tt ?_ | refine ff ?_ | exact ⟨trivial⟩ | exact sAll rfl | exact sF1 rfl | exact sBld (by repeat' (first | exact trivial | rfl | exact Nat.le_of_ble_eq_true rfl | refine And.intro ?_ ?_)) rfl | exact sBS (by repeat' (first | exact trivial | rfl | exact Nat.le_of_ble_eq_true rfl | refine And.intro ?_ ?_)) rfl rfl rfl rfl | exact sLe rfl | exact Chk.mk (by kernel_rfl) | exact ⟨Chk.mk (by kernel_rfl)⟩ | exact sLeEq rfl rfl | exact sAnd (by repeat' constructor) (c_l7None ⟨n, q, r⟩ hm.1) | exact sAnd (by repeat' constructor) (c_spec_CertEntry ⟨n, q, r⟩ hm.1) | exact sAnd (by repeat' constructor) (c_l6Bal _) | exact sAnd (by repeat' constructor) (c_l6Votes _ (Nat.le_trans hm.2.1 (by decide)) hm.2.2) | refine fun h => ?_)
  all_goals (refine Side.mk ?_)
  all_goals try dsimp only at *
  all_goals try (simp only [msgOkS, *, Bool.or_false, Bool.false_or, Bool.true_and, Bool.and_true, Bool.false_and, Bool.and_false, Bool.or_true, Bool.true_or, if_true, if_false, Bool.false_eq_true, reduceIte, and_self, Bool.not_true, Bool.not_false]; done)
  all_goals try (simp_all [msgOkS]; done)
theorem rng2 {n : Int} : (decide (n < 0) || decide (n ≥ 3)) = !inr n 0 2 := by
  unfold inr
  by_cases h1 : n < 0 <;> by_cases h2 : n ≥ 3 <;> simp [h1, h2] <;> omega
theorem rng40 {n : Int} : (decide (n < 0) || decide (n > 40)) = !inr n 0 40 := by
  unfold inr
  by_cases h1 : n < 0 <;> by_cases h2 : n > 40 <;> simp [h1, h2] <;> omega
/-- As the other walk has it. -/
def msgOkI (k f t b s : Int) (e : Entry) (vs : List Vote) : Bool :=
  if (!inr f 0 2 || !inr t 0 2 || f == t || !inr s 0 40) = true then false else
   if (k == 1) = true then inr b 1 3000 && decide (e = zeroE false) && ((vs.map Vote.cells).length : Int) == 0 else
   if (k == 4) = true then inr b 1 3000 && decide (e = zeroE false) && ((vs.map Vote.cells).length : Int) == 0 else
   if (k == 2) = true then inr b 1 3000 && decide (e = zeroE false) && votesOk vs && decide (IntKind.i64.wrap (s + (vs.map Vote.cells).length) ≤ 40) else
   if (k == 3) = true then inr b 1 3000 && decide (s < 40) && entryOk e && ((vs.map Vote.cells).length : Int) == 0 else
   if (k == 5) = true then b == 0 && decide (s < 40) && entryOk e && ((vs.map Vote.cells).length : Int) == 0 else
   if (k == 6) = true then inr b 1 3000 && s == 0 && decide (e = zeroE false) && ((vs.map Vote.cells).length : Int) == 0 else
   if (k == 7) = true then b == 0 && s == 0 && entryOk e && !e.none && ((vs.map Vote.cells).length : Int) == 0 else
   if (k == 8) = true then b == 0 && decide (e = zeroE false) && ((vs.map Vote.cells).length : Int) == 0 else false
theorem msgOk_eq (k f t b s : Int) (e : Entry) (vs : List Vote) : msgOkI k f t b s e vs = msgOkS k f t b s e vs := by
  have hS : (decide (f < 0) || decide (f ≥ 3) || decide (t < 0) || decide (t ≥ 3) || f == t || decide (s < 0) || decide (s > 40) || ((k != 2) && decide (((vs.map Vote.cells).length : Int) > 0))) = ((!inr f 0 2 || !inr t 0 2 || f == t || !inr s 0 40) || ((k != 2) && decide (((vs.map Vote.cells).length : Int) > 0))) := by
    rw [← rng2, ← rng2, ← rng40]
    simp only [Bool.or_assoc]
  unfold msgOkI msgOkS
  rw [hS]
  generalize (!inr f 0 2 || !inr t 0 2 || f == t || !inr s 0 40) = A
  cases A
  · generalize inr b 1 3000 = B
    generalize entryOk e = C
    generalize decide (e = zeroE false) = D
    generalize decide (s < 40) = E
    generalize (s == 0) = G
    generalize (b == 0) = H
    generalize e.none = I
    have hl : (((vs.map Vote.cells).length : Int) == 0) = !decide (((vs.map Vote.cells).length : Int) > 0) := by
      by_cases h : (((vs.map Vote.cells).length : Int)) = 0
      · rw [h]; rfl
      · have : (((vs.map Vote.cells).length : Int)) > 0 := by omega
        simp only [decide_eq_true this, Bool.not_true, beq_eq_false_iff_ne]; exact h
    rw [hl]
    generalize decide (((vs.map Vote.cells).length : Int) > 0) = N
    by_cases h1 : k = 1 <;> by_cases h2 : k = 2 <;> by_cases h3 : k = 3 <;> by_cases h4 : k = 4 <;> by_cases h5 : k = 5 <;> by_cases h6 : k = 6 <;> by_cases h7 : k = 7 <;> by_cases h8 : k = 8
    all_goals try (exfalso; omega)
    all_goals cases N <;> simp [h1, h2, h3, h4, h5, h6, h7, h8]
    all_goals (cases B <;> cases C <;> cases D <;> cases E <;> cases H <;> cases G <;> rfl)
  · simp
set_option maxHeartbeats 4000000 in
theorem c_impl_MsgOk (m : Msg) (hm : m.ok lim) : Pure PP false 23 [.agg m.cells] (ob (msgOkI m.kind m.src m.dst m.bal m.slot m.e m.votes)) := by
  obtain ⟨k, f, t, b, s, ⟨n, q, r⟩, vs⟩ := m
  have hl : vs.length ≤ 1048576 := hm.2.1
  refine Pure.vc [(8, .res (ob (inr f 0 2))), (13, .res (ob (inr t 0 2))), (26, .res (ob (inr s 0 40))), (31, .res (ob (inr b 1 3000))), (35, .res (ob (decide (Entry.mk n q r = zeroE false)))), (61, .res (ob (votesOk vs))), (83, .res (ob (entryOk ⟨n, q, r⟩))), (101, .res (ob (entryOk ⟨n, q, r⟩))), (133, .res (ob (entryOk ⟨n, q, r⟩)))] TTok hmo Go.Proofs.Tryz.func23 (by kernel_rfl) rfl (by kernel_rfl) ?_
  repeat' (first | refine And.intro ?_ ?_ | exact tf | exact ft | refine tt ?_ | refine ff ?_ | exact ⟨trivial⟩ | exact sAll rfl | exact sF1 rfl | exact sBld (by repeat' (first | exact trivial | rfl | exact Nat.le_of_ble_eq_true rfl | refine And.intro ?_ ?_)) rfl | exact sBS (by repeat' (first | exact trivial | rfl | exact Nat.le_of_ble_eq_true rfl | refine And.intro ?_ ?_)) rfl rfl rfl rfl | exact sLe rfl | exact Chk.mk (by kernel_rfl) | exact ⟨Chk.mk (by kernel_rfl)⟩ | exact sLeEq rfl rfl | exact sAnd (by repeat' constructor) (c_impl_in _ _ _) | exact sAnd (by repeat' constructor) (c_impl_CertLike ⟨n, q, r⟩ (zeroE false) hm.1 zeroRun_ok) | exact sAnd (by repeat' constructor) (c_impl_CertEntry ⟨n, q, r⟩ hm.1) | exact sAnd (by repeat' constructor) (c_impl_votesOk _ (Nat.le_trans hm.2.1 (by decide)) hm.2.2) | refine fun h => ?_)
  all_goals (refine Side.mk ?_)
  all_goals try dsimp only at *
  all_goals simp_all [msgOkI]
  all_goals (intro hlt; exfalso; omega)
end Mg
