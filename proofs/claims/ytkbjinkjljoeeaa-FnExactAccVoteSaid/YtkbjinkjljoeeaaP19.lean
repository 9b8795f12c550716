/- Parts of the abstract state logic and of the walks, one behind the other: BD, E8, BP, BQ, E9. No condition. -/
import Derived.Test.YtkbjinkjljoeeaaP18
import Derived.Test.YtkbjinkjljoeeaaP15
import Derived.Test.YtkbjinkjljoeeaaP17
/- Promises and votes of the other side, by what they come to. No condition. -/
namespace Mg
open Go Go.RowKit
set_option maxRecDepth 100000
set_option linter.unusedVariables false
set_option linter.unusedSimpArgs false
attribute [local irreducible] W Pure Con
theorem take_step {vs : List Vote} {i : Nat} (h : i < vs.length) : vs.take (i + 1) = vs.take i ++ [vs.getD i default] := by
  rw [List.take_succ_eq_append_getElem h, getD_get h]
theorem sTkR {α : Type} [Inhabited α] {c : α → List MC} {xs : List α} {i : Nat} {rows2 : List (List MC)} (h : i < xs.length) (hr : rows2 = [c (xs.getD i default)]) : Side ((xs.take (i + 1)).map c = (xs.take i).map c ++ rows2) :=
  ⟨by rw [List.take_succ_eq_append_getElem h, List.map_append, hr, getD_get h]; rfl⟩
theorem sTkL {α : Type} {xs : List α} {i m n : Nat} (h : i < xs.length) (hm : m = (xs.take i).length) (hn : n = 1) : Side ((xs.take (i + 1)).length = m + n) := ⟨by subst hm hn; simp; omega⟩
theorem sTkL2 {α : Type} {xs : List α} {i m n : Nat} (h : i < xs.length) (hm : m = (xs.take i).length) (hn : n = 1) : Side (m + n = (xs.take (i + 1)).length) := ⟨by subst hm hn; simp; omega⟩
set_option maxHeartbeats 4000000 in
theorem c_l6ListP (vs : List Vote) (hx : vs.length ≤ 1000000) (hv : VsOk lim vs) : Pure PP false 109 [.one (.fz (vs.map Vote.cells))] (.one (.own (vs.map Vote.cells))) := by
  refine Pure.vc [] TTok hmo Go.Proofs.Try.func109 (by kernel_rfl) rfl (by kernel_rfl) ?_
  repeat' (first | refine And.intro ?_ ?_ | exact tf | exact ft | refine tt ?_ | refine ff ?_ | exact ⟨trivial⟩ | exact sAll rfl | exact sF1 rfl | exact sBld (by repeat' (first | exact trivial | rfl | exact Nat.le_of_ble_eq_true rfl | refine And.intro ?_ ?_)) rfl | exact sBS (by repeat' (first | exact trivial | rfl | exact Nat.le_of_ble_eq_true rfl | refine And.intro ?_ ?_)) rfl rfl rfl rfl | exact sBSF (by repeat' (first | exact trivial | rfl | exact Nat.le_of_ble_eq_true rfl | refine And.intro ?_ ?_)) rfl rfl rfl rfl | exact sLe rfl | exact Chk.mk (by kernel_rfl) | exact ⟨Chk.mk (by kernel_rfl)⟩ | exact sLeEq rfl rfl | refine fun h => ?_)
  · refine W.vslot 3 rfl ?_
    refine W.loopC (D := Nat) (fun i => [(15, .row (vs.getD i default).cells), (20, .row (vs.getD i default).cells), (23, .res (.agg (vs.getD i default).e.cells)), (25, .row [])]) TTok hmo
      (fun i => ⟨28, 1, [(0, .one (.ag (vs.map Vote.cells))), (3, .one (.ref 0 0 (vs.take i).length)), (4, oi i)], [(0, .arr ((vs.take i).map Vote.cells))]⟩) (fun i => vs.length - i) (fun i => i ≤ vs.length) 0 [] (Nat.zero_le _) ?_ ?_
    · repeat' (first | exact trivial | exact ⟨trivial⟩ | exact Side.mk rfl | exact sF1 rfl | exact Chk.mk (by kernel_rfl) | exact ⟨Chk.mk (by kernel_rfl)⟩ | exact sMapF Vote.flat | refine And.intro ?_ ?_ | rfl)
    · intro i hi
      repeat' (first | refine And.intro ?_ ?_ | exact tf | exact ft | refine tt ?_ | refine ff ?_ | exact ⟨trivial⟩ | exact sAll rfl | exact sF1 rfl | exact sBld (by repeat' (first | exact trivial | rfl | exact Nat.le_of_ble_eq_true rfl | refine And.intro ?_ ?_)) rfl | exact sBS (by repeat' (first | exact trivial | rfl | exact Nat.le_of_ble_eq_true rfl | refine And.intro ?_ ?_)) rfl rfl rfl rfl | exact sBSF (by repeat' (first | exact trivial | rfl | exact Nat.le_of_ble_eq_true rfl | refine And.intro ?_ ?_)) rfl rfl rfl rfl | exact sLe rfl | exact Chk.mk (by kernel_rfl) | exact ⟨Chk.mk (by kernel_rfl)⟩ | exact sLeEq rfl rfl | refine fun h => ?_)
      all_goals try (exact ⟨rfl⟩)
      all_goals try (exact trivial)
      all_goals try (exact ⟨⟨⟨trivial, trivial, trivial, trivial, trivial, trivial, trivial, trivial⟩, trivial⟩, c_l5Entry (vs.getD i default).e (hv.get i)⟩)
      all_goals try (exact sApp (xs := vs.take i) (c := Vote.cells) (by simp) (fun _ => rfl) rfl (by simp; omega) rfl rfl)
      all_goals simp only [decide_eq_true_eq, decide_eq_false_iff_not, List.length_map, Bool.not_eq_true', Bool.not_eq_false', Bool.not_eq_eq_eq_not, Bool.not_true, Bool.not_false, bne_iff_ne, ne_eq, bne_eq_false_iff_eq, beq_iff_eq, beq_eq_false_iff_ne] at *
      all_goals try (exact sRow (by omega) (by rw [Int.toNat_natCast, List.getElem?_map, List.getD_eq_getElem?_getD, List.getElem?_eq_getElem (by omega)]; rfl) rfl)
      all_goals try (first | exact ⟨trivial, trivial⟩ | exact ⟨Nat.le_of_ble_eq_true rfl, trivial⟩ | exact ⟨trivial, Nat.le_of_ble_eq_true rfl, trivial⟩ | exact ⟨Nat.le_of_ble_eq_true rfl, trivial, trivial⟩)
      · refine ⟨i + 1, [(0, 1)], by omega, by omega, ?_⟩
        repeat' (first | exact trivial | exact ⟨trivial⟩ | exact Side.mk rfl | exact sF1 rfl | exact Chk.mk (by kernel_rfl) | exact ⟨Chk.mk (by kernel_rfl)⟩ | exact sTkR (by omega) rfl | exact sTkL (by omega) rfl rfl | exact sTkL2 (by omega) rfl rfl | exact sMapF Vote.flat | exact ⟨by rw [wrapi] <;> omega⟩ | refine And.intro ?_ ?_ | rfl)
      · exact ⟨⟨trivial, trivial⟩, ⟨trivial, trivial, by rw [List.take_of_length_le (by omega)], allF Vote.frz⟩, trivial⟩
theorem c_l6CopyP (a : Acc) (ha : a.ok 1000000) : Pure PP false 67 [.agg a.cells] (.agg [i6 a.p, .own (a.votes.map Vote.cells)]) := by
  have hv : VsOk lim a.votes := fun v hv => ⟨Nat.le_trans (ha.2 v hv).1 (by decide), Nat.le_trans (ha.2 v hv).2 (by decide)⟩
  refine Pure.vc [(7, .res (.one (.own (a.votes.map Vote.cells)))), (900001, .row [i6 0, i6 1, i6 2, i6 3, i6 4, i6 5, i6 6])] TTok hmo Go.Proofs.Try.func67 (by kernel_rfl) rfl (by kernel_rfl) ?_
  repeat' (first | refine And.intro ?_ ?_ | exact tf | exact ft | refine tt ?_ | refine ff ?_ | exact ⟨trivial⟩ | exact sAll rfl | exact sF1 rfl | exact sBld (by repeat' (first | exact trivial | rfl | exact Nat.le_of_ble_eq_true rfl | refine And.intro ?_ ?_)) rfl | exact sBS (by repeat' (first | exact trivial | rfl | exact Nat.le_of_ble_eq_true rfl | refine And.intro ?_ ?_)) rfl rfl rfl rfl | exact sBSF (by repeat' (first | exact trivial | rfl | exact Nat.le_of_ble_eq_true rfl | refine And.intro ?_ ?_)) rfl rfl rfl rfl | exact sLe rfl | exact Chk.mk (by kernel_rfl) | exact ⟨Chk.mk (by kernel_rfl)⟩ | exact sLeEq rfl rfl | exact sAnd (by repeat' constructor) (c_l6ListP _ ha.1 hv) | refine fun h => ?_)
  all_goals try (exact ⟨rfl⟩)
  all_goals try (exact trivial)
  exact ⟨⟨Nat.le_of_ble_eq_true rfl, trivial⟩, rfl, ⟨rfl, by simp, rfl, allF Vote.frz⟩, trivial⟩
def promP (p b : Int) : Int × Bool := if inr b 1 3000 = true ∧ ¬ b < p then (b, true) else (p, false)
def tProX (vs : List Vote) (q : Int × Bool) : ConT := ⟨Unit, fun _ => True, fun _ => .tup [.agg [i6 q.1, .ref 0 0 vs.length], ob q.2], fun _ => [.arr (vs.map Vote.cells)]⟩
theorem c_l6PromiseX (vs : List Vote) (p b : Int) : Con PP 66 [.agg [i6 p, .ref 0 0 vs.length], oi b] [.arr (vs.map Vote.cells)] 1
    (tProX vs (promP p b)).p (tProX vs (promP p b)).r (tProX vs (promP p b)).os := by
  generalize hq : promP p b = q
  unfold promP at hq
  refine Con.vc [(7, .res (ob (inr b 1 3000)))] TTok hmo Go.Proofs.Try.func66 rfl (by kernel_rfl) rfl (by kernel_rfl) ?_
  repeat' (first | refine And.intro ?_ ?_ | exact tf | exact ft | refine tt ?_ | refine ff ?_ | exact ⟨trivial⟩ | exact sAll rfl | exact sF1 rfl | exact sBld (by repeat' (first | exact trivial | rfl | exact Nat.le_of_ble_eq_true rfl | refine And.intro ?_ ?_)) rfl | exact sBS (by repeat' (first | exact trivial | rfl | exact Nat.le_of_ble_eq_true rfl | refine And.intro ?_ ?_)) rfl rfl rfl rfl | exact sBSF (by repeat' (first | exact trivial | rfl | exact Nat.le_of_ble_eq_true rfl | refine And.intro ?_ ?_)) rfl rfl rfl rfl | exact sLe rfl | exact Chk.mk (by kernel_rfl) | exact ⟨Chk.mk (by kernel_rfl)⟩ | exact sLeEq rfl rfl | exact sAnd (by repeat' constructor) (c_l6Bal _) | refine fun h => ?_)
  all_goals try (first | exact ⟨trivial, trivial⟩ | exact ⟨Nat.le_of_ble_eq_true rfl, trivial⟩ | exact ⟨trivial, Nat.le_of_ble_eq_true rfl, trivial⟩ | exact ⟨Nat.le_of_ble_eq_true rfl, trivial, trivial⟩)
  · obtain rfl : (p, false) = q := by rw [← hq, if_neg (by simp_all)]
    apply exU'; refine ⟨[], [], trivial, ?_⟩
    repeat' (first | exact trivial | exact ⟨trivial⟩ | exact Side.mk rfl | exact sF1 rfl | exact Chk.mk (by kernel_rfl) | exact ⟨Chk.mk (by kernel_rfl)⟩ | exact sMapF Vote.flat | refine And.intro ?_ ?_ | rfl)
  · obtain rfl : (b, true) = q := by rw [← hq, if_pos (by simp_all)]
    apply exU'; refine ⟨[], [], trivial, ?_⟩
    repeat' (first | exact trivial | exact ⟨trivial⟩ | exact Side.mk rfl | exact sF1 rfl | exact Chk.mk (by kernel_rfl) | exact ⟨Chk.mk (by kernel_rfl)⟩ | exact sMapF Vote.flat | refine And.intro ?_ ?_ | rfl)
  · obtain rfl : (p, false) = q := by rw [← hq, if_neg (by simp_all)]
    apply exU'; refine ⟨[], [], trivial, ?_⟩
    repeat' (first | exact trivial | exact ⟨trivial⟩ | exact Side.mk rfl | exact sF1 rfl | exact Chk.mk (by kernel_rfl) | exact ⟨Chk.mk (by kernel_rfl)⟩ | exact sMapF Vote.flat | refine And.intro ?_ ?_ | rfl)
/-- What is cast, of what is right. -/
def castA (a : Acc) (b slot : Int) (e : Entry) : Acc × Bool :=
  if (inr slot 0 39 = true ∧ entryOk e = true) ∧ (promP a.p b).2 = true then (⟨b, (padV a.votes (slot.toNat + 1)).set slot.toNat ⟨b, e⟩⟩, true) else (a, false)
def tCaX (q : Acc × Bool) : ConT := ⟨Unit, fun _ => True, fun _ => .tup [.agg [i6 q.1.p, .ref 0 0 q.1.votes.length], ob q.2], fun _ => [.arr (q.1.votes.map Vote.cells)]⟩
set_option maxHeartbeats 4000000 in
theorem c_l6CastX (vs : List Vote) (p b slot : Int) (e : Entry) (hl : vs.length ≤ 1000) (he : e.ok lim) : Con PP 71 [.agg [i6 p, .ref 0 0 vs.length], oi b, oi slot, .agg e.cells] [.arr (vs.map Vote.cells)] 0
    (tCaX (castA ⟨p, vs⟩ b slot e)).p (tCaX (castA ⟨p, vs⟩ b slot e)).r (tCaX (castA ⟨p, vs⟩ b slot e)).os := by
  generalize hq : castA ⟨p, vs⟩ b slot e = q
  unfold castA at hq
  have hT : (promP p b).2 = true → (promP p b).1 = b := fun h => by unfold promP at h ⊢; split at h <;> simp_all
  have cP := c_l6PromiseX vs p b
  dsimp only at hq
  generalize promP p b = pr at *
  obtain ⟨p1, b1⟩ := pr
  dsimp only at hq hT
  refine Con.vc [(20, .res (ob (entryOk e))), (27, .con false [0] [] [] (fun _ _ => tProX vs (p1, b1))), (49, .res (.agg e.cells))] TTok hmo Go.Proofs.Try.func71 rfl (by kernel_rfl) rfl (by kernel_rfl) ?_
  repeat' (first | refine And.intro ?_ ?_ | exact tf | exact ft | refine tt ?_ | refine ff ?_ | exact ⟨trivial⟩ | exact sAll rfl | exact sF1 rfl | exact sBld (by repeat' (first | exact trivial | rfl | exact Nat.le_of_ble_eq_true rfl | refine And.intro ?_ ?_)) rfl | exact sBS (by repeat' (first | exact trivial | rfl | exact Nat.le_of_ble_eq_true rfl | refine And.intro ?_ ?_)) rfl rfl rfl rfl | exact sBSF (by repeat' (first | exact trivial | rfl | exact Nat.le_of_ble_eq_true rfl | refine And.intro ?_ ?_)) rfl rfl rfl rfl | exact sLe rfl | exact Chk.mk (by kernel_rfl) | exact ⟨Chk.mk (by kernel_rfl)⟩ | exact sLeEq rfl rfl | exact sAnd (by repeat' constructor) (c_spec_CertEntry e he) | exact sAnd (by repeat' constructor) (c_l5Entry e he) | refine fun h => ?_)
  all_goals try dsimp only [tProX] at *
  all_goals try (exact ⟨fun _ _ => trivial⟩)
  all_goals try (exact ⟨fun _ _ => ⟨Nat.le_refl _, trivial⟩⟩)
  all_goals try (exact ⟨cP⟩)
  all_goals try (exact ⟨allF Vote.frz, trivial⟩)
  all_goals try (first | exact ⟨trivial, trivial⟩ | exact ⟨Nat.le_of_ble_eq_true rfl, trivial⟩ | exact ⟨trivial, Nat.le_of_ble_eq_true rfl, trivial⟩ | exact ⟨Nat.le_of_ble_eq_true rfl, trivial, trivial⟩)
  all_goals try (exact ⟨fun _ _ => ⟨allF Vote.frz, trivial⟩⟩)
  · obtain rfl : (⟨p, vs⟩, false) = q := by rw [← hq, if_neg (by simp_all)]
    apply exU'; refine ⟨[], [], trivial, ?_⟩
    repeat' (first | exact trivial | exact ⟨trivial⟩ | exact Side.mk rfl | exact sF1 rfl | exact Chk.mk (by kernel_rfl) | exact ⟨Chk.mk (by kernel_rfl)⟩ | exact sMapF Vote.flat | refine And.intro ?_ ?_ | rfl)
  · obtain rfl : (⟨p, vs⟩, false) = q := by rw [← hq, if_neg (by simp_all)]
    apply exU'; refine ⟨[], [], trivial, ?_⟩
    repeat' (first | exact trivial | exact ⟨trivial⟩ | exact Side.mk rfl | exact sF1 rfl | exact Chk.mk (by kernel_rfl) | exact ⟨Chk.mk (by kernel_rfl)⟩ | exact sMapF Vote.flat | refine And.intro ?_ ?_ | rfl)
  · have hs0 : 0 ≤ slot ∧ slot < 40 := by
      have g1 := of_decide_eq_false ‹decide (slot < 0) = false›
      have g2 := of_decide_eq_false ‹decide (slot ≥ 40) = false›
      omega
    have hb : b1 = true := by cases b1 <;> simp_all
    subst hb
    obtain rfl := hT rfl
    obtain rfl : (⟨p1, (padV vs (slot.toNat + 1)).set slot.toNat ⟨p1, e⟩⟩, true) = q := by rw [← hq, if_pos ⟨⟨inr_iff.2 ⟨hs0.1, by omega⟩, by simp_all⟩, rfl⟩]
    refine W.loopC (D := List Vote) (fun d => [(41, .row [])]) TTok hmo
      (fun d => ⟨53, 6, [(1, oi p1), (2, oi slot), (7, .one (.ptr 2 0 0)), (8, .one (.ptr 3 0 0)), (9, ob false), (10, .one (.ptr 4 0 0))],
        [(5, .arr (d.map Vote.cells)), (2, .box e.cells), (3, .box [i6 0, .nil]), (4, .box [i6 p1, .ref 5 0 d.length])]⟩) (fun d => slot.toNat + 1 - d.length)
      (fun d => d.length ≤ max vs.length (slot.toNat + 1) ∧ padV d (slot.toNat + 1) = padV vs (slot.toNat + 1)) vs [(5, 0)] ⟨by omega, rfl⟩ ?_ ?_
    · repeat' (first | exact trivial | exact ⟨trivial⟩ | exact Side.mk rfl | exact sF1 rfl | exact Chk.mk (by kernel_rfl) | exact ⟨Chk.mk (by kernel_rfl)⟩ | exact sMapF Vote.flat | refine And.intro ?_ ?_ | rfl)
    · intro d ⟨h1, h2⟩
      repeat' (first | refine And.intro ?_ ?_ | exact tf | exact ft | refine tt ?_ | refine ff ?_ | exact ⟨trivial⟩ | exact sAll rfl | exact sF1 rfl | exact sBld (by repeat' (first | exact trivial | rfl | exact Nat.le_of_ble_eq_true rfl | refine And.intro ?_ ?_)) rfl | exact sBS (by repeat' (first | exact trivial | rfl | exact Nat.le_of_ble_eq_true rfl | refine And.intro ?_ ?_)) rfl rfl rfl rfl | exact sBSF (by repeat' (first | exact trivial | rfl | exact Nat.le_of_ble_eq_true rfl | refine And.intro ?_ ?_)) rfl rfl rfl rfl | exact sLe rfl | exact Chk.mk (by kernel_rfl) | exact ⟨Chk.mk (by kernel_rfl)⟩ | exact sLeEq rfl rfl | exact sAnd (by repeat' constructor) (c_l5Entry e he) | refine fun h => ?_)
      all_goals try (exact sApp (xs := d) (c := Vote.cells) (by simp) (fun _ => rfl) rfl (by omega) rfl rfl)
      all_goals try (have hd := of_decide_eq_false ‹decide ((d.length : Int) ≤ slot) = false›)
      all_goals try (exact sIxO (c := Vote.cells) (by omega) (by omega) rfl (fun _ => rfl))
      all_goals try (exact sSt (c := Vote.cells) (m := 8) (xs := d) (by omega) (fun _ => rfl) rfl rfl)
      all_goals try (first | exact ⟨trivial, trivial⟩ | exact ⟨Nat.le_of_ble_eq_true rfl, trivial⟩ | exact ⟨trivial, Nat.le_of_ble_eq_true rfl, trivial⟩ | exact ⟨Nat.le_of_ble_eq_true rfl, trivial, trivial⟩)
      all_goals simp only [decide_eq_true_eq, decide_eq_false_iff_not, List.length_map, Bool.not_eq_true', Bool.not_eq_false', Bool.not_eq_eq_eq_not, Bool.not_true, Bool.not_false, bne_iff_ne, ne_eq, bne_eq_false_iff_eq, beq_iff_eq, beq_eq_false_iff_ne] at *
      · refine ⟨d ++ [default], [(5, 6)], by simp; omega, ⟨by simp; omega, padV_step h2 (by omega)⟩, ?_⟩
        repeat' (first | exact trivial | exact ⟨trivial⟩ | exact Side.mk rfl | exact sF1 rfl | exact Chk.mk (by kernel_rfl) | exact ⟨Chk.mk (by kernel_rfl)⟩ | exact sAppR rfl | exact sAppL rfl rfl | exact sAppL2 rfl rfl | exact sMapF Vote.flat | refine And.intro ?_ ?_ | rfl)
      · have he : padV vs (slot.toNat + 1) = d := h2.symm.trans (padV_end (by omega))
        rw [he]
        apply exU'; refine ⟨[(0, 5)], [], trivial, ?_⟩
        repeat' (first | exact trivial | exact ⟨trivial⟩ | exact Side.mk rfl | exact sF1 rfl | exact Chk.mk (by kernel_rfl) | exact ⟨Chk.mk (by kernel_rfl)⟩ | exact sMapF Vote.flat | exact ⟨setMap (xs := d) (by rw [mapGet (by omega)]; rfl)⟩ | exact sSetL rfl | refine And.intro ?_ ?_ | rfl)
  · obtain rfl : (⟨p, vs⟩, false) = q := by rw [← hq, if_neg (fun hh => by have g := (inr_iff.1 hh.1.1); simp_all; omega)]
    apply exU'; refine ⟨[], [], trivial, ?_⟩
    repeat' (first | exact trivial | exact ⟨trivial⟩ | exact Side.mk rfl | exact sF1 rfl | exact Chk.mk (by kernel_rfl) | exact ⟨Chk.mk (by kernel_rfl)⟩ | exact sMapF Vote.flat | refine And.intro ?_ ?_ | rfl)
  · obtain rfl : (⟨p, vs⟩, false) = q := by rw [← hq, if_neg (fun hh => by have g := (inr_iff.1 hh.1.1); simp_all; omega)]
    apply exU'; refine ⟨[], [], trivial, ?_⟩
    repeat' (first | exact trivial | exact ⟨trivial⟩ | exact Side.mk rfl | exact sF1 rfl | exact Chk.mk (by kernel_rfl) | exact ⟨Chk.mk (by kernel_rfl)⟩ | exact sMapF Vote.flat | refine And.intro ?_ ?_ | rfl)
end Mg

/- Copies of the program's own way, as trees. No condition. -/
namespace Mg
open Go Go.RowKit
set_option maxRecDepth 100000
set_option linter.unusedVariables false
set_option linter.unusedSimpArgs false
attribute [local irreducible] W Pure Con TPure
theorem p_copied_Read (xs : List Two) (hx : xs.length ≤ lim) : Pure PP false 156 [.one (.fz (xs.map Two.cells))] (.one (.own (xs.map Two.cells))) := by
  have hx0 : xs.length ≤ 1048576 := hx
  refine Pure.vc [] TTok hmo Go.Proofs.Try.func156 (by kernel_rfl) rfl (by kernel_rfl) ?_
  repeat' (first | refine And.intro ?_ ?_ | exact tf | exact ft | refine tt ?_ | refine ff ?_ | exact ⟨trivial⟩ | exact sAll rfl | exact sF1 rfl | exact sBld (by repeat' (first | exact trivial | rfl | exact Nat.le_of_ble_eq_true rfl | refine And.intro ?_ ?_)) rfl | exact sBS (by repeat' (first | exact trivial | rfl | exact Nat.le_of_ble_eq_true rfl | refine And.intro ?_ ?_)) rfl rfl rfl rfl | exact sBSF (by repeat' (first | exact trivial | rfl | exact Nat.le_of_ble_eq_true rfl | refine And.intro ?_ ?_)) rfl rfl rfl rfl | exact sLe rfl | exact Chk.mk (by kernel_rfl) | exact ⟨Chk.mk (by kernel_rfl)⟩ | exact sLeEq rfl rfl | refine fun h => ?_)
  · have h0 : xs = [] := by simp at h; exact h
    subst h0
    exact ⟨⟨trivial, trivial⟩, rfl, trivial⟩
  · exact sMk hx0 rfl
  · have h0 : 0 < xs.length := Nat.pos_of_ne_zero (fun e => by rw [List.length_map, e] at h; revert h; decide)
    exact sCp (toA_map fun _ => rfl) (by simp) (by simp) h0 rfl (fun _ => rfl)
  · have e := toA_map (c := Two.cells) (xs := xs) fun _ => rfl
    exact ⟨⟨trivial, trivial⟩, ⟨rfl, by rw [e]; exact Int.toNat_natCast _, e, by rw [e]; exact allF Two.frz⟩, trivial⟩
theorem p_copied_Put (xs : List Two) (hx : xs.length ≤ lim) : Pure PP false 157 [.one (.fz (xs.map Two.cells))] (.one (.own (xs.map Two.cells))) := by
  have hx0 : xs.length ≤ 1048576 := hx
  refine Pure.vc [] TTok hmo Go.Proofs.Try.func157 (by kernel_rfl) rfl (by kernel_rfl) ?_
  repeat' (first | refine And.intro ?_ ?_ | exact tf | exact ft | refine tt ?_ | refine ff ?_ | exact ⟨trivial⟩ | exact sAll rfl | exact sF1 rfl | exact sBld (by repeat' (first | exact trivial | rfl | exact Nat.le_of_ble_eq_true rfl | refine And.intro ?_ ?_)) rfl | exact sBS (by repeat' (first | exact trivial | rfl | exact Nat.le_of_ble_eq_true rfl | refine And.intro ?_ ?_)) rfl rfl rfl rfl | exact sBSF (by repeat' (first | exact trivial | rfl | exact Nat.le_of_ble_eq_true rfl | refine And.intro ?_ ?_)) rfl rfl rfl rfl | exact sLe rfl | exact Chk.mk (by kernel_rfl) | exact ⟨Chk.mk (by kernel_rfl)⟩ | exact sLeEq rfl rfl | refine fun h => ?_)
  · have h0 : xs = [] := by simp at h; exact h
    subst h0
    exact ⟨⟨trivial, trivial⟩, rfl, trivial⟩
  · exact sMk hx0 rfl
  · have h0 : 0 < xs.length := Nat.pos_of_ne_zero (fun e => by rw [List.length_map, e] at h; revert h; decide)
    exact sCp (toA_map fun _ => rfl) (by simp) (by simp) h0 rfl (fun _ => rfl)
  · have e := toA_map (c := Two.cells) (xs := xs) fun _ => rfl
    exact ⟨⟨trivial, trivial⟩, ⟨rfl, by rw [e]; exact Int.toNat_natCast _, e, by rw [e]; exact allF Two.frz⟩, trivial⟩
set_option maxHeartbeats 2000000 in
theorem p_runCopy (x : Run) (hx : x.ok lim) : Pure PP false 139 [.agg x.cells] (.agg [.own (x.reads.map Two.cells), .own (x.puts.map Two.cells), i6 x.c, i6 x.d]) := by
  refine Pure.vc [(5, .res (.one (.own (x.reads.map Two.cells)))), (8, .res (.one (.own (x.puts.map Two.cells)))), (900001, .row [i6 0, i6 1, i6 3, i6 4, i6 6, i6 7, i6 8, i6 9, i6 2, i6 5, i6 10, i6 11])] TTok hmo Go.Proofs.Try.func139 (by kernel_rfl) rfl (by kernel_rfl) ?_
  repeat' (first | refine And.intro ?_ ?_ | exact tf | exact ft | refine tt ?_ | refine ff ?_ | exact ⟨trivial⟩ | exact sAll rfl | exact sF1 rfl | exact sBld (by repeat' (first | exact trivial | rfl | exact Nat.le_of_ble_eq_true rfl | refine And.intro ?_ ?_)) rfl | exact sBS (by repeat' (first | exact trivial | rfl | exact Nat.le_of_ble_eq_true rfl | refine And.intro ?_ ?_)) rfl rfl rfl rfl | exact sBSF (by repeat' (first | exact trivial | rfl | exact Nat.le_of_ble_eq_true rfl | refine And.intro ?_ ?_)) rfl rfl rfl rfl | exact sLe rfl | exact Chk.mk (by kernel_rfl) | exact ⟨Chk.mk (by kernel_rfl)⟩ | exact sLeEq rfl rfl | refine fun h => ?_)
  all_goals try (exact sAnd (by repeat' constructor) (p_copied_Read _ hx.1))
  all_goals try (exact sAnd (by repeat' constructor) (p_copied_Put _ hx.2))
  all_goals try (exact ⟨rfl⟩)
  all_goals try (exact trivial)
  exact ⟨⟨Nat.le_of_ble_eq_true rfl, trivial⟩, ⟨rfl, by simp, rfl, allF Two.frz⟩, ⟨rfl, by simp, rfl, allF Two.frz⟩, rfl, rfl, trivial⟩
theorem p_entryCopy (e : Entry) (he : e.ok lim) : Pure PP false 107 [.agg e.cells] (.agg [bo e.none, i6 e.q.a, i6 e.q.b, .own (e.run.reads.map Two.cells), .own (e.run.puts.map Two.cells), i6 e.run.c, i6 e.run.d]) := by
  refine Pure.vc [(9, .res (.agg [.own (e.run.reads.map Two.cells), .own (e.run.puts.map Two.cells), i6 e.run.c, i6 e.run.d])), (900001, .row [i6 0, i6 1, i6 2, i6 3, i6 4, i6 5, i6 6, i6 7, i6 8])] TTok hmo Go.Proofs.Try.func107 (by kernel_rfl) rfl (by kernel_rfl) ?_
  repeat' (first | refine And.intro ?_ ?_ | exact tf | exact ft | refine tt ?_ | refine ff ?_ | exact ⟨trivial⟩ | exact sAll rfl | exact sF1 rfl | exact sBld (by repeat' (first | exact trivial | rfl | exact Nat.le_of_ble_eq_true rfl | refine And.intro ?_ ?_)) rfl | exact sBS (by repeat' (first | exact trivial | rfl | exact Nat.le_of_ble_eq_true rfl | refine And.intro ?_ ?_)) rfl rfl rfl rfl | exact sBSF (by repeat' (first | exact trivial | rfl | exact Nat.le_of_ble_eq_true rfl | refine And.intro ?_ ?_)) rfl rfl rfl rfl | exact sLe rfl | exact Chk.mk (by kernel_rfl) | exact ⟨Chk.mk (by kernel_rfl)⟩ | exact sLeEq rfl rfl | exact sAnd (by repeat' constructor) (p_runCopy _ he) | refine fun h => ?_)
  all_goals try (exact ⟨rfl⟩)
  all_goals try (exact trivial)
  exact ⟨⟨Nat.le_of_ble_eq_true rfl, trivial⟩, rfl, rfl, rfl, ⟨rfl, by simp, rfl, allF Two.frz⟩, ⟨rfl, by simp, rfl, allF Two.frz⟩, rfl, rfl, trivial⟩
theorem scMap {α : Type} {c : α → List MC} {xs : List α} (h : ∀ x, (c x).all scB = true) : ∀ r ∈ xs.map c, ∀ d ∈ r, ∃ v, d = .sc v := fun r hr d hd => by
  obtain ⟨x, _, rfl⟩ := List.mem_map.1 hr
  have := List.all_eq_true.1 (h x) d hd
  cases d <;> first | exact ⟨_, rfl⟩ | (cases this; done)
theorem t_entryCopy (e : Entry) (he : e.ok lim) : TPure PP 107 [.agg e.cells] (.agg e.cells) :=
  (p_entryCopy e he).toT (by
    intro c hc
    simp only [List.mem_cons, List.not_mem_nil, or_false] at hc
    rcases hc with rfl | rfl | rfl | rfl | rfl | rfl | rfl
    all_goals first | exact .inl ⟨_, rfl⟩ | exact .inr ⟨_, rfl, scMap fun _ => rfl⟩) rfl
theorem t_votesCopy (vs : List Vote) (hx : vs.length ≤ lim) (hv : VsOk lim vs) : TPure PP 59 [.one (.fz (vs.map Vote.cells))] (.one (.fz (vs.map Vote.cells))) := by
  have hx0 : vs.length ≤ 1048576 := hx
  have hlen : (vs.map Vote.cellsA).length = vs.length := List.length_map ..
  have hAf : ∀ r ∈ vs.map Vote.cellsA, ∀ d ∈ r, d.flat = true := fun r hr d hd => by
    obtain ⟨x, _, rfl⟩ := List.mem_map.1 hr
    exact List.all_eq_true.1 (show x.cellsA.all MC.flat = true from rfl) d hd
  refine TPure.vc [(6, .con true [] [] [] (sCpV vs.length))] TTok hmo Go.Proofs.Try.func59 (by kernel_rfl) rfl (by kernel_rfl) ?_
  repeat' (first | refine And.intro ?_ ?_ | exact tf | exact ft | refine tt ?_ | refine ff ?_ | exact ⟨trivial⟩ | exact sAll rfl | exact sF1 rfl | exact sBld (by repeat' (first | exact trivial | rfl | exact Nat.le_of_ble_eq_true rfl | refine And.intro ?_ ?_)) rfl | exact sBS (by repeat' (first | exact trivial | rfl | exact Nat.le_of_ble_eq_true rfl | refine And.intro ?_ ?_)) rfl rfl rfl rfl | exact sBSF (by repeat' (first | exact trivial | rfl | exact Nat.le_of_ble_eq_true rfl | refine And.intro ?_ ?_)) rfl rfl rfl rfl | exact sLe rfl | exact Chk.mk (by kernel_rfl) | exact ⟨Chk.mk (by kernel_rfl)⟩ | exact sLeEq rfl rfl | refine fun h => ?_)
  · exact ⟨c_copied_VoteU vs hx⟩
  · exact ⟨fun _ _ => trivial⟩
  · exact ⟨fun _ _ => ⟨trivial, trivial⟩⟩
  · refine W.loopC (D := Nat × (Nat → Nat → Tk)) (fun d => [(18, .res (.agg (vs.getD d.1 default).e.cellsA)), (19, .tre true (fun _ => .agg (vs.getD d.1 default).e.cells))]) TTok hmo (fun d => ⟨24, 1, [(3, .one (.ref 0 0 vs.length)), (8, oi vs.length), (9, oi d.1)], [(0, .arr (rowsT d.2 Vote.cells vs (vs.map Vote.cellsA) d.1))]⟩) (fun d => vs.length - d.1) (fun d => d.1 ≤ vs.length ∧ FillInv d.2 Vote.cells vs d.1) (0, fun _ _ => noTk) [] ⟨Nat.zero_le _, .zero⟩ ?_ ?_
    · repeat' (first | exact trivial | exact ⟨trivial⟩ | exact Side.mk rfl | exact sF1 rfl | exact Chk.mk (by kernel_rfl) | exact ⟨Chk.mk (by kernel_rfl)⟩ | exact sFlatT Vote.frz hAf | refine And.intro ?_ ?_ | rfl)
      exact ⟨by rw [rowsT_zero, List.map_map]; rfl⟩
    · intro ⟨i, Bf⟩ ⟨hi, hinv⟩
      dsimp only at hi hinv
      repeat' (first | refine And.intro ?_ ?_ | exact tf | exact ft | refine tt ?_ | refine ff ?_ | exact ⟨trivial⟩ | exact sAll rfl | exact sF1 rfl | exact sBld (by repeat' (first | exact trivial | rfl | exact Nat.le_of_ble_eq_true rfl | refine And.intro ?_ ?_)) rfl | exact sBS (by repeat' (first | exact trivial | rfl | exact Nat.le_of_ble_eq_true rfl | refine And.intro ?_ ?_)) rfl rfl rfl rfl | exact sBSF (by repeat' (first | exact trivial | rfl | exact Nat.le_of_ble_eq_true rfl | refine And.intro ?_ ?_)) rfl rfl rfl rfl | exact sLe rfl | exact Chk.mk (by kernel_rfl) | exact ⟨Chk.mk (by kernel_rfl)⟩ | exact sLeEq rfl rfl | refine fun h => ?_)
      all_goals try (exact endTree hinv hlen (by have h3 := of_decide_eq_false h; dsimp only at h3; omega) rfl Vote.frz)
      all_goals try (exact ⟨⟨trivial, trivial⟩⟩)
      all_goals try (have hl : i < vs.length := by (have h3 := of_decide_eq_true ‹decide ((i : Int) < (vs.length : Int)) = true›; omega))
      all_goals try (have hgA : (vs.map Vote.cellsA)[i]? = some (vs.getD i default).cellsA := by rw [List.getElem?_map, List.getElem?_eq_getElem hl, getD_get hl]; rfl)
      all_goals try (exact Side.mk (t_entryCopy _ (hv _ (getD_mem hl))))
      all_goals try (exact sIxT (i := i) hlen rfl hl rfl hgA rfl)
      all_goals try (exact sLdT (i := i) hlen (by simp) hl hgA rfl rfl)
      all_goals try (exact sStT (i := i) hlen (by simp) hl hgA rfl rfl)
      all_goals try (exact Side.mk (by repeat' constructor))
      · rename_i B hA
        refine ⟨(i + 1, updT Bf i (Vote.cells (vs.getD i default)) (fun j => B 0 (j - 1))), [], by dsimp only; omega, ⟨by dsimp only; omega, ?_⟩, ?_⟩
        · refine hinv.stepB hl (B := fun j => B 0 (j - 1)) (fun j j' x r1 r2 g1 g2 h1 h2 => ?_) (fun j x hx => ⟨0, j - 1, hx⟩) (h.st 0 _ rfl)
          have h3 := (hA 0 _ 0 _ x h1 h2).2
          have h4 : j ≠ 0 := fun e => by subst e; cases g1
          have h5 : j' ≠ 0 := fun e => by subst e; cases g2
          omega
        · repeat' (first | exact trivial | exact ⟨trivial⟩ | exact Side.mk rfl | exact sF1 rfl | exact Chk.mk (by kernel_rfl) | exact ⟨Chk.mk (by kernel_rfl)⟩ | exact sSetT hlen (by simp) hl hgA rfl | exact sFlatT Vote.frz hAf | exact ⟨by rw [wrapi] <;> omega⟩ | refine And.intro ?_ ?_ | rfl)
end Mg

/- The best of votes where one is of a later ballot, in plain terms. No condition. -/
namespace Mg
open Go Go.RowKit
set_option maxRecDepth 100000
set_option linter.unusedVariables false
set_option linter.unusedSimpArgs false
theorem voteOk_default : voteOk (default : Vote) = true := by decide
theorem votesOk_get {a : List Vote} (h : votesOk a = true) (i : Nat) : voteOk (a.getD i default) = true := by
  by_cases hi : i < a.length
  · exact votesOk_at h hi
  · rw [getD_none hi]; exact voteOk_default
theorem votesOk_mk {a : List Vote} (hl : a.length ≤ 40) (h : ∀ v ∈ a, voteOk v = true) : votesOk a = true := by
  simp only [votesOk, Bool.and_eq_true, decide_eq_true_eq, List.all_eq_true]
  exact ⟨hl, h⟩
theorem best_votesOk {a b : List Vote} (ha : votesOk a = true) (hb : votesOk b = true) : votesOk (bestN a b) = true := by
  refine votesOk_mk (by rw [bestN_len]; exact Nat.max_le.2 ⟨votesOk_len ha, votesOk_len hb⟩) fun v hv => ?_
  obtain ⟨i, _, rfl⟩ := List.mem_map.1 hv
  exact best_all (Q := fun v => voteOk v = true) (fun _ _ _ => votesOk_get hb i) (fun _ _ => votesOk_get ha i) (fun _ _ => voteOk_default)
theorem zeros_ok {n : Nat} (h : n ≤ 40) : votesOk (List.replicate n (default : Vote)) = true :=
  votesOk_mk (by simpa using h) fun v hv => by rw [List.eq_of_mem_replicate hv]; exact voteOk_default
theorem set_votesOk {a : List Vote} {k : Nat} {v : Vote} (ha : votesOk a = true) (hv : voteOk v = true) : votesOk (a.set k v) = true :=
  votesOk_mk (by simpa using votesOk_len ha) fun x hx => by
    rcases List.mem_or_eq_of_mem_set hx with hx | hx
    · have := ha
      simp only [votesOk, Bool.and_eq_true, List.all_eq_true] at this
      exact this.2 x hx
    · rw [hx]; exact hv
theorem top_voteOk {t : Int} (h1 : 1 ≤ t) (h2 : t ≤ 3000) : voteOk ⟨t, zeroE true⟩ = true := by
  unfold voteOk
  rw [if_neg (by simp only; omega)]
  simp only [Bool.and_eq_true]
  exact ⟨inr_iff.2 ⟨h1, h2⟩, by decide⟩
theorem accBest_of {u v : List Vote} (hu : votesOk u = true) (hv : votesOk v = true) : accBest u v = bestN u v := by unfold accBest; rw [if_pos (by rw [hu, hv]; rfl)]
theorem set_get {x : List Vote} {k : Nat} {v : Vote} (h : k < x.length) : (x.set k v).getD k default = v := by
  simp [List.getD_eq_getElem?_getD, h]
/-- The later vote is what both see. -/
theorem two_see {x b : List Vote} {k : Nat} {v : Vote} (hx : votesOk x = true) (hb : votesOk b = true) (hv : voteOk v = true) (hk : k < x.length) (hlt : (b.getD k default).bal < v.bal) (hp : 0 < v.bal) :
    (accBest (x.set k v) b).getD k default = v ∧ (accBest b (x.set k v)).getD k default = v ∧ (accBest (x.set k v) b).length = (accBest b (x.set k v)).length ∧ k < (accBest (x.set k v) b).length := by
  have hs := set_votesOk (k := k) hx hv
  have hl : (x.set k v).length = x.length := List.length_set
  rw [accBest_of hs hb, accBest_of hb hs]
  have l1 := bestN_len (x.set k v) b
  have l2 := bestN_len b (x.set k v)
  refine ⟨?_, ?_, by omega, by omega⟩
  · rw [bestN_at (by omega), best_a2 (by omega) (by rw [set_get hk]; omega), set_get hk]
  · rw [bestN_at (by omega)]
    by_cases h : k < b.length
    · rw [best_b2 h (by omega) (by rw [set_get hk]; exact hlt), set_get hk]
    · rw [best_b1 h (by omega) (by rw [set_get hk]; exact hp), set_get hk]
end Mg

/- Promises and votes in plain terms. No condition. -/
namespace Mg
open Go Go.RowKit
set_option maxRecDepth 100000
set_option linter.unusedVariables false
set_option linter.unusedSimpArgs false
theorem accOk_iff {a : Acc} : accOk a = true ↔ (0 ≤ a.p ∧ a.p ≤ 3000) ∧ votesOk a.votes = true ∧ ∀ v ∈ a.votes, v.bal ≤ a.p := by
  simp only [accOk, inr, Bool.and_eq_true, decide_eq_true_eq, List.all_eq_true, and_assoc]
theorem votesOk_iff {vs : List Vote} : votesOk vs = true ↔ vs.length ≤ 40 ∧ ∀ v ∈ vs, voteOk v = true := by
  simp only [votesOk, Bool.and_eq_true, decide_eq_true_eq, List.all_eq_true]
theorem accPromise_up {a : Acc} {b : Int} (ha : accOk a = true) (h1 : 1 ≤ b) (h2 : b ≤ 3000) (h : a.p ≤ b) : accPromise a b = (⟨b, a.votes⟩, true) := by
  unfold accPromise
  rw [if_pos ha, if_pos ⟨inr_iff.2 ⟨h1, h2⟩, by omega⟩]
theorem accPromise_no {a : Acc} {b : Int} (ha : accOk a = true) (h : ¬ (1 ≤ b ∧ b ≤ 3000 ∧ a.p ≤ b)) : accPromise a b = (a, false) := by
  unfold accPromise
  rw [if_pos ha, if_neg]
  rintro ⟨h3, h4⟩
  have := inr_iff.1 h3
  omega
theorem accPromise_bad {a : Acc} {b : Int} (ha : accOk a = false) : accPromise a b = (⟨0, []⟩, false) := by
  unfold accPromise
  rw [if_neg (by rw [ha]; decide)]
theorem accOk_up {a : Acc} {b : Int} (ha : accOk a = true) (h1 : 1 ≤ b) (h2 : b ≤ 3000) (h : a.p ≤ b) : accOk ⟨b, a.votes⟩ = true := by
  obtain ⟨_, h4, h5⟩ := accOk_iff.1 ha
  exact accOk_iff.2 ⟨⟨by dsimp only; omega, h2⟩, h4, fun v hv => Int.le_trans (h5 v hv) h⟩
theorem padV_len {vs : List Vote} {n : Nat} : (padV vs n).length = max vs.length n := by simp [padV]; omega
theorem padV_mem {vs : List Vote} {n : Nat} {v : Vote} (h : v ∈ padV vs n) : v ∈ vs ∨ v = default := by
  rcases List.mem_append.1 h with h | h
  · exact .inl h
  · exact .inr (List.eq_of_mem_replicate h)
theorem padV_get {vs : List Vote} {n i : Nat} (h : i < vs.length) : (padV vs n).getD i default = vs.getD i default := by
  simp [padV, List.getD_eq_getElem?_getD, List.getElem?_append_left h]
theorem accOk_vote {a : Acc} {b : Int} {k : Nat} {e : Entry} (ha : accOk a = true) (h1 : 1 ≤ b) (h2 : b ≤ 3000) (h : a.p ≤ b) (hk : k < 40) (he : entryOk e = true) : accOk ⟨b, (padV a.votes (k + 1)).set k ⟨b, e⟩⟩ = true := by
  obtain ⟨_, h4, h5⟩ := accOk_iff.1 ha
  obtain ⟨h6, h7⟩ := votesOk_iff.1 h4
  have hb : voteOk ⟨b, e⟩ = true := by unfold voteOk; rw [if_neg (by dsimp only; omega), inr_iff.2 ⟨h1, h2⟩, he]; rfl
  refine accOk_iff.2 ⟨⟨by dsimp only; omega, h2⟩, votesOk_iff.2 ⟨by rw [List.length_set, padV_len]; omega, fun v hv => ?_⟩, fun v hv => ?_⟩
  · rcases List.mem_or_eq_of_mem_set hv with hv | hv
    · rcases padV_mem hv with hv | hv
      · exact h7 v hv
      · rw [hv]; exact voteOk_default
    · rw [hv]; exact hb
  · rcases List.mem_or_eq_of_mem_set hv with hv | hv
    · rcases padV_mem hv with hv | hv
      · exact Int.le_trans (h5 v hv) h
      · rw [hv]; show (0 : Int) ≤ b; omega
    · rw [hv]; exact Int.le_refl b
theorem accVote_up {a : Acc} {b s : Int} {e : Entry} (ha : accOk a = true) (h1 : 1 ≤ b) (h2 : b ≤ 3000) (h : a.p ≤ b) (hs : 0 ≤ s) (hs2 : s < 40) (he : entryOk e = true) :
    accVote a b s e = (⟨b, (padV a.votes (s.toNat + 1)).set s.toNat ⟨b, e⟩⟩, true) := by
  unfold accVote
  rw [accPromise_up ha h1 h2 h]
  rw [if_pos rfl, if_pos ⟨inr_iff.2 ⟨hs, by omega⟩, he⟩]
theorem accVote_no {a : Acc} {b s : Int} {e : Entry} (ha : accOk a = true) (h : ¬ ((1 ≤ b ∧ b ≤ 3000 ∧ a.p ≤ b) ∧ (0 ≤ s ∧ s < 40) ∧ entryOk e = true)) : accVote a b s e = (a, false) := by
  unfold accVote
  by_cases g : 1 ≤ b ∧ b ≤ 3000 ∧ a.p ≤ b
  · rw [accPromise_up ha g.1 g.2.1 g.2.2, if_pos rfl, if_neg]
    rintro ⟨h3, h4⟩
    have := inr_iff.1 h3
    exact h ⟨g, ⟨by omega, by omega⟩, h4⟩
  · rw [accPromise_no ha g]; rfl
theorem accVote_bad {a : Acc} {b s : Int} {e : Entry} (ha : accOk a = false) : accVote a b s e = (⟨0, []⟩, false) := by
  unfold accVote
  rw [accPromise_bad ha]; rfl
end Mg

/- Promises, votes, the best of votes, as trees; the other side as frozen. No condition. -/
namespace Mg
open Go Go.RowKit
set_option maxRecDepth 100000
set_option linter.unusedVariables false
set_option linter.unusedSimpArgs false
attribute [local irreducible] W Pure Con TPure
theorem t_accCopy (a : Acc) (ha : a.ok lim) : TPure PP 69 [.agg a.cells] (.agg a.cells) := by
  refine TPure.vc [(7, .tre false (fun _ => .one (.fz (a.votes.map Vote.cells)))), (900001, .row [i6 0, i6 1, i6 2, i6 3, i6 4, i6 5, i6 6])] TTok hmo Go.Proofs.Try.func69 (by kernel_rfl) rfl (by kernel_rfl) ?_
  repeat' (first | refine And.intro ?_ ?_ | exact tf | exact ft | refine tt ?_ | refine ff ?_ | exact ⟨trivial⟩ | exact sAll rfl | exact sF1 rfl | exact sBld (by repeat' (first | exact trivial | rfl | exact Nat.le_of_ble_eq_true rfl | refine And.intro ?_ ?_)) rfl | exact sBS (by repeat' (first | exact trivial | rfl | exact Nat.le_of_ble_eq_true rfl | refine And.intro ?_ ?_)) rfl rfl rfl rfl | exact sBSF (by repeat' (first | exact trivial | rfl | exact Nat.le_of_ble_eq_true rfl | refine And.intro ?_ ?_)) rfl rfl rfl rfl | exact sLe rfl | exact Chk.mk (by kernel_rfl) | exact ⟨Chk.mk (by kernel_rfl)⟩ | exact sLeEq rfl rfl | refine fun h => ?_)
  all_goals try (exact ⟨rfl⟩)
  all_goals try (exact trivial)
  all_goals try (exact Side.mk (t_votesCopy _ ha.1 ha.2))
  all_goals try (refine Side.mk (apart_vs ?_); exact And.intro trivial trivial)
  all_goals try (exact Side.mk rfl)
  all_goals exact Side.mk (by repeat' (first | exact trivial | exact Nat.le_of_ble_eq_true rfl | refine And.intro ?_ ?_))

theorem t_AccPromise0 (a : Acc) (ha : a.ok lim) (bal : Int) (h0 : accOk a = false) : TPure PP 24 [.agg a.cells, oi bal] (qAcc (accPromise a bal)) := by
  rw [show accPromise a bal = (⟨0, []⟩, false) from by unfold accPromise; rw [if_neg (by simp [h0])]]
  refine TPure.vc [(8, .res (ob (accOk a))), (12, .tre true (fun _ => .agg a.cells)), (14, .res (ob (inr bal 1 3000)))] TTok hmo Go.Proofs.Try.func24 (by kernel_rfl) rfl (by kernel_rfl) ?_
  repeat' (first | refine And.intro ?_ ?_ | exact tf | exact ft | refine tt ?_ | refine ff ?_ | exact ⟨trivial⟩ | exact sAll rfl | exact sF1 rfl | exact sBld (by repeat' (first | exact trivial | rfl | exact Nat.le_of_ble_eq_true rfl | refine And.intro ?_ ?_)) rfl | exact sBS (by repeat' (first | exact trivial | rfl | exact Nat.le_of_ble_eq_true rfl | refine And.intro ?_ ?_)) rfl rfl rfl rfl | exact sBSF (by repeat' (first | exact trivial | rfl | exact Nat.le_of_ble_eq_true rfl | refine And.intro ?_ ?_)) rfl rfl rfl rfl | exact sLe rfl | exact Chk.mk (by kernel_rfl) | exact ⟨Chk.mk (by kernel_rfl)⟩ | exact sLeEq rfl rfl | exact sAnd (by repeat' constructor) (c_impl_AccOk a ha) | exact sAnd (by repeat' constructor) (c_impl_in _ _ _) | refine fun h => ?_)
  all_goals try (exact Side.mk (t_accCopy a ha))
  all_goals try (exfalso; simp_all; done)
  all_goals try (exfalso; have h3 := of_decide_eq_true h; first | (simp_all; done) | (simp_all; omega) | omega)
  all_goals try (exfalso; have h3 := of_decide_eq_false h; first | (simp_all; done) | (simp_all; omega) | omega)
  all_goals try (refine Side.mk (apart_vs ?_); first | exact trivial | exact And.intro trivial trivial)
  all_goals try (exact trivial)
  all_goals first | exact Side.mk rfl | exact trivial | exact Side.mk (by repeat' (first | exact trivial | exact Nat.le_of_ble_eq_true rfl | rfl | refine And.intro ?_ ?_))

theorem t_AccPromise1 (a : Acc) (ha : a.ok lim) (bal : Int) (h0 : accOk a = true) (h1 : inr bal 1 3000 = true ∧ ¬ bal < a.p) : TPure PP 24 [.agg a.cells, oi bal] (qAcc (accPromise a bal)) := by
  rw [show accPromise a bal = (⟨bal, a.votes⟩, true) from by unfold accPromise; rw [if_pos h0, if_pos h1]]
  refine TPure.vc [(8, .res (ob (accOk a))), (12, .tre true (fun _ => .agg a.cells)), (14, .res (ob (inr bal 1 3000)))] TTok hmo Go.Proofs.Try.func24 (by kernel_rfl) rfl (by kernel_rfl) ?_
  repeat' (first | refine And.intro ?_ ?_ | exact tf | exact ft | refine tt ?_ | refine ff ?_ | exact ⟨trivial⟩ | exact sAll rfl | exact sF1 rfl | exact sBld (by repeat' (first | exact trivial | rfl | exact Nat.le_of_ble_eq_true rfl | refine And.intro ?_ ?_)) rfl | exact sBS (by repeat' (first | exact trivial | rfl | exact Nat.le_of_ble_eq_true rfl | refine And.intro ?_ ?_)) rfl rfl rfl rfl | exact sBSF (by repeat' (first | exact trivial | rfl | exact Nat.le_of_ble_eq_true rfl | refine And.intro ?_ ?_)) rfl rfl rfl rfl | exact sLe rfl | exact Chk.mk (by kernel_rfl) | exact ⟨Chk.mk (by kernel_rfl)⟩ | exact sLeEq rfl rfl | exact sAnd (by repeat' constructor) (c_impl_AccOk a ha) | exact sAnd (by repeat' constructor) (c_impl_in _ _ _) | refine fun h => ?_)
  all_goals try (exact Side.mk (t_accCopy a ha))
  all_goals try (exfalso; simp_all; done)
  all_goals try (exfalso; have h3 := of_decide_eq_true h; first | (simp_all; done) | (simp_all; omega) | omega)
  all_goals try (exfalso; have h3 := of_decide_eq_false h; first | (simp_all; done) | (simp_all; omega) | omega)
  all_goals try (refine Side.mk (apart_vs ?_); first | exact trivial | exact And.intro trivial trivial)
  all_goals try (exact trivial)
  all_goals first | exact Side.mk rfl | exact trivial | exact Side.mk (by repeat' (first | exact trivial | exact Nat.le_of_ble_eq_true rfl | rfl | refine And.intro ?_ ?_))

theorem t_AccPromise2 (a : Acc) (ha : a.ok lim) (bal : Int) (h0 : accOk a = true) (h1 : ¬ (inr bal 1 3000 = true ∧ ¬ bal < a.p)) : TPure PP 24 [.agg a.cells, oi bal] (qAcc (accPromise a bal)) := by
  rw [show accPromise a bal = (a, false) from by unfold accPromise; rw [if_pos h0, if_neg h1]]
  refine TPure.vc [(8, .res (ob (accOk a))), (12, .tre true (fun _ => .agg a.cells)), (14, .res (ob (inr bal 1 3000)))] TTok hmo Go.Proofs.Try.func24 (by kernel_rfl) rfl (by kernel_rfl) ?_
  repeat' (first | refine And.intro ?_ ?_ | exact tf | exact ft | refine tt ?_ | refine ff ?_ | exact ⟨trivial⟩ | exact sAll rfl | exact sF1 rfl | exact sBld (by repeat' (first | exact trivial | rfl | exact Nat.le_of_ble_eq_true rfl | refine And.intro ?_ ?_)) rfl | exact sBS (by repeat' (first | exact trivial | rfl | exact Nat.le_of_ble_eq_true rfl | refine And.intro ?_ ?_)) rfl rfl rfl rfl | exact sBSF (by repeat' (first | exact trivial | rfl | exact Nat.le_of_ble_eq_true rfl | refine And.intro ?_ ?_)) rfl rfl rfl rfl | exact sLe rfl | exact Chk.mk (by kernel_rfl) | exact ⟨Chk.mk (by kernel_rfl)⟩ | exact sLeEq rfl rfl | exact sAnd (by repeat' constructor) (c_impl_AccOk a ha) | exact sAnd (by repeat' constructor) (c_impl_in _ _ _) | refine fun h => ?_)
  all_goals try (exact Side.mk (t_accCopy a ha))
  all_goals try (exfalso; simp_all; done)
  all_goals try (exfalso; have h3 := of_decide_eq_true h; first | (simp_all; done) | (simp_all; omega) | omega)
  all_goals try (exfalso; have h3 := of_decide_eq_false h; first | (simp_all; done) | (simp_all; omega) | omega)
  all_goals try (refine Side.mk (apart_vs ?_); first | exact trivial | exact And.intro trivial trivial)
  all_goals try (exact trivial)
  all_goals first | exact Side.mk rfl | exact trivial | exact Side.mk (by repeat' (first | exact trivial | exact Nat.le_of_ble_eq_true rfl | rfl | refine And.intro ?_ ?_))

theorem t_AccPromise (a : Acc) (ha : a.ok lim) (bal : Int) : TPure PP 24 [.agg a.cells, oi bal] (qAcc (accPromise a bal)) := by
  cases h0 : accOk a with
  | false => exact t_AccPromise0 a ha bal h0
  | true =>
    by_cases h1 : inr bal 1 3000 = true ∧ ¬ bal < a.p
    · exact t_AccPromise1 a ha bal h0 h1
    · exact t_AccPromise2 a ha bal h0 h1

theorem t_AccVote0 (a : Acc) (ha : a.ok lim) (bal slot : Int) (e : Entry) (he : e.ok lim) (h0 : (accPromise a bal).2 = false) : TPure PP 31 [.agg a.cells, oi bal, oi slot, .agg e.cells] (qAcc (accVote a bal slot e)) := by
  rw [show accVote a bal slot e = ((accPromise a bal).1, false) from by unfold accVote; rw [if_neg (by simp [h0])]]
  have cP := t_AccPromise a ha bal
  generalize accPromise a bal = pr at *
  obtain ⟨⟨p1, vs⟩, b1⟩ := pr
  obtain rfl : b1 = false := h0
  refine TPure.vc [(15, .tre true (fun _ => qAcc (⟨p1, vs⟩, false))), (22, .res (ob (inr slot 0 39))), (26, .res (ob (entryOk e)))] TTok hmo Go.Proofs.Try.func31 (by kernel_rfl) rfl (by kernel_rfl) ?_
  repeat' (first | refine And.intro ?_ ?_ | exact tf | exact ft | refine tt ?_ | refine ff ?_ | exact ⟨trivial⟩ | exact sAll rfl | exact sF1 rfl | exact sBld (by repeat' (first | exact trivial | rfl | exact Nat.le_of_ble_eq_true rfl | refine And.intro ?_ ?_)) rfl | exact sBS (by repeat' (first | exact trivial | rfl | exact Nat.le_of_ble_eq_true rfl | refine And.intro ?_ ?_)) rfl rfl rfl rfl | exact sBSF (by repeat' (first | exact trivial | rfl | exact Nat.le_of_ble_eq_true rfl | refine And.intro ?_ ?_)) rfl rfl rfl rfl | exact sLe rfl | exact Chk.mk (by kernel_rfl) | exact ⟨Chk.mk (by kernel_rfl)⟩ | exact sLeEq rfl rfl | exact sAnd (by repeat' constructor) (c_impl_in _ _ _) | exact sAnd (by repeat' constructor) (c_impl_CertEntry e he) | refine fun h => ?_)
  all_goals try (exact Side.mk cP)
  all_goals try (exfalso; simp_all; done)
  all_goals try (exfalso; have h3 := of_decide_eq_true h; first | (simp_all; done) | (simp_all; omega) | omega)
  all_goals try (exfalso; have h3 := of_decide_eq_false h; first | (simp_all; done) | (simp_all; omega) | omega)
  all_goals try (refine Side.mk (apart_vs ?_); first | exact trivial | exact And.intro trivial trivial)
  all_goals try (exact trivial)
  all_goals first | exact Side.mk rfl | exact trivial | exact Side.mk (by repeat' (first | exact trivial | exact Nat.le_of_ble_eq_true rfl | rfl | refine And.intro ?_ ?_))

theorem t_AccVote2 (a : Acc) (ha : a.ok lim) (bal slot : Int) (e : Entry) (he : e.ok lim) (h0 : (accPromise a bal).2 = true) (h1 : ¬ (inr slot 0 39 = true ∧ entryOk e = true)) : TPure PP 31 [.agg a.cells, oi bal, oi slot, .agg e.cells] (qAcc (accVote a bal slot e)) := by
  rw [show accVote a bal slot e = (a, false) from by unfold accVote; rw [if_pos h0, if_neg h1]]
  have cP := c_AccPromiseP a ha bal
  generalize accPromise a bal = pr at *
  obtain ⟨⟨p1, vs⟩, b1⟩ := pr
  obtain rfl : b1 = true := h0
  refine TPure.vc [(15, .res (pAcc (⟨p1, vs⟩, true))), (22, .res (ob (inr slot 0 39))), (26, .res (ob (entryOk e))), (30, .tre true (fun _ => .agg a.cells)), (800006, .row [])] TTok hmo Go.Proofs.Try.func31 (by kernel_rfl) rfl (by kernel_rfl) ?_
  repeat' (first | refine And.intro ?_ ?_ | exact tf | exact ft | refine tt ?_ | refine ff ?_ | exact ⟨trivial⟩ | exact sAll rfl | exact sF1 rfl | exact sBld (by repeat' (first | exact trivial | rfl | exact Nat.le_of_ble_eq_true rfl | refine And.intro ?_ ?_)) rfl | exact sBS (by repeat' (first | exact trivial | rfl | exact Nat.le_of_ble_eq_true rfl | refine And.intro ?_ ?_)) rfl rfl rfl rfl | exact sBSF (by repeat' (first | exact trivial | rfl | exact Nat.le_of_ble_eq_true rfl | refine And.intro ?_ ?_)) rfl rfl rfl rfl | exact sLe rfl | exact Chk.mk (by kernel_rfl) | exact ⟨Chk.mk (by kernel_rfl)⟩ | exact sLeEq rfl rfl | exact sAnd (by repeat' constructor) (cP) | exact sAnd (by repeat' constructor) (c_impl_in _ _ _) | exact sAnd (by repeat' constructor) (c_impl_CertEntry e he) | refine fun h => ?_)
  all_goals try (exact Side.mk (t_accCopy a ha))
  all_goals try (exfalso; simp_all; done)
  all_goals try (exfalso; have h3 := of_decide_eq_true h; first | (simp_all; done) | (simp_all; omega) | omega)
  all_goals try (exfalso; have h3 := of_decide_eq_false h; first | (simp_all; done) | (simp_all; omega) | omega)
  all_goals try (refine Side.mk (apart_vs ?_); first | exact trivial | exact And.intro trivial trivial)
  all_goals try (exact trivial)
  all_goals first | exact Side.mk rfl | exact trivial | exact Side.mk (by repeat' (first | exact trivial | exact Nat.le_of_ble_eq_true rfl | rfl | refine And.intro ?_ ?_))

set_option maxHeartbeats 4000000 in
theorem t_AccVote1 (a : Acc) (ha : a.ok lim) (bal slot : Int) (e : Entry) (he : e.ok lim) (h0 : (accPromise a bal).2 = true) (h1 : inr slot 0 39 = true ∧ entryOk e = true) : TPure PP 31 [.agg a.cells, oi bal, oi slot, .agg e.cells] (qAcc (accVote a bal slot e)) := by
  rw [show accVote a bal slot e = (⟨bal, (padV a.votes (slot.toNat + 1)).set slot.toNat ⟨bal, e⟩⟩, true) from by unfold accVote; rw [if_pos h0, if_pos h1]]
  have cP := c_AccPromiseP a ha bal
  have hT := accPromise_t (a := a) (bal := bal) h0
  rw [show accPromise a bal = (⟨bal, a.votes⟩, true) from Prod.ext hT h0] at cP
  have hs : 0 ≤ slot ∧ slot ≤ 39 := inr_iff.1 h1.1
  have hal := accPromise_l (a := a) (bal := bal) h0
  refine TPure.vc [(15, .res (pAcc (⟨bal, a.votes⟩, true))), (22, .res (ob (inr slot 0 39))), (26, .res (ob (entryOk e))), (30, .tre true (fun _ => .agg a.cells)), (800008, .row [])] TTok hmo Go.Proofs.Try.func31 (by kernel_rfl) rfl (by kernel_rfl) ?_
  repeat' (first | refine And.intro ?_ ?_ | exact tf | exact ft | refine tt ?_ | refine ff ?_ | exact ⟨trivial⟩ | exact sAll rfl | exact sF1 rfl | exact sBld (by repeat' (first | exact trivial | rfl | exact Nat.le_of_ble_eq_true rfl | refine And.intro ?_ ?_)) rfl | exact sBS (by repeat' (first | exact trivial | rfl | exact Nat.le_of_ble_eq_true rfl | refine And.intro ?_ ?_)) rfl rfl rfl rfl | exact sBSF (by repeat' (first | exact trivial | rfl | exact Nat.le_of_ble_eq_true rfl | refine And.intro ?_ ?_)) rfl rfl rfl rfl | exact sLe rfl | exact Chk.mk (by kernel_rfl) | exact ⟨Chk.mk (by kernel_rfl)⟩ | exact sLeEq rfl rfl | exact sAnd (by repeat' constructor) (cP) | exact sAnd (by repeat' constructor) (c_impl_in _ _ _) | exact sAnd (by repeat' constructor) (c_impl_CertEntry e he) | refine fun h => ?_)
  all_goals try (exact Side.mk (t_accCopy a ha))
  all_goals try (exfalso; simp_all; done)
  all_goals try (exfalso; have h3 := of_decide_eq_true h; first | (simp_all; done) | (simp_all; omega) | omega)
  all_goals try (exfalso; have h3 := of_decide_eq_false h; first | (simp_all; done) | (simp_all; omega) | omega)

  · refine W.loopC (D := List Vote) (fun d => [(39, .row [])]) TTok hmo
      (fun d => ⟨51, 6, [(1, oi bal), (2, oi slot), (7, .one (.ptr 1 0 0)), (8, .one (.ptr 2 0 0)), (10, .one (.ptr 4 0 0))],
        [(5, .arr (d.map Vote.cells)), (1, .box e.cellsA), (2, .box [i6 0, .nil]), (4, .box [i6 bal, .ref 5 0 d.length])]⟩) (fun d => slot.toNat + 1 - d.length)
      (fun d => d.length ≤ max a.votes.length (slot.toNat + 1) ∧ VsOk lim d ∧ padV d (slot.toNat + 1) = padV a.votes (slot.toNat + 1)) a.votes [(5, 3)] ⟨by omega, ha.2, rfl⟩ ?_ ?_
    · repeat' (first | exact trivial | exact ⟨trivial⟩ | exact Side.mk rfl | exact sF1 rfl | exact Chk.mk (by kernel_rfl) | exact ⟨Chk.mk (by kernel_rfl)⟩ | exact sMapF Vote.flat | refine And.intro ?_ ?_ | rfl)
      all_goals exact ⟨by simp⟩
    · intro d ⟨h1, h2, h3⟩
      repeat' (first | refine And.intro ?_ ?_ | exact tf | exact ft | refine tt ?_ | refine ff ?_ | exact ⟨trivial⟩ | exact sAll rfl | exact sF1 rfl | exact sBld (by repeat' (first | exact trivial | rfl | exact Nat.le_of_ble_eq_true rfl | refine And.intro ?_ ?_)) rfl | exact sBS (by repeat' (first | exact trivial | rfl | exact Nat.le_of_ble_eq_true rfl | refine And.intro ?_ ?_)) rfl rfl rfl rfl | exact sBSF (by repeat' (first | exact trivial | rfl | exact Nat.le_of_ble_eq_true rfl | refine And.intro ?_ ?_)) rfl rfl rfl rfl | exact sLe rfl | exact Chk.mk (by kernel_rfl) | exact ⟨Chk.mk (by kernel_rfl)⟩ | exact sLeEq rfl rfl | refine fun h => ?_)
      all_goals try (exact sApp (xs := d) (c := Vote.cells) (by simp) (fun _ => rfl) rfl (by omega) rfl rfl)
      all_goals try (first | exact ⟨trivial, trivial⟩ | exact ⟨Nat.le_of_ble_eq_true rfl, trivial⟩ | exact ⟨trivial, Nat.le_of_ble_eq_true rfl, trivial⟩ | exact ⟨Nat.le_of_ble_eq_true rfl, trivial, trivial⟩)
      all_goals simp only [decide_eq_true_eq, decide_eq_false_iff_not, List.length_map, Bool.not_eq_true', Bool.not_eq_false', Bool.not_eq_eq_eq_not, Bool.not_true, Bool.not_false, bne_iff_ne, ne_eq, bne_eq_false_iff_eq, beq_iff_eq, beq_eq_false_iff_ne] at *
      · refine ⟨d ++ [default], [(5, 6)], by simp; omega, ⟨by simp; omega, VsOk.app h2 ⟨Nat.zero_le _, Nat.zero_le _⟩, padV_step h3 (by omega)⟩, ?_⟩
        repeat' (first | exact trivial | exact ⟨trivial⟩ | exact Side.mk rfl | exact sF1 rfl | exact Chk.mk (by kernel_rfl) | exact ⟨Chk.mk (by kernel_rfl)⟩ | exact sAppR rfl | exact sAppL rfl rfl | exact sAppL2 rfl rfl | exact sMapF Vote.flat | refine And.intro ?_ ?_ | rfl)
      · have hd : padV a.votes (slot.toNat + 1) = d := h3.symm.trans (padV_end (by omega))
        rw [hd]
        have Vs : VsOk lim (d.set slot.toNat ⟨bal, e⟩) := VsOk.set h2 he
        have hdl : (d.set slot.toNat ⟨bal, e⟩).length ≤ 1048576 := by simp; omega
        refine W.go [(800009, .row [])] TTok hmo ?_
        repeat' (first | refine And.intro ?_ ?_ | exact tf | exact ft | refine tt ?_ | refine ff ?_ | exact ⟨trivial⟩ | exact sAll rfl | exact sF1 rfl | exact sBld (by repeat' (first | exact trivial | rfl | exact Nat.le_of_ble_eq_true rfl | refine And.intro ?_ ?_)) rfl | exact sBS (by repeat' (first | exact trivial | rfl | exact Nat.le_of_ble_eq_true rfl | refine And.intro ?_ ?_)) rfl rfl rfl rfl | exact sBSF (by repeat' (first | exact trivial | rfl | exact Nat.le_of_ble_eq_true rfl | refine And.intro ?_ ?_)) rfl rfl rfl rfl | exact sLe rfl | exact Chk.mk (by kernel_rfl) | exact ⟨Chk.mk (by kernel_rfl)⟩ | exact sLeEq rfl rfl | refine fun h => ?_)
        · exact sIxO (c := Vote.cells) (by omega) (by omega) rfl (fun _ => rfl)
        · exact sSt (c := Vote.cells) (m := 8) (xs := d) (by omega) (fun _ => rfl) rfl rfl
        · refine W.frzA 4 1 rfl (set_allA (by rw [mapGet (by omega)]; rfl)) ?_
          refine W.go [(50, .tre true (fun _ => .agg (Acc.cells ⟨bal, d.set slot.toNat ⟨bal, e⟩⟩)))] TTok hmo ?_
          have hset : ∀ r, (r.map MC.unA) = (⟨bal, e⟩ : Vote).cells → (((((d.map Vote.cells).set (0 + slot.toNat) r).drop 0).take d.length).map fun r => r.map MC.unA) = (d.set slot.toNat ⟨bal, e⟩).map Vote.cells := fun r hr => by
            rw [Nat.zero_add]; exact set_unA hr rfl
          repeat' (first | refine And.intro ?_ ?_ | exact tf | exact ft | refine tt ?_ | refine ff ?_ | exact ⟨trivial⟩ | exact sAll rfl | exact sF1 rfl | exact sBld (by repeat' (first | exact trivial | rfl | exact Nat.le_of_ble_eq_true rfl | refine And.intro ?_ ?_)) rfl | exact sBS (by repeat' (first | exact trivial | rfl | exact Nat.le_of_ble_eq_true rfl | refine And.intro ?_ ?_)) rfl rfl rfl rfl | exact sBSF (by repeat' (first | exact trivial | rfl | exact Nat.le_of_ble_eq_true rfl | refine And.intro ?_ ?_)) rfl rfl rfl rfl | exact sLe rfl | exact Chk.mk (by kernel_rfl) | exact ⟨Chk.mk (by kernel_rfl)⟩ | exact sLeEq rfl rfl | refine fun h => ?_)
          · exact Side.mk (by repeat' constructor)
          · exact Side.mk (Eq.mpr (congrArg (fun r => TPure PP 69 [MV.agg [i6 bal, .fz r]] (.agg (Acc.cells ⟨bal, d.set slot.toNat ⟨bal, e⟩⟩))) (hset _ (by rw [mapGet (by omega)]; rfl))) (t_accCopy ⟨bal, d.set slot.toNat ⟨bal, e⟩⟩ ⟨hdl, Vs⟩))
          all_goals try (refine Side.mk (apart_vs ?_); first | exact trivial | exact And.intro trivial trivial)
          all_goals try (exact trivial)
          all_goals first | exact Side.mk rfl | exact trivial | exact Side.mk (by repeat' (first | exact trivial | exact Nat.le_of_ble_eq_true rfl | rfl | refine And.intro ?_ ?_))
theorem t_AccVote (a : Acc) (ha : a.ok lim) (bal slot : Int) (e : Entry) (he : e.ok lim) : TPure PP 31 [.agg a.cells, oi bal, oi slot, .agg e.cells] (qAcc (accVote a bal slot e)) := by
  cases h0 : (accPromise a bal).2 with
  | false => exact t_AccVote0 a ha bal slot e he h0
  | true =>
    by_cases h1 : inr slot 0 39 = true ∧ entryOk e = true
    · exact t_AccVote1 a ha bal slot e he h0 h1
    · exact t_AccVote2 a ha bal slot e he h0 h1
end Mg
