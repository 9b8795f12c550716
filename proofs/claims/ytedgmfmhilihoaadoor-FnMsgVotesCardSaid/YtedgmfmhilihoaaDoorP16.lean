/- Parts of the abstract state logic and of the walks, one behind the other: D4, D5, D6, D7, D8, D9, D10. No condition. -/
import Derived.Test.YtedgmfmhilihoaaDoorP15
/- Boxes; what a run looks into and puts. No condition. -/
namespace Mg
open Go Go.RowKit
set_option maxRecDepth 100000
set_option linter.unusedVariables false
set_option linter.unusedSimpArgs false
attribute [local irreducible] W Pure Con
theorem c_BoxOpen : Pure PP false 76 [] (.one (.fz ((List.replicate 4 (⟨0, 0⟩ : Two)).map Two.cells))) := by
  refine Pure.vc [] TTok hmo Go.Proofs.Tryd.func76 (by kernel_rfl) rfl (by kernel_rfl) ?_
  repeat' (first | refine And.intro ?_ ?_ | exact tf | exact ft | refine tt ?_ | refine ff ?_ | exact ⟨trivial⟩ | exact sAll rfl | exact sF1 rfl | exact sBld (by repeat' (first | exact trivial | rfl | exact Nat.le_of_ble_eq_true rfl | refine And.intro ?_ ?_)) rfl | exact sBS (by repeat' (first | exact trivial | rfl | exact Nat.le_of_ble_eq_true rfl | refine And.intro ?_ ?_)) rfl rfl rfl rfl | exact sBSF (by repeat' (first | exact trivial | rfl | exact Nat.le_of_ble_eq_true rfl | refine And.intro ?_ ?_)) rfl rfl rfl rfl | exact sLe rfl | exact Chk.mk (by kernel_rfl) | exact ⟨Chk.mk (by kernel_rfl)⟩ | exact sLeEq rfl rfl | refine fun h => ?_)
  · exact ⟨by decide⟩
  · exact ⟨⟨trivial, trivial⟩, ⟨rfl, map_frz (xs := List.replicate 4 (⟨0, 0⟩ : Two)) Two.frz⟩, trivial⟩
def boxEl (x : Two) : Bool := inr x.a 0 1000000 && inr x.b (-1000000) 1000000
def boxOk (xs : List Two) : Bool := decide ((xs.length : Int) = 4) && xs.all boxEl
theorem c_spec_BoxOk (xs : List Two) (hx : xs.length ≤ maxLen) : Pure PP false 100 [.one (.fz (xs.map Two.cells))] (ob (boxOk xs)) := by
  have hx' : xs.length ≤ 9223372036854775807 := hx
  refine Pure.vc [] TTok hmo Go.Proofs.Tryd.func100 (by kernel_rfl) rfl (by kernel_rfl) ?_
  repeat' (first | refine And.intro ?_ ?_ | exact tf | exact ft | refine tt ?_ | refine ff ?_ | exact ⟨trivial⟩ | exact sAll rfl | exact sF1 rfl | exact sBld (by repeat' (first | exact trivial | rfl | exact Nat.le_of_ble_eq_true rfl | refine And.intro ?_ ?_)) rfl | exact sBS (by repeat' (first | exact trivial | rfl | exact Nat.le_of_ble_eq_true rfl | refine And.intro ?_ ?_)) rfl rfl rfl rfl | exact sBSF (by repeat' (first | exact trivial | rfl | exact Nat.le_of_ble_eq_true rfl | refine And.intro ?_ ?_)) rfl rfl rfl rfl | exact sLe rfl | exact Chk.mk (by kernel_rfl) | exact ⟨Chk.mk (by kernel_rfl)⟩ | exact sLeEq rfl rfl | refine fun h => ?_)
  · refine ⟨?_⟩; simp_all [boxOk]
  refine W.loopC (D := Nat) (fun i => [(15, .row (xs.getD i default).cells), (22, .row (xs.getD i default).cells), (30, .row (xs.getD i default).cells), (33, .res (ob (inr (xs.getD i default).b (-1000000) 1000000)))]) TTok hmo
    (fun i => ⟨36, 0, [(0, .one (.ag (xs.map Two.cells))), (2, ob false), (3, oi i)], []⟩) (fun i => xs.length - i) (fun i => i ≤ xs.length ∧ (xs.take i).all boxEl = true) 0 [] ⟨by omega, by simp⟩ ?_ ?_
  · show subC _ _ _ _
    repeat' (first | exact trivial | exact Side.mk rfl | exact Chk.mk (by kernel_rfl) | exact ⟨Chk.mk (by kernel_rfl)⟩ | refine And.intro ?_ ?_ | rfl)
  · intro i ⟨hi, hp⟩
    repeat' (first | refine And.intro ?_ ?_ | exact tf | exact ft | refine tt ?_ | refine ff ?_ | exact ⟨trivial⟩ | exact sAll rfl | exact sF1 rfl | exact sBld (by repeat' (first | exact trivial | rfl | exact Nat.le_of_ble_eq_true rfl | refine And.intro ?_ ?_)) rfl | exact sBS (by repeat' (first | exact trivial | rfl | exact Nat.le_of_ble_eq_true rfl | refine And.intro ?_ ?_)) rfl rfl rfl rfl | exact sBSF (by repeat' (first | exact trivial | rfl | exact Nat.le_of_ble_eq_true rfl | refine And.intro ?_ ?_)) rfl rfl rfl rfl | exact sLe rfl | exact Chk.mk (by kernel_rfl) | exact ⟨Chk.mk (by kernel_rfl)⟩ | exact sLeEq rfl rfl | exact sAnd (by repeat' constructor) (c_l1Num _) | refine fun h => ?_)
    all_goals simp only [decide_eq_true_eq, decide_eq_false_iff_not, List.length_map, Bool.not_eq_true', Bool.not_eq_false', Bool.not_eq_eq_eq_not, Bool.not_true, Bool.not_false, bne_iff_ne, ne_eq, bne_eq_false_iff_eq, beq_iff_eq, beq_eq_false_iff_ne] at *
    all_goals try (exact sRow (by omega) (row_at xs _ (by omega)) rfl)
    · refine ⟨?_⟩; have := all_bad (f := boxEl) (xs := xs) (i := i) (by omega) (by simp_all [boxEl]); simp [boxOk, this]
    · refine ⟨i + 1, [], by omega, ⟨by omega, all_step (by omega) hp (by simp only [boxEl]; rw [h, Bool.and_true]; simp only [inr]; rw [decide_eq_true (by omega), decide_eq_true (by omega)]; rfl)⟩, ?_⟩
      repeat' (first | exact trivial | exact Side.mk rfl | exact Chk.mk (by kernel_rfl) | exact ⟨Chk.mk (by kernel_rfl)⟩ | exact ⟨wrap_succ (n := xs.length) (by omega) (by omega)⟩ | refine And.intro ?_ ?_ | rfl)
    · refine ⟨?_⟩; have := all_bad (f := boxEl) (xs := xs) (i := i) (by omega) (by simp only [boxEl, inr]; first | rw [decide_eq_false (p := 0 ≤ _) (by omega)]; rfl | rw [decide_eq_false (p := _ ≤ 1000000) (by omega)]; simp); simp [boxOk, this]
    · refine ⟨?_⟩; have := all_bad (f := boxEl) (xs := xs) (i := i) (by omega) (by simp only [boxEl, inr]; first | rw [decide_eq_false (p := 0 ≤ _) (by omega)]; rfl | rw [decide_eq_false (p := _ ≤ 1000000) (by omega)]; simp); simp [boxOk, this]
    · refine ⟨?_⟩; have := all_end (by omega) hp; simp [boxOk, this]; omega
theorem atI_lt {b : Int} : ∀ {xs : List Two}, atI xs b < xs.length
  | [] => by simp [atI]
  | x :: xs => by
    have := atI_lt (b := b) (xs := xs)
    simp only [atI, List.length_cons]
    split
    · omega
    · split <;> omega
theorem exLook {Q : Int × List Two → Prop} (n : Int) (xs : List Two) (h : Q (n, xs)) : ∃ d, Q d := ⟨_, h⟩
theorem c_l3Look (bx : List Two) (hbx : bx.length = 4) (rs ps : List Two) (v c b : Int) (hr : rs.length ≤ 1000) (hp : ps.length ≤ 1000) (hb : 0 ≤ b ∧ b ≤ 3) : Con PP 111 [.one (.fz (bx.map Two.cells)), .agg [.ref 0 0 rs.length, .ref 1 0 ps.length, i6 v, i6 c], oi b] [.arr (rs.map Two.cells), .arr (ps.map Two.cells)] 0
    (fun d : Int × List Two => d.2.length ≤ rs.length + 1) (fun d => .tup [oi d.1, .agg [.ref 0 0 d.2.length, .ref 1 0 ps.length, i6 v, i6 c]]) (fun d => [.arr (d.2.map Two.cells), .arr (ps.map Two.cells)]) := by
  refine Con.vc [(12, .res (oi (atI ps b))), (20, .resf asI), (25, .res (ob (saw rs b))), (36, .row []), (32, .row (bx.getD b.toNat default).cells), (41, .row (bx.getD b.toNat default).cells)] TTok hmo Go.Proofs.Tryd.func111 rfl (by kernel_rfl) rfl (by kernel_rfl) ?_
  repeat' (first | refine And.intro ?_ ?_ | exact tf | exact ft | refine tt ?_ | refine ff ?_ | exact ⟨trivial⟩ | exact sAll rfl | exact sF1 rfl | exact sBld (by repeat' (first | exact trivial | rfl | exact Nat.le_of_ble_eq_true rfl | refine And.intro ?_ ?_)) rfl | exact sBS (by repeat' (first | exact trivial | rfl | exact Nat.le_of_ble_eq_true rfl | refine And.intro ?_ ?_)) rfl rfl rfl rfl | exact sBSF (by repeat' (first | exact trivial | rfl | exact Nat.le_of_ble_eq_true rfl | refine And.intro ?_ ?_)) rfl rfl rfl rfl | exact sLe rfl | exact Chk.mk (by kernel_rfl) | exact ⟨Chk.mk (by kernel_rfl)⟩ | exact sLeEq rfl rfl | refine fun h => ?_)
  all_goals have hlt := atI_lt (b := b) (xs := ps)
  all_goals try (exact sLend ⟨lendF Two.frz rfl, trivial, trivial⟩ (c_l3At ps b (Nat.le_trans hp (by decide))) (congrArg (fun z => [MV.one (.fz z), oi b]) (l_all rfl)))
  all_goals try (exact sLend ⟨lendF Two.frz rfl, trivial, trivial⟩ (c_l3Saw rs b (Nat.le_trans hr (by decide))) (congrArg (fun z => [MV.one (.fz z), oi b]) (l_all rfl)))
  all_goals try (exact ⟨trivial, Nat.le_of_ble_eq_true rfl, trivial⟩)
  all_goals try (exact sIxO (of_decide_eq_true h) hlt rfl (fun _ => rfl))
  all_goals try (exact sRow hb.1 (by rw [List.getElem?_map, List.getD_eq_getElem?_getD, List.getElem?_eq_getElem (by omega)]; rfl) rfl)
  all_goals try (exact sApp (xs := rs) (c := Two.cells) (by simp) (fun _ => rfl) rfl (by omega) rfl rfl)
  all_goals simp only [decide_eq_true_eq, decide_eq_false_iff_not, List.length_map, Bool.not_eq_true', Bool.not_eq_false', Bool.not_eq_eq_eq_not, Bool.not_true, Bool.not_false, bne_iff_ne, ne_eq, bne_eq_false_iff_eq, beq_iff_eq, beq_eq_false_iff_ne] at *
  all_goals try (exact sLdI (n := Two.b) (t := fun _ => []) (by omega) (fun _ => rfl))
  · apply exLook _ rs; refine ⟨[], [], by simp, ?_⟩
    repeat' (first | exact trivial | exact ⟨trivial⟩ | exact Side.mk rfl | exact sF1 rfl | exact Chk.mk (by kernel_rfl) | exact ⟨Chk.mk (by kernel_rfl)⟩ | exact sMapF Two.flat | refine And.intro ?_ ?_ | rfl)
  · apply exLook _ (rs ++ [⟨_, _⟩]); refine ⟨[(0, 4)], [], ?_, ?_⟩; rotate_left 1
    repeat' (first | exact trivial | exact ⟨trivial⟩ | exact Side.mk rfl | exact sF1 rfl | exact Chk.mk (by kernel_rfl) | exact ⟨Chk.mk (by kernel_rfl)⟩ | exact sAppR rfl | exact sAppL rfl rfl | exact sMapF Two.flat | refine And.intro ?_ ?_ | rfl)
    simp
  · apply exLook _ rs; refine ⟨[], [], by simp, ?_⟩
    repeat' (first | exact trivial | exact ⟨trivial⟩ | exact Side.mk rfl | exact sF1 rfl | exact Chk.mk (by kernel_rfl) | exact ⟨Chk.mk (by kernel_rfl)⟩ | exact sMapF Two.flat | refine And.intro ?_ ?_ | rfl)
end Mg

/- What a run puts, and its steps. No condition. -/
namespace Mg
open Go Go.RowKit
set_option maxRecDepth 100000
set_option linter.unusedVariables false
set_option linter.unusedSimpArgs false
attribute [local irreducible] W Pure Con
theorem exPut {Q : List Two → Prop} (xs : List Two) (h : Q xs) : ∃ d, Q d := ⟨_, h⟩
theorem c_l3Put (rs ps : List Two) (v c b n : Int) (hr : rs.length ≤ 1000) (hp : ps.length ≤ 1000) : Con PP 112 [.agg [.ref 0 0 rs.length, .ref 1 0 ps.length, i6 v, i6 c], oi b, oi n] [.arr (rs.map Two.cells), .arr (ps.map Two.cells)] 0
    (fun d : List Two => d.length ≤ ps.length + 1) (fun d => .agg [.ref 0 0 rs.length, .ref 1 0 d.length, i6 v, i6 c]) (fun d => [.arr (rs.map Two.cells), .arr (d.map Two.cells)]) := by
  refine Con.vc [(11, .res (oi (atI ps b))), (26, .row [])] TTok hmo Go.Proofs.Tryd.func112 rfl (by kernel_rfl) rfl (by kernel_rfl) ?_
  repeat' (first | refine And.intro ?_ ?_ | exact tf | exact ft | refine tt ?_ | refine ff ?_ | exact ⟨trivial⟩ | exact sAll rfl | exact sF1 rfl | exact sBld (by repeat' (first | exact trivial | rfl | exact Nat.le_of_ble_eq_true rfl | refine And.intro ?_ ?_)) rfl | exact sBS (by repeat' (first | exact trivial | rfl | exact Nat.le_of_ble_eq_true rfl | refine And.intro ?_ ?_)) rfl rfl rfl rfl | exact sBSF (by repeat' (first | exact trivial | rfl | exact Nat.le_of_ble_eq_true rfl | refine And.intro ?_ ?_)) rfl rfl rfl rfl | exact sLe rfl | exact Chk.mk (by kernel_rfl) | exact ⟨Chk.mk (by kernel_rfl)⟩ | exact sLeEq rfl rfl | refine fun h => ?_)
  all_goals have hlt := atI_lt (b := b) (xs := ps)
  all_goals try (exact sLend ⟨lendF Two.frz rfl, trivial, trivial⟩ (c_l3At ps b (Nat.le_trans hp (by decide))) (congrArg (fun z => [MV.one (.fz z), oi b]) (l_all rfl)))
  all_goals try (exact sIxO (of_decide_eq_true h) hlt rfl (fun _ => rfl))
  all_goals try (exact sSt (c := Two.cells) (m := 2) (xs := ps) (by have h := of_decide_eq_true h; omega) (fun _ => rfl) rfl rfl)
  all_goals try (exact sApp (xs := ps) (c := Two.cells) (by simp) (fun _ => rfl) rfl (by omega) rfl rfl)
  all_goals try (first | exact ⟨trivial, trivial⟩ | exact ⟨Nat.le_of_ble_eq_true rfl, trivial⟩ | exact ⟨trivial, Nat.le_of_ble_eq_true rfl, trivial⟩ | exact ⟨Nat.le_of_ble_eq_true rfl, trivial, trivial⟩)
  all_goals simp only [decide_eq_true_eq, decide_eq_false_iff_not, List.length_map, Bool.not_eq_true', Bool.not_eq_false', Bool.not_eq_eq_eq_not, Bool.not_true, Bool.not_false, bne_iff_ne, ne_eq, bne_eq_false_iff_eq, beq_iff_eq, beq_eq_false_iff_ne] at *
  · apply exPut (ps.set (atI ps b).toNat ⟨(ps.getD (atI ps b).toNat default).a, n⟩); refine ⟨[], [], by simp, ?_⟩
    repeat' (first | exact trivial | exact ⟨trivial⟩ | exact Side.mk rfl | exact sF1 rfl | exact Chk.mk (by kernel_rfl) | exact ⟨Chk.mk (by kernel_rfl)⟩ | exact sMapF Two.flat | exact sSet (by rw [mapGet (by omega)]; rfl) | exact sSetL rfl | refine And.intro ?_ ?_ | rfl)
  · apply exPut (ps ++ [⟨b, n⟩]); refine ⟨[(1, 4)], [], by simp, ?_⟩
    repeat' (first | exact trivial | exact ⟨trivial⟩ | exact Side.mk rfl | exact sF1 rfl | exact Chk.mk (by kernel_rfl) | exact ⟨Chk.mk (by kernel_rfl)⟩ | exact sAppR rfl | exact sAppL rfl rfl | exact sMapF Two.flat | refine And.intro ?_ ?_ | rfl)
structure StT where
  regs : List Int
  rs : List Two
  ps : List Two
  v : Int
  c : Int
def oi1 (n : Int) : List MC := [i6 n]
theorem oi1.flat (n : Int) : (oi1 n).all MC.flat = true := rfl
theorem oi1.frz (n : Int) : (oi1 n).all MC.frz = true := rfl
theorem exStep {Q : List Int × List Two × List Two × Int → Prop} (g : List Int) (rs ps : List Two) (c : Int) (h : Q (g, rs, ps, c)) : ∃ d, Q d := ⟨_, h⟩
theorem oiSet {g : List Int} {a : Nat} (n : Int) (h : a < g.length) : (g.map oi1).set (0 + a) (putAt ((g.map oi1).getD (0 + a) []) 0 [MC.sc (Value.int IntKind.i64 n)]) = (g.set a n).map oi1 :=
  (setMap (by rw [mapGet h]; rfl)).symm
def tLook (rs ps : List Two) (v c : Int) : ConT := ⟨Int × List Two, fun d => d.2.length ≤ rs.length + 1, fun d => .tup [oi d.1, .agg [.ref 0 0 d.2.length, .ref 1 0 ps.length, i6 v, i6 c]], fun d => [.arr (d.2.map Two.cells), .arr (ps.map Two.cells)]⟩
def tPut (rs ps : List Two) (v c : Int) : ConT := ⟨List Two, fun d => d.length ≤ ps.length + 1, fun d => .agg [.ref 0 0 rs.length, .ref 1 0 d.length, i6 v, i6 c], fun d => [.arr (rs.map Two.cells), .arr (d.map Two.cells)]⟩
set_option maxHeartbeats 4000000 in
theorem c_l3Step (bx : List Two) (hbx : bx.length = 4) (g : List Int) (hg : g.length = 4) (rs ps : List Two) (v c : Int) (x : Ins) (hr : rs.length ≤ 900) (hp : ps.length ≤ 900) (ha : 0 ≤ x.a ∧ x.a ≤ 3) (hb : 0 ≤ x.b ∧ x.b ≤ 3) : Con PP 102 [.one (.fz (bx.map Two.cells)), .agg [.ref 1 0 rs.length, .ref 2 0 ps.length, i6 v, i6 c], .one (.ref 0 0 4), .agg x.cells] [.arr (g.map oi1), .arr (rs.map Two.cells), .arr (ps.map Two.cells)] 1
    (fun d : List Int × List Two × List Two × Int => d.1.length = 4 ∧ d.2.1.length ≤ rs.length + 1 ∧ d.2.2.1.length ≤ ps.length + 1) (fun d => .agg [.ref 1 0 d.2.1.length, .ref 2 0 d.2.2.1.length, i6 v, i6 d.2.2.2]) (fun d => [.arr (d.1.map oi1), .arr (d.2.1.map Two.cells), .arr (d.2.2.1.map Two.cells)]) := by
  refine Con.vc [(20, .con false [] [1, 2] [] (fun _ _ => tLook rs ps v c)), (39, .con false [] [1, 2] [] (fun _ _ => tPut rs ps v c)), (38, .resf asI), (57, .resf asI), (62, .resf asI), (74, .resf asI), (79, .resf asI), (93, .resf asI), (94, .resf (fun l => ob (inr (intOf l) (-1000000) 1000000)))] TTok hmo Go.Proofs.Tryd.func102 rfl (by kernel_rfl) rfl (by kernel_rfl) ?_
  repeat' (first | refine And.intro ?_ ?_ | exact tf | exact ft | refine tt ?_ | refine ff ?_ | exact ⟨trivial⟩ | exact sAll rfl | exact sF1 rfl | exact sBld (by repeat' (first | exact trivial | rfl | exact Nat.le_of_ble_eq_true rfl | refine And.intro ?_ ?_)) rfl | exact sBS (by repeat' (first | exact trivial | rfl | exact Nat.le_of_ble_eq_true rfl | refine And.intro ?_ ?_)) rfl rfl rfl rfl | exact sBSF (by repeat' (first | exact trivial | rfl | exact Nat.le_of_ble_eq_true rfl | refine And.intro ?_ ?_)) rfl rfl rfl rfl | exact sLe rfl | exact Chk.mk (by kernel_rfl) | exact ⟨Chk.mk (by kernel_rfl)⟩ | exact sLeEq rfl rfl | refine fun h => ?_)
  all_goals try dsimp only [tLook, tPut] at *
  all_goals have hA : x.a.toNat < g.length := by omega
  all_goals try simp only [oiSet _ hA] at *
  all_goals try (exact ⟨allF Two.frz, allF Two.frz, trivial⟩)
  all_goals try (exact ⟨fun d _ => ⟨allF Two.frz, allF Two.frz, trivial⟩⟩)
  all_goals try (exact ⟨c_l3Look bx hbx rs ps v c x.b (by omega) (by omega) hb⟩)
  all_goals try (exact ⟨⟨trivial, trivial⟩, c_l1Num _⟩)
  all_goals try (exact ⟨c_l3Put rs ps v c _ _ (by omega) (by omega)⟩)
  all_goals try (exact sIxO (c := oi1) (by omega) (by first | omega | (simp only [List.length_set]; omega)) (by first | omega | (simp only [List.length_set]; omega)) (fun _ => rfl))
  all_goals try (exact sSt (c := oi1) (m := 1) (xs := g) (by omega) (fun _ => rfl) rfl rfl)
  all_goals try (exact sLdI (c := oi1) (n := id) (t := fun _ => []) (by first | omega | (simp only [List.length_set]; omega)) (fun _ => rfl))
  all_goals try (first | exact ⟨trivial, trivial⟩ | exact ⟨Nat.le_of_ble_eq_true rfl, trivial⟩ | exact ⟨trivial, Nat.le_of_ble_eq_true rfl, trivial⟩ | exact ⟨Nat.le_of_ble_eq_true rfl, trivial, trivial⟩)
  all_goals try (exact ⟨fun _ _ => trivial⟩)
  all_goals (apply exStep _ _ _ _)
  all_goals first | (refine ⟨[], [], ?_, ?_⟩; rotate_left 1; focus ((repeat' (first | exact trivial | exact ⟨trivial⟩ | exact Side.mk rfl | exact sF1 rfl | exact Chk.mk (by kernel_rfl) | exact ⟨Chk.mk (by kernel_rfl)⟩ | exact sMapF Two.flat | exact sMapF oi1.flat | refine And.intro ?_ ?_ | rfl)); done)) | (refine ⟨[(1, 6), (2, 7)], [], ?_, ?_⟩; rotate_left 1; focus ((repeat' (first | exact trivial | exact ⟨trivial⟩ | exact Side.mk rfl | exact sF1 rfl | exact Chk.mk (by kernel_rfl) | exact ⟨Chk.mk (by kernel_rfl)⟩ | exact sMapF Two.flat | exact sMapF oi1.flat | refine And.intro ?_ ?_ | rfl)); done)) | skip
  all_goals (refine ⟨?_, ?_, ?_⟩ <;> dsimp only <;> first | omega | (simp only [List.length_set]; omega))
end Mg

/- Runs that are drawn. No condition. -/
namespace Mg
open Go Go.RowKit
set_option maxRecDepth 100000
set_option linter.unusedVariables false
set_option linter.unusedSimpArgs false
attribute [local irreducible] W Pure Con
theorem insOk_rng {x : Ins} (h : insOk x = true) : (0 ≤ x.a ∧ x.a ≤ 3) ∧ (0 ≤ x.b ∧ x.b ≤ 3) ∧ (x.kind = 6 → 1 ≤ x.n ∧ x.n ≤ 10) := by
  unfold insOk at h
  repeat' split at h
  all_goals simp [inr] at h
  all_goals refine ⟨⟨?_, ?_⟩, ⟨?_, ?_⟩, ?_⟩
  all_goals omega
theorem boxOk_len {bx : List Two} (h : boxOk bx = true) : bx.length = 4 := by
  simp [boxOk] at h; omega
theorem progOk_at {xs : List Ins} (h : progOk xs = true) {k : Nat} (hk : k < xs.length) : insOk (xs.getD k default) = true := by
  simp only [progOk, Bool.and_eq_true, List.all_eq_true] at h
  rw [List.getD_eq_getElem?_getD, List.getElem?_eq_getElem hk]
  exact h.2 _ (List.getElem_mem hk)
theorem progOk_len {xs : List Ins} (h : progOk xs = true) : xs.length ≤ 10 := by
  simp only [progOk, Bool.and_eq_true, decide_eq_true_eq] at h
  exact h.1
theorem exRun {Q : Run → Prop} (x : Run) (h : Q x) : ∃ d, Q d := ⟨_, h⟩
def tStep (rs ps : List Two) (v c : Int) : ConT := ⟨List Int × List Two × List Two × Int, fun d => d.1.length = 4 ∧ d.2.1.length ≤ rs.length + 1 ∧ d.2.2.1.length ≤ ps.length + 1, fun d => .agg [.ref 1 0 d.2.1.length, .ref 2 0 d.2.2.1.length, i6 v, i6 d.2.2.2], fun d => [.arr (d.1.map oi1), .arr (d.2.1.map Two.cells), .arr (d.2.2.1.map Two.cells)]⟩
set_option maxHeartbeats 4000000 in
theorem c_spec_ExecRun (bx : List Two) (xs : List Ins) (hbx : bx.length ≤ maxLen) (hxs : xs.length ≤ maxLen) : Con PP 92 [.one (.fz (bx.map Two.cells)), .one (.fz (xs.map Ins.cells))] [] 0
    (fun d : Run => d.reads.length ≤ 30 ∧ d.puts.length ≤ 30) (fun d => .agg d.cells) (fun _ => []) := by
  refine Con.vc [(10, .res (ob (boxOk bx))), (14, .res (ob (progOk xs))), (65, .resf asI)] TTok hmo Go.Proofs.Tryd.func92 rfl (by kernel_rfl) rfl (by kernel_rfl) ?_
  repeat' (first | refine And.intro ?_ ?_ | exact tf | exact ft | refine tt ?_ | refine ff ?_ | exact ⟨trivial⟩ | exact sAll rfl | exact sF1 rfl | exact sBld (by repeat' (first | exact trivial | rfl | exact Nat.le_of_ble_eq_true rfl | refine And.intro ?_ ?_)) rfl | exact sBS (by repeat' (first | exact trivial | rfl | exact Nat.le_of_ble_eq_true rfl | refine And.intro ?_ ?_)) rfl rfl rfl rfl | exact sBSF (by repeat' (first | exact trivial | rfl | exact Nat.le_of_ble_eq_true rfl | refine And.intro ?_ ?_)) rfl rfl rfl rfl | exact sLe rfl | exact Chk.mk (by kernel_rfl) | exact ⟨Chk.mk (by kernel_rfl)⟩ | exact sLeEq rfl rfl | exact sAnd (by repeat' constructor) (c_spec_BoxOk bx hbx) | exact sAnd (by repeat' constructor) (c_spec_ProgOk xs hxs) | refine fun h => ?_)
  all_goals try (first | exact ⟨trivial, trivial⟩ | exact ⟨Nat.le_of_ble_eq_true rfl, trivial⟩ | exact ⟨trivial, Nat.le_of_ble_eq_true rfl, trivial⟩ | exact ⟨Nat.le_of_ble_eq_true rfl, trivial, trivial⟩)
  · apply exRun ⟨[], [], 0, 3⟩; refine ⟨[], [], ⟨by decide, by decide⟩, ?_⟩
    repeat' (first | exact trivial | exact ⟨trivial⟩ | exact Side.mk rfl | exact sF1 rfl | exact Chk.mk (by kernel_rfl) | exact ⟨Chk.mk (by kernel_rfl)⟩ | refine And.intro ?_ ?_ | rfl)
  · exact ⟨by decide⟩
  · have h1 : boxOk bx = true := by simp_all
    have h2 : progOk xs = true := by simp_all
    have hl := progOk_len h2
    refine W.vbox 1 0 rfl ?_
    refine W.vbox 1 1 rfl ?_
    refine W.loopC (D := Int × List Int × List Two × List Two × Int) (fun d => [(33, .row (xs.getD d.1.toNat default).cells), (42, .resf asI), (47, .resf asI), (57, .con false [2] [3, 4] [] (fun _ _ => tStep d.2.2.1 d.2.2.2.1 0 d.2.2.2.2))]) TTok hmo
      (fun d => ⟨68, 5, [(0, .one (.fz (bx.map Two.cells))), (1, .one (.fz (xs.map Ins.cells))), (4, .one (.ptr 0 0 0)), (5, .one (.ptr 1 0 0)), (6, .one (.ref 2 0 4)), (7, oi d.1)],
        [(0, .box [.nil, .nil, i6 0, i6 0]), (1, .box [.ref 3 0 d.2.2.1.length, .ref 4 0 d.2.2.2.1.length, i6 0, i6 d.2.2.2.2]), (2, .arr (d.2.1.map oi1)), (3, .arr (d.2.2.1.map Two.cells)), (4, .arr (d.2.2.2.1.map Two.cells))]⟩) (fun d => (xs.length - d.1).toNat)
      (fun d => (0 ≤ d.1 ∧ d.1 ≤ 30) ∧ d.2.1.length = 4 ∧ d.2.2.1.length ≤ d.1 ∧ d.2.2.2.1.length ≤ d.1) (0, [0, 0, 0, 0], [], [], 0) [] ⟨by decide, rfl, by decide, by decide⟩ ?_ ?_
    · repeat' (first | exact trivial | exact ⟨trivial⟩ | exact Side.mk rfl | exact sF1 rfl | exact Chk.mk (by kernel_rfl) | exact ⟨Chk.mk (by kernel_rfl)⟩ | exact sMapF oi1.flat | exact sMapF Two.flat | refine And.intro ?_ ?_ | rfl)
    · intro ⟨k, g, rs, ps, c⟩ ⟨hk, hg, hr, hp⟩
      dsimp only at hk hg hr hp
      repeat' (first | refine And.intro ?_ ?_ | exact tf | exact ft | refine tt ?_ | refine ff ?_ | exact ⟨trivial⟩ | exact sAll rfl | exact sF1 rfl | exact sBld (by repeat' (first | exact trivial | rfl | exact Nat.le_of_ble_eq_true rfl | refine And.intro ?_ ?_)) rfl | exact sBS (by repeat' (first | exact trivial | rfl | exact Nat.le_of_ble_eq_true rfl | refine And.intro ?_ ?_)) rfl rfl rfl rfl | exact sBSF (by repeat' (first | exact trivial | rfl | exact Nat.le_of_ble_eq_true rfl | refine And.intro ?_ ?_)) rfl rfl rfl rfl | exact sLe rfl | exact Chk.mk (by kernel_rfl) | exact ⟨Chk.mk (by kernel_rfl)⟩ | exact sLeEq rfl rfl | refine fun h => ?_)
      all_goals dsimp only [tStep] at *
      all_goals try (have hkl : k.toNat < xs.length := by (have h9 := of_decide_eq_true ‹decide (k < ((List.map Ins.cells xs).length : Int)) = true›; rw [List.length_map] at h9; omega))
      all_goals try (have hrg := insOk_rng (progOk_at h2 hkl))
      all_goals try (exact sRow hk.1 (by rw [List.getElem?_map, List.getD_eq_getElem?_getD, List.getElem?_eq_getElem (by omega)]; rfl) rfl)
      all_goals try (exact sIxO (c := oi1) hrg.1.1 (by omega) (by omega) (fun _ => rfl))
      all_goals try (exact sIxO (c := oi1) hrg.2.1.1 (by omega) (by omega) (fun _ => rfl))
      all_goals try (exact sLdI (c := oi1) (n := id) (t := fun _ => []) (by omega) (fun _ => rfl))
      all_goals try (exact ⟨allF oi1.frz, allF Two.frz, allF Two.frz, trivial⟩)
      all_goals try (exact ⟨c_l3Step bx (boxOk_len h1) g hg rs ps 0 c _ (by omega) (by omega) hrg.1 hrg.2.1⟩)
      all_goals try (first | exact ⟨trivial, trivial⟩ | exact ⟨Nat.le_of_ble_eq_true rfl, trivial⟩ | exact ⟨trivial, Nat.le_of_ble_eq_true rfl, trivial⟩ | exact ⟨Nat.le_of_ble_eq_true rfl, trivial, trivial⟩)
      all_goals simp only [decide_eq_true_eq, decide_eq_false_iff_not, List.length_map, Bool.not_eq_true', Bool.not_eq_false', Bool.not_eq_eq_eq_not, Bool.not_true, Bool.not_false, bne_iff_ne, ne_eq, bne_eq_false_iff_eq, beq_iff_eq, beq_eq_false_iff_ne] at *
      all_goals try (exact ⟨fun d hd => ⟨allF oi1.frz, allF Two.frz, allF Two.frz, trivial⟩⟩)
      all_goals try (exact ⟨fun d hd => ⟨by simp [hd.1, hg], trivial⟩⟩)
      all_goals try (exact ⟨⟨⟨by decide, by decide⟩, by first | omega | (rw [List.length_map]; omega), by rw [mapGet (by omega)]; rfl⟩⟩)
      all_goals try (exact sLdI (k := 0) (c := oi1) (n := id) (t := fun _ => []) (by omega) (fun _ => rfl))
      · have hn := hrg.2.2 (by assumption)
        refine ⟨(k + (xs.getD k.toNat default).n + 1, g, rs, ps, c), [], ?_, ⟨⟨?_, ?_⟩, hg, ?_, ?_⟩, ?_⟩
        all_goals dsimp only
        all_goals try omega
        repeat' (first | exact trivial | exact ⟨trivial⟩ | exact Side.mk rfl | exact sF1 rfl | exact Chk.mk (by kernel_rfl) | exact ⟨Chk.mk (by kernel_rfl)⟩ | exact sMapF oi1.flat | exact sMapF Two.flat | exact ⟨by rw [wrapi (n := k + _), wrapi] <;> omega⟩ | refine And.intro ?_ ?_ | rfl)
      · refine ⟨(k + 1, g, rs, ps, c), [], ?_, ⟨⟨?_, ?_⟩, hg, ?_, ?_⟩, ?_⟩
        all_goals dsimp only
        all_goals try omega
        repeat' (first | exact trivial | exact ⟨trivial⟩ | exact Side.mk rfl | exact sF1 rfl | exact Chk.mk (by kernel_rfl) | exact ⟨Chk.mk (by kernel_rfl)⟩ | exact sMapF oi1.flat | exact sMapF Two.flat | exact ⟨by rw [wrapi] <;> omega⟩ | refine And.intro ?_ ?_ | rfl)
      · rename_i d hd _ _ _ _
        refine ⟨(k + 1, d.1, d.2.1, d.2.2.1, d.2.2.2), [(3, 6), (4, 7)], ?_, ⟨⟨?_, ?_⟩, hd.1, ?_, ?_⟩, ?_⟩
        all_goals dsimp only
        all_goals try omega
        repeat' (first | exact trivial | exact ⟨trivial⟩ | exact Side.mk rfl | exact sF1 rfl | exact Chk.mk (by kernel_rfl) | exact ⟨Chk.mk (by kernel_rfl)⟩ | exact sMapF oi1.flat | exact sMapF Two.flat | exact ⟨by rw [wrapi] <;> omega⟩ | refine And.intro ?_ ?_ | rfl)
      · apply exRun ⟨rs, [], _, _⟩; refine ⟨[], [3], ?_, ?_⟩; rotate_left 1; focus (repeat' (first | exact trivial | exact ⟨trivial⟩ | exact Side.mk rfl | exact sF1 rfl | exact Chk.mk (by kernel_rfl) | exact ⟨Chk.mk (by kernel_rfl)⟩ | exact sMapZ Two.frz | exact sFzE rfl | refine And.intro ?_ ?_ | rfl))
        exact ⟨by dsimp only; omega, Nat.le_of_ble_eq_true rfl⟩
      · apply exRun ⟨rs, ps, _, _⟩; refine ⟨[], [3, 4], ?_, ?_⟩; rotate_left 1; focus (repeat' (first | exact trivial | exact ⟨trivial⟩ | exact Side.mk rfl | exact sF1 rfl | exact Chk.mk (by kernel_rfl) | exact ⟨Chk.mk (by kernel_rfl)⟩ | exact sMapZ Two.frz | exact sFzE rfl | exact ⟨⟨allF Two.frz, allF Two.frz, trivial⟩⟩ | refine And.intro ?_ ?_ | rfl))
        exact ⟨by dsimp only; omega, by dsimp only; omega⟩
      · apply exRun ⟨rs, [], _, _⟩; refine ⟨[], [3], ?_, ?_⟩; rotate_left 1; focus (repeat' (first | exact trivial | exact ⟨trivial⟩ | exact Side.mk rfl | exact sF1 rfl | exact Chk.mk (by kernel_rfl) | exact ⟨Chk.mk (by kernel_rfl)⟩ | exact sMapZ Two.frz | exact sFzE rfl | refine And.intro ?_ ?_ | rfl))
        exact ⟨by dsimp only; omega, Nat.le_of_ble_eq_true rfl⟩
      · apply exRun ⟨rs, ps, _, _⟩; refine ⟨[], [3, 4], ?_, ?_⟩; rotate_left 1; focus (repeat' (first | exact trivial | exact ⟨trivial⟩ | exact Side.mk rfl | exact sF1 rfl | exact Chk.mk (by kernel_rfl) | exact ⟨Chk.mk (by kernel_rfl)⟩ | exact sMapZ Two.frz | exact sFzE rfl | exact ⟨⟨allF Two.frz, allF Two.frz, trivial⟩⟩ | refine And.intro ?_ ?_ | rfl))
        exact ⟨by dsimp only; omega, by dsimp only; omega⟩
  · apply exRun ⟨[], [], 0, 3⟩; refine ⟨[], [], ⟨by decide, by decide⟩, ?_⟩
    repeat' (first | exact trivial | exact ⟨trivial⟩ | exact Side.mk rfl | exact sF1 rfl | exact Chk.mk (by kernel_rfl) | exact ⟨Chk.mk (by kernel_rfl)⟩ | refine And.intro ?_ ?_ | rfl)
end Mg

/- Copies of runs and entries; entries that are drawn. No condition. -/
namespace Mg
open Go Go.RowKit
set_option maxRecDepth 100000
set_option linter.unusedVariables false
set_option linter.unusedSimpArgs false
attribute [local irreducible] W Pure Con
def sProg (ds : List MV) (os : List Ob) : ConT := match os with
  | [.box [b, .sc (.int _ p)]] => ⟨List Ins × Int, fun d => d.1.length ≤ 8 ∧ p ≤ d.2 ∧ d.2 ≤ p + 60, fun d => .one (.fz (d.1.map Ins.cells)), fun d => [.box [b, i6 d.2]]⟩
  | _ => noT
def sRun (ds : List MV) (os : List Ob) : ConT := ⟨Run, fun d => d.reads.length ≤ 30 ∧ d.puts.length ≤ 30, fun d => .agg d.cells, fun _ => []⟩
theorem exEnt {Q : Entry × Int → Prop} (n : Bool) (a b : Int) (rs ps : List Two) (c d q : Int) (h : Q (⟨n, ⟨a, b⟩, ⟨rs, ps, c, d⟩⟩, q)) : ∃ d, Q d := ⟨_, h⟩
set_option maxHeartbeats 4000000 in
theorem c_l5Any (bs : List Int) (hb : BsOk bs) (bx : List Two) (hbx : bx.length ≤ maxLen) (p : Int) (h0 : 0 ≤ p) (h1 : p ≤ 999999990000) : Con PP 67 [.one (.ptr 0 0 0), .one (.fz (bx.map Two.cells))] [rdO bs p] 1 (fun d : Entry × Int => d.1.ok 30 ∧ p ≤ d.2 ∧ d.2 ≤ p + 70) (fun d => .agg d.1.cells) (fun d => [rdO bs d.2]) := by
  refine Con.vc [(7, .con false [0] [] [] sPick), (11, .con false [0] [] [] sPick), (13, .con false [0] [] [] sPick), (18, .con false [0] [] [] sProg), (19, .con false [] [] [] sRun), (22, .con false [0] [] [] sPick), (26, .row []), (27, .con false [0] [] [] sNum)] TTok hmo Go.Proofs.Tryd.func67 rfl (by kernel_rfl) rfl (by kernel_rfl) ?_
  repeat' (first | refine And.intro ?_ ?_ | exact tf | exact ft | refine tt ?_ | refine ff ?_ | exact ⟨trivial⟩ | exact sAll rfl | exact sF1 rfl | exact sBld (by repeat' (first | exact trivial | rfl | exact Nat.le_of_ble_eq_true rfl | refine And.intro ?_ ?_)) rfl | exact sBS (by repeat' (first | exact trivial | rfl | exact Nat.le_of_ble_eq_true rfl | refine And.intro ?_ ?_)) rfl rfl rfl rfl | exact sBSF (by repeat' (first | exact trivial | rfl | exact Nat.le_of_ble_eq_true rfl | refine And.intro ?_ ?_)) rfl rfl rfl rfl | exact sLe rfl | exact Chk.mk (by kernel_rfl) | exact ⟨Chk.mk (by kernel_rfl)⟩ | exact sLeEq rfl rfl | refine fun h => ?_)
  all_goals dsimp only [sPick, sProg, sRun, sNum] at *
  all_goals try (exact ⟨fun _ _ => trivial⟩)
  all_goals try (exact ⟨fun _ _ => ⟨trivial, trivial⟩⟩)
  all_goals try (exact ⟨c_pick bs hb _ _ (by omega) (by omega)⟩)
  all_goals try (exact ⟨c_l2Prog bs hb _ (by omega) (by omega)⟩)
  all_goals try (exact ⟨c_num bs hb _ (by omega) (by omega) [0, 1001] (by decide) (by decide)⟩)
  all_goals try (exact ⟨c_spec_ExecRun bx _ hbx (Nat.le_trans (m := 8) (by omega) (by decide))⟩)
  all_goals try (first | exact ⟨trivial, trivial⟩ | exact ⟨Nat.le_of_ble_eq_true rfl, trivial⟩ | exact ⟨trivial, Nat.le_of_ble_eq_true rfl, trivial⟩ | exact ⟨Nat.le_of_ble_eq_true rfl, trivial, trivial⟩)
  · apply exEnt _ _ _ [] []; refine ⟨[], [], ?_, ?_⟩; rotate_left 1; focus (repeat' (first | exact trivial | exact ⟨trivial⟩ | exact Side.mk rfl | exact sF1 rfl | exact Chk.mk (by kernel_rfl) | exact ⟨Chk.mk (by kernel_rfl)⟩ | refine And.intro ?_ ?_ | rfl))
    exact ⟨⟨Nat.le_of_ble_eq_true rfl, Nat.le_of_ble_eq_true rfl⟩, by dsimp only; omega, by dsimp only; omega⟩
  all_goals first | (apply exEnt _ _ _ _ _ _ 3; refine ⟨[], [], ?_, ?_⟩; rotate_left 1; focus ((repeat' (first | exact trivial | exact ⟨trivial⟩ | exact Side.mk rfl | exact sF1 rfl | exact Chk.mk (by kernel_rfl) | exact ⟨Chk.mk (by kernel_rfl)⟩ | refine And.intro ?_ ?_ | rfl)); done)) | (apply exEnt; refine ⟨[], [], ?_, ?_⟩; rotate_left 1; focus (repeat' (first | exact trivial | exact ⟨trivial⟩ | exact Side.mk rfl | exact sF1 rfl | exact Chk.mk (by kernel_rfl) | exact ⟨Chk.mk (by kernel_rfl)⟩ | refine And.intro ?_ ?_ | rfl)))
  all_goals exact ⟨by assumption, by dsimp only; omega, by dsimp only; omega⟩
end Mg

/- Promises and votes that are drawn. No condition. -/
namespace Mg
open Go Go.RowKit
set_option maxRecDepth 100000
set_option linter.unusedVariables false
set_option linter.unusedSimpArgs false
attribute [local irreducible] W Pure Con
theorem exProm {Q : Int × Bool → Prop} (p : Int) (b : Bool) (h : Q (p, b)) : ∃ d, Q d := ⟨_, h⟩
def tProm (vs : List Vote) : ConT := ⟨Int × Bool, fun _ => True, fun d => .tup [.agg [i6 d.1, .ref 0 0 vs.length], ob d.2], fun _ => [.arr (vs.map Vote.cells)]⟩
theorem c_l6Promise (vs : List Vote) (p b : Int) : Con PP 94 [.agg [i6 p, .ref 0 0 vs.length], oi b] [.arr (vs.map Vote.cells)] 1
    (fun _ : Int × Bool => True) (fun d => .tup [.agg [i6 d.1, .ref 0 0 vs.length], ob d.2]) (fun _ => [.arr (vs.map Vote.cells)]) := by
  refine Con.vc [(7, .res (ob (inr b 1 3000)))] TTok hmo Go.Proofs.Tryd.func94 rfl (by kernel_rfl) rfl (by kernel_rfl) ?_
  repeat' (first | refine And.intro ?_ ?_ | exact tf | exact ft | refine tt ?_ | refine ff ?_ | exact ⟨trivial⟩ | exact sAll rfl | exact sF1 rfl | exact sBld (by repeat' (first | exact trivial | rfl | exact Nat.le_of_ble_eq_true rfl | refine And.intro ?_ ?_)) rfl | exact sBS (by repeat' (first | exact trivial | rfl | exact Nat.le_of_ble_eq_true rfl | refine And.intro ?_ ?_)) rfl rfl rfl rfl | exact sBSF (by repeat' (first | exact trivial | rfl | exact Nat.le_of_ble_eq_true rfl | refine And.intro ?_ ?_)) rfl rfl rfl rfl | exact sLe rfl | exact Chk.mk (by kernel_rfl) | exact ⟨Chk.mk (by kernel_rfl)⟩ | exact sLeEq rfl rfl | exact sAnd (by repeat' constructor) (c_l6Bal _) | refine fun h => ?_)
  all_goals try (first | exact ⟨trivial, trivial⟩ | exact ⟨Nat.le_of_ble_eq_true rfl, trivial⟩ | exact ⟨trivial, Nat.le_of_ble_eq_true rfl, trivial⟩ | exact ⟨Nat.le_of_ble_eq_true rfl, trivial, trivial⟩)
  all_goals (apply exProm; refine ⟨[], [], ?_, ?_⟩; rotate_left 1; focus (repeat' (first | exact trivial | exact ⟨trivial⟩ | exact Side.mk rfl | exact sF1 rfl | exact Chk.mk (by kernel_rfl) | exact ⟨Chk.mk (by kernel_rfl)⟩ | exact sMapF Vote.flat | refine And.intro ?_ ?_ | rfl)))
  all_goals exact trivial
theorem exCast {Q : Int × List Vote × Bool → Prop} (p : Int) (vs : List Vote) (b : Bool) (h : Q (p, vs, b)) : ∃ d, Q d := ⟨_, h⟩
set_option maxHeartbeats 4000000 in
theorem c_l6Cast (vs : List Vote) (p b slot : Int) (e : Entry) (hl : vs.length ≤ 1000) (hv : VsOk 30 vs) (he : e.ok 30) : Con PP 95 [.agg [i6 p, .ref 0 0 vs.length], oi b, oi slot, .agg e.cells] [.arr (vs.map Vote.cells)] 0
    (fun d : Int × List Vote × Bool => d.2.1.length ≤ max vs.length (slot.toNat + 1) ∧ VsOk 30 d.2.1) (fun d => .tup [.agg [i6 d.1, .ref 0 0 d.2.1.length], ob d.2.2]) (fun d => [.arr (d.2.1.map Vote.cells)]) := by
  have he' : e.ok lim := ⟨Nat.le_trans he.1 (by decide), Nat.le_trans he.2 (by decide)⟩
  refine Con.vc [(20, .res (ob (entryOk e))), (27, .con false [0] [] [] (fun _ _ => tProm vs)), (49, .res (.agg e.cells))] TTok hmo Go.Proofs.Tryd.func95 rfl (by kernel_rfl) rfl (by kernel_rfl) ?_
  repeat' (first | refine And.intro ?_ ?_ | exact tf | exact ft | refine tt ?_ | refine ff ?_ | exact ⟨trivial⟩ | exact sAll rfl | exact sF1 rfl | exact sBld (by repeat' (first | exact trivial | rfl | exact Nat.le_of_ble_eq_true rfl | refine And.intro ?_ ?_)) rfl | exact sBS (by repeat' (first | exact trivial | rfl | exact Nat.le_of_ble_eq_true rfl | refine And.intro ?_ ?_)) rfl rfl rfl rfl | exact sBSF (by repeat' (first | exact trivial | rfl | exact Nat.le_of_ble_eq_true rfl | refine And.intro ?_ ?_)) rfl rfl rfl rfl | exact sLe rfl | exact Chk.mk (by kernel_rfl) | exact ⟨Chk.mk (by kernel_rfl)⟩ | exact sLeEq rfl rfl | exact sAnd (by repeat' constructor) (c_spec_CertEntry e he') | exact sAnd (by repeat' constructor) (c_l5Entry e he') | refine fun h => ?_)
  all_goals try dsimp only [tProm] at *
  all_goals try (exact ⟨fun _ _ => trivial⟩)
  all_goals try (exact ⟨fun _ _ => ⟨Nat.le_refl _, trivial⟩⟩)
  all_goals try (exact ⟨c_l6Promise vs p b⟩)
  all_goals try (exact ⟨allF Vote.frz, trivial⟩)
  all_goals try (first | exact ⟨trivial, trivial⟩ | exact ⟨Nat.le_of_ble_eq_true rfl, trivial⟩ | exact ⟨trivial, Nat.le_of_ble_eq_true rfl, trivial⟩ | exact ⟨Nat.le_of_ble_eq_true rfl, trivial, trivial⟩)
  all_goals try (exact ⟨fun _ _ => ⟨allF Vote.frz, trivial⟩⟩)
  rotate_left 2
  · rename_i dp _
    rcases dp with ⟨p1, b1⟩
    have hs0 : 0 ≤ slot ∧ slot < 40 := by
      have g1 := of_decide_eq_false ‹decide (slot < 0) = false›
      have g2 := of_decide_eq_false ‹decide (slot ≥ 40) = false›
      omega
    refine W.loopC (D := List Vote) (fun d => [(41, .row []), (49, .res (.agg e.cells))]) TTok hmo
      (fun d => ⟨53, 6, [(1, oi b), (2, oi slot), (7, .one (.ptr 2 0 0)), (8, .one (.ptr 3 0 0)), (9, ob false), (10, .one (.ptr 4 0 0))],
        [(5, .arr (d.map Vote.cells)), (2, .box e.cells), (3, .box [i6 0, .nil]), (4, .box [i6 p1, .ref 5 0 d.length])]⟩) (fun d => slot.toNat + 1 - d.length)
      (fun d => d.length ≤ max vs.length (slot.toNat + 1) ∧ VsOk 30 d) vs [(5, 0)] ⟨by omega, hv⟩ ?_ ?_
    · repeat' (first | exact trivial | exact ⟨trivial⟩ | exact Side.mk rfl | exact sF1 rfl | exact Chk.mk (by kernel_rfl) | exact ⟨Chk.mk (by kernel_rfl)⟩ | exact sMapF Vote.flat | refine And.intro ?_ ?_ | rfl)
    · intro d ⟨h1, h2⟩
      repeat' (first | refine And.intro ?_ ?_ | exact tf | exact ft | refine tt ?_ | refine ff ?_ | exact ⟨trivial⟩ | exact sAll rfl | exact sF1 rfl | exact sBld (by repeat' (first | exact trivial | rfl | exact Nat.le_of_ble_eq_true rfl | refine And.intro ?_ ?_)) rfl | exact sBS (by repeat' (first | exact trivial | rfl | exact Nat.le_of_ble_eq_true rfl | refine And.intro ?_ ?_)) rfl rfl rfl rfl | exact sBSF (by repeat' (first | exact trivial | rfl | exact Nat.le_of_ble_eq_true rfl | refine And.intro ?_ ?_)) rfl rfl rfl rfl | exact sLe rfl | exact Chk.mk (by kernel_rfl) | exact ⟨Chk.mk (by kernel_rfl)⟩ | exact sLeEq rfl rfl | exact sAnd (by repeat' constructor) (c_l5Entry e he') | refine fun h => ?_)
      all_goals try (exact sApp (xs := d) (c := Vote.cells) (by simp) (fun _ => rfl) rfl (by omega) rfl rfl)
      all_goals try (have hd := of_decide_eq_false ‹decide ((d.length : Int) ≤ slot) = false›)
      all_goals try (exact sIxO (c := Vote.cells) (by omega) (by omega) rfl (fun _ => rfl))
      all_goals try (exact sSt (c := Vote.cells) (m := 8) (xs := d) (by omega) (fun _ => rfl) rfl rfl)
      all_goals try (first | exact ⟨trivial, trivial⟩ | exact ⟨Nat.le_of_ble_eq_true rfl, trivial⟩ | exact ⟨trivial, Nat.le_of_ble_eq_true rfl, trivial⟩ | exact ⟨Nat.le_of_ble_eq_true rfl, trivial, trivial⟩)
      all_goals simp only [decide_eq_true_eq, decide_eq_false_iff_not, List.length_map, Bool.not_eq_true', Bool.not_eq_false', Bool.not_eq_eq_eq_not, Bool.not_true, Bool.not_false, bne_iff_ne, ne_eq, bne_eq_false_iff_eq, beq_iff_eq, beq_eq_false_iff_ne] at *
      · refine ⟨d ++ [default], [(5, 6)], by simp; omega, ⟨by simp; omega, VsOk.app h2 Vote.ok_default⟩, ?_⟩
        repeat' (first | exact trivial | exact ⟨trivial⟩ | exact Side.mk rfl | exact sF1 rfl | exact Chk.mk (by kernel_rfl) | exact ⟨Chk.mk (by kernel_rfl)⟩ | exact sAppR rfl | exact sAppL rfl rfl | exact sAppL2 rfl rfl | exact sMapF Vote.flat | refine And.intro ?_ ?_ | rfl)
      · apply exCast p1 (d.set slot.toNat ⟨b, e⟩) true; refine ⟨[(0, 5)], [], ⟨by simp; omega, VsOk.set h2 he⟩, ?_⟩
        repeat' (first | exact trivial | exact ⟨trivial⟩ | exact Side.mk rfl | exact sF1 rfl | exact Chk.mk (by kernel_rfl) | exact ⟨Chk.mk (by kernel_rfl)⟩ | exact sMapF Vote.flat | exact ⟨setMap (xs := d) (by rw [mapGet (by omega)]; rfl)⟩ | exact sSetL rfl | refine And.intro ?_ ?_ | rfl)
  all_goals (apply exCast p vs false; refine ⟨[], [], ⟨by dsimp only; omega, hv⟩, ?_⟩)
  all_goals repeat' (first | exact trivial | exact ⟨trivial⟩ | exact Side.mk rfl | exact sF1 rfl | exact Chk.mk (by kernel_rfl) | exact ⟨Chk.mk (by kernel_rfl)⟩ | exact sMapF Vote.flat | refine And.intro ?_ ?_ | rfl)
end Mg

/- What somebody promised, drawn. No condition. -/
namespace Mg
open Go Go.RowKit
set_option maxRecDepth 100000
set_option linter.unusedVariables false
set_option linter.unusedSimpArgs false
attribute [local irreducible] W Pure Con
def sAny5 (ds : List MV) (os : List Ob) : ConT := match os with
  | [.box [b, .sc (.int _ p)]] => ⟨Entry × Int, fun d => d.1.ok 30 ∧ p ≤ d.2 ∧ d.2 ≤ p + 70, fun d => .agg d.1.cells, fun d => [.box [b, i6 d.2]]⟩
  | _ => noT
def tCast (n : Nat) (ds : List MV) (os : List Ob) : ConT := match ds with
  | [_, _, .one (.sc (.int _ slot)), _] => ⟨Int × List Vote × Bool, fun d => d.2.1.length ≤ max n (slot.toNat + 1) ∧ VsOk 30 d.2.1, fun d => .tup [.agg [i6 d.1, .ref 0 0 d.2.1.length], ob d.2.2], fun d => [.arr (d.2.1.map Vote.cells)]⟩
  | _ => noT
theorem exAcc {Q : Acc × Int → Prop} (p : Int) (vs : List Vote) (q : Int) (h : Q (⟨p, vs⟩, q)) : ∃ d, Q d := ⟨_, h⟩
theorem sMapZ2 {α : Type} {c : α → List MC} {xs : List α} (x : α) {rows2 : List (List MC)} (h : rows2 = [c x]) (hc : ∀ x, (c x).all MC.frz = true) : Side (AllF (xs.map c ++ rows2) ∧ True) :=
  ⟨by rw [h]; have := allF (xs := xs ++ [x]) hc; simpa using this, trivial⟩
theorem sFzE2 {α : Type} {c : α → List MC} {xs : List α} {x : α} {rows2 : List (List MC)} {n : Nat} (h : rows2 = [c x]) (hn : n = xs.length + 1) : Side ((xs ++ [x]).map c = ((xs.map c ++ rows2).drop 0).take n) :=
  ⟨by rw [h, List.drop_zero, List.take_of_length_le (by simp [hn])]; simp⟩
theorem exL4 {Q : Int × Int × List Vote × Int → Prop} (a b : Int) (c : List Vote) (d : Int) (h : Q (a, b, c, d)) : ∃ d, Q d := ⟨_, h⟩
set_option maxHeartbeats 8000000 in
theorem c_l6Acc (bs : List Int) (hb : BsOk bs) (p : Int) (h0 : 0 ≤ p) (h1 : p ≤ 999999900000) : Con PP 77 [.one (.ptr 0 0 0)] [rdO bs p] 1
    (fun d : Acc × Int => d.1.votes.length ≤ 10 ∧ VsOk 30 d.1.votes ∧ p ≤ d.2 ∧ d.2 ≤ p + 1000) (fun d => .agg d.1.cells) (fun d => [rdO bs d.2]) := by
  refine Con.vc [(8, .con false [0] [] [] sPick), (39, .con false [0] [] [] sPick), (43, .row []), (44, .con false [0] [] [] sNum), (900013, .row [i6 0, i6 1, i6 2, i6 4, i6 3, i6 5, i6 6, i6 7, i6 8, i6 9, i6 10, i6 11]), (51, .con false [0] [] [] sPick), (53, .res (.one (.fz ((List.replicate 4 (⟨0, 0⟩ : Two)).map Two.cells)))), (54, .con false [0] [] [] sAny5), (56, .row [])] TTok hmo Go.Proofs.Tryd.func77 rfl (by kernel_rfl) rfl (by kernel_rfl) ?_
  repeat' (first | refine And.intro ?_ ?_ | exact tf | exact ft | refine tt ?_ | refine ff ?_ | exact ⟨trivial⟩ | exact sAll rfl | exact sF1 rfl | exact sBld (by repeat' (first | exact trivial | rfl | exact Nat.le_of_ble_eq_true rfl | refine And.intro ?_ ?_)) rfl | exact sBS (by repeat' (first | exact trivial | rfl | exact Nat.le_of_ble_eq_true rfl | refine And.intro ?_ ?_)) rfl rfl rfl rfl | exact sBSF (by repeat' (first | exact trivial | rfl | exact Nat.le_of_ble_eq_true rfl | refine And.intro ?_ ?_)) rfl rfl rfl rfl | exact sLe rfl | exact Chk.mk (by kernel_rfl) | exact ⟨Chk.mk (by kernel_rfl)⟩ | exact sLeEq rfl rfl | refine fun h => ?_)
  all_goals try (exact ⟨c_pick bs hb _ _ (by omega) (by omega)⟩)
  · exact ⟨fun _ _ => trivial⟩
  · exact ⟨fun _ _ => trivial⟩
  · dsimp only [sPick] at *
    rename_i q1
    have hq1 := h
    clear h
    refine W.vbox 2 1 rfl ?_
    refine W.loopC (D := Int × Int × List Vote × Int) (fun d => [(16, .con false [0] [] [] sPick), (19, .con false [0] [] [] sPick), (24, .con false [3] [] [] (fun _ _ => tProm d.2.2.1)), (31, .con false [0] [] [] sPick), (33, .res (.one (.fz ((List.replicate 4 (⟨0, 0⟩ : Two)).map Two.cells)))), (34, .con false [0] [] [] sAny5), (35, .con false [] [3] [] (tCast d.2.2.1.length)),
      (900005, .row [i6 0, i6 1, i6 2, i6 3, i6 4, i6 5]), (900008, .row [i6 0, i6 1, i6 2, i6 4, i6 3, i6 5, i6 6, i6 7, i6 8, i6 9, i6 10, i6 11])]) TTok hmo
      (fun d => ⟨63, 4, [(0, .one (.ptr 0 0 0)), (2, .one (.ptr 1 0 0)), (3, .one (.ptr 2 0 0)), (4, oi d.1)], [(0, rdO bs d.2.2.2), (1, .box [i6 0, .nil]), (2, .box [i6 d.2.1, .ref 3 0 d.2.2.1.length]), (3, .arr (d.2.2.1.map Vote.cells))]⟩) (fun d => d.1.toNat)
      (fun d => (0 ≤ d.1 ∧ d.1 ≤ 5) ∧ d.2.2.1.length ≤ 4 ∧ VsOk 30 d.2.2.1 ∧ p ≤ d.2.2.2 ∧ d.2.2.2 + 100 * d.1 ≤ p + 600) (q1, 0, [], p + 1) [] ⟨by dsimp only; omega, Nat.le_of_ble_eq_true rfl, (fun v hv => by cases hv), by dsimp only; omega, by dsimp only; omega⟩ ?_ ?_
    · repeat' (first | exact trivial | exact ⟨trivial⟩ | exact Side.mk rfl | exact sF1 rfl | exact Chk.mk (by kernel_rfl) | exact ⟨Chk.mk (by kernel_rfl)⟩ | exact sMapF Vote.flat | refine And.intro ?_ ?_ | rfl)
    · intro ⟨i, m, vs, q⟩ ⟨hi, hl, hv, hp, hq⟩
      dsimp only at hi hl hv hp hq
      repeat' (first | refine And.intro ?_ ?_ | exact tf | exact ft | refine tt ?_ | refine ff ?_ | exact ⟨trivial⟩ | exact sAll rfl | exact sF1 rfl | exact sBld (by repeat' (first | exact trivial | rfl | exact Nat.le_of_ble_eq_true rfl | refine And.intro ?_ ?_)) rfl | exact sBS (by repeat' (first | exact trivial | rfl | exact Nat.le_of_ble_eq_true rfl | refine And.intro ?_ ?_)) rfl rfl rfl rfl | exact sBSF (by repeat' (first | exact trivial | rfl | exact Nat.le_of_ble_eq_true rfl | refine And.intro ?_ ?_)) rfl rfl rfl rfl | exact sLe rfl | exact Chk.mk (by kernel_rfl) | exact ⟨Chk.mk (by kernel_rfl)⟩ | exact sLeEq rfl rfl | exact sAnd (by repeat' constructor) (c_BoxOpen) | refine fun h => ?_)
      all_goals dsimp only [sPick, sAny5, tCast, tProm] at *
      all_goals try (exact ⟨rfl⟩)
      all_goals try (exact trivial)
      all_goals try (exact ⟨fun _ _ => trivial⟩)
      all_goals try (exact ⟨fun _ _ => ⟨Nat.le_refl _, trivial⟩⟩)
      all_goals try (exact ⟨fun _ _ => ⟨allF Vote.frz, trivial⟩⟩)
      all_goals try (exact ⟨allF Vote.frz, trivial⟩)
      all_goals try (exact ⟨c_pick bs hb _ _ (by omega) (by omega)⟩)
      all_goals try (exact ⟨c_l6Promise vs m _⟩)
      all_goals try (exact ⟨c_l5Any bs hb (List.replicate 4 ⟨0, 0⟩) (by decide) _ (by omega) (by omega)⟩)
      all_goals try (exact ⟨c_l6Cast vs m _ _ _ (by omega) hv (And.left ‹_›)⟩)
      all_goals try (exact sApp (xs := vs) (c := Vote.cells) (by simp) (fun _ => rfl) rfl (by omega) rfl rfl)
      all_goals try (first | exact ⟨trivial, trivial⟩ | exact ⟨Nat.le_of_ble_eq_true rfl, trivial⟩ | exact ⟨trivial, Nat.le_of_ble_eq_true rfl, trivial⟩ | exact ⟨Nat.le_of_ble_eq_true rfl, trivial, trivial⟩)
      all_goals simp only [decide_eq_true_eq, decide_eq_false_iff_not, List.length_map, Bool.not_eq_true', Bool.not_eq_false', Bool.not_eq_eq_eq_not, Bool.not_true, Bool.not_false, bne_iff_ne, ne_eq, bne_eq_false_iff_eq, beq_iff_eq, beq_eq_false_iff_ne] at *
      all_goals try dsimp only [sNum] at *
      all_goals try (exact ⟨c_num bs hb _ (by omega) (by omega) [-1, 3001, 0] (by decide) (by decide)⟩)
      all_goals try (exact ⟨fun _ _ => trivial⟩)
      · apply exL4 (i - 1) _ vs (q + 1 + 1); refine ⟨[], ?_, ⟨?_, hl, hv, ?_, ?_⟩, ?main⟩
        case main => repeat' (first | exact trivial | exact ⟨trivial⟩ | exact Side.mk rfl | exact sF1 rfl | exact Chk.mk (by kernel_rfl) | exact ⟨Chk.mk (by kernel_rfl)⟩ | exact sMapF Vote.flat | exact ⟨by rw [wrapi] <;> omega⟩ | refine And.intro ?_ ?_ | rfl)
        all_goals dsimp only
        all_goals omega
      · rename_i de he dc hc
        apply exL4 (i - 1) dc.1 dc.2.1 de.2; refine ⟨[(3, 4)], ?_, ⟨?_, ?_, ?_, ?_, ?_⟩, ?main⟩
        case main => repeat' (first | exact trivial | exact ⟨trivial⟩ | exact Side.mk rfl | exact sF1 rfl | exact Chk.mk (by kernel_rfl) | exact ⟨Chk.mk (by kernel_rfl)⟩ | exact sMapF Vote.flat | exact ⟨by rw [wrapi] <;> omega⟩ | refine And.intro ?_ ?_ | rfl)
        all_goals dsimp only
        all_goals first | omega | exact hc.2
      · apply exAcc _ vs _; refine ⟨[], [3], ?_, ?_⟩; rotate_left 1; focus (repeat' (first | exact trivial | exact ⟨trivial⟩ | exact Side.mk rfl | exact sF1 rfl | exact Chk.mk (by kernel_rfl) | exact ⟨Chk.mk (by kernel_rfl)⟩ | exact sMapZ Vote.frz | exact sFzE rfl | refine And.intro ?_ ?_ | rfl))
        exact ⟨by dsimp only; omega, hv, by dsimp only; omega, by dsimp only; omega⟩
      · rename_i px hpx de hde
        apply exAcc m (vs ++ [⟨px, de.1⟩]) de.2; refine ⟨[], [4], ?_, ?_⟩; rotate_left 1; focus (repeat' (first | exact trivial | exact ⟨trivial⟩ | exact Side.mk rfl | exact sF1 rfl | exact Chk.mk (by kernel_rfl) | exact ⟨Chk.mk (by kernel_rfl)⟩ | exact sMapZ2 (⟨px, de.1⟩ : Vote) rfl Vote.frz | exact sFzE2 rfl rfl | refine And.intro ?_ ?_ | rfl))
        exact ⟨by simp; omega, VsOk.app hv hde.1, by dsimp only; omega, by dsimp only; omega⟩
      · apply exAcc _ vs _; refine ⟨[], [3], ?_, ?_⟩; rotate_left 1; focus (repeat' (first | exact trivial | exact ⟨trivial⟩ | exact Side.mk rfl | exact sF1 rfl | exact Chk.mk (by kernel_rfl) | exact ⟨Chk.mk (by kernel_rfl)⟩ | exact sMapZ Vote.frz | exact sFzE rfl | refine And.intro ?_ ?_ | rfl))
        exact ⟨by dsimp only; omega, hv, by dsimp only; omega, by dsimp only; omega⟩
      · apply exAcc _ vs _; refine ⟨[], [3], ?_, ?_⟩; rotate_left 1; focus (repeat' (first | exact trivial | exact ⟨trivial⟩ | exact Side.mk rfl | exact sF1 rfl | exact Chk.mk (by kernel_rfl) | exact ⟨Chk.mk (by kernel_rfl)⟩ | exact sMapZ Vote.frz | exact sFzE rfl | refine And.intro ?_ ?_ | rfl))
        exact ⟨by dsimp only; omega, hv, by dsimp only; omega, by dsimp only; omega⟩
end Mg

/- Draws of promises and votes, whole. No condition. -/
namespace Mg
open Go Go.RowKit
set_option maxRecDepth 100000
set_option linter.unusedVariables false
set_option linter.unusedSimpArgs false
attribute [local irreducible] W Pure Con
structure Code8 (bs : List Int) : Prop where
  len : bs.length ≤ maxLen
  rng : ∀ b ∈ bs, 0 ≤ b ∧ b ≤ 255
def cut8 (bs : List Int) : List Int := if bs.length > 2000 then bs.take 2000 else bs
theorem Code8.ok {bs : List Int} (h : Code8 bs) : BsOk (cut8 bs) := by
  unfold cut8
  split
  · exact ⟨by simp; omega, fun b hb => h.rng b (List.mem_of_mem_take hb)⟩
  · exact ⟨by omega, h.rng⟩
theorem mem_i1 {xs : List Int} {d : Int} (h : i1 d ∈ xs.map i1) : d ∈ xs := by
  obtain ⟨y, hy, e⟩ := List.mem_map.1 h
  have : y = d := by simpa [i1, i6] using e
  exact this ▸ hy
theorem own_rng {d : Int} (h : i1 d ∈ [0, 1, 2, 3, 4, 7, 3000, 3001, -1].map i1) : -1 ≤ d ∧ d ≤ 3001 := by
  have := mem_i1 h; simp at this; omega
theorem nxt_rng {d : Int} (h : i1 d ∈ [0, 1, 2, 5, 9, 3000, 2999, 2998, -1].map i1) : -1 ≤ d ∧ d ≤ 3000 := by
  have := mem_i1 h; simp at this; omega
theorem exU {Q : Unit → Prop} (h : Q ()) : ∃ d, Q d := ⟨_, h⟩
def sOpen (ds : List MV) (os : List Ob) : ConT := ⟨List Int, fun d => BsOk d, fun _ => .one (.ptr 0 0 0), fun d => [rdO d 0]⟩
theorem exOpen {Q : List Int → Prop} (bs : List Int) (h : Q bs) : ∃ d, Q d := ⟨_, h⟩
theorem c_l15Open (bs : List Int) (hb : Code8 bs) : Con PP 46 [.one (.fz (bs.map u8))] [] 0 (fun d : List Int => BsOk d) (fun _ => .one (.ptr 0 0 0)) (fun d => [rdO d 0]) := by
  refine Con.vc [] TTok hmo Go.Proofs.Tryd.func46 rfl (by kernel_rfl) rfl (by kernel_rfl) ?_
  repeat' (first | refine And.intro ?_ ?_ | exact tf | exact ft | refine tt ?_ | refine ff ?_ | exact ⟨trivial⟩ | exact sAll rfl | exact sF1 rfl | exact sBld (by repeat' (first | exact trivial | rfl | exact Nat.le_of_ble_eq_true rfl | refine And.intro ?_ ?_)) rfl | exact sBS (by repeat' (first | exact trivial | rfl | exact Nat.le_of_ble_eq_true rfl | refine And.intro ?_ ?_)) rfl rfl rfl rfl | exact sBSF (by repeat' (first | exact trivial | rfl | exact Nat.le_of_ble_eq_true rfl | refine And.intro ?_ ?_)) rfl rfl rfl rfl | exact sLe rfl | exact Chk.mk (by kernel_rfl) | exact ⟨Chk.mk (by kernel_rfl)⟩ | exact sLeEq rfl rfl | refine fun h => ?_)
  all_goals try (first | exact ⟨trivial, trivial⟩ | exact ⟨Nat.le_of_ble_eq_true rfl, trivial⟩ | exact ⟨trivial, Nat.le_of_ble_eq_true rfl, trivial⟩ | exact ⟨Nat.le_of_ble_eq_true rfl, trivial, trivial⟩)
  · have hl := of_decide_eq_true h
    exact ⟨⟨by decide, by decide, by omega⟩, fun r hr => by obtain ⟨x, _, rfl⟩ := List.mem_map.1 hr; rfl⟩
  · have hl := of_decide_eq_true h
    have e : List.drop (Int.toNat 0) (List.take (Int.toNat 2000) (List.map u8 bs)) = List.map u8 (bs.take 2000) := by rw [List.map_take]; rfl
    simp only [e]
    apply exOpen (bs.take 2000); refine ⟨[], [], ⟨by simp; omega, fun b hb' => hb.rng b (List.mem_of_mem_take hb')⟩, ?_⟩
    repeat' (first | exact trivial | exact ⟨trivial⟩ | exact Side.mk rfl | exact sF1 rfl | exact Chk.mk (by kernel_rfl) | exact ⟨Chk.mk (by kernel_rfl)⟩ | refine And.intro ?_ ?_ | rfl)
  · have hl := of_decide_eq_false h
    rw [List.length_map] at hl
    apply exOpen bs; refine ⟨[], [], ⟨by omega, hb.rng⟩, ?_⟩
    repeat' (first | exact trivial | exact ⟨trivial⟩ | exact Side.mk rfl | exact sF1 rfl | exact Chk.mk (by kernel_rfl) | exact ⟨Chk.mk (by kernel_rfl)⟩ | refine And.intro ?_ ?_ | rfl)
def sAcc (ds : List MV) (os : List Ob) : ConT := match os with
  | [.box [b, .sc (.int _ p)]] => ⟨Acc × Int, fun d => d.1.votes.length ≤ 10 ∧ VsOk 30 d.1.votes ∧ p ≤ d.2 ∧ d.2 ≤ p + 1000, fun d => .agg d.1.cells, fun d => [.box [b, i6 d.2]]⟩
  | _ => noT
def DAcc (a : Acc) : Prop := a.votes.length ≤ 10 ∧ VsOk 30 a.votes
theorem exBest {Q : List Vote × List Vote → Prop} (a b : List Vote) (h : Q (a, b)) : ∃ d, Q d := ⟨_, h⟩
theorem exAc {Q : Acc → Prop} (a : Acc) (h : Q a) : ∃ d, Q d := ⟨_, h⟩
theorem exI {Q : Int → Prop} (a : Int) (h : Q a) : ∃ d, Q d := ⟨_, h⟩
theorem exII {Q : Int × Int → Prop} (a b : Int) (h : Q (a, b)) : ∃ d, Q d := ⟨_, h⟩
end Mg
