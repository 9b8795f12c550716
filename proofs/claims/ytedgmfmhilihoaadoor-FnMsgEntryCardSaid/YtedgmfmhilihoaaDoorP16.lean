/- Parts of the abstract state logic and of the walks, one behind the other: D4, D5, D6, D7, TX1, L1, TX2. No condition. -/
import Derived.Test.YtedgmfmhilihoaaDoorP15
import Derived.Lib.ItoaMem
import Derived.Test.YtedgmfmhilihoaaDoorP12
import Derived.Test.YtedgmfmhilihoaaDoorP13
/- Boxes; what a run looks into and puts. No condition. -/
namespace Mg
open Go Go.RowKit
set_option maxRecDepth 100000
set_option linter.unusedVariables false
set_option linter.unusedSimpArgs false
attribute [local irreducible] W Pure Con
theorem c_BoxOpen : Pure PP false 76 [] (.one (.fz ((List.replicate 4 (⟨0, 0⟩ : Two)).map Two.cells))) := by
  refine Pure.vc [] TTok hmo Go.Proofs.Tryd.func76 (by kernel_rfl) rfl (by kernel_rfl) ?_
  repeat' (first | refine And.intro ?_ ?_ | exact tf | exact ft | refine tt ?_ | refine ff ?_ | exact ⟨trivial⟩ | exact sAll rfl | exact sF1 rfl | exact sBld (by repeat' (first | exact trivial | rfl | exact Nat.le_of_ble_eq_true rfl | refine And.intro ?_ ?_)) rfl | exact sBS (by repeat' (first | exact trivial | rfl | exact Nat.le_of_ble_eq_true rfl | refine And.intro ?_ ?_)) rfl rfl rfl rfl | exact sBSF (by repeat' (first | exact trivial | rfl | exact Nat.le_of_ble_eq_true rfl | refine And.intro ?_ ?_)) rfl rfl rfl rfl | exact sLe rfl | exact Chk.mk (by kernel_rfl) | exact ⟨Chk.mk (by kernel_rfl)⟩ | exact sLeEq rfl rfl | refine fun h => ?_)
  · exact ⟨by decide⟩
  · exact ⟨⟨trivial, trivial⟩, ⟨rfl, map_frz (xs := List.replicate 4 (⟨0, 0⟩ : Two)) Two.frz⟩, trivial⟩
def boxEl (x : Two) : Bool := inr x.a 0 1000000 && inr x.b (-1000000) 1000000
def boxOk (xs : List Two) : Bool := decide ((xs.length : Int) = 4) && xs.all boxEl
theorem c_spec_BoxOk (xs : List Two) (hx : xs.length ≤ maxLen) : Pure PP false 100 [.one (.fz (xs.map Two.cells))] (ob (boxOk xs)) := by
  have hx' : xs.length ≤ 9223372036854775807 := hx
  refine Pure.vc [] TTok hmo Go.Proofs.Tryd.func100 (by kernel_rfl) rfl (by kernel_rfl) ?_
  repeat' (first | refine And.intro ?_ ?_ | exact tf | exact ft | refine tt ?_ | refine ff ?_ | exact ⟨trivial⟩ | exact sAll rfl | exact sF1 rfl | exact sBld (by repeat' (first | exact trivial | rfl | exact Nat.le_of_ble_eq_true rfl | refine And.intro ?_ ?_)) rfl | exact sBS (by repeat' (first | exact trivial | rfl | exact Nat.le_of_ble_eq_true rfl | refine And.intro ?_ ?_)) rfl rfl rfl rfl | exact sBSF (by repeat' (first | exact trivial | rfl | exact Nat.le_of_ble_eq_true rfl | refine And.intro ?_ ?_)) rfl rfl rfl rfl | exact sLe rfl | exact Chk.mk (by kernel_rfl) | exact ⟨Chk.mk (by kernel_rfl)⟩ | exact sLeEq rfl rfl | refine fun h => ?_)
  · refine ⟨?_⟩; simp_all [boxOk]
  refine W.loopC (D := Nat) (fun i => [(15, .row (xs.getD i default).cells), (22, .row (xs.getD i default).cells), (30, .row (xs.getD i default).cells), (33, .res (ob (inr (xs.getD i default).b (-1000000) 1000000)))]) TTok hmo
    (fun i => ⟨36, 0, [(0, .one (.ag (xs.map Two.cells))), (2, ob false), (3, oi i)], []⟩) (fun i => xs.length - i) (fun i => i ≤ xs.length ∧ (xs.take i).all boxEl = true) 0 [] ⟨by omega, by simp⟩ ?_ ?_
  · show subC _ _ _ _
    repeat' (first | exact trivial | exact Side.mk rfl | exact Chk.mk (by kernel_rfl) | exact ⟨Chk.mk (by kernel_rfl)⟩ | refine And.intro ?_ ?_ | rfl)
  · intro i ⟨hi, hp⟩
    repeat' (first | refine And.intro ?_ ?_ | exact tf | exact ft | refine tt ?_ | refine ff ?_ | exact ⟨trivial⟩ | exact sAll rfl | exact sF1 rfl | exact sBld (by repeat' (first | exact trivial | rfl | exact Nat.le_of_ble_eq_true rfl | refine And.intro ?_ ?_)) rfl | exact sBS (by repeat' (first | exact trivial | rfl | exact Nat.le_of_ble_eq_true rfl | refine And.intro ?_ ?_)) rfl rfl rfl rfl | exact sBSF (by repeat' (first | exact trivial | rfl | exact Nat.le_of_ble_eq_true rfl | refine And.intro ?_ ?_)) rfl rfl rfl rfl | exact sLe rfl | exact Chk.mk (by kernel_rfl) | exact ⟨Chk.mk (by kernel_rfl)⟩ | exact sLeEq rfl rfl | exact sAnd (by repeat' constructor) (c_l1Num _) | refine fun h => ?_)
    all_goals simp only [decide_eq_true_eq, decide_eq_false_iff_not, List.length_map, Bool.not_eq_true', Bool.not_eq_false', Bool.not_eq_eq_eq_not, Bool.not_true, Bool.not_false, bne_iff_ne, ne_eq, bne_eq_false_iff_eq, beq_iff_eq, beq_eq_false_iff_ne] at *
    all_goals try (exact sRow (by omega) (row_at xs _ (by omega)) rfl)
    · refine ⟨?_⟩; have := all_bad (f := boxEl) (xs := xs) (i := i) (by omega) (by simp_all [boxEl]); simp [boxOk, this]
    · refine ⟨i + 1, [], by omega, ⟨by omega, all_step (by omega) hp (by simp only [boxEl]; rw [h, Bool.and_true]; simp only [inr]; rw [decide_eq_true (by omega), decide_eq_true (by omega)]; rfl)⟩, ?_⟩
      repeat' (first | exact trivial | exact Side.mk rfl | exact Chk.mk (by kernel_rfl) | exact ⟨Chk.mk (by kernel_rfl)⟩ | exact ⟨wrap_succ (n := xs.length) (by omega) (by omega)⟩ | refine And.intro ?_ ?_ | rfl)
    · refine ⟨?_⟩; have := all_bad (f := boxEl) (xs := xs) (i := i) (by omega) (by simp only [boxEl, inr]; first | rw [decide_eq_false (p := 0 ≤ _) (by omega)]; rfl | rw [decide_eq_false (p := _ ≤ 1000000) (by omega)]; simp); simp [boxOk, this]
    · refine ⟨?_⟩; have := all_bad (f := boxEl) (xs := xs) (i := i) (by omega) (by simp only [boxEl, inr]; first | rw [decide_eq_false (p := 0 ≤ _) (by omega)]; rfl | rw [decide_eq_false (p := _ ≤ 1000000) (by omega)]; simp); simp [boxOk, this]
    · refine ⟨?_⟩; have := all_end (by omega) hp; simp [boxOk, this]; omega
theorem atI_lt {b : Int} : ∀ {xs : List Two}, atI xs b < xs.length
  | [] => by simp [atI]
  | x :: xs => by
    have := atI_lt (b := b) (xs := xs)
    simp only [atI, List.length_cons]
    split
    · omega
    · split <;> omega
theorem exLook {Q : Int × List Two → Prop} (n : Int) (xs : List Two) (h : Q (n, xs)) : ∃ d, Q d := ⟨_, h⟩
theorem c_l3Look (bx : List Two) (hbx : bx.length = 4) (rs ps : List Two) (v c b : Int) (hr : rs.length ≤ 1000) (hp : ps.length ≤ 1000) (hb : 0 ≤ b ∧ b ≤ 3) : Con PP 111 [.one (.fz (bx.map Two.cells)), .agg [.ref 0 0 rs.length, .ref 1 0 ps.length, i6 v, i6 c], oi b] [.arr (rs.map Two.cells), .arr (ps.map Two.cells)] 0
    (fun d : Int × List Two => d.2.length ≤ rs.length + 1) (fun d => .tup [oi d.1, .agg [.ref 0 0 d.2.length, .ref 1 0 ps.length, i6 v, i6 c]]) (fun d => [.arr (d.2.map Two.cells), .arr (ps.map Two.cells)]) := by
  refine Con.vc [(12, .res (oi (atI ps b))), (20, .resf asI), (25, .res (ob (saw rs b))), (36, .row []), (32, .row (bx.getD b.toNat default).cells), (41, .row (bx.getD b.toNat default).cells)] TTok hmo Go.Proofs.Tryd.func111 rfl (by kernel_rfl) rfl (by kernel_rfl) ?_
  repeat' (first | refine And.intro ?_ ?_ | exact tf | exact ft | refine tt ?_ | refine ff ?_ | exact ⟨trivial⟩ | exact sAll rfl | exact sF1 rfl | exact sBld (by repeat' (first | exact trivial | rfl | exact Nat.le_of_ble_eq_true rfl | refine And.intro ?_ ?_)) rfl | exact sBS (by repeat' (first | exact trivial | rfl | exact Nat.le_of_ble_eq_true rfl | refine And.intro ?_ ?_)) rfl rfl rfl rfl | exact sBSF (by repeat' (first | exact trivial | rfl | exact Nat.le_of_ble_eq_true rfl | refine And.intro ?_ ?_)) rfl rfl rfl rfl | exact sLe rfl | exact Chk.mk (by kernel_rfl) | exact ⟨Chk.mk (by kernel_rfl)⟩ | exact sLeEq rfl rfl | refine fun h => ?_)
  all_goals have hlt := atI_lt (b := b) (xs := ps)
  all_goals try (exact sLend ⟨lendF Two.frz rfl, trivial, trivial⟩ (c_l3At ps b (Nat.le_trans hp (by decide))) (congrArg (fun z => [MV.one (.fz z), oi b]) (l_all rfl)))
  all_goals try (exact sLend ⟨lendF Two.frz rfl, trivial, trivial⟩ (c_l3Saw rs b (Nat.le_trans hr (by decide))) (congrArg (fun z => [MV.one (.fz z), oi b]) (l_all rfl)))
  all_goals try (exact ⟨trivial, Nat.le_of_ble_eq_true rfl, trivial⟩)
  all_goals try (exact sIxO (of_decide_eq_true h) hlt rfl (fun _ => rfl))
  all_goals try (exact sRow hb.1 (by rw [List.getElem?_map, List.getD_eq_getElem?_getD, List.getElem?_eq_getElem (by omega)]; rfl) rfl)
  all_goals try (exact sApp (xs := rs) (c := Two.cells) (by simp) (fun _ => rfl) rfl (by omega) rfl rfl)
  all_goals simp only [decide_eq_true_eq, decide_eq_false_iff_not, List.length_map, Bool.not_eq_true', Bool.not_eq_false', Bool.not_eq_eq_eq_not, Bool.not_true, Bool.not_false, bne_iff_ne, ne_eq, bne_eq_false_iff_eq, beq_iff_eq, beq_eq_false_iff_ne] at *
  all_goals try (exact sLdI (n := Two.b) (t := fun _ => []) (by omega) (fun _ => rfl))
  · apply exLook _ rs; refine ⟨[], [], by simp, ?_⟩
    repeat' (first | exact trivial | exact ⟨trivial⟩ | exact Side.mk rfl | exact sF1 rfl | exact Chk.mk (by kernel_rfl) | exact ⟨Chk.mk (by kernel_rfl)⟩ | exact sMapF Two.flat | refine And.intro ?_ ?_ | rfl)
  · apply exLook _ (rs ++ [⟨_, _⟩]); refine ⟨[(0, 4)], [], ?_, ?_⟩; rotate_left 1
    repeat' (first | exact trivial | exact ⟨trivial⟩ | exact Side.mk rfl | exact sF1 rfl | exact Chk.mk (by kernel_rfl) | exact ⟨Chk.mk (by kernel_rfl)⟩ | exact sAppR rfl | exact sAppL rfl rfl | exact sMapF Two.flat | refine And.intro ?_ ?_ | rfl)
    simp
  · apply exLook _ rs; refine ⟨[], [], by simp, ?_⟩
    repeat' (first | exact trivial | exact ⟨trivial⟩ | exact Side.mk rfl | exact sF1 rfl | exact Chk.mk (by kernel_rfl) | exact ⟨Chk.mk (by kernel_rfl)⟩ | exact sMapF Two.flat | refine And.intro ?_ ?_ | rfl)
end Mg

/- What a run puts, and its steps. No condition. -/
namespace Mg
open Go Go.RowKit
set_option maxRecDepth 100000
set_option linter.unusedVariables false
set_option linter.unusedSimpArgs false
attribute [local irreducible] W Pure Con
theorem exPut {Q : List Two → Prop} (xs : List Two) (h : Q xs) : ∃ d, Q d := ⟨_, h⟩
theorem c_l3Put (rs ps : List Two) (v c b n : Int) (hr : rs.length ≤ 1000) (hp : ps.length ≤ 1000) : Con PP 112 [.agg [.ref 0 0 rs.length, .ref 1 0 ps.length, i6 v, i6 c], oi b, oi n] [.arr (rs.map Two.cells), .arr (ps.map Two.cells)] 0
    (fun d : List Two => d.length ≤ ps.length + 1) (fun d => .agg [.ref 0 0 rs.length, .ref 1 0 d.length, i6 v, i6 c]) (fun d => [.arr (rs.map Two.cells), .arr (d.map Two.cells)]) := by
  refine Con.vc [(11, .res (oi (atI ps b))), (26, .row [])] TTok hmo Go.Proofs.Tryd.func112 rfl (by kernel_rfl) rfl (by kernel_rfl) ?_
  repeat' (first | refine And.intro ?_ ?_ | exact tf | exact ft | refine tt ?_ | refine ff ?_ | exact ⟨trivial⟩ | exact sAll rfl | exact sF1 rfl | exact sBld (by repeat' (first | exact trivial | rfl | exact Nat.le_of_ble_eq_true rfl | refine And.intro ?_ ?_)) rfl | exact sBS (by repeat' (first | exact trivial | rfl | exact Nat.le_of_ble_eq_true rfl | refine And.intro ?_ ?_)) rfl rfl rfl rfl | exact sBSF (by repeat' (first | exact trivial | rfl | exact Nat.le_of_ble_eq_true rfl | refine And.intro ?_ ?_)) rfl rfl rfl rfl | exact sLe rfl | exact Chk.mk (by kernel_rfl) | exact ⟨Chk.mk (by kernel_rfl)⟩ | exact sLeEq rfl rfl | refine fun h => ?_)
  all_goals have hlt := atI_lt (b := b) (xs := ps)
  all_goals try (exact sLend ⟨lendF Two.frz rfl, trivial, trivial⟩ (c_l3At ps b (Nat.le_trans hp (by decide))) (congrArg (fun z => [MV.one (.fz z), oi b]) (l_all rfl)))
  all_goals try (exact sIxO (of_decide_eq_true h) hlt rfl (fun _ => rfl))
  all_goals try (exact sSt (c := Two.cells) (m := 2) (xs := ps) (by have h := of_decide_eq_true h; omega) (fun _ => rfl) rfl rfl)
  all_goals try (exact sApp (xs := ps) (c := Two.cells) (by simp) (fun _ => rfl) rfl (by omega) rfl rfl)
  all_goals try (first | exact ⟨trivial, trivial⟩ | exact ⟨Nat.le_of_ble_eq_true rfl, trivial⟩ | exact ⟨trivial, Nat.le_of_ble_eq_true rfl, trivial⟩ | exact ⟨Nat.le_of_ble_eq_true rfl, trivial, trivial⟩)
  all_goals simp only [decide_eq_true_eq, decide_eq_false_iff_not, List.length_map, Bool.not_eq_true', Bool.not_eq_false', Bool.not_eq_eq_eq_not, Bool.not_true, Bool.not_false, bne_iff_ne, ne_eq, bne_eq_false_iff_eq, beq_iff_eq, beq_eq_false_iff_ne] at *
  · apply exPut (ps.set (atI ps b).toNat ⟨(ps.getD (atI ps b).toNat default).a, n⟩); refine ⟨[], [], by simp, ?_⟩
    repeat' (first | exact trivial | exact ⟨trivial⟩ | exact Side.mk rfl | exact sF1 rfl | exact Chk.mk (by kernel_rfl) | exact ⟨Chk.mk (by kernel_rfl)⟩ | exact sMapF Two.flat | exact sSet (by rw [mapGet (by omega)]; rfl) | exact sSetL rfl | refine And.intro ?_ ?_ | rfl)
  · apply exPut (ps ++ [⟨b, n⟩]); refine ⟨[(1, 4)], [], by simp, ?_⟩
    repeat' (first | exact trivial | exact ⟨trivial⟩ | exact Side.mk rfl | exact sF1 rfl | exact Chk.mk (by kernel_rfl) | exact ⟨Chk.mk (by kernel_rfl)⟩ | exact sAppR rfl | exact sAppL rfl rfl | exact sMapF Two.flat | refine And.intro ?_ ?_ | rfl)
structure StT where
  regs : List Int
  rs : List Two
  ps : List Two
  v : Int
  c : Int
def oi1 (n : Int) : List MC := [i6 n]
theorem oi1.flat (n : Int) : (oi1 n).all MC.flat = true := rfl
theorem oi1.frz (n : Int) : (oi1 n).all MC.frz = true := rfl
theorem exStep {Q : List Int × List Two × List Two × Int → Prop} (g : List Int) (rs ps : List Two) (c : Int) (h : Q (g, rs, ps, c)) : ∃ d, Q d := ⟨_, h⟩
theorem oiSet {g : List Int} {a : Nat} (n : Int) (h : a < g.length) : (g.map oi1).set (0 + a) (putAt ((g.map oi1).getD (0 + a) []) 0 [MC.sc (Value.int IntKind.i64 n)]) = (g.set a n).map oi1 :=
  (setMap (by rw [mapGet h]; rfl)).symm
def tLook (rs ps : List Two) (v c : Int) : ConT := ⟨Int × List Two, fun d => d.2.length ≤ rs.length + 1, fun d => .tup [oi d.1, .agg [.ref 0 0 d.2.length, .ref 1 0 ps.length, i6 v, i6 c]], fun d => [.arr (d.2.map Two.cells), .arr (ps.map Two.cells)]⟩
def tPut (rs ps : List Two) (v c : Int) : ConT := ⟨List Two, fun d => d.length ≤ ps.length + 1, fun d => .agg [.ref 0 0 rs.length, .ref 1 0 d.length, i6 v, i6 c], fun d => [.arr (rs.map Two.cells), .arr (d.map Two.cells)]⟩
set_option maxHeartbeats 4000000 in
theorem c_l3Step (bx : List Two) (hbx : bx.length = 4) (g : List Int) (hg : g.length = 4) (rs ps : List Two) (v c : Int) (x : Ins) (hr : rs.length ≤ 900) (hp : ps.length ≤ 900) (ha : 0 ≤ x.a ∧ x.a ≤ 3) (hb : 0 ≤ x.b ∧ x.b ≤ 3) : Con PP 102 [.one (.fz (bx.map Two.cells)), .agg [.ref 1 0 rs.length, .ref 2 0 ps.length, i6 v, i6 c], .one (.ref 0 0 4), .agg x.cells] [.arr (g.map oi1), .arr (rs.map Two.cells), .arr (ps.map Two.cells)] 1
    (fun d : List Int × List Two × List Two × Int => d.1.length = 4 ∧ d.2.1.length ≤ rs.length + 1 ∧ d.2.2.1.length ≤ ps.length + 1) (fun d => .agg [.ref 1 0 d.2.1.length, .ref 2 0 d.2.2.1.length, i6 v, i6 d.2.2.2]) (fun d => [.arr (d.1.map oi1), .arr (d.2.1.map Two.cells), .arr (d.2.2.1.map Two.cells)]) := by
  refine Con.vc [(20, .con false [] [1, 2] [] (fun _ _ => tLook rs ps v c)), (39, .con false [] [1, 2] [] (fun _ _ => tPut rs ps v c)), (38, .resf asI), (57, .resf asI), (62, .resf asI), (74, .resf asI), (79, .resf asI), (93, .resf asI), (94, .resf (fun l => ob (inr (intOf l) (-1000000) 1000000)))] TTok hmo Go.Proofs.Tryd.func102 rfl (by kernel_rfl) rfl (by kernel_rfl) ?_
  repeat' (first | refine And.intro ?_ ?_ | exact tf | exact ft | refine tt ?_ | refine ff ?_ | exact ⟨trivial⟩ | exact sAll rfl | exact sF1 rfl | exact sBld (by repeat' (first | exact trivial | rfl | exact Nat.le_of_ble_eq_true rfl | refine And.intro ?_ ?_)) rfl | exact sBS (by repeat' (first | exact trivial | rfl | exact Nat.le_of_ble_eq_true rfl | refine And.intro ?_ ?_)) rfl rfl rfl rfl | exact sBSF (by repeat' (first | exact trivial | rfl | exact Nat.le_of_ble_eq_true rfl | refine And.intro ?_ ?_)) rfl rfl rfl rfl | exact sLe rfl | exact Chk.mk (by kernel_rfl) | exact ⟨Chk.mk (by kernel_rfl)⟩ | exact sLeEq rfl rfl | refine fun h => ?_)
  all_goals try dsimp only [tLook, tPut] at *
  all_goals have hA : x.a.toNat < g.length := by omega
  all_goals try simp only [oiSet _ hA] at *
  all_goals try (exact ⟨allF Two.frz, allF Two.frz, trivial⟩)
  all_goals try (exact ⟨fun d _ => ⟨allF Two.frz, allF Two.frz, trivial⟩⟩)
  all_goals try (exact ⟨c_l3Look bx hbx rs ps v c x.b (by omega) (by omega) hb⟩)
  all_goals try (exact ⟨⟨trivial, trivial⟩, c_l1Num _⟩)
  all_goals try (exact ⟨c_l3Put rs ps v c _ _ (by omega) (by omega)⟩)
  all_goals try (exact sIxO (c := oi1) (by omega) (by first | omega | (simp only [List.length_set]; omega)) (by first | omega | (simp only [List.length_set]; omega)) (fun _ => rfl))
  all_goals try (exact sSt (c := oi1) (m := 1) (xs := g) (by omega) (fun _ => rfl) rfl rfl)
  all_goals try (exact sLdI (c := oi1) (n := id) (t := fun _ => []) (by first | omega | (simp only [List.length_set]; omega)) (fun _ => rfl))
  all_goals try (first | exact ⟨trivial, trivial⟩ | exact ⟨Nat.le_of_ble_eq_true rfl, trivial⟩ | exact ⟨trivial, Nat.le_of_ble_eq_true rfl, trivial⟩ | exact ⟨Nat.le_of_ble_eq_true rfl, trivial, trivial⟩)
  all_goals try (exact ⟨fun _ _ => trivial⟩)
  all_goals (apply exStep _ _ _ _)
  all_goals first | (refine ⟨[], [], ?_, ?_⟩; rotate_left 1; focus ((repeat' (first | exact trivial | exact ⟨trivial⟩ | exact Side.mk rfl | exact sF1 rfl | exact Chk.mk (by kernel_rfl) | exact ⟨Chk.mk (by kernel_rfl)⟩ | exact sMapF Two.flat | exact sMapF oi1.flat | refine And.intro ?_ ?_ | rfl)); done)) | (refine ⟨[(1, 6), (2, 7)], [], ?_, ?_⟩; rotate_left 1; focus ((repeat' (first | exact trivial | exact ⟨trivial⟩ | exact Side.mk rfl | exact sF1 rfl | exact Chk.mk (by kernel_rfl) | exact ⟨Chk.mk (by kernel_rfl)⟩ | exact sMapF Two.flat | exact sMapF oi1.flat | refine And.intro ?_ ?_ | rfl)); done)) | skip
  all_goals (refine ⟨?_, ?_, ?_⟩ <;> dsimp only <;> first | omega | (simp only [List.length_set]; omega))
end Mg

/- Runs that are drawn. No condition. -/
namespace Mg
open Go Go.RowKit
set_option maxRecDepth 100000
set_option linter.unusedVariables false
set_option linter.unusedSimpArgs false
attribute [local irreducible] W Pure Con
theorem insOk_rng {x : Ins} (h : insOk x = true) : (0 ≤ x.a ∧ x.a ≤ 3) ∧ (0 ≤ x.b ∧ x.b ≤ 3) ∧ (x.kind = 6 → 1 ≤ x.n ∧ x.n ≤ 10) := by
  unfold insOk at h
  repeat' split at h
  all_goals simp [inr] at h
  all_goals refine ⟨⟨?_, ?_⟩, ⟨?_, ?_⟩, ?_⟩
  all_goals omega
theorem boxOk_len {bx : List Two} (h : boxOk bx = true) : bx.length = 4 := by
  simp [boxOk] at h; omega
theorem progOk_at {xs : List Ins} (h : progOk xs = true) {k : Nat} (hk : k < xs.length) : insOk (xs.getD k default) = true := by
  simp only [progOk, Bool.and_eq_true, List.all_eq_true] at h
  rw [List.getD_eq_getElem?_getD, List.getElem?_eq_getElem hk]
  exact h.2 _ (List.getElem_mem hk)
theorem progOk_len {xs : List Ins} (h : progOk xs = true) : xs.length ≤ 10 := by
  simp only [progOk, Bool.and_eq_true, decide_eq_true_eq] at h
  exact h.1
theorem exRun {Q : Run → Prop} (x : Run) (h : Q x) : ∃ d, Q d := ⟨_, h⟩
def tStep (rs ps : List Two) (v c : Int) : ConT := ⟨List Int × List Two × List Two × Int, fun d => d.1.length = 4 ∧ d.2.1.length ≤ rs.length + 1 ∧ d.2.2.1.length ≤ ps.length + 1, fun d => .agg [.ref 1 0 d.2.1.length, .ref 2 0 d.2.2.1.length, i6 v, i6 d.2.2.2], fun d => [.arr (d.1.map oi1), .arr (d.2.1.map Two.cells), .arr (d.2.2.1.map Two.cells)]⟩
set_option maxHeartbeats 4000000 in
theorem c_spec_ExecRun (bx : List Two) (xs : List Ins) (hbx : bx.length ≤ maxLen) (hxs : xs.length ≤ maxLen) : Con PP 92 [.one (.fz (bx.map Two.cells)), .one (.fz (xs.map Ins.cells))] [] 0
    (fun d : Run => d.reads.length ≤ 30 ∧ d.puts.length ≤ 30) (fun d => .agg d.cells) (fun _ => []) := by
  refine Con.vc [(10, .res (ob (boxOk bx))), (14, .res (ob (progOk xs))), (65, .resf asI)] TTok hmo Go.Proofs.Tryd.func92 rfl (by kernel_rfl) rfl (by kernel_rfl) ?_
  repeat' (first | refine And.intro ?_ ?_ | exact tf | exact ft | refine tt ?_ | refine ff ?_ | exact ⟨trivial⟩ | exact sAll rfl | exact sF1 rfl | exact sBld (by repeat' (first | exact trivial | rfl | exact Nat.le_of_ble_eq_true rfl | refine And.intro ?_ ?_)) rfl | exact sBS (by repeat' (first | exact trivial | rfl | exact Nat.le_of_ble_eq_true rfl | refine And.intro ?_ ?_)) rfl rfl rfl rfl | exact sBSF (by repeat' (first | exact trivial | rfl | exact Nat.le_of_ble_eq_true rfl | refine And.intro ?_ ?_)) rfl rfl rfl rfl | exact sLe rfl | exact Chk.mk (by kernel_rfl) | exact ⟨Chk.mk (by kernel_rfl)⟩ | exact sLeEq rfl rfl | exact sAnd (by repeat' constructor) (c_spec_BoxOk bx hbx) | exact sAnd (by repeat' constructor) (c_spec_ProgOk xs hxs) | refine fun h => ?_)
  all_goals try (first | exact ⟨trivial, trivial⟩ | exact ⟨Nat.le_of_ble_eq_true rfl, trivial⟩ | exact ⟨trivial, Nat.le_of_ble_eq_true rfl, trivial⟩ | exact ⟨Nat.le_of_ble_eq_true rfl, trivial, trivial⟩)
  · apply exRun ⟨[], [], 0, 3⟩; refine ⟨[], [], ⟨by decide, by decide⟩, ?_⟩
    repeat' (first | exact trivial | exact ⟨trivial⟩ | exact Side.mk rfl | exact sF1 rfl | exact Chk.mk (by kernel_rfl) | exact ⟨Chk.mk (by kernel_rfl)⟩ | refine And.intro ?_ ?_ | rfl)
  · exact ⟨by decide⟩
  · have h1 : boxOk bx = true := by simp_all
    have h2 : progOk xs = true := by simp_all
    have hl := progOk_len h2
    refine W.vbox 1 0 rfl ?_
    refine W.vbox 1 1 rfl ?_
    refine W.loopC (D := Int × List Int × List Two × List Two × Int) (fun d => [(33, .row (xs.getD d.1.toNat default).cells), (42, .resf asI), (47, .resf asI), (57, .con false [2] [3, 4] [] (fun _ _ => tStep d.2.2.1 d.2.2.2.1 0 d.2.2.2.2))]) TTok hmo
      (fun d => ⟨68, 5, [(0, .one (.fz (bx.map Two.cells))), (1, .one (.fz (xs.map Ins.cells))), (4, .one (.ptr 0 0 0)), (5, .one (.ptr 1 0 0)), (6, .one (.ref 2 0 4)), (7, oi d.1)],
        [(0, .box [.nil, .nil, i6 0, i6 0]), (1, .box [.ref 3 0 d.2.2.1.length, .ref 4 0 d.2.2.2.1.length, i6 0, i6 d.2.2.2.2]), (2, .arr (d.2.1.map oi1)), (3, .arr (d.2.2.1.map Two.cells)), (4, .arr (d.2.2.2.1.map Two.cells))]⟩) (fun d => (xs.length - d.1).toNat)
      (fun d => (0 ≤ d.1 ∧ d.1 ≤ 30) ∧ d.2.1.length = 4 ∧ d.2.2.1.length ≤ d.1 ∧ d.2.2.2.1.length ≤ d.1) (0, [0, 0, 0, 0], [], [], 0) [] ⟨by decide, rfl, by decide, by decide⟩ ?_ ?_
    · repeat' (first | exact trivial | exact ⟨trivial⟩ | exact Side.mk rfl | exact sF1 rfl | exact Chk.mk (by kernel_rfl) | exact ⟨Chk.mk (by kernel_rfl)⟩ | exact sMapF oi1.flat | exact sMapF Two.flat | refine And.intro ?_ ?_ | rfl)
    · intro ⟨k, g, rs, ps, c⟩ ⟨hk, hg, hr, hp⟩
      dsimp only at hk hg hr hp
      repeat' (first | refine And.intro ?_ ?_ | exact tf | exact ft | refine tt ?_ | refine ff ?_ | exact ⟨trivial⟩ | exact sAll rfl | exact sF1 rfl | exact sBld (by repeat' (first | exact trivial | rfl | exact Nat.le_of_ble_eq_true rfl | refine And.intro ?_ ?_)) rfl | exact sBS (by repeat' (first | exact trivial | rfl | exact Nat.le_of_ble_eq_true rfl | refine And.intro ?_ ?_)) rfl rfl rfl rfl | exact sBSF (by repeat' (first | exact trivial | rfl | exact Nat.le_of_ble_eq_true rfl | refine And.intro ?_ ?_)) rfl rfl rfl rfl | exact sLe rfl | exact Chk.mk (by kernel_rfl) | exact ⟨Chk.mk (by kernel_rfl)⟩ | exact sLeEq rfl rfl | refine fun h => ?_)
      all_goals dsimp only [tStep] at *
      all_goals try (have hkl : k.toNat < xs.length := by (have h9 := of_decide_eq_true ‹decide (k < ((List.map Ins.cells xs).length : Int)) = true›; rw [List.length_map] at h9; omega))
      all_goals try (have hrg := insOk_rng (progOk_at h2 hkl))
      all_goals try (exact sRow hk.1 (by rw [List.getElem?_map, List.getD_eq_getElem?_getD, List.getElem?_eq_getElem (by omega)]; rfl) rfl)
      all_goals try (exact sIxO (c := oi1) hrg.1.1 (by omega) (by omega) (fun _ => rfl))
      all_goals try (exact sIxO (c := oi1) hrg.2.1.1 (by omega) (by omega) (fun _ => rfl))
      all_goals try (exact sLdI (c := oi1) (n := id) (t := fun _ => []) (by omega) (fun _ => rfl))
      all_goals try (exact ⟨allF oi1.frz, allF Two.frz, allF Two.frz, trivial⟩)
      all_goals try (exact ⟨c_l3Step bx (boxOk_len h1) g hg rs ps 0 c _ (by omega) (by omega) hrg.1 hrg.2.1⟩)
      all_goals try (first | exact ⟨trivial, trivial⟩ | exact ⟨Nat.le_of_ble_eq_true rfl, trivial⟩ | exact ⟨trivial, Nat.le_of_ble_eq_true rfl, trivial⟩ | exact ⟨Nat.le_of_ble_eq_true rfl, trivial, trivial⟩)
      all_goals simp only [decide_eq_true_eq, decide_eq_false_iff_not, List.length_map, Bool.not_eq_true', Bool.not_eq_false', Bool.not_eq_eq_eq_not, Bool.not_true, Bool.not_false, bne_iff_ne, ne_eq, bne_eq_false_iff_eq, beq_iff_eq, beq_eq_false_iff_ne] at *
      all_goals try (exact ⟨fun d hd => ⟨allF oi1.frz, allF Two.frz, allF Two.frz, trivial⟩⟩)
      all_goals try (exact ⟨fun d hd => ⟨by simp [hd.1, hg], trivial⟩⟩)
      all_goals try (exact ⟨⟨⟨by decide, by decide⟩, by first | omega | (rw [List.length_map]; omega), by rw [mapGet (by omega)]; rfl⟩⟩)
      all_goals try (exact sLdI (k := 0) (c := oi1) (n := id) (t := fun _ => []) (by omega) (fun _ => rfl))
      · have hn := hrg.2.2 (by assumption)
        refine ⟨(k + (xs.getD k.toNat default).n + 1, g, rs, ps, c), [], ?_, ⟨⟨?_, ?_⟩, hg, ?_, ?_⟩, ?_⟩
        all_goals dsimp only
        all_goals try omega
        repeat' (first | exact trivial | exact ⟨trivial⟩ | exact Side.mk rfl | exact sF1 rfl | exact Chk.mk (by kernel_rfl) | exact ⟨Chk.mk (by kernel_rfl)⟩ | exact sMapF oi1.flat | exact sMapF Two.flat | exact ⟨by rw [wrapi (n := k + _), wrapi] <;> omega⟩ | refine And.intro ?_ ?_ | rfl)
      · refine ⟨(k + 1, g, rs, ps, c), [], ?_, ⟨⟨?_, ?_⟩, hg, ?_, ?_⟩, ?_⟩
        all_goals dsimp only
        all_goals try omega
        repeat' (first | exact trivial | exact ⟨trivial⟩ | exact Side.mk rfl | exact sF1 rfl | exact Chk.mk (by kernel_rfl) | exact ⟨Chk.mk (by kernel_rfl)⟩ | exact sMapF oi1.flat | exact sMapF Two.flat | exact ⟨by rw [wrapi] <;> omega⟩ | refine And.intro ?_ ?_ | rfl)
      · rename_i d hd _ _ _ _
        refine ⟨(k + 1, d.1, d.2.1, d.2.2.1, d.2.2.2), [(3, 6), (4, 7)], ?_, ⟨⟨?_, ?_⟩, hd.1, ?_, ?_⟩, ?_⟩
        all_goals dsimp only
        all_goals try omega
        repeat' (first | exact trivial | exact ⟨trivial⟩ | exact Side.mk rfl | exact sF1 rfl | exact Chk.mk (by kernel_rfl) | exact ⟨Chk.mk (by kernel_rfl)⟩ | exact sMapF oi1.flat | exact sMapF Two.flat | exact ⟨by rw [wrapi] <;> omega⟩ | refine And.intro ?_ ?_ | rfl)
      · apply exRun ⟨rs, [], _, _⟩; refine ⟨[], [3], ?_, ?_⟩; rotate_left 1; focus (repeat' (first | exact trivial | exact ⟨trivial⟩ | exact Side.mk rfl | exact sF1 rfl | exact Chk.mk (by kernel_rfl) | exact ⟨Chk.mk (by kernel_rfl)⟩ | exact sMapZ Two.frz | exact sFzE rfl | refine And.intro ?_ ?_ | rfl))
        exact ⟨by dsimp only; omega, Nat.le_of_ble_eq_true rfl⟩
      · apply exRun ⟨rs, ps, _, _⟩; refine ⟨[], [3, 4], ?_, ?_⟩; rotate_left 1; focus (repeat' (first | exact trivial | exact ⟨trivial⟩ | exact Side.mk rfl | exact sF1 rfl | exact Chk.mk (by kernel_rfl) | exact ⟨Chk.mk (by kernel_rfl)⟩ | exact sMapZ Two.frz | exact sFzE rfl | exact ⟨⟨allF Two.frz, allF Two.frz, trivial⟩⟩ | refine And.intro ?_ ?_ | rfl))
        exact ⟨by dsimp only; omega, by dsimp only; omega⟩
      · apply exRun ⟨rs, [], _, _⟩; refine ⟨[], [3], ?_, ?_⟩; rotate_left 1; focus (repeat' (first | exact trivial | exact ⟨trivial⟩ | exact Side.mk rfl | exact sF1 rfl | exact Chk.mk (by kernel_rfl) | exact ⟨Chk.mk (by kernel_rfl)⟩ | exact sMapZ Two.frz | exact sFzE rfl | refine And.intro ?_ ?_ | rfl))
        exact ⟨by dsimp only; omega, Nat.le_of_ble_eq_true rfl⟩
      · apply exRun ⟨rs, ps, _, _⟩; refine ⟨[], [3, 4], ?_, ?_⟩; rotate_left 1; focus (repeat' (first | exact trivial | exact ⟨trivial⟩ | exact Side.mk rfl | exact sF1 rfl | exact Chk.mk (by kernel_rfl) | exact ⟨Chk.mk (by kernel_rfl)⟩ | exact sMapZ Two.frz | exact sFzE rfl | exact ⟨⟨allF Two.frz, allF Two.frz, trivial⟩⟩ | refine And.intro ?_ ?_ | rfl))
        exact ⟨by dsimp only; omega, by dsimp only; omega⟩
  · apply exRun ⟨[], [], 0, 3⟩; refine ⟨[], [], ⟨by decide, by decide⟩, ?_⟩
    repeat' (first | exact trivial | exact ⟨trivial⟩ | exact Side.mk rfl | exact sF1 rfl | exact Chk.mk (by kernel_rfl) | exact ⟨Chk.mk (by kernel_rfl)⟩ | refine And.intro ?_ ?_ | rfl)
end Mg

/- Copies of runs and entries; entries that are drawn. No condition. -/
namespace Mg
open Go Go.RowKit
set_option maxRecDepth 100000
set_option linter.unusedVariables false
set_option linter.unusedSimpArgs false
attribute [local irreducible] W Pure Con
def sProg (ds : List MV) (os : List Ob) : ConT := match os with
  | [.box [b, .sc (.int _ p)]] => ⟨List Ins × Int, fun d => d.1.length ≤ 8 ∧ p ≤ d.2 ∧ d.2 ≤ p + 60, fun d => .one (.fz (d.1.map Ins.cells)), fun d => [.box [b, i6 d.2]]⟩
  | _ => noT
def sRun (ds : List MV) (os : List Ob) : ConT := ⟨Run, fun d => d.reads.length ≤ 30 ∧ d.puts.length ≤ 30, fun d => .agg d.cells, fun _ => []⟩
theorem exEnt {Q : Entry × Int → Prop} (n : Bool) (a b : Int) (rs ps : List Two) (c d q : Int) (h : Q (⟨n, ⟨a, b⟩, ⟨rs, ps, c, d⟩⟩, q)) : ∃ d, Q d := ⟨_, h⟩
set_option maxHeartbeats 4000000 in
theorem c_l5Any (bs : List Int) (hb : BsOk bs) (bx : List Two) (hbx : bx.length ≤ maxLen) (p : Int) (h0 : 0 ≤ p) (h1 : p ≤ 999999990000) : Con PP 67 [.one (.ptr 0 0 0), .one (.fz (bx.map Two.cells))] [rdO bs p] 1 (fun d : Entry × Int => d.1.ok 30 ∧ p ≤ d.2 ∧ d.2 ≤ p + 70) (fun d => .agg d.1.cells) (fun d => [rdO bs d.2]) := by
  refine Con.vc [(7, .con false [0] [] [] sPick), (11, .con false [0] [] [] sPick), (13, .con false [0] [] [] sPick), (18, .con false [0] [] [] sProg), (19, .con false [] [] [] sRun), (22, .con false [0] [] [] sPick), (26, .row []), (27, .con false [0] [] [] sNum)] TTok hmo Go.Proofs.Tryd.func67 rfl (by kernel_rfl) rfl (by kernel_rfl) ?_
  repeat' (first | refine And.intro ?_ ?_ | exact tf | exact ft | refine tt ?_ | refine ff ?_ | exact ⟨trivial⟩ | exact sAll rfl | exact sF1 rfl | exact sBld (by repeat' (first | exact trivial | rfl | exact Nat.le_of_ble_eq_true rfl | refine And.intro ?_ ?_)) rfl | exact sBS (by repeat' (first | exact trivial | rfl | exact Nat.le_of_ble_eq_true rfl | refine And.intro ?_ ?_)) rfl rfl rfl rfl | exact sBSF (by repeat' (first | exact trivial | rfl | exact Nat.le_of_ble_eq_true rfl | refine And.intro ?_ ?_)) rfl rfl rfl rfl | exact sLe rfl | exact Chk.mk (by kernel_rfl) | exact ⟨Chk.mk (by kernel_rfl)⟩ | exact sLeEq rfl rfl | refine fun h => ?_)
  all_goals dsimp only [sPick, sProg, sRun, sNum] at *
  all_goals try (exact ⟨fun _ _ => trivial⟩)
  all_goals try (exact ⟨fun _ _ => ⟨trivial, trivial⟩⟩)
  all_goals try (exact ⟨c_pick bs hb _ _ (by omega) (by omega)⟩)
  all_goals try (exact ⟨c_l2Prog bs hb _ (by omega) (by omega)⟩)
  all_goals try (exact ⟨c_num bs hb _ (by omega) (by omega) [0, 1001] (by decide) (by decide)⟩)
  all_goals try (exact ⟨c_spec_ExecRun bx _ hbx (Nat.le_trans (m := 8) (by omega) (by decide))⟩)
  all_goals try (first | exact ⟨trivial, trivial⟩ | exact ⟨Nat.le_of_ble_eq_true rfl, trivial⟩ | exact ⟨trivial, Nat.le_of_ble_eq_true rfl, trivial⟩ | exact ⟨Nat.le_of_ble_eq_true rfl, trivial, trivial⟩)
  · apply exEnt _ _ _ [] []; refine ⟨[], [], ?_, ?_⟩; rotate_left 1; focus (repeat' (first | exact trivial | exact ⟨trivial⟩ | exact Side.mk rfl | exact sF1 rfl | exact Chk.mk (by kernel_rfl) | exact ⟨Chk.mk (by kernel_rfl)⟩ | refine And.intro ?_ ?_ | rfl))
    exact ⟨⟨Nat.le_of_ble_eq_true rfl, Nat.le_of_ble_eq_true rfl⟩, by dsimp only; omega, by dsimp only; omega⟩
  all_goals first | (apply exEnt _ _ _ _ _ _ 3; refine ⟨[], [], ?_, ?_⟩; rotate_left 1; focus ((repeat' (first | exact trivial | exact ⟨trivial⟩ | exact Side.mk rfl | exact sF1 rfl | exact Chk.mk (by kernel_rfl) | exact ⟨Chk.mk (by kernel_rfl)⟩ | refine And.intro ?_ ?_ | rfl)); done)) | (apply exEnt; refine ⟨[], [], ?_, ?_⟩; rotate_left 1; focus (repeat' (first | exact trivial | exact ⟨trivial⟩ | exact Side.mk rfl | exact sF1 rfl | exact Chk.mk (by kernel_rfl) | exact ⟨Chk.mk (by kernel_rfl)⟩ | refine And.intro ?_ ?_ | rfl)))
  all_goals exact ⟨by assumption, by dsimp only; omega, by dsimp only; omega⟩
end Mg

/- Texts of numbers, entries, messages, and that they say what they were made of. No condition. -/
namespace Mg
open Go Go.Lib
set_option linter.unusedVariables false
/-- A text of bytes. -/
def str (l : List UInt8) : ByteArray := ⟨l.toArray⟩
theorem str_app (a b : List UInt8) : str a ++ str b = str (a ++ b) := by
  apply ByteArray.ext
  simp [str]
theorem str_size (l : List UInt8) : (str l).size = l.length := by simp [str, ByteArray.size]
theorem str_inj {a b : List UInt8} (h : str a = str b) : a = b := by
  have := congrArg (fun x => x.data.toList) h
  simpa [str] using this
def isD (b : UInt8) : Bool := decide (48 ≤ b.toNat) && decide (b.toNat ≤ 57)
theorem dig_toNat {u : Nat} (h : u < 10) : (UInt8.ofNat (48 + u)).toNat = 48 + u := by
  simp; omega
theorem dec_one {u : Nat} (h : u < 10) : decDigits u = [UInt8.ofNat (48 + u)] := by rw [decDigits, dif_pos h]
theorem dec_more {u : Nat} (h : ¬ u < 10) : decDigits u = decDigits (u / 10) ++ [UInt8.ofNat (48 + u % 10)] := by rw [decDigits, dif_neg h]
theorem dec_all (u : Nat) : ∀ b ∈ decDigits u, isD b = true := by
  induction u using Nat.strongRecOn with
  | _ u ih =>
    by_cases h : u < 10
    · intro b hb
      rw [dec_one h] at hb
      obtain rfl := List.mem_singleton.1 hb
      simp only [isD, dig_toNat h, Bool.and_eq_true, decide_eq_true_eq]; omega
    · intro b hb
      rw [dec_more h] at hb
      rcases List.mem_append.1 hb with hb | hb
      · exact ih _ (by omega) b hb
      · obtain rfl := List.mem_singleton.1 hb
        simp only [isD, dig_toNat (show u % 10 < 10 by omega), Bool.and_eq_true, decide_eq_true_eq]; omega
theorem dec_ne (u : Nat) : decDigits u ≠ [] := by
  by_cases h : u < 10
  · rw [dec_one h]; simp
  · rw [dec_more h]; simp
/-- The number that digits say. -/
def dval (l : List UInt8) : Nat := l.foldl (fun a b => a * 10 + (b.toNat - 48)) 0
theorem dval_app (l : List UInt8) (b : UInt8) : dval (l ++ [b]) = dval l * 10 + (b.toNat - 48) := by simp [dval]
theorem dval_dec (u : Nat) : dval (decDigits u) = u := by
  induction u using Nat.strongRecOn with
  | _ u ih =>
    by_cases h : u < 10
    · rw [dec_one h]
      have := dig_toNat h
      simp only [dval, List.foldl_cons, List.foldl_nil, this]; omega
    · rw [dec_more h, dval_app, ih _ (by omega), dig_toNat (by omega)]; omega
theorem dec_inj {u v : Nat} (h : decDigits u = decDigits v) : u = v := by rw [← dval_dec u, h, dval_dec v]
theorem span_one {c d : UInt8} (hc : isD c = false) (hd : isD d = false) : ∀ {a b s t : List UInt8}, (∀ x ∈ a, isD x = true) → (∀ x ∈ b, isD x = true) → a ++ c :: s = b ++ d :: t → a = b ∧ c = d ∧ s = t
  | [], [], s, t, _, _, h => by
    obtain ⟨h1, h2⟩ := List.cons.inj h
    exact ⟨rfl, h1, h2⟩
  | [], y :: b, s, t, _, hb, h => by
    obtain ⟨h1, _⟩ := List.cons.inj h
    have := hb y List.mem_cons_self
    rw [← h1, hc] at this; cases this
  | x :: a, [], s, t, ha, _, h => by
    obtain ⟨h1, _⟩ := List.cons.inj h
    have := ha x List.mem_cons_self
    rw [h1, hd] at this; cases this
  | x :: a, y :: b, s, t, ha, hb, h => by
    obtain ⟨h1, h2⟩ := List.cons.inj h
    obtain ⟨h3, h4⟩ := span_one hc hd (fun z hz => ha z (List.mem_cons_of_mem _ hz)) (fun z hz => hb z (List.mem_cons_of_mem _ hz)) h2
    exact ⟨by rw [h1, h3], h4⟩
theorem itoa_nn {n : Int} (h : 0 ≤ n) : itoa n = decDigits n.toNat := by rw [itoa, if_neg (by omega)]
theorem itoa_ng {n : Int} (h : n < 0) : itoa n = 45 :: decDigits n.natAbs := by rw [itoa, if_pos h]
theorem dec_cons (u : Nat) : ∃ b l, decDigits u = b :: l ∧ isD b = true := by
  cases h : decDigits u with
  | nil => exact absurd h (dec_ne u)
  | cons b l => exact ⟨b, l, rfl, dec_all u b (by rw [h]; exact List.mem_cons_self)⟩
/-- Two numbers, each with what is no digit behind it. -/
theorem itoa_cons {n m : Int} {c d : UInt8} {s t : List UInt8} (hc : isD c = false) (hd : isD d = false) (h : itoa n ++ c :: s = itoa m ++ d :: t) : n = m ∧ c = d ∧ s = t := by
  have h45 : isD 45 = false := by decide
  by_cases hn : n < 0 <;> by_cases hm : m < 0
  · rw [itoa_ng hn, itoa_ng hm] at h
    obtain ⟨_, h2⟩ := List.cons.inj h
    obtain ⟨h3, h4⟩ := span_one hc hd (dec_all _) (dec_all _) h2
    have := dec_inj h3
    exact ⟨by omega, h4⟩
  · rw [itoa_ng hn, itoa_nn (by omega)] at h
    obtain ⟨b, l, hb, hi⟩ := dec_cons m.toNat
    rw [hb] at h
    obtain ⟨h1, _⟩ := List.cons.inj h
    rw [← h1, h45] at hi; cases hi
  · rw [itoa_ng hm, itoa_nn (by omega)] at h
    obtain ⟨b, l, hb, hi⟩ := dec_cons n.toNat
    rw [hb] at h
    obtain ⟨h1, _⟩ := List.cons.inj h
    rw [h1, h45] at hi; cases hi
  · rw [itoa_nn (by omega), itoa_nn (by omega)] at h
    obtain ⟨h3, h4⟩ := span_one hc hd (dec_all _) (dec_all _) h
    have := dec_inj h3
    exact ⟨by omega, h4⟩
theorem itoa_inj {n m : Int} (h : itoa n = itoa m) : n = m := (itoa_cons (c := 0) (d := 0) (s := []) (t := []) (by decide) (by decide) (by rw [h])).1
/-- A letter, a number, a letter, a number. -/
def twoText (a b : UInt8) (x : Two) : List UInt8 := a :: itoa x.a ++ b :: itoa x.b
def twosText (a b : UInt8) (xs : List Two) : List UInt8 := xs.flatMap (twoText a b)
theorem twosText_cons (a b : UInt8) (x : Two) (xs : List Two) : twosText a b (x :: xs) = twoText a b x ++ twosText a b xs := rfl
theorem twosText_app (a b : UInt8) (xs ys : List Two) : twosText a b (xs ++ ys) = twosText a b xs ++ twosText a b ys := by simp [twosText]
theorem twos_head {a b c : UInt8} (ha : isD a = false) (hc : isD c = false) (xs : List Two) (s : List UInt8) : ∃ d l, twosText a b xs ++ c :: s = d :: l ∧ isD d = false := by
  cases xs with
  | nil => exact ⟨c, s, rfl, hc⟩
  | cons x xs => exact ⟨a, _, rfl, ha⟩
theorem twos_inj {a b c d : UInt8} (ha : isD a = false) (hb : isD b = false) (hc : isD c = false) (hd : isD d = false) (hac : a ≠ c) (had : a ≠ d) :
    ∀ {xs ys : List Two} {s t : List UInt8}, twosText a b xs ++ c :: s = twosText a b ys ++ d :: t → xs = ys ∧ c = d ∧ s = t
  | [], [], s, t, h => by
    obtain ⟨h1, h2⟩ := List.cons.inj h
    exact ⟨rfl, h1, h2⟩
  | [], y :: ys, s, t, h => by
    obtain ⟨h1, _⟩ := List.cons.inj h
    exact absurd h1.symm hac
  | x :: xs, [], s, t, h => by
    obtain ⟨h1, _⟩ := List.cons.inj h
    exact absurd h1 had
  | x :: xs, y :: ys, s, t, h => by
    simp only [twosText_cons, twoText, List.append_assoc, List.cons_append] at h
    obtain ⟨_, h1⟩ := List.cons.inj h
    obtain ⟨h2, _, h3⟩ := itoa_cons hb hb h1
    obtain ⟨p, l, e1, g1⟩ := twos_head (b := b) ha hc xs s
    obtain ⟨q, m, e2, g2⟩ := twos_head (b := b) ha hd ys t
    rw [e1, e2] at h3
    obtain ⟨h4, h5, h6⟩ := itoa_cons g1 g2 h3
    obtain ⟨h7, h8⟩ := twos_inj ha hb hc hd hac had (xs := xs) (ys := ys) (s := s) (t := t) (by rw [e1, e2, h5, h6])
    refine ⟨?_, h8⟩
    rw [h7]
    cases x; cases y; simp_all
/-- An entry, written. -/
def entText (e : Entry) : List UInt8 := if e.none = true then [110, 111, 110, 101] else
  itoa e.q.a ++ 46 :: (itoa e.q.b ++ 123 :: (twosText 63 47 e.run.reads ++ (twosText 33 61 e.run.puts ++ 125 :: (itoa e.run.c ++ 58 :: itoa e.run.d))))
theorem itoa_head (n : Int) : ∃ b l, itoa n = b :: l ∧ b ≠ 110 := by
  by_cases h : n < 0
  · exact ⟨45, _, itoa_ng h, by decide⟩
  · rw [itoa_nn (by omega)]
    obtain ⟨b, l, h1, h2⟩ := dec_cons n.toNat
    refine ⟨b, l, h1, ?_⟩
    rintro rfl; revert h2; decide
theorem twos_head2 {c : UInt8} (hc : isD c = false) (hne : (63 : UInt8) ≠ c) (ps : List Two) (s : List UInt8) : ∃ d l, twosText 33 61 ps ++ c :: s = d :: l ∧ isD d = false ∧ (63 : UInt8) ≠ d := by
  cases ps with
  | nil => exact ⟨c, s, rfl, hc, hne⟩
  | cons x xs => exact ⟨33, _, rfl, by decide, by decide⟩
/-- Entries with a request that are written alike (what stands behind them is no digit) are the same. -/
theorem ent_cons {x y : Entry} (hx : x.none = false) (hy : y.none = false) {c d : UInt8} {s t : List UInt8} (hc : isD c = false) (hd : isD d = false) (h : entText x ++ c :: s = entText y ++ d :: t) : x = y ∧ c = d ∧ s = t := by
  simp only [entText, hx, hy, Bool.false_eq_true, if_false, List.append_assoc, List.cons_append] at h
  obtain ⟨h1, _, h⟩ := itoa_cons (by decide) (by decide) h
  obtain ⟨h2, _, h⟩ := itoa_cons (by decide) (by decide) h
  obtain ⟨p, l, e1, g1, g2⟩ := twos_head2 (c := 125) (by decide) (by decide) x.run.puts (itoa x.run.c ++ 58 :: (itoa x.run.d ++ c :: s))
  obtain ⟨q, m, e2, g3, g4⟩ := twos_head2 (c := 125) (by decide) (by decide) y.run.puts (itoa y.run.c ++ 58 :: (itoa y.run.d ++ d :: t))
  rw [e1, e2] at h
  obtain ⟨h3, h5, h6⟩ := twos_inj (by decide) (by decide) g1 g3 g2 g4 h
  have h : twosText 33 61 x.run.puts ++ 125 :: (itoa x.run.c ++ 58 :: (itoa x.run.d ++ c :: s)) = twosText 33 61 y.run.puts ++ 125 :: (itoa y.run.c ++ 58 :: (itoa y.run.d ++ d :: t)) := by rw [e1, e2, h5, h6]
  obtain ⟨h4, _, h⟩ := twos_inj (by decide) (by decide) (by decide) (by decide) (by decide) (by decide) h
  obtain ⟨h7, _, h⟩ := itoa_cons (by decide) (by decide) h
  obtain ⟨h8, h9⟩ := itoa_cons hc hd h
  refine ⟨?_, h9⟩
  obtain ⟨xn, ⟨xa, xb⟩, ⟨xr, xp, xc, xd⟩⟩ := x
  obtain ⟨yn, ⟨ya, yb⟩, ⟨yr, yp, yc, yd⟩⟩ := y
  simp_all
theorem ent_head (x : Entry) (hx : x.none = false) : ∃ b l, entText x = b :: l ∧ b ≠ 110 := by
  obtain ⟨b, l, h1, h2⟩ := itoa_head x.q.a
  simp only [entText, hx, Bool.false_eq_true, if_false, h1, List.cons_append]
  exact ⟨_, _, rfl, h2⟩
theorem entryOk_none {x : Entry} (h : entryOk x = true) (hx : x.none = true) : x = zeroE true := by
  unfold entryOk at h
  rw [if_pos hx] at h
  exact of_decide_eq_true h
/-- Right entries are written alike exactly if they are the same. -/
theorem ent_inj {x y : Entry} (hx : entryOk x = true) (hy : entryOk y = true) : entText x = entText y ↔ x = y := by
  refine ⟨fun h => ?_, fun h => by rw [h]⟩
  cases nx : x.none <;> cases ny : y.none
  · exact (ent_cons nx ny (c := 0) (d := 0) (s := []) (t := []) (by decide) (by decide) (by rw [h])).1
  · obtain ⟨b, l, h1, h2⟩ := ent_head x nx
    rw [h1] at h
    simp only [entText, ny, if_true] at h
    exact absurd (List.cons.inj h).1 h2
  · obtain ⟨b, l, h1, h2⟩ := ent_head y ny
    rw [h1] at h
    simp only [entText, nx, if_true] at h
    exact absurd (List.cons.inj h).1.symm h2
  · rw [entryOk_none hx nx, entryOk_none hy ny]
/-- How long texts are. -/
theorem dec_len : ∀ (k u : Nat), u < 10 ^ k → 0 < k → (decDigits u).length ≤ k
  | 0, u, h, h0 => absurd h0 (by omega)
  | k + 1, u, h, _ => by
    by_cases hu : u < 10
    · rw [dec_one hu]; simp
    · rw [dec_more hu]
      have hk : 0 < k := by
        cases k with
        | zero => simp at h; omega
        | succ k => omega
      have := dec_len k (u / 10) (by rw [Nat.pow_succ] at h; omega) hk
      simp; omega
theorem itoa_len {n : Int} (h1 : -9223372036854775808 ≤ n) (h2 : n ≤ 9223372036854775807) : (itoa n).length ≤ 21 := by
  by_cases h : n < 0
  · rw [itoa_ng h]
    have := dec_len 20 n.natAbs (by have : n.natAbs ≤ 9223372036854775808 := by omega
                                    exact Nat.lt_of_le_of_lt this (by decide)) (by omega)
    simp; omega
  · rw [itoa_nn (by omega)]
    have := dec_len 20 n.toNat (by have : n.toNat ≤ 9223372036854775808 := by omega
                                   exact Nat.lt_of_le_of_lt this (by decide)) (by omega)
    omega
end Mg

/- The library's functions under this program's numbers. No condition. -/
namespace Mg
open Go Go.RowKit Go.Shelf Go.Proofs
set_option maxRecDepth 100000
set_option linter.unusedVariables false
def rho : Ren := ⟨fun x => match x with | 129 => 106 | 166 => 35 | 169 => 37 | 240 => 63 | 243 => 64 | 246 => 89 | 276 => 88 | 283 => 96 | 284 => 97 | 285 => 98 | 286 => 99 | 317 => 105 | 318 => 107 | 319 => 108 | 320 => 109 | 337 => 114 | 338 => 115 | n => n, fun x => match x with | 0 => 0 | 2 => 2 | 3 => 3 | 4 => 4 | 5 => 5 | 9 => 9 | 20 => 20 | 37 => 42 | 46 => 159 | 51 => 157 | 53 => 143 | 70 => 72 | 72 => 74 | 75 => 76 | 80 => 79 | 127 => 101 | 164 => 128 | 171 => 142 | 173 => 146 | 212 => 156 | 213 => 158 | 232 => 167 | 233 => 168 | n => n, fun x => match x with | 17 => 0 | 18 => 1 | 19 => 2 | n => n⟩
theorem lay243 : LaysM.n243 PP rho where
  mixed := by kernel_rfl
  f129 := Tryd.func106.trans (congrArg some (by kernel_rfl))
  f243 := Tryd.func64.trans (congrArg some (by kernel_rfl))
  f246 := Tryd.func89.trans (congrArg some (by kernel_rfl))
  f283 := Tryd.func96.trans (congrArg some (by kernel_rfl))
  f284 := Tryd.func97.trans (congrArg some (by kernel_rfl))
  f285 := Tryd.func98.trans (congrArg some (by kernel_rfl))
  f286 := Tryd.func99.trans (congrArg some (by kernel_rfl))
  f317 := Tryd.func105.trans (congrArg some (by kernel_rfl))
  f318 := Tryd.func107.trans (congrArg some (by kernel_rfl))
  f319 := Tryd.func108.trans (congrArg some (by kernel_rfl))
  f320 := Tryd.func109.trans (congrArg some (by kernel_rfl))
  f337 := Tryd.func114.trans (congrArg some (by kernel_rfl))
  f338 := Tryd.func115.trans (congrArg some (by kernel_rfl))
  t0 := Tryd.underlying0
  a0 := Tryd.isAgg0
  z0 := Tryd.sizeOf0
  v0 := Tryd.zeroValue0
  t2 := Tryd.underlying2
  a2 := Tryd.isAgg2
  z2 := Tryd.sizeOf2
  v2 := Tryd.zeroValue2
  t3 := Tryd.underlying3
  a3 := Tryd.isAgg3
  z3 := Tryd.sizeOf3
  v3 := Tryd.zeroValue3
  t4 := Tryd.underlying4
  a4 := Tryd.isAgg4
  z4 := Tryd.sizeOf4
  v4 := Tryd.zeroValue4
  t5 := Tryd.underlying5
  a5 := Tryd.isAgg5
  z5 := Tryd.sizeOf5
  v5 := Tryd.zeroValue5
  t9 := Tryd.underlying9
  a9 := Tryd.isAgg9
  z9 := Tryd.sizeOf9
  v9 := Tryd.zeroValue9
  t20 := Tryd.underlying20
  a20 := Tryd.isAgg20
  z20 := Tryd.sizeOf20
  v20 := Tryd.zeroValue20
  t37 := Tryd.underlying42
  a37 := Tryd.isAgg42
  z37 := Tryd.sizeOf42
  v37 := Tryd.zeroValue42
  t46 := Tryd.underlying159
  a46 := Tryd.isAgg159
  z46 := Tryd.sizeOf159
  v46 := Tryd.zeroValue159
  t51 := Tryd.underlying157
  a51 := Tryd.isAgg157
  z51 := Tryd.sizeOf157
  v51 := Tryd.zeroValue157
  t53 := Tryd.underlying143
  a53 := Tryd.isAgg143
  z53 := Tryd.sizeOf143
  v53 := Tryd.zeroValue143
  t171 := Tryd.underlying142
  a171 := Tryd.isAgg142
  z171 := Tryd.sizeOf142
  v171 := Tryd.zeroValue142
  t173 := Tryd.underlying146
  a173 := Tryd.isAgg146
  z173 := Tryd.sizeOf146
  v173 := Tryd.zeroValue146
  t212 := Tryd.underlying156
  a212 := Tryd.isAgg156
  z212 := Tryd.sizeOf156
  v212 := Tryd.zeroValue156
  t213 := Tryd.underlying158
  a213 := Tryd.isAgg158
  z213 := Tryd.sizeOf158
  t232 := Tryd.underlying167
  a232 := Tryd.isAgg167
  z232 := Tryd.sizeOf167
  v232 := Tryd.zeroValue167
  t233 := Tryd.underlying168
  a233 := Tryd.isAgg168
  z233 := Tryd.sizeOf168
  v233 := Tryd.zeroValue168
  g17 := by kernel_rfl
  g18 := by kernel_rfl
  g19 := by kernel_rfl
  i0 := by kernel_rfl
  i2 := by kernel_rfl
  i3 := by kernel_rfl
  i4 := by kernel_rfl
  i5 := by kernel_rfl
  i9 := by kernel_rfl
  i20 := by kernel_rfl
  i37 := by kernel_rfl
  i46 := by kernel_rfl
  i51 := by kernel_rfl
  i53 := by kernel_rfl
  i171 := by kernel_rfl
  i173 := by kernel_rfl
  i212 := by kernel_rfl
  i232 := by kernel_rfl
  i233 := by kernel_rfl
  m17 := by kernel_rfl
  m18 := by kernel_rfl
  m19 := by kernel_rfl
theorem lay166 : Lays.n166 PP rho where
  mixed := by kernel_rfl
  f166 := Tryd.func35.trans (congrArg some (by kernel_rfl))
  f240 := Tryd.func63.trans (congrArg some (by kernel_rfl))
  f276 := Tryd.func88.trans (congrArg some (by kernel_rfl))
  t0 := Tryd.underlying0
  a0 := Tryd.isAgg0
  z0 := Tryd.sizeOf0
  v0 := Tryd.zeroValue0
  t3 := Tryd.underlying3
  a3 := Tryd.isAgg3
  z3 := Tryd.sizeOf3
  v3 := Tryd.zeroValue3
  t4 := Tryd.underlying4
  a4 := Tryd.isAgg4
  z4 := Tryd.sizeOf4
  v4 := Tryd.zeroValue4
  t9 := Tryd.underlying9
  a9 := Tryd.isAgg9
  z9 := Tryd.sizeOf9
  v9 := Tryd.zeroValue9
  t20 := Tryd.underlying20
  a20 := Tryd.isAgg20
  z20 := Tryd.sizeOf20
  v20 := Tryd.zeroValue20
  t37 := Tryd.underlying42
  a37 := Tryd.isAgg42
  z37 := Tryd.sizeOf42
  v37 := Tryd.zeroValue42
  t70 := Tryd.underlying72
  a70 := Tryd.isAgg72
  z70 := Tryd.sizeOf72
  v70 := Tryd.zeroValue72
  t72 := Tryd.underlying74
  a72 := Tryd.isAgg74
  z72 := Tryd.sizeOf74
  v72 := Tryd.zeroValue74
  t75 := Tryd.underlying76
  a75 := Tryd.isAgg76
  z75 := Tryd.sizeOf76
  v75 := Tryd.zeroValue76
  t164 := Tryd.underlying128
  a164 := Tryd.isAgg128
  z164 := Tryd.sizeOf128
  v164 := Tryd.zeroValue128
theorem lay169 : Lays.n169 PP rho where
  mixed := by kernel_rfl
  f169 := Tryd.func37.trans (congrArg some (by kernel_rfl))
  t0 := Tryd.underlying0
  a0 := Tryd.isAgg0
  z0 := Tryd.sizeOf0
  v0 := Tryd.zeroValue0
  t3 := Tryd.underlying3
  a3 := Tryd.isAgg3
  z3 := Tryd.sizeOf3
  v3 := Tryd.zeroValue3
  t9 := Tryd.underlying9
  a9 := Tryd.isAgg9
  z9 := Tryd.sizeOf9
  v9 := Tryd.zeroValue9
  t37 := Tryd.underlying42
  a37 := Tryd.isAgg42
  z37 := Tryd.sizeOf42
  v37 := Tryd.zeroValue42
  t70 := Tryd.underlying72
  a70 := Tryd.isAgg72
  z70 := Tryd.sizeOf72
  v70 := Tryd.zeroValue72
  t72 := Tryd.underlying74
  a72 := Tryd.isAgg74
  z72 := Tryd.sizeOf74
  v72 := Tryd.zeroValue74
  t127 := Tryd.underlying101
  a127 := Tryd.isAgg101
  z127 := Tryd.sizeOf101
  v127 := Tryd.zeroValue101
theorem layX : Builder.Extra PP rho where
  sizeBuilder := by kernel_rfl
  liesBuilder := by kernel_rfl
  t5 := Tryd.underlying5
  a5 := Tryd.isAgg5
  z5 := Tryd.sizeOf5
  v5 := Tryd.zeroValue5
  infoByte := by kernel_rfl
  cellsByte := by kernel_rfl
  sizeByte := by kernel_rfl
  neB5 := by decide
theorem layB : BL PP rho := ⟨lay166, lay169, layX, ⟨_, rfl, by kernel_rfl, by kernel_rfl⟩⟩
theorem c_itoa0 (n : Int) (h0 : -9223372036854775808 ≤ n) (h1 : n ≤ 9223372036854775807) : Pure PP false 64 [.one (.sc (.int .i64 n))] (.one (.sc (.string ⟨(Lib.itoa n).toArray⟩))) :=
  Pure.ofItoa lay243 (by kernel_rfl) n h0 h1
end Mg

/- Decimals by the other side, and by the library. No condition. -/
namespace Mg
open Go Go.RowKit Go.Lib
set_option maxRecDepth 100000
set_option linter.unusedVariables false
set_option linter.unusedSimpArgs false
attribute [local irreducible] W Pure
@[reducible] def os (l : List UInt8) : MV := .one (.sc (.string (str l)))
theorem strOf_one (n : Int) : strOf [n] = str [UInt8.ofNat n.toNat] := rfl
theorem wrap_dig {u : Nat} (h : u < 10) : (IntKind.u8.wrap (IntKind.i64.wrap (48 + (u : Int)))).toNat = 48 + u := by
  rw [wrapi (by omega) (by omega)]
  unfold IntKind.wrap
  simp [IntKind.signed, IntKind.bits]
  omega
theorem tmod_nn {n : Nat} : ((n : Int).tmod 10) = ((n % 10 : Nat) : Int) := by rw [Int.tmod_eq_emod_of_nonneg (by omega)]; omega
theorem tdiv_nn {n : Nat} (h : (n : Int) ≤ 9223372036854775807) : IntKind.i64.wrap ((n : Int).tdiv 10) = ((n / 10 : Nat) : Int) := by
  rw [Int.tdiv_eq_ediv_of_nonneg (by omega), wrapi (by omega) (by omega)]; omega
theorem one_dig {u : Nat} (h : u < 10) : strOf [IntKind.u8.wrap (IntKind.i64.wrap (48 + (u : Int)))] = str [UInt8.ofNat (48 + u)] := by
  rw [strOf_one, wrap_dig h]
theorem dec_len20 {n : Nat} (h : (n : Int) ≤ 9223372036854775807) : (decDigits n).length ≤ 20 := dec_len 20 n (by
  have : n ≤ 9223372036854775807 := by omega
  exact Nat.lt_of_le_of_lt this (by decide)) (by omega)
theorem c_l15Dec0 (n : Nat) (h1 : (n : Int) ≤ 9223372036854775807) : Pure PP false 32 [oi n] (os (decDigits n)) := by
  have hl := dec_len20 h1
  refine Pure.vc [(18, .row []), (27, .row [])] TTok hmo Go.Proofs.Tryd.func32 (by kernel_rfl) rfl (by kernel_rfl) ?_
  repeat' (first | refine And.intro ?_ ?_ | exact tf | exact ft | refine tt ?_ | refine ff ?_ | exact ⟨trivial⟩ | exact sAll rfl | exact sF1 rfl | exact sBld (by repeat' (first | exact trivial | rfl | exact Nat.le_of_ble_eq_true rfl | refine And.intro ?_ ?_)) rfl | exact sBS (by repeat' (first | exact trivial | rfl | exact Nat.le_of_ble_eq_true rfl | refine And.intro ?_ ?_)) rfl rfl rfl rfl | exact sBSF (by repeat' (first | exact trivial | rfl | exact Nat.le_of_ble_eq_true rfl | refine And.intro ?_ ?_)) rfl rfl rfl rfl | exact sLe rfl | exact Chk.mk (by kernel_rfl) | exact ⟨Chk.mk (by kernel_rfl)⟩ | exact sLeEq rfl rfl | refine fun h => ?_)
  all_goals simp only [decide_eq_true_eq, decide_eq_false_iff_not, List.length_map, Bool.not_eq_true', Bool.not_eq_false', Bool.not_eq_eq_eq_not, Bool.not_true, Bool.not_false, bne_iff_ne, ne_eq, bne_eq_false_iff_eq, beq_iff_eq, beq_eq_false_iff_ne] at *
  all_goals try (exfalso; omega)
  refine W.loopC (D := Nat × List UInt8) (fun d => [(18, .row []), (27, .row [])]) TTok hmo
    (fun d => ⟨31, 0, [(0, oi d.1), (3, os d.2)], []⟩) (fun d => d.1) (fun d => (d.1 : Int) ≤ 9223372036854775807 ∧ decDigits n = decDigits d.1 ++ d.2) (n, []) [] ⟨h1, by simp⟩ ?_ ?_
  · repeat' (first | exact trivial | exact ⟨trivial⟩ | exact Side.mk rfl | exact sF1 rfl | exact Chk.mk (by kernel_rfl) | exact ⟨Chk.mk (by kernel_rfl)⟩ | refine And.intro ?_ ?_ | rfl)
  · intro d ⟨hd, he⟩
    have hl2 : (decDigits d.1 ++ d.2).length ≤ 20 := by rw [← he]; exact hl
    rw [List.length_append] at hl2
    repeat' (first | refine And.intro ?_ ?_ | exact tf | exact ft | refine tt ?_ | refine ff ?_ | exact ⟨trivial⟩ | exact sAll rfl | exact sF1 rfl | exact sBld (by repeat' (first | exact trivial | rfl | exact Nat.le_of_ble_eq_true rfl | refine And.intro ?_ ?_)) rfl | exact sBS (by repeat' (first | exact trivial | rfl | exact Nat.le_of_ble_eq_true rfl | refine And.intro ?_ ?_)) rfl rfl rfl rfl | exact sBSF (by repeat' (first | exact trivial | rfl | exact Nat.le_of_ble_eq_true rfl | refine And.intro ?_ ?_)) rfl rfl rfl rfl | exact sLe rfl | exact Chk.mk (by kernel_rfl) | exact ⟨Chk.mk (by kernel_rfl)⟩ | exact sLeEq rfl rfl | refine fun h => ?_)
    all_goals simp only [decide_eq_true_eq, decide_eq_false_iff_not, List.length_map, Bool.not_eq_true', Bool.not_eq_false', Bool.not_eq_eq_eq_not, Bool.not_true, Bool.not_false, bne_iff_ne, ne_eq, bne_eq_false_iff_eq, beq_iff_eq, beq_eq_false_iff_ne] at *
    all_goals try (exact ⟨by decide⟩)
    · rw [tmod_nn, one_dig (Nat.mod_lt _ (by decide)), str_size, str_size]
      exact ⟨by simp; omega⟩
    · refine ⟨(d.1 / 10, UInt8.ofNat (48 + d.1 % 10) :: d.2), [], by dsimp only; omega, ⟨by dsimp only; omega, ?_⟩, ?_⟩
      · rw [he, dec_more (u := d.1) (by omega)]; simp
      · repeat' (first | exact trivial | exact ⟨trivial⟩ | exact Side.mk rfl | exact sF1 rfl | exact Chk.mk (by kernel_rfl) | exact ⟨Chk.mk (by kernel_rfl)⟩ | exact ⟨tdiv_nn hd⟩ | exact ⟨(tdiv_nn hd).symm⟩ | exact ⟨by rw [tmod_nn, one_dig (Nat.mod_lt _ (by decide)), str_app]; rfl⟩ | refine And.intro ?_ ?_ | rfl)
    · have h9 : d.1 < 10 := by omega
      rw [one_dig h9, str_size, str_size]
      exact ⟨by simp; omega⟩
    · have h9 : d.1 < 10 := by omega
      rw [one_dig h9, str_app, he, dec_one h9]
      exact ⟨⟨trivial, trivial⟩, rfl, trivial⟩
theorem c_l15Dec (n : Int) (h0 : -9223372036854775808 ≤ n) (h1 : n ≤ 9223372036854775807) : Pure PP false 32 [oi n] (os (itoa n)) := by
  by_cases hn : 0 ≤ n
  · obtain ⟨k, rfl⟩ := Int.eq_ofNat_of_zero_le hn
    have := c_l15Dec0 k h1
    rwa [itoa_nn hn, Int.toNat_natCast]
  by_cases hm : n < -9223372036854775807
  · obtain rfl : n = -9223372036854775808 := by omega
    refine Pure.vc [] TTok hmo Go.Proofs.Tryd.func32 (by kernel_rfl) rfl (by kernel_rfl) ?_
    repeat' (first | refine And.intro ?_ ?_ | exact tf | exact ft | refine tt ?_ | refine ff ?_ | exact fun h => absurd (by decide) | exact ⟨trivial⟩ | exact sAll rfl | exact sF1 rfl | exact sBld (by repeat' (first | exact trivial | rfl | exact Nat.le_of_ble_eq_true rfl | refine And.intro ?_ ?_)) rfl | exact sBS (by repeat' (first | exact trivial | rfl | exact Nat.le_of_ble_eq_true rfl | refine And.intro ?_ ?_)) rfl rfl rfl rfl | exact sBSF (by repeat' (first | exact trivial | rfl | exact Nat.le_of_ble_eq_true rfl | refine And.intro ?_ ?_)) rfl rfl rfl rfl | exact sLe rfl | exact Chk.mk (by kernel_rfl) | exact ⟨Chk.mk (by kernel_rfl)⟩ | exact sLeEq rfl rfl | refine fun h => ?_)
    all_goals simp only [decide_eq_true_eq, decide_eq_false_iff_not, List.length_map, Bool.not_eq_true', Bool.not_eq_false', Bool.not_eq_eq_eq_not, Bool.not_true, Bool.not_false, bne_iff_ne, ne_eq, bne_eq_false_iff_eq, beq_iff_eq, beq_eq_false_iff_ne] at *
    have e : itoa (-9223372036854775808) = [45, 57, 50, 50, 51, 51, 55, 50, 48, 51, 54, 56, 53, 52, 55, 55, 53, 56, 48, 56] := by decide +kernel
    rw [e]
    exact ⟨⟨trivial, trivial⟩, rfl, trivial⟩
  · have hk : (n.natAbs : Int) ≤ 9223372036854775807 := by omega
    have hw : IntKind.i64.wrap (0 - n) = (n.natAbs : Int) := by rw [wrapi (by omega) (by omega)]; omega
    have hl := dec_len20 hk
    refine Pure.vc [(10, .res (os (decDigits n.natAbs)))] TTok hmo Go.Proofs.Tryd.func32 (by kernel_rfl) rfl (by kernel_rfl) ?_
    repeat' (first | refine And.intro ?_ ?_ | exact tf | exact ft | refine tt ?_ | refine ff ?_ | exact ⟨trivial⟩ | exact sAll rfl | exact sF1 rfl | exact sBld (by repeat' (first | exact trivial | rfl | exact Nat.le_of_ble_eq_true rfl | refine And.intro ?_ ?_)) rfl | exact sBS (by repeat' (first | exact trivial | rfl | exact Nat.le_of_ble_eq_true rfl | refine And.intro ?_ ?_)) rfl rfl rfl rfl | exact sBSF (by repeat' (first | exact trivial | rfl | exact Nat.le_of_ble_eq_true rfl | refine And.intro ?_ ?_)) rfl rfl rfl rfl | exact sLe rfl | exact Chk.mk (by kernel_rfl) | exact ⟨Chk.mk (by kernel_rfl)⟩ | exact sLeEq rfl rfl | refine fun h => ?_)
    all_goals simp only [decide_eq_true_eq, decide_eq_false_iff_not, List.length_map, Bool.not_eq_true', Bool.not_eq_false', Bool.not_eq_eq_eq_not, Bool.not_true, Bool.not_false, bne_iff_ne, ne_eq, bne_eq_false_iff_eq, beq_iff_eq, beq_eq_false_iff_ne] at *
    all_goals try (exfalso; omega)
    · rw [hw]
      exact ⟨⟨trivial, trivial⟩, c_l15Dec0 _ hk⟩
    · rw [str_size]
      exact ⟨by show (((1 + (decDigits n.natAbs).length : Nat)) : Int) ≤ _; omega⟩
    · rw [itoa_ng (by omega)]
      exact ⟨⟨trivial, trivial⟩, by rw [show (⟨#[45]⟩ : ByteArray) = str [45] from rfl, str_app]; rfl, trivial⟩
theorem c_intItoa (n : Int) (h0 : -9223372036854775808 ≤ n) (h1 : n ≤ 9223372036854775807) : Pure PP false 64 [oi n] (os (itoa n)) := c_itoa0 n h0 h1
theorem c_Itoa (n : Int) (h0 : -9223372036854775808 ≤ n) (h1 : n ≤ 9223372036854775807) : Pure PP false 36 [oi n] (os (itoa n)) := by
  refine Pure.vc [(4, .res (os (itoa n)))] TTok hmo Go.Proofs.Tryd.func36 (by kernel_rfl) rfl (by kernel_rfl) ?_
  repeat' (first | refine And.intro ?_ ?_ | exact tf | exact ft | refine tt ?_ | refine ff ?_ | exact ⟨trivial⟩ | exact sAll rfl | exact sF1 rfl | exact sBld (by repeat' (first | exact trivial | rfl | exact Nat.le_of_ble_eq_true rfl | refine And.intro ?_ ?_)) rfl | exact sBS (by repeat' (first | exact trivial | rfl | exact Nat.le_of_ble_eq_true rfl | refine And.intro ?_ ?_)) rfl rfl rfl rfl | exact sBSF (by repeat' (first | exact trivial | rfl | exact Nat.le_of_ble_eq_true rfl | refine And.intro ?_ ?_)) rfl rfl rfl rfl | exact sLe rfl | exact Chk.mk (by kernel_rfl) | exact ⟨Chk.mk (by kernel_rfl)⟩ | exact sLeEq rfl rfl | exact sAnd (by repeat' constructor) (c_intItoa _ h0 h1) | refine fun h => ?_)
  all_goals (refine ⟨?_⟩; simp_all)
end Mg
