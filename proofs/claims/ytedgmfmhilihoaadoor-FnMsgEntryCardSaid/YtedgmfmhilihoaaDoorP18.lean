/- Parts of the abstract state logic and of the walks, one behind the other: D9, D10, TXF, TX8, TXH, TX9. No condition. -/
import Derived.Test.YtedgmfmhilihoaaDoorP17
import Derived.Test.YtedgmfmhilihoaaDoorP15
import Derived.Test.YtedgmfmhilihoaaDoorP12
/- What somebody promised, drawn. No condition. -/
namespace Mg
open Go Go.RowKit
set_option maxRecDepth 100000
set_option linter.unusedVariables false
set_option linter.unusedSimpArgs false
attribute [local irreducible] W Pure Con
def sAny5 (ds : List MV) (os : List Ob) : ConT := match os with
  | [.box [b, .sc (.int _ p)]] => ⟨Entry × Int, fun d => d.1.ok 30 ∧ p ≤ d.2 ∧ d.2 ≤ p + 70, fun d => .agg d.1.cells, fun d => [.box [b, i6 d.2]]⟩
  | _ => noT
def tCast (n : Nat) (ds : List MV) (os : List Ob) : ConT := match ds with
  | [_, _, .one (.sc (.int _ slot)), _] => ⟨Int × List Vote × Bool, fun d => d.2.1.length ≤ max n (slot.toNat + 1) ∧ VsOk 30 d.2.1, fun d => .tup [.agg [i6 d.1, .ref 0 0 d.2.1.length], ob d.2.2], fun d => [.arr (d.2.1.map Vote.cells)]⟩
  | _ => noT
theorem exAcc {Q : Acc × Int → Prop} (p : Int) (vs : List Vote) (q : Int) (h : Q (⟨p, vs⟩, q)) : ∃ d, Q d := ⟨_, h⟩
theorem sMapZ2 {α : Type} {c : α → List MC} {xs : List α} (x : α) {rows2 : List (List MC)} (h : rows2 = [c x]) (hc : ∀ x, (c x).all MC.frz = true) : Side (AllF (xs.map c ++ rows2) ∧ True) :=
  ⟨by rw [h]; have := allF (xs := xs ++ [x]) hc; simpa using this, trivial⟩
theorem sFzE2 {α : Type} {c : α → List MC} {xs : List α} {x : α} {rows2 : List (List MC)} {n : Nat} (h : rows2 = [c x]) (hn : n = xs.length + 1) : Side ((xs ++ [x]).map c = ((xs.map c ++ rows2).drop 0).take n) :=
  ⟨by rw [h, List.drop_zero, List.take_of_length_le (by simp [hn])]; simp⟩
theorem exL4 {Q : Int × Int × List Vote × Int → Prop} (a b : Int) (c : List Vote) (d : Int) (h : Q (a, b, c, d)) : ∃ d, Q d := ⟨_, h⟩
set_option maxHeartbeats 8000000 in
theorem c_l6Acc (bs : List Int) (hb : BsOk bs) (p : Int) (h0 : 0 ≤ p) (h1 : p ≤ 999999900000) : Con PP 77 [.one (.ptr 0 0 0)] [rdO bs p] 1
    (fun d : Acc × Int => d.1.votes.length ≤ 10 ∧ VsOk 30 d.1.votes ∧ p ≤ d.2 ∧ d.2 ≤ p + 1000) (fun d => .agg d.1.cells) (fun d => [rdO bs d.2]) := by
  refine Con.vc [(8, .con false [0] [] [] sPick), (39, .con false [0] [] [] sPick), (43, .row []), (44, .con false [0] [] [] sNum), (900013, .row [i6 0, i6 1, i6 2, i6 4, i6 3, i6 5, i6 6, i6 7, i6 8, i6 9, i6 10, i6 11]), (51, .con false [0] [] [] sPick), (53, .res (.one (.fz ((List.replicate 4 (⟨0, 0⟩ : Two)).map Two.cells)))), (54, .con false [0] [] [] sAny5), (56, .row [])] TTok hmo Go.Proofs.Tryd.func77 rfl (by kernel_rfl) rfl (by kernel_rfl) ?_
  repeat' (first | refine And.intro ?_ ?_ | exact tf | exact ft | refine tt ?_ | refine ff ?_ | exact ⟨trivial⟩ | exact sAll rfl | exact sF1 rfl | exact sBld (by repeat' (first | exact trivial | rfl | exact Nat.le_of_ble_eq_true rfl | refine And.intro ?_ ?_)) rfl | exact sBS (by repeat' (first | exact trivial | rfl | exact Nat.le_of_ble_eq_true rfl | refine And.intro ?_ ?_)) rfl rfl rfl rfl | exact sBSF (by repeat' (first | exact trivial | rfl | exact Nat.le_of_ble_eq_true rfl | refine And.intro ?_ ?_)) rfl rfl rfl rfl | exact sLe rfl | exact Chk.mk (by kernel_rfl) | exact ⟨Chk.mk (by kernel_rfl)⟩ | exact sLeEq rfl rfl | refine fun h => ?_)
  all_goals try (exact ⟨c_pick bs hb _ _ (by omega) (by omega)⟩)
  · exact ⟨fun _ _ => trivial⟩
  · exact ⟨fun _ _ => trivial⟩
  · dsimp only [sPick] at *
    rename_i q1
    have hq1 := h
    clear h
    refine W.vbox 2 1 rfl ?_
    refine W.loopC (D := Int × Int × List Vote × Int) (fun d => [(16, .con false [0] [] [] sPick), (19, .con false [0] [] [] sPick), (24, .con false [3] [] [] (fun _ _ => tProm d.2.2.1)), (31, .con false [0] [] [] sPick), (33, .res (.one (.fz ((List.replicate 4 (⟨0, 0⟩ : Two)).map Two.cells)))), (34, .con false [0] [] [] sAny5), (35, .con false [] [3] [] (tCast d.2.2.1.length)),
      (900005, .row [i6 0, i6 1, i6 2, i6 3, i6 4, i6 5]), (900008, .row [i6 0, i6 1, i6 2, i6 4, i6 3, i6 5, i6 6, i6 7, i6 8, i6 9, i6 10, i6 11])]) TTok hmo
      (fun d => ⟨63, 4, [(0, .one (.ptr 0 0 0)), (2, .one (.ptr 1 0 0)), (3, .one (.ptr 2 0 0)), (4, oi d.1)], [(0, rdO bs d.2.2.2), (1, .box [i6 0, .nil]), (2, .box [i6 d.2.1, .ref 3 0 d.2.2.1.length]), (3, .arr (d.2.2.1.map Vote.cells))]⟩) (fun d => d.1.toNat)
      (fun d => (0 ≤ d.1 ∧ d.1 ≤ 5) ∧ d.2.2.1.length ≤ 4 ∧ VsOk 30 d.2.2.1 ∧ p ≤ d.2.2.2 ∧ d.2.2.2 + 100 * d.1 ≤ p + 600) (q1, 0, [], p + 1) [] ⟨by dsimp only; omega, Nat.le_of_ble_eq_true rfl, (fun v hv => by cases hv), by dsimp only; omega, by dsimp only; omega⟩ ?_ ?_
    · repeat' (first | exact trivial | exact ⟨trivial⟩ | exact Side.mk rfl | exact sF1 rfl | exact Chk.mk (by kernel_rfl) | exact ⟨Chk.mk (by kernel_rfl)⟩ | exact sMapF Vote.flat | refine And.intro ?_ ?_ | rfl)
    · intro ⟨i, m, vs, q⟩ ⟨hi, hl, hv, hp, hq⟩
      dsimp only at hi hl hv hp hq
      repeat' (first | refine And.intro ?_ ?_ | exact tf | exact ft | refine tt ?_ | refine ff ?_ | exact ⟨trivial⟩ | exact sAll rfl | exact sF1 rfl | exact sBld (by repeat' (first | exact trivial | rfl | exact Nat.le_of_ble_eq_true rfl | refine And.intro ?_ ?_)) rfl | exact sBS (by repeat' (first | exact trivial | rfl | exact Nat.le_of_ble_eq_true rfl | refine And.intro ?_ ?_)) rfl rfl rfl rfl | exact sBSF (by repeat' (first | exact trivial | rfl | exact Nat.le_of_ble_eq_true rfl | refine And.intro ?_ ?_)) rfl rfl rfl rfl | exact sLe rfl | exact Chk.mk (by kernel_rfl) | exact ⟨Chk.mk (by kernel_rfl)⟩ | exact sLeEq rfl rfl | exact sAnd (by repeat' constructor) (c_BoxOpen) | refine fun h => ?_)
      all_goals dsimp only [sPick, sAny5, tCast, tProm] at *
      all_goals try (exact ⟨rfl⟩)
      all_goals try (exact trivial)
      all_goals try (exact ⟨fun _ _ => trivial⟩)
      all_goals try (exact ⟨fun _ _ => ⟨Nat.le_refl _, trivial⟩⟩)
      all_goals try (exact ⟨fun _ _ => ⟨allF Vote.frz, trivial⟩⟩)
      all_goals try (exact ⟨allF Vote.frz, trivial⟩)
      all_goals try (exact ⟨c_pick bs hb _ _ (by omega) (by omega)⟩)
      all_goals try (exact ⟨c_l6Promise vs m _⟩)
      all_goals try (exact ⟨c_l5Any bs hb (List.replicate 4 ⟨0, 0⟩) (by decide) _ (by omega) (by omega)⟩)
      all_goals try (exact ⟨c_l6Cast vs m _ _ _ (by omega) hv (And.left ‹_›)⟩)
      all_goals try (exact sApp (xs := vs) (c := Vote.cells) (by simp) (fun _ => rfl) rfl (by omega) rfl rfl)
      all_goals try (first | exact ⟨trivial, trivial⟩ | exact ⟨Nat.le_of_ble_eq_true rfl, trivial⟩ | exact ⟨trivial, Nat.le_of_ble_eq_true rfl, trivial⟩ | exact ⟨Nat.le_of_ble_eq_true rfl, trivial, trivial⟩)
      all_goals simp only [decide_eq_true_eq, decide_eq_false_iff_not, List.length_map, Bool.not_eq_true', Bool.not_eq_false', Bool.not_eq_eq_eq_not, Bool.not_true, Bool.not_false, bne_iff_ne, ne_eq, bne_eq_false_iff_eq, beq_iff_eq, beq_eq_false_iff_ne] at *
      all_goals try dsimp only [sNum] at *
      all_goals try (exact ⟨c_num bs hb _ (by omega) (by omega) [-1, 3001, 0] (by decide) (by decide)⟩)
      all_goals try (exact ⟨fun _ _ => trivial⟩)
      · apply exL4 (i - 1) _ vs (q + 1 + 1); refine ⟨[], ?_, ⟨?_, hl, hv, ?_, ?_⟩, ?main⟩
        case main => repeat' (first | exact trivial | exact ⟨trivial⟩ | exact Side.mk rfl | exact sF1 rfl | exact Chk.mk (by kernel_rfl) | exact ⟨Chk.mk (by kernel_rfl)⟩ | exact sMapF Vote.flat | exact ⟨by rw [wrapi] <;> omega⟩ | refine And.intro ?_ ?_ | rfl)
        all_goals dsimp only
        all_goals omega
      · rename_i de he dc hc
        apply exL4 (i - 1) dc.1 dc.2.1 de.2; refine ⟨[(3, 4)], ?_, ⟨?_, ?_, ?_, ?_, ?_⟩, ?main⟩
        case main => repeat' (first | exact trivial | exact ⟨trivial⟩ | exact Side.mk rfl | exact sF1 rfl | exact Chk.mk (by kernel_rfl) | exact ⟨Chk.mk (by kernel_rfl)⟩ | exact sMapF Vote.flat | exact ⟨by rw [wrapi] <;> omega⟩ | refine And.intro ?_ ?_ | rfl)
        all_goals dsimp only
        all_goals first | omega | exact hc.2
      · apply exAcc _ vs _; refine ⟨[], [3], ?_, ?_⟩; rotate_left 1; focus (repeat' (first | exact trivial | exact ⟨trivial⟩ | exact Side.mk rfl | exact sF1 rfl | exact Chk.mk (by kernel_rfl) | exact ⟨Chk.mk (by kernel_rfl)⟩ | exact sMapZ Vote.frz | exact sFzE rfl | refine And.intro ?_ ?_ | rfl))
        exact ⟨by dsimp only; omega, hv, by dsimp only; omega, by dsimp only; omega⟩
      · rename_i px hpx de hde
        apply exAcc m (vs ++ [⟨px, de.1⟩]) de.2; refine ⟨[], [4], ?_, ?_⟩; rotate_left 1; focus (repeat' (first | exact trivial | exact ⟨trivial⟩ | exact Side.mk rfl | exact sF1 rfl | exact Chk.mk (by kernel_rfl) | exact ⟨Chk.mk (by kernel_rfl)⟩ | exact sMapZ2 (⟨px, de.1⟩ : Vote) rfl Vote.frz | exact sFzE2 rfl rfl | refine And.intro ?_ ?_ | rfl))
        exact ⟨by simp; omega, VsOk.app hv hde.1, by dsimp only; omega, by dsimp only; omega⟩
      · apply exAcc _ vs _; refine ⟨[], [3], ?_, ?_⟩; rotate_left 1; focus (repeat' (first | exact trivial | exact ⟨trivial⟩ | exact Side.mk rfl | exact sF1 rfl | exact Chk.mk (by kernel_rfl) | exact ⟨Chk.mk (by kernel_rfl)⟩ | exact sMapZ Vote.frz | exact sFzE rfl | refine And.intro ?_ ?_ | rfl))
        exact ⟨by dsimp only; omega, hv, by dsimp only; omega, by dsimp only; omega⟩
      · apply exAcc _ vs _; refine ⟨[], [3], ?_, ?_⟩; rotate_left 1; focus (repeat' (first | exact trivial | exact ⟨trivial⟩ | exact Side.mk rfl | exact sF1 rfl | exact Chk.mk (by kernel_rfl) | exact ⟨Chk.mk (by kernel_rfl)⟩ | exact sMapZ Vote.frz | exact sFzE rfl | refine And.intro ?_ ?_ | rfl))
        exact ⟨by dsimp only; omega, hv, by dsimp only; omega, by dsimp only; omega⟩
end Mg

/- Draws of promises and votes, whole. No condition. -/
namespace Mg
open Go Go.RowKit
set_option maxRecDepth 100000
set_option linter.unusedVariables false
set_option linter.unusedSimpArgs false
attribute [local irreducible] W Pure Con
structure Code8 (bs : List Int) : Prop where
  len : bs.length ≤ maxLen
  rng : ∀ b ∈ bs, 0 ≤ b ∧ b ≤ 255
def cut8 (bs : List Int) : List Int := if bs.length > 2000 then bs.take 2000 else bs
theorem Code8.ok {bs : List Int} (h : Code8 bs) : BsOk (cut8 bs) := by
  unfold cut8
  split
  · exact ⟨by simp; omega, fun b hb => h.rng b (List.mem_of_mem_take hb)⟩
  · exact ⟨by omega, h.rng⟩
theorem mem_i1 {xs : List Int} {d : Int} (h : i1 d ∈ xs.map i1) : d ∈ xs := by
  obtain ⟨y, hy, e⟩ := List.mem_map.1 h
  have : y = d := by simpa [i1, i6] using e
  exact this ▸ hy
theorem own_rng {d : Int} (h : i1 d ∈ [0, 1, 2, 3, 4, 7, 3000, 3001, -1].map i1) : -1 ≤ d ∧ d ≤ 3001 := by
  have := mem_i1 h; simp at this; omega
theorem nxt_rng {d : Int} (h : i1 d ∈ [0, 1, 2, 5, 9, 3000, 2999, 2998, -1].map i1) : -1 ≤ d ∧ d ≤ 3000 := by
  have := mem_i1 h; simp at this; omega
theorem exU {Q : Unit → Prop} (h : Q ()) : ∃ d, Q d := ⟨_, h⟩
def sOpen (ds : List MV) (os : List Ob) : ConT := ⟨List Int, fun d => BsOk d, fun _ => .one (.ptr 0 0 0), fun d => [rdO d 0]⟩
theorem exOpen {Q : List Int → Prop} (bs : List Int) (h : Q bs) : ∃ d, Q d := ⟨_, h⟩
theorem c_l15Open (bs : List Int) (hb : Code8 bs) : Con PP 46 [.one (.fz (bs.map u8))] [] 0 (fun d : List Int => BsOk d) (fun _ => .one (.ptr 0 0 0)) (fun d => [rdO d 0]) := by
  refine Con.vc [] TTok hmo Go.Proofs.Tryd.func46 rfl (by kernel_rfl) rfl (by kernel_rfl) ?_
  repeat' (first | refine And.intro ?_ ?_ | exact tf | exact ft | refine tt ?_ | refine ff ?_ | exact ⟨trivial⟩ | exact sAll rfl | exact sF1 rfl | exact sBld (by repeat' (first | exact trivial | rfl | exact Nat.le_of_ble_eq_true rfl | refine And.intro ?_ ?_)) rfl | exact sBS (by repeat' (first | exact trivial | rfl | exact Nat.le_of_ble_eq_true rfl | refine And.intro ?_ ?_)) rfl rfl rfl rfl | exact sBSF (by repeat' (first | exact trivial | rfl | exact Nat.le_of_ble_eq_true rfl | refine And.intro ?_ ?_)) rfl rfl rfl rfl | exact sLe rfl | exact Chk.mk (by kernel_rfl) | exact ⟨Chk.mk (by kernel_rfl)⟩ | exact sLeEq rfl rfl | refine fun h => ?_)
  all_goals try (first | exact ⟨trivial, trivial⟩ | exact ⟨Nat.le_of_ble_eq_true rfl, trivial⟩ | exact ⟨trivial, Nat.le_of_ble_eq_true rfl, trivial⟩ | exact ⟨Nat.le_of_ble_eq_true rfl, trivial, trivial⟩)
  · have hl := of_decide_eq_true h
    exact ⟨⟨by decide, by decide, by omega⟩, fun r hr => by obtain ⟨x, _, rfl⟩ := List.mem_map.1 hr; rfl⟩
  · have hl := of_decide_eq_true h
    have e : List.drop (Int.toNat 0) (List.take (Int.toNat 2000) (List.map u8 bs)) = List.map u8 (bs.take 2000) := by rw [List.map_take]; rfl
    simp only [e]
    apply exOpen (bs.take 2000); refine ⟨[], [], ⟨by simp; omega, fun b hb' => hb.rng b (List.mem_of_mem_take hb')⟩, ?_⟩
    repeat' (first | exact trivial | exact ⟨trivial⟩ | exact Side.mk rfl | exact sF1 rfl | exact Chk.mk (by kernel_rfl) | exact ⟨Chk.mk (by kernel_rfl)⟩ | refine And.intro ?_ ?_ | rfl)
  · have hl := of_decide_eq_false h
    rw [List.length_map] at hl
    apply exOpen bs; refine ⟨[], [], ⟨by omega, hb.rng⟩, ?_⟩
    repeat' (first | exact trivial | exact ⟨trivial⟩ | exact Side.mk rfl | exact sF1 rfl | exact Chk.mk (by kernel_rfl) | exact ⟨Chk.mk (by kernel_rfl)⟩ | refine And.intro ?_ ?_ | rfl)
def sAcc (ds : List MV) (os : List Ob) : ConT := match os with
  | [.box [b, .sc (.int _ p)]] => ⟨Acc × Int, fun d => d.1.votes.length ≤ 10 ∧ VsOk 30 d.1.votes ∧ p ≤ d.2 ∧ d.2 ≤ p + 1000, fun d => .agg d.1.cells, fun d => [.box [b, i6 d.2]]⟩
  | _ => noT
def DAcc (a : Acc) : Prop := a.votes.length ≤ 10 ∧ VsOk 30 a.votes
theorem exBest {Q : List Vote × List Vote → Prop} (a b : List Vote) (h : Q (a, b)) : ∃ d, Q d := ⟨_, h⟩
theorem exAc {Q : Acc → Prop} (a : Acc) (h : Q a) : ∃ d, Q d := ⟨_, h⟩
theorem exI {Q : Int → Prop} (a : Int) (h : Q a) : ∃ d, Q d := ⟨_, h⟩
theorem exII {Q : Int × Int → Prop} (a b : Int) (h : Q (a, b)) : ∃ d, Q d := ⟨_, h⟩
end Mg

/- Messages that are drawn. No condition. -/
namespace Mg
open Go Go.RowKit
set_option maxRecDepth 100000
set_option linter.unusedVariables false
set_option linter.unusedSimpArgs false
attribute [local irreducible] W Pure Con
structure DMsg where
  k : Int
  f : Int
  t : Int
  b : Int
  s : Int
  e : Entry
  vs : List Vote
  q : Int
def DMsg.st (bs : List Int) (d : DMsg) : S := ⟨83, 3, [(0, .one (.ptr 0 0 0)), (2, .one (.ptr 1 0 0)), (3, .one (.ptr 2 0 0))],
  [(0, rdO bs d.q), (1, .box [i6 0, i6 0, i6 0, i6 0, i6 0, bo false, i6 0, i6 0, .nil, .nil, i6 0, i6 0, .nil]), (2, .box ([i6 d.k, i6 d.f, i6 d.t, i6 d.b, i6 d.s] ++ d.e.cells ++ [.fz (d.vs.map Vote.cells)]))]⟩
structure DMsg.inv (p : Int) (d : DMsg) : Prop where
  e : d.e.ok 30
  l : d.vs.length ≤ 10
  v : VsOk 30 d.vs
  q : p ≤ d.q ∧ d.q ≤ p + 3000
theorem exD {Q : DMsg → Prop} (e : Entry) (vs : List Vote) (k f t b s q : Int) (h : Q ⟨k, f, t, b, s, e, vs, q⟩) : ∃ d, Q d := ⟨_, h⟩
theorem zE30 (b : Bool) : (zeroE b).ok 30 := ⟨Nat.zero_le _, Nat.zero_le _⟩
theorem vs30 : VsOk 30 [] := fun v hv => by cases hv
theorem exMsg {Q : Msg × Int → Prop} (e : Entry) (vs : List Vote) (k f t b s q : Int) (h : Q (⟨k, f, t, b, s, e, vs⟩, q)) : ∃ d, Q d := ⟨_, h⟩
set_option maxHeartbeats 8000000 in
theorem c_l7Msg (bs : List Int) (hb : BsOk bs) (p : Int) (h0 : 0 ≤ p) (h1 : p ≤ 999999000) : Con PP 45 [.one (.ptr 0 0 0)] [rdO bs p] 1
    (fun d : Msg × Int => (d.1.e.ok 30 ∧ d.1.votes.length ≤ 10 ∧ VsOk 30 d.1.votes) ∧ p ≤ d.2 ∧ d.2 ≤ p + 4000) (fun d => .agg d.1.cells) (fun d => [rdO bs d.2]) := by
  refine Con.vc [(5, .con false [0] [] [] sPick), (8, .con false [0] [] [] sPick), (10, .con false [0] [] [] sPick), (13, .con false [0] [] [] sPick), (19, .con false [0] [] [] sPick), (900002, .row [i6 0, i6 1, i6 2, i6 3, i6 4, i6 5, i6 6, i6 7, i6 8]), (800003, .row [])] TTok hmo Go.Proofs.Tryd.func45 rfl (by kernel_rfl) rfl (by kernel_rfl) ?_
  repeat' (first | refine And.intro ?_ ?_ | exact tf | exact ft | refine tt ?_ | refine ff ?_ | exact ⟨trivial⟩ | exact sAll rfl | exact sF1 rfl | exact sBld (by repeat' (first | exact trivial | rfl | exact Nat.le_of_ble_eq_true rfl | refine And.intro ?_ ?_)) rfl | exact sBS (by repeat' (first | exact trivial | rfl | exact Nat.le_of_ble_eq_true rfl | refine And.intro ?_ ?_)) rfl rfl rfl rfl | exact sBSF (by repeat' (first | exact trivial | rfl | exact Nat.le_of_ble_eq_true rfl | refine And.intro ?_ ?_)) rfl rfl rfl rfl | exact sLe rfl | exact Chk.mk (by kernel_rfl) | exact ⟨Chk.mk (by kernel_rfl)⟩ | exact sLeEq rfl rfl | refine fun h => ?_)
  all_goals dsimp only [sPick] at *
  all_goals try (exact ⟨fun _ _ => trivial⟩)
  all_goals try (exact ⟨fun _ _ => ⟨trivial, trivial⟩⟩)
  all_goals try (exact ⟨c_pick bs hb _ _ (by omega) (by omega)⟩)
  all_goals try (first | exact ⟨trivial, trivial⟩ | exact ⟨Nat.le_of_ble_eq_true rfl, trivial⟩ | exact ⟨trivial, Nat.le_of_ble_eq_true rfl, trivial⟩ | exact ⟨Nat.le_of_ble_eq_true rfl, trivial, trivial⟩)
  all_goals try (exact ⟨rfl⟩)
  all_goals try (exact ⟨by decide⟩)
  all_goals try (exact ⟨trivial⟩)
  all_goals try (exact trivial)
  refine W.nfb 2 rfl ?_
  refine W.cut [(30, .res (.one (.fz ((List.replicate 4 (⟨0, 0⟩ : Two)).map Two.cells)))), (31, .con false [0] [] [] sAny5), (36, .con false [0] [] [] sAcc)] TTok hmo (DMsg.st bs) (DMsg.inv p) ?_ ?_
  · repeat' (first | refine And.intro ?_ ?_ | exact tf | exact ft | refine tt ?_ | refine ff ?_ | exact ⟨trivial⟩ | exact sAll rfl | exact sF1 rfl | exact sBld (by repeat' (first | exact trivial | rfl | exact Nat.le_of_ble_eq_true rfl | refine And.intro ?_ ?_)) rfl | exact sBS (by repeat' (first | exact trivial | rfl | exact Nat.le_of_ble_eq_true rfl | refine And.intro ?_ ?_)) rfl rfl rfl rfl | exact sBSF (by repeat' (first | exact trivial | rfl | exact Nat.le_of_ble_eq_true rfl | refine And.intro ?_ ?_)) rfl rfl rfl rfl | exact sLe rfl | exact Chk.mk (by kernel_rfl) | exact ⟨Chk.mk (by kernel_rfl)⟩ | exact sLeEq rfl rfl | exact sAnd (by repeat' constructor) (c_BoxOpen) | refine fun h => ?_)
    all_goals dsimp only [sAny5, sAcc] at *
    all_goals try (exact ⟨fun _ _ => trivial⟩)
    all_goals try (exact ⟨fun _ _ => ⟨trivial, trivial⟩⟩)
    all_goals try (exact ⟨c_l5Any bs hb (List.replicate 4 ⟨0, 0⟩) (by decide) _ (by omega) (by omega)⟩)
    all_goals try (exact ⟨c_l6Acc bs hb _ (by omega) (by omega)⟩)
    all_goals try (first | exact ⟨trivial, trivial⟩ | exact ⟨Nat.le_of_ble_eq_true rfl, trivial⟩ | exact ⟨trivial, Nat.le_of_ble_eq_true rfl, trivial⟩ | exact ⟨Nat.le_of_ble_eq_true rfl, trivial, trivial⟩)
    all_goals first
      | (rename_i x; show ∃ (d : DMsg) (bl : List (Nat × Nat)), _ ∧ _; apply exD x.1 []; refine ⟨[], ⟨h.1, Nat.zero_le _, vs30, ?_⟩, ?_⟩; rotate_left 1; (focus (repeat' (first | exact trivial | exact ⟨trivial⟩ | exact Side.mk rfl | exact sF1 rfl | exact Chk.mk (by kernel_rfl) | exact ⟨Chk.mk (by kernel_rfl)⟩ | refine And.intro ?_ ?_ | rfl))); exact ⟨Int.le_trans (by omega) h.2.1, Int.le_trans h.2.2 (by omega)⟩; done)
      | (rename_i x; show ∃ (d : DMsg) (bl : List (Nat × Nat)), _ ∧ _; apply exD (zeroE false) x.1.votes; refine ⟨[], ⟨zE30 _, h.1, h.2.1, ?_⟩, ?_⟩; rotate_left 1; (focus (repeat' (first | exact trivial | exact ⟨trivial⟩ | exact Side.mk rfl | exact sF1 rfl | exact Chk.mk (by kernel_rfl) | exact ⟨Chk.mk (by kernel_rfl)⟩ | refine And.intro ?_ ?_ | rfl))); exact ⟨Int.le_trans (by omega) h.2.2.1, Int.le_trans h.2.2.2 (by omega)⟩; done)
      | (show ∃ (d : DMsg) (bl : List (Nat × Nat)), _ ∧ _; apply exD (zeroE false) []; refine ⟨[], ⟨zE30 _, Nat.zero_le _, vs30, ?_⟩, ?_⟩; rotate_left 1; (focus (repeat' (first | exact trivial | exact ⟨trivial⟩ | exact Side.mk rfl | exact sF1 rfl | exact Chk.mk (by kernel_rfl) | exact ⟨Chk.mk (by kernel_rfl)⟩ | refine And.intro ?_ ?_ | rfl))); dsimp only; omega; done)
      | skip
  · rintro ⟨k, f, t, b, s, e, vs, q⟩ ⟨he, hl, hv, hq⟩
    dsimp only at he hl hv hq
    refine W.go [(800010, .row [])] TTok hmo ?_
    refine W.cut [] TTok hmo (DMsg.st bs) (DMsg.inv p) ?_ ?_
    · repeat' (first | refine And.intro ?_ ?_ | exact tf | exact ft | refine tt ?_ | refine ff ?_ | exact ⟨trivial⟩ | exact sAll rfl | exact sF1 rfl | exact sBld (by repeat' (first | exact trivial | rfl | exact Nat.le_of_ble_eq_true rfl | refine And.intro ?_ ?_)) rfl | exact sBS (by repeat' (first | exact trivial | rfl | exact Nat.le_of_ble_eq_true rfl | refine And.intro ?_ ?_)) rfl rfl rfl rfl | exact sBSF (by repeat' (first | exact trivial | rfl | exact Nat.le_of_ble_eq_true rfl | refine And.intro ?_ ?_)) rfl rfl rfl rfl | exact sLe rfl | exact Chk.mk (by kernel_rfl) | exact ⟨Chk.mk (by kernel_rfl)⟩ | exact sLeEq rfl rfl | refine fun h => ?_)
      all_goals first
        | (refine ⟨⟨k, f, t, b, s, e, vs, q⟩, [], ⟨he, hl, hv, hq⟩, ?_⟩; (focus (repeat' (first | exact trivial | exact ⟨trivial⟩ | exact Side.mk rfl | exact sF1 rfl | exact Chk.mk (by kernel_rfl) | exact ⟨Chk.mk (by kernel_rfl)⟩ | refine And.intro ?_ ?_ | rfl))); done)
        | (refine ⟨⟨k, f, t, 0, s, e, vs, q⟩, [], ⟨he, hl, hv, hq⟩, ?_⟩; (focus (repeat' (first | exact trivial | exact ⟨trivial⟩ | exact Side.mk rfl | exact sF1 rfl | exact Chk.mk (by kernel_rfl) | exact ⟨Chk.mk (by kernel_rfl)⟩ | refine And.intro ?_ ?_ | rfl))); done)
    · rintro ⟨k, f, t, b, s, e, vs, q⟩ ⟨he, hl, hv, hq⟩
      dsimp only at he hl hv hq
      refine W.go [(800012, .row [])] TTok hmo ?_
      refine W.cut [] TTok hmo (DMsg.st bs) (DMsg.inv p) ?_ ?_
      · repeat' (first | refine And.intro ?_ ?_ | exact tf | exact ft | refine tt ?_ | refine ff ?_ | exact ⟨trivial⟩ | exact sAll rfl | exact sF1 rfl | exact sBld (by repeat' (first | exact trivial | rfl | exact Nat.le_of_ble_eq_true rfl | refine And.intro ?_ ?_)) rfl | exact sBS (by repeat' (first | exact trivial | rfl | exact Nat.le_of_ble_eq_true rfl | refine And.intro ?_ ?_)) rfl rfl rfl rfl | exact sBSF (by repeat' (first | exact trivial | rfl | exact Nat.le_of_ble_eq_true rfl | refine And.intro ?_ ?_)) rfl rfl rfl rfl | exact sLe rfl | exact Chk.mk (by kernel_rfl) | exact ⟨Chk.mk (by kernel_rfl)⟩ | exact sLeEq rfl rfl | refine fun h => ?_)
        all_goals first
          | (refine ⟨⟨k, f, t, b, s, e, vs, q⟩, [], ⟨he, hl, hv, hq⟩, ?_⟩; (focus (repeat' (first | exact trivial | exact ⟨trivial⟩ | exact Side.mk rfl | exact sF1 rfl | exact Chk.mk (by kernel_rfl) | exact ⟨Chk.mk (by kernel_rfl)⟩ | refine And.intro ?_ ?_ | rfl))); done)
          | (refine ⟨⟨k, f, t, b, 0, e, vs, q⟩, [], ⟨he, hl, hv, hq⟩, ?_⟩; (focus (repeat' (first | exact trivial | exact ⟨trivial⟩ | exact Side.mk rfl | exact sF1 rfl | exact Chk.mk (by kernel_rfl) | exact ⟨Chk.mk (by kernel_rfl)⟩ | refine And.intro ?_ ?_ | rfl))); done)
      · rintro ⟨k, f, t, b, s, e, vs, q⟩ ⟨he, hl, hv, hq⟩
        dsimp only at he hl hv hq
        refine W.go [(58, .con false [0] [] [] sPick), (62, .row []), (73, .row []), (79, .row []), (63, .con false [0] [] [] sNum), (74, .con false [0] [] [] sNum), (80, .con false [0] [] [] sNum)] TTok hmo ?_
        repeat' (first | refine And.intro ?_ ?_ | exact tf | exact ft | refine tt ?_ | refine ff ?_ | exact ⟨trivial⟩ | exact sAll rfl | exact sF1 rfl | exact sBld (by repeat' (first | exact trivial | rfl | exact Nat.le_of_ble_eq_true rfl | refine And.intro ?_ ?_)) rfl | exact sBS (by repeat' (first | exact trivial | rfl | exact Nat.le_of_ble_eq_true rfl | refine And.intro ?_ ?_)) rfl rfl rfl rfl | exact sBSF (by repeat' (first | exact trivial | rfl | exact Nat.le_of_ble_eq_true rfl | refine And.intro ?_ ?_)) rfl rfl rfl rfl | exact sLe rfl | exact Chk.mk (by kernel_rfl) | exact ⟨Chk.mk (by kernel_rfl)⟩ | exact sLeEq rfl rfl | refine fun h => ?_)
        all_goals dsimp only [sPick, sNum] at *
        all_goals try (exact ⟨fun _ _ => trivial⟩)
        all_goals try (exact ⟨fun _ _ => ⟨trivial, trivial⟩⟩)
        all_goals try (exact ⟨c_pick bs hb _ _ (by omega) (by omega)⟩)
        all_goals try (exact ⟨c_num bs hb _ (by omega) (by omega) [0, 9] (by decide) (by decide)⟩)
        all_goals try (exact ⟨c_num bs hb _ (by omega) (by omega) [-1, 3001, 0] (by decide) (by decide)⟩)
        all_goals try (exact ⟨c_num bs hb _ (by omega) (by omega) [-1, 40, 41] (by decide) (by decide)⟩)
        all_goals try (first | exact ⟨trivial, trivial⟩ | exact ⟨Nat.le_of_ble_eq_true rfl, trivial⟩ | exact ⟨trivial, Nat.le_of_ble_eq_true rfl, trivial⟩ | exact ⟨Nat.le_of_ble_eq_true rfl, trivial, trivial⟩)
        all_goals (apply exMsg e vs; refine ⟨[], [], ⟨⟨he, hl, hv⟩, ?_⟩, ?_⟩; rotate_left 1; (focus (repeat' (first | exact trivial | exact ⟨trivial⟩ | exact Side.mk rfl | exact sF1 rfl | exact Chk.mk (by kernel_rfl) | exact ⟨Chk.mk (by kernel_rfl)⟩ | refine And.intro ?_ ?_ | rfl))))
        all_goals (dsimp only; omega)
end Mg

/- Messages' texts, walked. No condition. -/
namespace Mg
open Go Go.RowKit Go.Lib
set_option maxRecDepth 100000
set_option linter.unusedVariables false
set_option linter.unusedSimpArgs false
attribute [local irreducible] W Pure
theorem nF {b : Bool} (h : (!b) = false) : ¬ b = false := by cases b <;> simp_all
theorem nT {b : Bool} (h : (!b) = true) : ¬ b = true := by cases b <;> simp_all
theorem c_l7Words : Pure PP false 54 [] (.one (.fz (words.map wordC))) := by
  refine Pure.vc [(1, .row [])] TTok hmo Go.Proofs.Tryd.func54 (by kernel_rfl) rfl (by kernel_rfl) ?_
  repeat' (first | refine And.intro ?_ ?_ | exact tf | exact ft | refine tt ?_ | refine ff ?_ | exact ⟨trivial⟩ | exact sAll rfl | exact sF1 rfl | exact sBld (by repeat' (first | exact trivial | rfl | exact Nat.le_of_ble_eq_true rfl | refine And.intro ?_ ?_)) rfl | exact sBS (by repeat' (first | exact trivial | rfl | exact Nat.le_of_ble_eq_true rfl | refine And.intro ?_ ?_)) rfl rfl rfl rfl | exact sBSF (by repeat' (first | exact trivial | rfl | exact Nat.le_of_ble_eq_true rfl | refine And.intro ?_ ?_)) rfl rfl rfl rfl | exact sLe rfl | exact Chk.mk (by kernel_rfl) | exact ⟨Chk.mk (by kernel_rfl)⟩ | exact sLeEq rfl rfl | refine fun h => ?_)
  all_goals (refine ⟨?_⟩; repeat' (first | exact trivial | rfl | refine And.intro ?_ ?_))
theorem text_no {m : Msg} (h : mOk m = false) : msgText m = [] := by simp [msgText, h]
theorem text_yes {m : Msg} (h : mOk m = true) : msgText m = msgHead m ++ msgTail m := by simp [msgText, h]
theorem votesText_step {vs : List Vote} {i : Nat} (h : i < vs.length) : votesText (vs.take (i + 1)) = votesText (vs.take i) ++ voteText (vs.getD i default) := by
  unfold votesText
  rw [List.take_succ_eq_append_getElem h, List.flatMap_append, getD_get h]
  simp
theorem votesText_len {vs : List Vote} (h : ∀ v ∈ vs, (voteText v).length ≤ 100000030) : (votesText vs).length ≤ 100000030 * vs.length := by
  induction vs with
  | nil => exact Nat.le_refl _
  | cons v vs ih =>
    have h1 := h v List.mem_cons_self
    have h2 := ih fun x hx => h x (List.mem_cons_of_mem _ hx)
    simp only [votesText, List.flatMap_cons, List.length_append, List.length_cons] at *
    omega
structure VoteF (v : Vote) : Prop where
  bal : 0 ≤ v.bal ∧ v.bal ≤ 3000
  e : v.bal ≠ 0 → entryOk v.e = true
  z : v.bal = 0 → v.e = zeroE false
theorem voteOk_f {v : Vote} (h : voteOk v = true) : VoteF v := by
  unfold voteOk at h
  split at h
  · rename_i hb
    exact ⟨by omega, fun hn => absurd hb hn, fun _ => of_decide_eq_true h⟩
  · rename_i hb
    simp only [inr, Bool.and_eq_true, decide_eq_true_eq] at h
    exact ⟨by omega, fun _ => h.2, fun hz => absurd hz hb⟩
theorem vote_len {v : Vote} (h : VoteF v) (ho : v.ok lim) : (voteText v).length ≤ 100000030 := by
  have h1 := itoa_len (n := v.bal) (by have := h.bal; omega) (by have := h.bal; omega)
  unfold voteText
  split
  · simp; omega
  · rename_i hb
    have := ent_len (entryOk_int (h.e hb)) ho
    simp only [List.length_append, List.length_cons, List.length_nil]; omega
theorem votesF {vs : List Vote} (h : votesOk vs = true) : vs.length ≤ 40 ∧ ∀ v ∈ vs, VoteF v := by
  simp only [votesOk, Bool.and_eq_true, decide_eq_true_eq, List.all_eq_true] at h
  exact ⟨h.1, fun v hv => voteOk_f (h.2 v hv)⟩
set_option maxHeartbeats 8000000 in
theorem c_spec_MsgText (m : Msg) (hm : m.ok lim) : Pure PP false 25 [.agg m.cells] (os (msgText m)) := by
  have hO := c_spec_MsgOk m hm
  by_cases hok : mOk m = false
  · refine Pure.vc [(6, .res (ob (mOk m)))] TTok hmo Go.Proofs.Tryd.func25 (by kernel_rfl) rfl (by kernel_rfl) ?_
    repeat' (first | refine And.intro ?_ ?_ | exact tf | exact ft | refine tt ?_ | refine ff ?_ | exact fun h => absurd hok (nF h) | exact ⟨trivial⟩ | exact sAll rfl | exact sF1 rfl | exact sBld (by repeat' (first | exact trivial | rfl | exact Nat.le_of_ble_eq_true rfl | refine And.intro ?_ ?_)) rfl | exact sBS (by repeat' (first | exact trivial | rfl | exact Nat.le_of_ble_eq_true rfl | refine And.intro ?_ ?_)) rfl rfl rfl rfl | exact sBSF (by repeat' (first | exact trivial | rfl | exact Nat.le_of_ble_eq_true rfl | refine And.intro ?_ ?_)) rfl rfl rfl rfl | exact sLe rfl | exact Chk.mk (by kernel_rfl) | exact ⟨Chk.mk (by kernel_rfl)⟩ | exact sLeEq rfl rfl | exact sAnd (by repeat' constructor) (hO) | refine fun h => ?_)
    all_goals (rw [text_no hok]; exact ⟨⟨trivial, trivial⟩, rfl, trivial⟩)
  have hok : mOk m = true := by simpa using hok
  have F := mOk_f hok
  have s1 : I6 m.src := ⟨by have := F.src; omega, by have := F.src; omega⟩
  have s2 : I6 m.dst := ⟨by have := F.dst; omega, by have := F.dst; omega⟩
  have s3 : I6 m.bal := ⟨by have := F.bal; omega, by have := F.bal; omega⟩
  have s4 : I6 m.slot := ⟨by have := F.slot; omega, by have := F.slot; omega⟩
  have l1 := s1.len
  have l2 := s2.len
  have l3 := s3.len
  have l4 := s4.len
  have lw := word_len m.kind
  have fk := F.kind
  rw [text_yes hok]
  refine Pure.vc [(6, .res (ob (mOk m))), (8, .res (.one (.fz (words.map wordC)))), (11, .row (wordC (word m.kind))), (16, .res (os (itoa m.src))), (21, .res (os (itoa m.dst))), (26, .res (os (itoa m.bal))), (31, .res (os (itoa m.slot))), (940003, .row [i6 25]), (43, .res (os (entText m.e)))] TTok hmo Go.Proofs.Tryd.func25 (by kernel_rfl) rfl (by kernel_rfl) ?_
  repeat' (first | refine And.intro ?_ ?_ | exact tf | exact ft | refine tt ?_ | refine ff ?_ | exact fun h => absurd hok (nT h) | exact ⟨trivial⟩ | exact sAll rfl | exact sF1 rfl | exact sBld (by repeat' (first | exact trivial | rfl | exact Nat.le_of_ble_eq_true rfl | refine And.intro ?_ ?_)) rfl | exact sBS (by repeat' (first | exact trivial | rfl | exact Nat.le_of_ble_eq_true rfl | refine And.intro ?_ ?_)) rfl rfl rfl rfl | exact sBSF (by repeat' (first | exact trivial | rfl | exact Nat.le_of_ble_eq_true rfl | refine And.intro ?_ ?_)) rfl rfl rfl rfl | exact sLe rfl | exact Chk.mk (by kernel_rfl) | exact ⟨Chk.mk (by kernel_rfl)⟩ | exact sLeEq rfl rfl | exact sAnd (by repeat' constructor) (hO) | exact sAnd (by repeat' constructor) (c_l7Words) | exact sAnd (by repeat' constructor) (c_l15Dec _ s1.1 s1.2) | exact sAnd (by repeat' constructor) (c_l15Dec _ s2.1 s2.2) | exact sAnd (by repeat' constructor) (c_l15Dec _ s3.1 s3.2) | exact sAnd (by repeat' constructor) (c_l15Dec _ s4.1 s4.2) | exact sAnd (by repeat' constructor) (sRow (by omega) (word_at fk) rfl) | refine fun h => ?_)
  all_goals simp only [decide_eq_true_eq, decide_eq_false_iff_not, List.length_map, Bool.not_eq_true', Bool.not_eq_false', Bool.not_eq_eq_eq_not, Bool.not_true, Bool.not_false, bne_iff_ne, ne_eq, bne_eq_false_iff_eq, beq_iff_eq, beq_eq_false_iff_ne] at *
  all_goals try (exfalso; omega)
  all_goals try (exact absurd (hok.symm.trans ‹mOk m = false›) (by decide))
  all_goals try (exact sRow (by omega) (word_at fk) rfl)
  all_goals try (refine ⟨?_⟩; simp only [lit1, lit2, str_app, str_size, List.length_append, List.length_cons, List.length_nil]; omega)
  all_goals try (exact sAnd (by repeat' constructor) (c_spec_MsgEntry _ (entryOk_int (F.ent (by omega))) hm.1))
  all_goals try (have he := ent_len (entryOk_int (F.ent (by omega))) hm.1; refine ⟨?_⟩; simp only [lit1, lit2, str_app, str_size, List.length_append, List.length_cons, List.length_nil]; omega)
  all_goals try (refine ⟨⟨trivial, trivial⟩, ?_, trivial⟩; rw [show msgTail m = [32] ++ entText m.e from if_pos (by omega)]; simp only [lit1, lit2, str_app, msgHead, List.append_assoc]; done)
  all_goals try (refine ⟨⟨trivial, trivial⟩, ?_, trivial⟩; rw [show msgTail m = [] by unfold msgTail; rw [if_neg (by omega), if_neg (by omega)]]; simp only [lit1, lit2, str_app, msgHead, List.append_assoc, List.append_nil]; done)
  have lh : (msgHead m).length ≤ 200 := by simp only [msgHead, List.length_append, List.length_cons, List.length_nil]; omega
  have fv := votesF (F.vs (by omega))
  have ov := hm.2.2
  have hl0 : m.votes.length ≤ 1048576 := by omega
  have gl : ∀ i, (votesText (m.votes.take i)).length ≤ 100000030 * 40 := fun i => by
    have h1 := votesText_len (vs := m.votes.take i) fun v hv => vote_len (fv.2 v (List.mem_of_mem_take hv)) (ov v (List.mem_of_mem_take hv))
    have h2 : (m.votes.take i).length ≤ 40 := by rw [List.length_take]; have := fv.1; omega
    exact Nat.le_trans h1 (Nat.mul_le_mul_left _ h2)
  refine W.loopC (D := Nat) (fun i => [(59, .row (m.votes.getD i default).cells), (62, .res (os (itoa (m.votes.getD i default).bal))), (67, .row (m.votes.getD i default).cells), (75, .row (m.votes.getD i default).cells), (78, .res (os (entText (m.votes.getD i default).e)))]) TTok hmo
    (fun i => ⟨81, 1, [(1, .one (.ptr 0 0 0)), (3, os (msgHead m ++ votesText (m.votes.take i))), (4, oi i)], [(0, .box (m.cells.map MC.toA))]⟩) (fun i => m.votes.length - i) (fun i => i ≤ m.votes.length) 0 [] (Nat.zero_le _) ?_ ?_
  · repeat' (first | exact trivial | exact ⟨trivial⟩ | exact Side.mk rfl | exact sF1 rfl | exact Chk.mk (by kernel_rfl) | exact ⟨Chk.mk (by kernel_rfl)⟩ | exact ⟨by simp only [lit1, lit2, str_app, msgHead, votesText, List.append_assoc, List.take_zero, List.flatMap_nil, List.append_nil]⟩ | refine And.intro ?_ ?_ | rfl)
  · intro i hi
    have fi : i < m.votes.length → VoteF (m.votes.getD i default) := fun h => fv.2 _ (getD_mem h)
    have oi' : i < m.votes.length → (m.votes.getD i default).ok lim := fun h => ov _ (getD_mem h)
    have gi := gl i
    repeat' (first | refine And.intro ?_ ?_ | exact tf | exact ft | refine tt ?_ | refine ff ?_ | exact ⟨trivial⟩ | exact sAll rfl | exact sF1 rfl | exact sBld (by repeat' (first | exact trivial | rfl | exact Nat.le_of_ble_eq_true rfl | refine And.intro ?_ ?_)) rfl | exact sBS (by repeat' (first | exact trivial | rfl | exact Nat.le_of_ble_eq_true rfl | refine And.intro ?_ ?_)) rfl rfl rfl rfl | exact sBSF (by repeat' (first | exact trivial | rfl | exact Nat.le_of_ble_eq_true rfl | refine And.intro ?_ ?_)) rfl rfl rfl rfl | exact sLe rfl | exact Chk.mk (by kernel_rfl) | exact ⟨Chk.mk (by kernel_rfl)⟩ | exact sLeEq rfl rfl | refine fun h => ?_)
    all_goals simp only [decide_eq_true_eq, decide_eq_false_iff_not, List.length_map, Bool.not_eq_true', Bool.not_eq_false', Bool.not_eq_eq_eq_not, Bool.not_true, Bool.not_false, bne_iff_ne, ne_eq, bne_eq_false_iff_eq, beq_iff_eq, beq_eq_false_iff_ne] at *
    all_goals try (exact sRow (by omega) (row_at m.votes _ (by omega)) rfl)
    all_goals try (exact sAnd (by repeat' constructor) (c_l15Dec _ (by have := (fi (by omega)).bal; omega) (by have := (fi (by omega)).bal; omega)))
    all_goals try (exact sAnd (by repeat' constructor) (c_spec_MsgEntry _ (entryOk_int ((fi (by omega)).e (by omega))) (oi' (by omega))))
    all_goals try (have b := fi (by omega); have l := itoa_len (n := (m.votes.getD i default).bal) (by have := b.bal; omega) (by have := b.bal; omega); refine ⟨?_⟩; simp only [lit1, lit2, str_app, str_size, List.length_append, List.length_cons, List.length_nil]; omega)
    all_goals try (have b := fi (by omega); have l := itoa_len (n := (m.votes.getD i default).bal) (by have := b.bal; omega) (by have := b.bal; omega); have l2 := ent_len (entryOk_int (b.e (by omega))) (oi' (by omega)); refine ⟨?_⟩; simp only [lit1, lit2, str_app, str_size, List.length_append, List.length_cons, List.length_nil]; omega)
    · have ev : voteText (m.votes.getD i default) = [32] ++ itoa (m.votes.getD i default).bal ++ entText (m.votes.getD i default).e := by unfold voteText; rw [if_neg (by omega)]
      refine ⟨i + 1, [], by omega, by omega, ?_⟩
      repeat' (first | exact trivial | exact ⟨trivial⟩ | exact Side.mk rfl | exact sF1 rfl | exact Chk.mk (by kernel_rfl) | exact ⟨Chk.mk (by kernel_rfl)⟩ | exact ⟨by rw [wrapi] <;> omega⟩ | exact ⟨by rw [votesText_step (by omega), ev]; simp only [lit1, lit2, str_app, List.append_assoc]⟩ | refine And.intro ?_ ?_ | rfl)
    · have hz : (m.votes.getD i default).bal = 0 := by have := (fi (by omega)).bal; omega
      have ev : voteText (m.votes.getD i default) = [32] ++ itoa (m.votes.getD i default).bal := by unfold voteText; rw [if_pos hz, List.append_nil]
      refine ⟨i + 1, [], by omega, by omega, ?_⟩
      repeat' (first | exact trivial | exact ⟨trivial⟩ | exact Side.mk rfl | exact sF1 rfl | exact Chk.mk (by kernel_rfl) | exact ⟨Chk.mk (by kernel_rfl)⟩ | exact ⟨by rw [wrapi] <;> omega⟩ | exact ⟨by rw [votesText_step (by omega), ev]; simp only [lit1, lit2, str_app, List.append_assoc]⟩ | refine And.intro ?_ ?_ | rfl)
    · rw [show msgTail m = votesText m.votes by unfold msgTail; rw [if_neg (by omega), if_pos (by omega)], List.take_of_length_le (by omega)]
      exact ⟨⟨trivial, trivial⟩, rfl, trivial⟩
end Mg

/- Right messages are written alike exactly if they are the same. No condition. -/
namespace Mg
open Go Go.RowKit Go.Lib
set_option maxRecDepth 100000
set_option linter.unusedVariables false
set_option linter.unusedSimpArgs false
theorem span_sp : ∀ {a b s t : List UInt8}, (∀ x ∈ a, x ≠ 32) → (∀ x ∈ b, x ≠ 32) → a ++ 32 :: s = b ++ 32 :: t → a = b ∧ s = t
  | [], [], s, t, _, _, h => ⟨rfl, (List.cons.inj h).2⟩
  | [], y :: b, s, t, _, hb, h => absurd (List.cons.inj h).1.symm (hb y List.mem_cons_self)
  | x :: a, [], s, t, ha, _, h => absurd (List.cons.inj h).1 (ha x List.mem_cons_self)
  | x :: a, y :: b, s, t, ha, hb, h => by
    obtain ⟨h1, h2⟩ := List.cons.inj h
    obtain ⟨h3, h4⟩ := span_sp (fun z hz => ha z (List.mem_cons_of_mem _ hz)) (fun z hz => hb z (List.mem_cons_of_mem _ hz)) h2
    exact ⟨by rw [h1, h3], h4⟩
theorem word_sp (k : Int) : ∀ x ∈ word k, x ≠ 32 := by
  unfold word
  by_cases h : k.toNat < words.length
  · rw [List.getD_eq_getElem?_getD, List.getElem?_eq_getElem h]
    have : ∀ w ∈ words, ∀ x ∈ w, x ≠ 32 := by decide
    exact this _ (List.getElem_mem h)
  · rw [List.getD_eq_getElem?_getD, List.getElem?_eq_none (by omega)]
    intro x hx; simp at hx
theorem word_inj {k l : Int} (hk : 1 ≤ k ∧ k ≤ 8) (hl : 1 ≤ l ∧ l ≤ 8) (h : word k = word l) : k = l := by
  obtain ⟨n, rfl⟩ := Int.eq_ofNat_of_zero_le (show 0 ≤ k by omega)
  obtain ⟨m, rfl⟩ := Int.eq_ofNat_of_zero_le (show 0 ≤ l by omega)
  have hn : n < 9 := by omega
  have hm : m < 9 := by omega
  unfold word at h
  rw [Int.toNat_natCast, Int.toNat_natCast] at h
  have key : ∀ a b : Fin 9, words.getD a.val [] = words.getD b.val [] → a = b := by decide
  have := key ⟨n, hn⟩ ⟨m, hm⟩ h
  simp at this
  omega
theorem isD32 : isD 32 = false := by decide
/-- A number and a digit behind it. -/
theorem itoa_digit {b w : Int} (hb : 1 ≤ b) (hw : 0 ≤ w ∧ w ≤ 9) : itoa b ++ itoa w = itoa (10 * b + w) := by
  obtain ⟨n, rfl⟩ := Int.eq_ofNat_of_zero_le (show 0 ≤ b by omega)
  obtain ⟨m, rfl⟩ := Int.eq_ofNat_of_zero_le hw.1
  rw [itoa_nn (by omega), itoa_nn (by omega), itoa_nn (by omega)]
  have e : (10 * (n : Int) + m).toNat = 10 * n + m := by omega
  rw [e, Int.toNat_natCast, Int.toNat_natCast, dec_one (u := m) (by omega), dec_more (u := 10 * n + m) (by omega)]
  rw [show (10 * n + m) / 10 = n by omega, show (10 * n + m) % 10 = m by omega]
theorem ent_who {e : Entry} (h : entryOk e = true) (hn : e.none = false) : 0 ≤ e.q.a ∧ e.q.a ≤ 2 := by
  unfold entryOk at h
  rw [hn] at h
  simp only [Bool.false_eq_true, if_false, Bool.and_eq_true, reqOk, inr, decide_eq_true_eq] at h
  omega
/-- What a vote's text begins with, and how it goes on. -/
theorem vote_shape {v : Vote} (hv : VoteF v) (c : UInt8) (s : List UInt8) :
    (v.bal = 0 ∧ voteText v ++ c :: s = 32 :: (itoa 0 ++ c :: s)) ∨ (v.bal ≠ 0 ∧ v.e = zeroE true ∧ voteText v ++ c :: s = 32 :: (itoa v.bal ++ 110 :: ([111, 110, 101] ++ c :: s))) ∨
    (v.bal ≠ 0 ∧ v.e.none = false ∧ voteText v ++ c :: s = 32 :: (itoa v.bal ++ (entText v.e ++ c :: s)) ∧ ∃ r, voteText v ++ c :: s = 32 :: (itoa (10 * v.bal + v.e.q.a) ++ 46 :: r)) := by
  by_cases hb : v.bal = 0
  · exact .inl ⟨hb, by simp [voteText, hb]⟩
  · have ho := hv.e hb
    cases hn : v.e.none with
    | true =>
      have hz := entryOk_none ho hn
      refine .inr (.inl ⟨hb, hz, ?_⟩)
      rw [voteText, if_neg hb, hz]
      simp [entText, zeroE]
    | false =>
      refine .inr (.inr ⟨hb, rfl, by rw [voteText, if_neg hb]; simp, ?_⟩)
      have hw := ent_who ho hn
      have hp := hv.bal
      refine ⟨itoa v.e.q.b ++ 123 :: (twosText 63 47 v.e.run.reads ++ (twosText 33 61 v.e.run.puts ++ 125 :: (itoa v.e.run.c ++ 58 :: itoa v.e.run.d))) ++ c :: s, ?_⟩
      rw [voteText, if_neg hb, ← itoa_digit (by omega) ⟨hw.1, by omega⟩]
      simp [entText, hn]
theorem votes_head (vs : List Vote) : ∃ c r, votesText vs ++ [0] = c :: r ∧ isD c = false ∧ (c = 32 ∨ c = 0) := by
  cases vs with
  | nil => exact ⟨0, [], rfl, by decide, .inr rfl⟩
  | cons v vs => exact ⟨32, _, rfl, by decide, .inl rfl⟩
theorem votesText_cons (v : Vote) (vs : List Vote) : votesText (v :: vs) = voteText v ++ votesText vs := rfl
theorem votes_inj : ∀ {vs ws : List Vote}, (∀ v ∈ vs, VoteF v) → (∀ v ∈ ws, VoteF v) → votesText vs ++ [0] = votesText ws ++ [0] → vs = ws
  | [], [], _, _, _ => rfl
  | [], w :: ws, _, _, h => by
    have : (0 : UInt8) = 32 := (List.cons.inj h).1
    exact absurd this (by decide)
  | v :: vs, [], _, _, h => by
    have : (32 : UInt8) = 0 := (List.cons.inj h).1
    exact absurd this (by decide)
  | v :: vs, w :: ws, hv, hw, h => by
    obtain ⟨c, r, e1, g1, g2⟩ := votes_head vs
    obtain ⟨d, t, e2, g3, g4⟩ := votes_head ws
    rw [votesText_cons, votesText_cons, List.append_assoc, List.append_assoc, e1, e2] at h
    have fv := hv v List.mem_cons_self
    have fw := hw w List.mem_cons_self
    have fin : v = w → c :: r = d :: t → v :: vs = w :: ws := fun h1 h2 => by
      rw [h1, votes_inj (fun x hx => hv x (List.mem_cons_of_mem _ hx)) (fun x hx => hw x (List.mem_cons_of_mem _ hx)) (by rw [e1, e2, h2])]
    have n1 : isD 110 = false := by decide
    have n2 : isD 46 = false := by decide
    have veq : v.bal = w.bal → v.e = w.e → v = w := fun h1 h2 => by cases v; cases w; simp_all
    rcases vote_shape fv c r with ⟨a1, a2⟩ | ⟨a1, a2, a3⟩ | ⟨a1, a2, a3, rr, a4⟩ <;> rcases vote_shape fw d t with ⟨b1, b2⟩ | ⟨b1, b2, b3⟩ | ⟨b1, b2, b3, rs, b4⟩
    · rw [a2, b2] at h
      obtain ⟨_, h1, h2⟩ := itoa_cons g1 g3 (List.cons.inj h).2
      exact fin (veq (by rw [a1, b1]) (by rw [fv.z a1, fw.z b1])) (by rw [h1, h2])
    · rw [a2, b3] at h
      obtain ⟨_, h1, _⟩ := itoa_cons g1 n1 (List.cons.inj h).2
      rcases g2 with rfl | rfl <;> exact absurd h1 (by decide)
    · rw [a2, b4] at h
      obtain ⟨_, h1, _⟩ := itoa_cons g1 n2 (List.cons.inj h).2
      rcases g2 with rfl | rfl <;> exact absurd h1 (by decide)
    · rw [a3, b2] at h
      obtain ⟨_, h1, _⟩ := itoa_cons n1 g3 (List.cons.inj h).2
      rcases g4 with rfl | rfl <;> exact absurd h1 (by decide)
    · rw [a3, b3] at h
      obtain ⟨h1, _, h2⟩ := itoa_cons n1 n1 (List.cons.inj h).2
      exact fin (veq h1 (by rw [a2, b2])) (List.append_cancel_left h2)
    · rw [a3, b4] at h
      obtain ⟨_, h1, _⟩ := itoa_cons n1 n2 (List.cons.inj h).2
      exact absurd h1 (by decide)
    · rw [a4, b2] at h
      obtain ⟨_, h1, _⟩ := itoa_cons n2 g3 (List.cons.inj h).2
      rcases g4 with rfl | rfl <;> exact absurd h1 (by decide)
    · rw [a4, b3] at h
      obtain ⟨_, h1, _⟩ := itoa_cons n2 n1 (List.cons.inj h).2
      exact absurd h1 (by decide)
    · have h' := h
      rw [a4, b4] at h'
      obtain ⟨h1, _, _⟩ := itoa_cons n2 n2 (List.cons.inj h').2
      have wv := ent_who (fv.e a1) a2
      have ww := ent_who (fw.e b1) b2
      have hb : v.bal = w.bal := by omega
      rw [a3, b3, hb] at h
      obtain ⟨h2, h3, h4⟩ := ent_cons a2 b2 g1 g3 (List.append_cancel_left (List.cons.inj h).2)
      exact fin (veq hb h2) (by rw [h3, h4])
theorem tail_head {m : Msg} (h : MsgF m) : ∃ c r, msgTail m ++ [0] = c :: r ∧ isD c = false := by
  unfold msgTail
  split
  · exact ⟨32, _, rfl, by decide⟩
  · split
    · obtain ⟨c, r, h1, h2, _⟩ := votes_head m.votes
      exact ⟨c, r, h1, h2⟩
    · exact ⟨0, [], rfl, by decide⟩
theorem head_app (m : Msg) (s : List UInt8) : msgHead m ++ s = word m.kind ++ 32 :: (itoa m.src ++ 32 :: (itoa m.dst ++ 32 :: (itoa m.bal ++ 32 :: (itoa m.slot ++ s)))) := by simp [msgHead]
theorem head_inj {x y : Msg} (hx : MsgF x) (hy : MsgF y) (h : msgText x = msgText y) (ox : mOk x = true) (oy : mOk y = true) : x.kind = y.kind ∧ x.src = y.src ∧ x.dst = y.dst ∧ x.bal = y.bal ∧ x.slot = y.slot ∧ msgTail x ++ [0] = msgTail y ++ [0] := by
  rw [text_yes ox, text_yes oy] at h
  have h := congrArg (fun l => l ++ [(0 : UInt8)]) h
  simp only [List.append_assoc] at h
  rw [head_app, head_app] at h
  obtain ⟨h1, h⟩ := span_sp (word_sp _) (word_sp _) h
  obtain ⟨h2, _, h⟩ := itoa_cons isD32 isD32 h
  obtain ⟨h3, _, h⟩ := itoa_cons isD32 isD32 h
  obtain ⟨h4, _, h⟩ := itoa_cons isD32 isD32 h
  obtain ⟨c, r, e1, g1⟩ := tail_head hx
  obtain ⟨d, t, e2, g2⟩ := tail_head hy
  rw [e1, e2] at h
  obtain ⟨h5, h6, h7⟩ := itoa_cons g1 g2 h
  exact ⟨word_inj hx.kind hy.kind h1, h2, h3, h4, h5, by rw [e1, e2, h6, h7]⟩
theorem msg_inj {x y : Msg} (ox : mOk x = true) (oy : mOk y = true) : msgText x = msgText y ↔ x = y := by
  refine ⟨fun h => ?_, fun h => by rw [h]⟩
  have hx := mOk_f ox
  have hy := mOk_f oy
  obtain ⟨h1, h2, h3, h4, h5, h6⟩ := head_inj hx hy h ox oy
  have he : x.e = y.e ∧ x.votes = y.votes := by
    by_cases hk : x.kind = 3 ∨ x.kind = 5 ∨ x.kind = 7
    · have hk' : y.kind = 3 ∨ y.kind = 5 ∨ y.kind = 7 := by omega
      have t1 : msgTail x = [32] ++ entText x.e := if_pos hk
      have t2 : msgTail y = [32] ++ entText y.e := if_pos hk'
      rw [t1, t2] at h6
      have h7 := (List.cons.inj (List.append_cancel_right h6)).2
      exact ⟨(ent_inj (hx.ent hk) (hy.ent hk')).1 h7, by rw [hx.novs (by omega), hy.novs (by omega)]⟩
    · have hk' : ¬ (y.kind = 3 ∨ y.kind = 5 ∨ y.kind = 7) := by omega
      refine ⟨by rw [hx.noent hk, hy.noent hk'], ?_⟩
      by_cases h2 : x.kind = 2
      · have h2' : y.kind = 2 := by omega
        have t1 : msgTail x = votesText x.votes := by unfold msgTail; rw [if_neg hk, if_pos h2]
        have t2 : msgTail y = votesText y.votes := by unfold msgTail; rw [if_neg hk', if_pos h2']
        rw [t1, t2] at h6
        exact votes_inj (votesF (hx.vs h2)).2 (votesF (hy.vs h2')).2 h6
      · rw [hx.novs h2, hy.novs (by omega)]
  cases x; cases y; simp_all
end Mg

/- Messages' texts, written by the program. No condition. -/
namespace Mg
open Go Go.RowKit Go.Lib
set_option maxRecDepth 100000
set_option linter.unusedVariables false
set_option linter.unusedSimpArgs false
attribute [local irreducible] W Pure
set_option maxHeartbeats 8000000 in
theorem c_impl_MsgText (m : Msg) (hm : m.ok lim) : Pure PP false 22 [.agg m.cells] (os (msgText m)) := by
  have hO := c_impl_MsgOk m hm
  rw [msgOk_eq] at hO
  by_cases hok : mOk m = false
  · refine Pure.vc [(8, .res (ob (mOk m)))] TTok hmo Go.Proofs.Tryd.func22 (by kernel_rfl) rfl (by kernel_rfl) ?_
    repeat' (first | refine And.intro ?_ ?_ | exact tf | exact ft | refine tt ?_ | refine ff ?_ | exact fun h => absurd hok (nF h) | exact ⟨trivial⟩ | exact sAll rfl | exact sF1 rfl | exact sBld (by repeat' (first | exact trivial | rfl | exact Nat.le_of_ble_eq_true rfl | refine And.intro ?_ ?_)) rfl | exact sBS (by repeat' (first | exact trivial | rfl | exact Nat.le_of_ble_eq_true rfl | refine And.intro ?_ ?_)) rfl rfl rfl rfl | exact sBSF (by repeat' (first | exact trivial | rfl | exact Nat.le_of_ble_eq_true rfl | refine And.intro ?_ ?_)) rfl rfl rfl rfl | exact sLe rfl | exact Chk.mk (by kernel_rfl) | exact ⟨Chk.mk (by kernel_rfl)⟩ | exact sLeEq rfl rfl | exact sAnd (by repeat' constructor) (hO) | refine fun h => ?_)
    all_goals (rw [text_no hok]; exact ⟨⟨trivial, trivial⟩, rfl, trivial⟩)
  have hok : mOk m = true := by simpa using hok
  have F := mOk_f hok
  have s1 : I6 m.src := ⟨by have := F.src; omega, by have := F.src; omega⟩
  have s2 : I6 m.dst := ⟨by have := F.dst; omega, by have := F.dst; omega⟩
  have s3 : I6 m.bal := ⟨by have := F.bal; omega, by have := F.bal; omega⟩
  have s4 : I6 m.slot := ⟨by have := F.slot; omega, by have := F.slot; omega⟩
  have l1 := s1.len
  have l2 := s2.len
  have l3 := s3.len
  have l4 := s4.len
  have lw := word_len m.kind
  have fk := F.kind
  rw [text_yes hok]
  refine Pure.vc [(8, .res (ob (mOk m))), (10, .row []), (13, .row (wordC (word m.kind))), (19, .res (os (itoa m.src))), (24, .res (os (itoa m.dst))), (29, .res (os (itoa m.bal))), (34, .res (os (itoa m.slot))), (45, .res (os (entText m.e)))] TTok hmo Go.Proofs.Tryd.func22 (by kernel_rfl) rfl (by kernel_rfl) ?_
  repeat' (first | refine And.intro ?_ ?_ | exact tf | exact ft | refine tt ?_ | refine ff ?_ | exact fun h => absurd hok (nT h) | exact ⟨trivial⟩ | exact sAll rfl | exact sF1 rfl | exact sBld (by repeat' (first | exact trivial | rfl | exact Nat.le_of_ble_eq_true rfl | refine And.intro ?_ ?_)) rfl | exact sBS (by repeat' (first | exact trivial | rfl | exact Nat.le_of_ble_eq_true rfl | refine And.intro ?_ ?_)) rfl rfl rfl rfl | exact sBSF (by repeat' (first | exact trivial | rfl | exact Nat.le_of_ble_eq_true rfl | refine And.intro ?_ ?_)) rfl rfl rfl rfl | exact sLe rfl | exact Chk.mk (by kernel_rfl) | exact ⟨Chk.mk (by kernel_rfl)⟩ | exact sLeEq rfl rfl | exact sAnd (by repeat' constructor) (hO) | exact sAnd (by repeat' constructor) (c_Itoa _ s1.1 s1.2) | exact sAnd (by repeat' constructor) (c_Itoa _ s2.1 s2.2) | exact sAnd (by repeat' constructor) (c_Itoa _ s3.1 s3.2) | exact sAnd (by repeat' constructor) (c_Itoa _ s4.1 s4.2) | refine fun h => ?_)
  all_goals simp only [decide_eq_true_eq, decide_eq_false_iff_not, List.length_map, Bool.not_eq_true', Bool.not_eq_false', Bool.not_eq_eq_eq_not, Bool.not_true, Bool.not_false, bne_iff_ne, ne_eq, bne_eq_false_iff_eq, beq_iff_eq, beq_eq_false_iff_ne] at *
  all_goals try (exfalso; omega)
  all_goals try (refine Side.mk ⟨by omega, ?_, rfl⟩; exact word_at fk)
  all_goals try (refine ⟨?_⟩; simp only [lit1, lit2, str_app, str_size, List.length_append, List.length_cons, List.length_nil]; omega)
  all_goals try (exact sAnd (by repeat' constructor) (c_impl_MsgEntry _ (entryOk_int (F.ent (by omega))) hm.1))
  all_goals try (have he := ent_len (entryOk_int (F.ent (by omega))) hm.1; refine ⟨?_⟩; simp only [lit1, lit2, str_app, str_size, List.length_append, List.length_cons, List.length_nil]; omega)
  all_goals try (refine ⟨⟨trivial, trivial⟩, ?_, trivial⟩; rw [show msgTail m = [32] ++ entText m.e from if_pos (by omega)]; simp only [lit1, lit2, str_app, msgHead, List.append_assoc]; done)
  all_goals try (refine ⟨⟨trivial, trivial⟩, ?_, trivial⟩; rw [show msgTail m = [] by unfold msgTail; rw [if_neg (by omega), if_neg (by omega)]]; simp only [lit1, lit2, str_app, msgHead, List.append_assoc, List.append_nil]; done)
  have lh : (msgHead m).length ≤ 200 := by simp only [msgHead, List.length_append, List.length_cons, List.length_nil]; omega
  have fv := votesF (F.vs (by omega))
  have ov := hm.2.2
  have hl0 : m.votes.length ≤ 1048576 := by omega
  have gl : ∀ i, (votesText (m.votes.take i)).length ≤ 100000030 * 40 := fun i => by
    have h1 := votesText_len (vs := m.votes.take i) fun v hv => vote_len (fv.2 v (List.mem_of_mem_take hv)) (ov v (List.mem_of_mem_take hv))
    have h2 : (m.votes.take i).length ≤ 40 := by rw [List.length_take]; have := fv.1; omega
    exact Nat.le_trans h1 (Nat.mul_le_mul_left _ h2)
  refine W.loopC (D := Nat) (fun i => [(55, .row (m.votes.getD i default).cells), (60, .res (os (itoa (m.votes.getD i default).bal))), (69, .res (os (entText (m.votes.getD i default).e)))]) TTok hmo
    (fun i => ⟨73, 1, [(1, .one (.ptr 0 0 0)), (4, os (msgHead m ++ votesText (m.votes.take i))), (51, .one (.ag (m.votes.map Vote.cells))), (52, oi m.votes.length), (53, oi i)], [(0, .box (m.cells.map MC.toA))]⟩) (fun i => m.votes.length - i) (fun i => i ≤ m.votes.length) 0 [] (Nat.zero_le _) ?_ ?_
  · repeat' (first | exact trivial | exact ⟨trivial⟩ | exact Side.mk rfl | exact sF1 rfl | exact Chk.mk (by kernel_rfl) | exact ⟨Chk.mk (by kernel_rfl)⟩ | exact ⟨by simp only [lit1, lit2, str_app, msgHead, votesText, List.append_assoc, List.take_zero, List.flatMap_nil, List.append_nil]⟩ | refine And.intro ?_ ?_ | rfl)
  · intro i hi
    have fi : i < m.votes.length → VoteF (m.votes.getD i default) := fun h => fv.2 _ (getD_mem h)
    have oi' : i < m.votes.length → (m.votes.getD i default).ok lim := fun h => ov _ (getD_mem h)
    have gi := gl i
    repeat' (first | refine And.intro ?_ ?_ | exact tf | exact ft | refine tt ?_ | refine ff ?_ | exact ⟨trivial⟩ | exact sAll rfl | exact sF1 rfl | exact sBld (by repeat' (first | exact trivial | rfl | exact Nat.le_of_ble_eq_true rfl | refine And.intro ?_ ?_)) rfl | exact sBS (by repeat' (first | exact trivial | rfl | exact Nat.le_of_ble_eq_true rfl | refine And.intro ?_ ?_)) rfl rfl rfl rfl | exact sBSF (by repeat' (first | exact trivial | rfl | exact Nat.le_of_ble_eq_true rfl | refine And.intro ?_ ?_)) rfl rfl rfl rfl | exact sLe rfl | exact Chk.mk (by kernel_rfl) | exact ⟨Chk.mk (by kernel_rfl)⟩ | exact sLeEq rfl rfl | refine fun h => ?_)
    all_goals simp only [decide_eq_true_eq, decide_eq_false_iff_not, List.length_map, Bool.not_eq_true', Bool.not_eq_false', Bool.not_eq_eq_eq_not, Bool.not_true, Bool.not_false, bne_iff_ne, ne_eq, bne_eq_false_iff_eq, beq_iff_eq, beq_eq_false_iff_ne] at *
    all_goals try (exact sRow (by omega) (row_at m.votes _ (by omega)) rfl)
    all_goals try (exact sAnd (by repeat' constructor) (c_Itoa _ (by have := (fi (by omega)).bal; omega) (by have := (fi (by omega)).bal; omega)))
    all_goals try (exact sAnd (by repeat' constructor) (c_impl_MsgEntry _ (entryOk_int ((fi (by omega)).e (by omega))) (oi' (by omega))))
    all_goals try (have b := fi (by omega); have l := itoa_len (n := (m.votes.getD i default).bal) (by have := b.bal; omega) (by have := b.bal; omega); refine ⟨?_⟩; simp only [lit1, lit2, str_app, str_size, List.length_append, List.length_cons, List.length_nil]; omega)
    all_goals try (have b := fi (by omega); have l := itoa_len (n := (m.votes.getD i default).bal) (by have := b.bal; omega) (by have := b.bal; omega); have l2 := ent_len (entryOk_int (b.e (by omega))) (oi' (by omega)); refine ⟨?_⟩; simp only [lit1, lit2, str_app, str_size, List.length_append, List.length_cons, List.length_nil]; omega)
    · have ev : voteText (m.votes.getD i default) = [32] ++ itoa (m.votes.getD i default).bal ++ entText (m.votes.getD i default).e := by unfold voteText; rw [if_neg (by omega)]
      refine ⟨i + 1, [], by omega, by omega, ?_⟩
      repeat' (first | exact trivial | exact ⟨trivial⟩ | exact Side.mk rfl | exact sF1 rfl | exact Chk.mk (by kernel_rfl) | exact ⟨Chk.mk (by kernel_rfl)⟩ | exact ⟨by rw [wrapi] <;> omega⟩ | exact ⟨by rw [votesText_step (by omega), ev]; simp only [lit1, lit2, str_app, List.append_assoc]⟩ | refine And.intro ?_ ?_ | rfl)
    · have hz : (m.votes.getD i default).bal = 0 := by omega
      have ev : voteText (m.votes.getD i default) = [32] ++ itoa (m.votes.getD i default).bal := by unfold voteText; rw [if_pos hz, List.append_nil]
      refine ⟨i + 1, [], by omega, by omega, ?_⟩
      repeat' (first | exact trivial | exact ⟨trivial⟩ | exact Side.mk rfl | exact sF1 rfl | exact Chk.mk (by kernel_rfl) | exact ⟨Chk.mk (by kernel_rfl)⟩ | exact ⟨by rw [wrapi] <;> omega⟩ | exact ⟨by rw [votesText_step (by omega), ev]; simp only [lit1, lit2, str_app, List.append_assoc]⟩ | refine And.intro ?_ ?_ | rfl)
    · rw [show msgTail m = votesText m.votes by unfold msgTail; rw [if_neg (by omega), if_pos (by omega)], List.take_of_length_le (by omega)]
      exact ⟨⟨trivial, trivial⟩, rfl, trivial⟩
end Mg
