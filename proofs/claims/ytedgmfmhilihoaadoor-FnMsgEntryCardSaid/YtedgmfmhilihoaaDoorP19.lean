/- Parts of the abstract state logic and of the walks, one behind the other: TXI, DI2, DI3, TXD. No condition. -/
import Derived.Test.YtedgmfmhilihoaaDoorP18
import Derived.Test.YtedgmfmhilihoaaDoorP12
import Derived.Test.YtedgmfmhilihoaaDoorP17
/- Messages that are drawn, whole; what the laws ask. No condition. -/
namespace Mg
open Go Go.RowKit Go.Lib
set_option maxRecDepth 100000
set_option linter.unusedVariables false
set_option linter.unusedSimpArgs false
attribute [local irreducible] W Pure Con
def DM (m : Msg) : Prop := m.e.ok 30 ∧ m.votes.length ≤ 10 ∧ VsOk 30 m.votes
def sMsg (ds : List MV) (os : List Ob) : ConT := match os with
  | [.box [b, .sc (.int _ p)]] => ⟨Msg × Int, fun d => DM d.1 ∧ p ≤ d.2 ∧ d.2 ≤ p + 4000, fun d => .agg d.1.cells, fun d => [.box [b, i6 d.2]]⟩
  | _ => noT
def sMsgD (ds : List MV) (os : List Ob) : ConT := ⟨Msg, fun d => DM d, fun d => .agg d.cells, fun _ => []⟩
theorem exU2 {Q : Unit → Prop} (h : Q ()) : ∃ d, Q d := ⟨(), h⟩
theorem exMs {Q : Msg → Prop} (a : Msg) (h : Q a) : ∃ d, Q d := ⟨_, h⟩
theorem e30 {e : Entry} (h : e.ok 30) : e.ok lim := ⟨Nat.le_trans h.1 (by decide), Nat.le_trans h.2 (by decide)⟩
theorem DM.lim {m : Msg} (h : DM m) : m.ok Mg.lim := ⟨e30 h.1, Nat.le_trans h.2.1 (by decide), fun v hv => e30 (h.2.2 v hv)⟩
theorem c_DrawMsgOk (bs : List Int) (hb : Code8 bs) : Con PP 19 [.one (.fz (bs.map u8))] [] 0 (fun d : Msg => DM d) (fun d => .agg d.cells) (fun _ => []) := by
  refine Con.vc [(4, .con false [] [] [] sOpen), (5, .con false [1] [] [] sMsg)] TTok hmo Go.Proofs.Tryd.func19 rfl (by kernel_rfl) rfl (by kernel_rfl) ?_
  repeat' (first | refine And.intro ?_ ?_ | exact tf | exact ft | refine tt ?_ | refine ff ?_ | exact ⟨trivial⟩ | exact sAll rfl | exact sF1 rfl | exact sBld (by repeat' (first | exact trivial | rfl | exact Nat.le_of_ble_eq_true rfl | refine And.intro ?_ ?_)) rfl | exact sBS (by repeat' (first | exact trivial | rfl | exact Nat.le_of_ble_eq_true rfl | refine And.intro ?_ ?_)) rfl rfl rfl rfl | exact sBSF (by repeat' (first | exact trivial | rfl | exact Nat.le_of_ble_eq_true rfl | refine And.intro ?_ ?_)) rfl rfl rfl rfl | exact sLe rfl | exact Chk.mk (by kernel_rfl) | exact ⟨Chk.mk (by kernel_rfl)⟩ | exact sLeEq rfl rfl | refine fun h => ?_)
  all_goals dsimp only [sOpen, sMsg] at *
  all_goals try (exact ⟨fun _ _ => trivial⟩)
  all_goals try (exact ⟨c_l15Open bs hb⟩)
  all_goals try (exact ⟨c_l7Msg _ ‹_› _ (by omega) (by omega)⟩)
  all_goals try (first | exact ⟨trivial, trivial⟩ | exact ⟨Nat.le_of_ble_eq_true rfl, trivial⟩ | exact ⟨trivial, Nat.le_of_ble_eq_true rfl, trivial⟩ | exact ⟨Nat.le_of_ble_eq_true rfl, trivial, trivial⟩)
  · rename_i d0 _ d1
    apply exMs d1.1; refine ⟨[], [], h.1, ?_⟩
    repeat' (first | exact trivial | exact ⟨trivial⟩ | exact Side.mk rfl | exact sF1 rfl | exact Chk.mk (by kernel_rfl) | exact ⟨Chk.mk (by kernel_rfl)⟩ | refine And.intro ?_ ?_ | rfl)
theorem c_DrawMsgText (bs : List Int) (hb : Code8 bs) : Con PP 23 [.one (.fz (bs.map u8))] [] 0 (fun d : Msg => DM d) (fun d => .agg d.cells) (fun _ => []) := by
  refine Con.vc [(4, .con false [] [] [] sOpen), (5, .con false [1] [] [] sMsg)] TTok hmo Go.Proofs.Tryd.func23 rfl (by kernel_rfl) rfl (by kernel_rfl) ?_
  repeat' (first | refine And.intro ?_ ?_ | exact tf | exact ft | refine tt ?_ | refine ff ?_ | exact ⟨trivial⟩ | exact sAll rfl | exact sF1 rfl | exact sBld (by repeat' (first | exact trivial | rfl | exact Nat.le_of_ble_eq_true rfl | refine And.intro ?_ ?_)) rfl | exact sBS (by repeat' (first | exact trivial | rfl | exact Nat.le_of_ble_eq_true rfl | refine And.intro ?_ ?_)) rfl rfl rfl rfl | exact sBSF (by repeat' (first | exact trivial | rfl | exact Nat.le_of_ble_eq_true rfl | refine And.intro ?_ ?_)) rfl rfl rfl rfl | exact sLe rfl | exact Chk.mk (by kernel_rfl) | exact ⟨Chk.mk (by kernel_rfl)⟩ | exact sLeEq rfl rfl | refine fun h => ?_)
  all_goals dsimp only [sOpen, sMsg] at *
  all_goals try (exact ⟨fun _ _ => trivial⟩)
  all_goals try (exact ⟨c_l15Open bs hb⟩)
  all_goals try (exact ⟨c_l7Msg _ ‹_› _ (by omega) (by omega)⟩)
  all_goals try (first | exact ⟨trivial, trivial⟩ | exact ⟨Nat.le_of_ble_eq_true rfl, trivial⟩ | exact ⟨trivial, Nat.le_of_ble_eq_true rfl, trivial⟩ | exact ⟨Nat.le_of_ble_eq_true rfl, trivial, trivial⟩)
  · rename_i d0 _ d1
    apply exMs d1.1; refine ⟨[], [], h.1, ?_⟩
    repeat' (first | exact trivial | exact ⟨trivial⟩ | exact Side.mk rfl | exact sF1 rfl | exact Chk.mk (by kernel_rfl) | exact ⟨Chk.mk (by kernel_rfl)⟩ | refine And.intro ?_ ?_ | rfl)
theorem c_iOk (m : Msg) (h : m.ok lim) {b : Bool} (e : mOk m = b) : Pure PP false 20 [.agg m.cells] (ob b) := by
  have := c_impl_MsgOk m h
  rw [msgOk_eq] at this
  exact e ▸ this
theorem c_sOk (m : Msg) (h : m.ok lim) {b : Bool} (e : mOk m = b) : Pure PP false 21 [.agg m.cells] (ob b) := e ▸ c_spec_MsgOk m h
theorem toList_loop (l : List UInt8) : ∀ (n i : Nat) (r : List UInt8), i + n = l.length → ByteArray.toList.loop (str l) i r = r.reverse ++ l.drop i
  | 0, i, r, h => by
    unfold ByteArray.toList.loop
    rw [if_neg (by rw [str_size]; omega), List.drop_eq_nil_of_le (by omega), List.append_nil]
  | n + 1, i, r, h => by
    unfold ByteArray.toList.loop
    rw [if_pos (by rw [str_size]; omega), toList_loop l n (i + 1) _ (by omega), List.drop_eq_getElem_cons (show i < l.length by omega)]
    have : (str l).get! i = l[i]'(by omega) := by
      show (str l).data[i]! = _
      rw [getElem!_pos _ i (by simp [str]; omega)]
      simp [str]
    rw [this]; simp
theorem toList_str (l : List UInt8) : (str l).toList = l := by
  unfold ByteArray.toList
  rw [toList_loop l l.length 0 [] (by omega)]
  simp
end Mg

/- Runs and entries that are drawn, with their numbers' bounds. No condition. -/
namespace Mg
open Go Go.RowKit
set_option maxRecDepth 100000
set_option linter.unusedVariables false
set_option linter.unusedSimpArgs false
attribute [local irreducible] W Pure Con
theorem inr_rng {n a b : Int} (h : inr n a b = true) : a ≤ n ∧ n ≤ b := by
  simp [inr] at h; exact h
theorem boxOk_int {bx : List Two} (h : boxOk bx = true) : IntL bx := fun x hx => by
  simp only [boxOk, Bool.and_eq_true, List.all_eq_true] at h
  have hb := h.2 x hx
  simp only [boxEl, Bool.and_eq_true] at hb
  have h1 := inr_rng hb.1
  have h2 := inr_rng hb.2
  exact ⟨⟨by omega, by omega⟩, by omega, by omega⟩
theorem insOk_int {x : Ins} (h : insOk x = true) : I6 x.n := by
  unfold insOk at h
  unfold I6
  repeat' split at h
  all_goals simp [inr] at h
  all_goals omega
structure Run.int (d : Run) : Prop where
  r : IntL d.reads
  p : IntL d.puts
  c : I6 d.c
  d : I6 d.d
theorem run0 : Run.int ⟨[], [], 0, 3⟩ := ⟨IntL.nil, IntL.nil, I60, by decide, by decide⟩
theorem intG0 : IntG [0, 0, 0, 0] := fun n hn => by
  have : n = 0 := by simpa using hn
  subst this; exact I60
theorem I6.pk {x n : Int} (h : 0 ≤ x ∧ (x < n ∨ x = 0)) (hn : n ≤ 1000 := by decide) : I6 x := by unfold I6; omega
theorem I6.nm {x : Int} (h : i1 x ∈ [0, 1001].map i1) : I6 x := by
  have := mem_i1 h
  simp at this
  unfold I6; omega
def tStepI (rs ps : List Two) (v c : Int) : ConT := ⟨List Int × List Two × List Two × Int, fun d => d.1.length = 4 ∧ d.2.1.length ≤ rs.length + 1 ∧ d.2.2.1.length ≤ ps.length + 1 ∧ IntG d.1 ∧ IntL d.2.1 ∧ IntL d.2.2.1 ∧ I6 d.2.2.2, fun d => .agg [.ref 1 0 d.2.1.length, .ref 2 0 d.2.2.1.length, i6 v, i6 d.2.2.2], fun d => [.arr (d.1.map oi1), .arr (d.2.1.map Two.cells), .arr (d.2.2.1.map Two.cells)]⟩
set_option maxHeartbeats 4000000 in
theorem c_spec_ExecRunI (bx : List Two) (xs : List Ins) (hbx : bx.length ≤ maxLen) (hxs : xs.length ≤ maxLen) : Con PP 92 [.one (.fz (bx.map Two.cells)), .one (.fz (xs.map Ins.cells))] [] 0
    (fun d : Run => d.reads.length ≤ 30 ∧ d.puts.length ≤ 30 ∧ d.int) (fun d => .agg d.cells) (fun _ => []) := by
  refine Con.vc [(10, .res (ob (boxOk bx))), (14, .res (ob (progOk xs))), (65, .resf asI)] TTok hmo Go.Proofs.Tryd.func92 rfl (by kernel_rfl) rfl (by kernel_rfl) ?_
  repeat' (first | refine And.intro ?_ ?_ | exact tf | exact ft | refine tt ?_ | refine ff ?_ | exact ⟨trivial⟩ | exact sAll rfl | exact sF1 rfl | exact sBld (by repeat' (first | exact trivial | rfl | exact Nat.le_of_ble_eq_true rfl | refine And.intro ?_ ?_)) rfl | exact sBS (by repeat' (first | exact trivial | rfl | exact Nat.le_of_ble_eq_true rfl | refine And.intro ?_ ?_)) rfl rfl rfl rfl | exact sBSF (by repeat' (first | exact trivial | rfl | exact Nat.le_of_ble_eq_true rfl | refine And.intro ?_ ?_)) rfl rfl rfl rfl | exact sLe rfl | exact Chk.mk (by kernel_rfl) | exact ⟨Chk.mk (by kernel_rfl)⟩ | exact sLeEq rfl rfl | exact sAnd (by repeat' constructor) (c_spec_BoxOk bx hbx) | exact sAnd (by repeat' constructor) (c_spec_ProgOk xs hxs) | refine fun h => ?_)
  all_goals try (first | exact ⟨trivial, trivial⟩ | exact ⟨Nat.le_of_ble_eq_true rfl, trivial⟩ | exact ⟨trivial, Nat.le_of_ble_eq_true rfl, trivial⟩ | exact ⟨Nat.le_of_ble_eq_true rfl, trivial, trivial⟩)
  · apply exRun ⟨[], [], 0, 3⟩; refine ⟨[], [], ⟨by decide, by decide, run0⟩, ?_⟩
    repeat' (first | exact trivial | exact ⟨trivial⟩ | exact Side.mk rfl | exact sF1 rfl | exact Chk.mk (by kernel_rfl) | exact ⟨Chk.mk (by kernel_rfl)⟩ | refine And.intro ?_ ?_ | rfl)
  · exact ⟨by decide⟩
  · have h1 : boxOk bx = true := by simp_all
    have h2 : progOk xs = true := by simp_all
    have hl := progOk_len h2
    have bi := boxOk_int h1
    refine W.vbox 1 0 rfl ?_
    refine W.vbox 1 1 rfl ?_
    refine W.loopC (D := Int × List Int × List Two × List Two × Int) (fun d => [(33, .row (xs.getD d.1.toNat default).cells), (42, .resf asI), (47, .resf asI), (57, .con false [2] [3, 4] [] (fun _ _ => tStepI d.2.2.1 d.2.2.2.1 0 d.2.2.2.2))]) TTok hmo
      (fun d => ⟨68, 5, [(0, .one (.fz (bx.map Two.cells))), (1, .one (.fz (xs.map Ins.cells))), (4, .one (.ptr 0 0 0)), (5, .one (.ptr 1 0 0)), (6, .one (.ref 2 0 4)), (7, oi d.1)],
        [(0, .box [.nil, .nil, i6 0, i6 0]), (1, .box [.ref 3 0 d.2.2.1.length, .ref 4 0 d.2.2.2.1.length, i6 0, i6 d.2.2.2.2]), (2, .arr (d.2.1.map oi1)), (3, .arr (d.2.2.1.map Two.cells)), (4, .arr (d.2.2.2.1.map Two.cells))]⟩) (fun d => (xs.length - d.1).toNat)
      (fun d => (0 ≤ d.1 ∧ d.1 ≤ 30) ∧ d.2.1.length = 4 ∧ d.2.2.1.length ≤ d.1 ∧ d.2.2.2.1.length ≤ d.1 ∧ IntG d.2.1 ∧ IntL d.2.2.1 ∧ IntL d.2.2.2.1 ∧ I6 d.2.2.2.2) (0, [0, 0, 0, 0], [], [], 0) [] ⟨by decide, rfl, by decide, by decide, intG0, IntL.nil, IntL.nil, I60⟩ ?_ ?_
    · repeat' (first | exact trivial | exact ⟨trivial⟩ | exact Side.mk rfl | exact sF1 rfl | exact Chk.mk (by kernel_rfl) | exact ⟨Chk.mk (by kernel_rfl)⟩ | exact sMapF oi1.flat | exact sMapF Two.flat | refine And.intro ?_ ?_ | rfl)
    · intro ⟨k, g, rs, ps, c⟩ ⟨hk, hg, hr, hp, gi, ri, pi, ci⟩
      dsimp only at hk hg hr hp gi ri pi ci
      repeat' (first | refine And.intro ?_ ?_ | exact tf | exact ft | refine tt ?_ | refine ff ?_ | exact ⟨trivial⟩ | exact sAll rfl | exact sF1 rfl | exact sBld (by repeat' (first | exact trivial | rfl | exact Nat.le_of_ble_eq_true rfl | refine And.intro ?_ ?_)) rfl | exact sBS (by repeat' (first | exact trivial | rfl | exact Nat.le_of_ble_eq_true rfl | refine And.intro ?_ ?_)) rfl rfl rfl rfl | exact sBSF (by repeat' (first | exact trivial | rfl | exact Nat.le_of_ble_eq_true rfl | refine And.intro ?_ ?_)) rfl rfl rfl rfl | exact sLe rfl | exact Chk.mk (by kernel_rfl) | exact ⟨Chk.mk (by kernel_rfl)⟩ | exact sLeEq rfl rfl | refine fun h => ?_)
      all_goals dsimp only [tStepI] at *
      all_goals try (have hkl : k.toNat < xs.length := by (have h9 := of_decide_eq_true ‹decide (k < ((List.map Ins.cells xs).length : Int)) = true›; rw [List.length_map] at h9; omega))
      all_goals try (have hrg := insOk_rng (progOk_at h2 hkl))
      all_goals try (exact sRow hk.1 (by rw [List.getElem?_map, List.getD_eq_getElem?_getD, List.getElem?_eq_getElem (by omega)]; rfl) rfl)
      all_goals try (exact sIxO (c := oi1) hrg.1.1 (by omega) (by omega) (fun _ => rfl))
      all_goals try (exact sIxO (c := oi1) hrg.2.1.1 (by omega) (by omega) (fun _ => rfl))
      all_goals try (exact sLdI (c := oi1) (n := id) (t := fun _ => []) (by omega) (fun _ => rfl))
      all_goals try (exact ⟨allF oi1.frz, allF Two.frz, allF Two.frz, trivial⟩)
      all_goals try (exact ⟨c_l3StepI bx (boxOk_len h1) bi g hg gi rs ps ri pi 0 c _ (by omega) (by omega) hrg.1 hrg.2.1 (insOk_int (progOk_at h2 hkl)) ci⟩)
      all_goals try (first | exact ⟨trivial, trivial⟩ | exact ⟨Nat.le_of_ble_eq_true rfl, trivial⟩ | exact ⟨trivial, Nat.le_of_ble_eq_true rfl, trivial⟩ | exact ⟨Nat.le_of_ble_eq_true rfl, trivial, trivial⟩)
      all_goals simp only [decide_eq_true_eq, decide_eq_false_iff_not, List.length_map, Bool.not_eq_true', Bool.not_eq_false', Bool.not_eq_eq_eq_not, Bool.not_true, Bool.not_false, bne_iff_ne, ne_eq, bne_eq_false_iff_eq, beq_iff_eq, beq_eq_false_iff_ne] at *
      all_goals try (exact ⟨fun d hd => ⟨allF oi1.frz, allF Two.frz, allF Two.frz, trivial⟩⟩)
      all_goals try (exact ⟨fun d hd => ⟨by simp [hd.1, hg], trivial⟩⟩)
      all_goals try (exact ⟨⟨⟨by decide, by decide⟩, by first | omega | (rw [List.length_map]; omega), by rw [mapGet (by omega)]; rfl⟩⟩)
      all_goals try (exact sLdI (k := 0) (c := oi1) (n := id) (t := fun _ => []) (by omega) (fun _ => rfl))
      · have hn := hrg.2.2 (by assumption)
        refine ⟨(k + (xs.getD k.toNat default).n + 1, g, rs, ps, c), [], ?_, ⟨⟨?_, ?_⟩, hg, ?_, ?_, gi, ri, pi, ci⟩, ?_⟩
        all_goals dsimp only
        all_goals try omega
        repeat' (first | exact trivial | exact ⟨trivial⟩ | exact Side.mk rfl | exact sF1 rfl | exact Chk.mk (by kernel_rfl) | exact ⟨Chk.mk (by kernel_rfl)⟩ | exact sMapF oi1.flat | exact sMapF Two.flat | exact ⟨by rw [wrapi (n := k + _), wrapi] <;> omega⟩ | refine And.intro ?_ ?_ | rfl)
      · refine ⟨(k + 1, g, rs, ps, c), [], ?_, ⟨⟨?_, ?_⟩, hg, ?_, ?_, gi, ri, pi, ci⟩, ?_⟩
        all_goals dsimp only
        all_goals try omega
        repeat' (first | exact trivial | exact ⟨trivial⟩ | exact Side.mk rfl | exact sF1 rfl | exact Chk.mk (by kernel_rfl) | exact ⟨Chk.mk (by kernel_rfl)⟩ | exact sMapF oi1.flat | exact sMapF Two.flat | exact ⟨by rw [wrapi] <;> omega⟩ | refine And.intro ?_ ?_ | rfl)
      · rename_i d hd _ _ _ _
        refine ⟨(k + 1, d.1, d.2.1, d.2.2.1, d.2.2.2), [(3, 6), (4, 7)], ?_, ⟨⟨?_, ?_⟩, hd.1, ?_, ?_, hd.2.2.2.1, hd.2.2.2.2.1, hd.2.2.2.2.2.1, hd.2.2.2.2.2.2⟩, ?_⟩
        all_goals dsimp only
        all_goals try omega
        repeat' (first | exact trivial | exact ⟨trivial⟩ | exact Side.mk rfl | exact sF1 rfl | exact Chk.mk (by kernel_rfl) | exact ⟨Chk.mk (by kernel_rfl)⟩ | exact sMapF oi1.flat | exact sMapF Two.flat | exact ⟨by rw [wrapi] <;> omega⟩ | refine And.intro ?_ ?_ | rfl)
      · apply exRun ⟨rs, [], _, _⟩; refine ⟨[], [3], ?_, ?_⟩; rotate_left 1; focus (repeat' (first | exact trivial | exact ⟨trivial⟩ | exact Side.mk rfl | exact sF1 rfl | exact Chk.mk (by kernel_rfl) | exact ⟨Chk.mk (by kernel_rfl)⟩ | exact sMapZ Two.frz | exact sFzE rfl | refine And.intro ?_ ?_ | rfl))
        exact ⟨by dsimp only; omega, Nat.le_of_ble_eq_true rfl, ⟨ri, IntL.nil, I60, ci⟩⟩
      · apply exRun ⟨rs, ps, _, _⟩; refine ⟨[], [3, 4], ?_, ?_⟩; rotate_left 1; focus (repeat' (first | exact trivial | exact ⟨trivial⟩ | exact Side.mk rfl | exact sF1 rfl | exact Chk.mk (by kernel_rfl) | exact ⟨Chk.mk (by kernel_rfl)⟩ | exact sMapZ Two.frz | exact sFzE rfl | exact ⟨⟨allF Two.frz, allF Two.frz, trivial⟩⟩ | refine And.intro ?_ ?_ | rfl))
        exact ⟨by dsimp only; omega, by dsimp only; omega, ⟨ri, pi, by dsimp only; rw [mapGet (by omega)]; exact IntG.get gi _, ci⟩⟩
      · apply exRun ⟨rs, [], _, _⟩; refine ⟨[], [3], ?_, ?_⟩; rotate_left 1; focus (repeat' (first | exact trivial | exact ⟨trivial⟩ | exact Side.mk rfl | exact sF1 rfl | exact Chk.mk (by kernel_rfl) | exact ⟨Chk.mk (by kernel_rfl)⟩ | exact sMapZ Two.frz | exact sFzE rfl | refine And.intro ?_ ?_ | rfl))
        exact ⟨by dsimp only; omega, Nat.le_of_ble_eq_true rfl, ⟨ri, IntL.nil, I60, ci⟩⟩
      · apply exRun ⟨rs, ps, _, _⟩; refine ⟨[], [3, 4], ?_, ?_⟩; rotate_left 1; focus (repeat' (first | exact trivial | exact ⟨trivial⟩ | exact Side.mk rfl | exact sF1 rfl | exact Chk.mk (by kernel_rfl) | exact ⟨Chk.mk (by kernel_rfl)⟩ | exact sMapZ Two.frz | exact sFzE rfl | exact ⟨⟨allF Two.frz, allF Two.frz, trivial⟩⟩ | refine And.intro ?_ ?_ | rfl))
        exact ⟨by dsimp only; omega, by dsimp only; omega, ⟨ri, pi, by dsimp only; rw [mapGet (by omega)]; exact IntG.get gi _, ci⟩⟩
  · apply exRun ⟨[], [], 0, 3⟩; refine ⟨[], [], ⟨by decide, by decide, run0⟩, ?_⟩
    repeat' (first | exact trivial | exact ⟨trivial⟩ | exact Side.mk rfl | exact sF1 rfl | exact Chk.mk (by kernel_rfl) | exact ⟨Chk.mk (by kernel_rfl)⟩ | refine And.intro ?_ ?_ | rfl)
def sRunI (ds : List MV) (os : List Ob) : ConT := ⟨Run, fun d => d.reads.length ≤ 30 ∧ d.puts.length ≤ 30 ∧ d.int, fun d => .agg d.cells, fun _ => []⟩
set_option maxHeartbeats 4000000 in
theorem c_l5AnyI (bs : List Int) (hb : BsOk bs) (bx : List Two) (hbx : bx.length ≤ maxLen) (p : Int) (h0 : 0 ≤ p) (h1 : p ≤ 999999990000) : Con PP 67 [.one (.ptr 0 0 0), .one (.fz (bx.map Two.cells))] [rdO bs p] 1 (fun d : Entry × Int => d.1.ok 30 ∧ d.1.int ∧ p ≤ d.2 ∧ d.2 ≤ p + 70) (fun d => .agg d.1.cells) (fun d => [rdO bs d.2]) := by
  refine Con.vc [(7, .con false [0] [] [] sPick), (11, .con false [0] [] [] sPick), (13, .con false [0] [] [] sPick), (18, .con false [0] [] [] sProg), (19, .con false [] [] [] sRunI), (22, .con false [0] [] [] sPick), (26, .row []), (27, .con false [0] [] [] sNum)] TTok hmo Go.Proofs.Tryd.func67 rfl (by kernel_rfl) rfl (by kernel_rfl) ?_
  repeat' (first | refine And.intro ?_ ?_ | exact tf | exact ft | refine tt ?_ | refine ff ?_ | exact ⟨trivial⟩ | exact sAll rfl | exact sF1 rfl | exact sBld (by repeat' (first | exact trivial | rfl | exact Nat.le_of_ble_eq_true rfl | refine And.intro ?_ ?_)) rfl | exact sBS (by repeat' (first | exact trivial | rfl | exact Nat.le_of_ble_eq_true rfl | refine And.intro ?_ ?_)) rfl rfl rfl rfl | exact sBSF (by repeat' (first | exact trivial | rfl | exact Nat.le_of_ble_eq_true rfl | refine And.intro ?_ ?_)) rfl rfl rfl rfl | exact sLe rfl | exact Chk.mk (by kernel_rfl) | exact ⟨Chk.mk (by kernel_rfl)⟩ | exact sLeEq rfl rfl | refine fun h => ?_)
  all_goals dsimp only [sPick, sProg, sRunI, sNum] at *
  all_goals try (exact ⟨fun _ _ => trivial⟩)
  all_goals try (exact ⟨fun _ _ => ⟨trivial, trivial⟩⟩)
  all_goals try (exact ⟨c_pick bs hb _ _ (by omega) (by omega)⟩)
  all_goals try (exact ⟨c_l2Prog bs hb _ (by omega) (by omega)⟩)
  all_goals try (exact ⟨c_num bs hb _ (by omega) (by omega) [0, 1001] (by decide) (by decide)⟩)
  all_goals try (exact ⟨c_spec_ExecRunI bx _ hbx (Nat.le_trans (m := 8) (by omega) (by decide))⟩)
  all_goals try (first | exact ⟨trivial, trivial⟩ | exact ⟨Nat.le_of_ble_eq_true rfl, trivial⟩ | exact ⟨trivial, Nat.le_of_ble_eq_true rfl, trivial⟩ | exact ⟨Nat.le_of_ble_eq_true rfl, trivial, trivial⟩)
  · apply exEnt _ _ _ [] []; refine ⟨[], [], ?_, ?_⟩; rotate_left 1; focus (repeat' (first | exact trivial | exact ⟨trivial⟩ | exact Side.mk rfl | exact sF1 rfl | exact Chk.mk (by kernel_rfl) | exact ⟨Chk.mk (by kernel_rfl)⟩ | refine And.intro ?_ ?_ | rfl))
    exact ⟨⟨Nat.le_of_ble_eq_true rfl, Nat.le_of_ble_eq_true rfl⟩, ⟨⟨I60, I60⟩, IntL.nil, IntL.nil, I60, I60⟩, by dsimp only; omega, by dsimp only; omega⟩
  all_goals first | (apply exEnt _ _ _ _ _ _ 3; refine ⟨[], [], ?_, ?_⟩; rotate_left 1; focus ((repeat' (first | exact trivial | exact ⟨trivial⟩ | exact Side.mk rfl | exact sF1 rfl | exact Chk.mk (by kernel_rfl) | exact ⟨Chk.mk (by kernel_rfl)⟩ | refine And.intro ?_ ?_ | rfl)); done)) | (apply exEnt; refine ⟨[], [], ?_, ?_⟩; rotate_left 1; focus (repeat' (first | exact trivial | exact ⟨trivial⟩ | exact Side.mk rfl | exact sF1 rfl | exact Chk.mk (by kernel_rfl) | exact ⟨Chk.mk (by kernel_rfl)⟩ | refine And.intro ?_ ?_ | rfl)))
  all_goals (have hR := ‹_ ∧ _ ∧ Run.int _›; refine ⟨⟨hR.1, hR.2.1⟩, ⟨⟨?_, ?_⟩, ?_, ?_, ?_, ?_⟩, by dsimp only; omega, by dsimp only; omega⟩)
  all_goals dsimp only
  all_goals first
    | exact hR.2.2.r
    | exact hR.2.2.p
    | exact hR.2.2.c
    | exact hR.2.2.d
    | exact I6.wrap _
    | exact ⟨by decide, by decide⟩
    | exact I6.nm (by assumption)
    | (exact I6.pk (by assumption))
end Mg

/- Boxes and entries that are drawn, whole. No condition. -/
namespace Mg
open Go Go.RowKit Go.Lib
set_option maxRecDepth 100000
set_option linter.unusedVariables false
set_option linter.unusedSimpArgs false
attribute [local irreducible] W Pure Con
def tBox4 : ConT := ⟨Unit, fun _ => True, fun _ => .one (.ref 0 0 4), fun _ => [.arr ((List.replicate 4 (⟨0, 0⟩ : Two)).map Two.cells)]⟩
theorem c_BoxOpenC : Con PP 76 [] [] 0 (fun _ : Unit => True) (fun _ => .one (.ref 0 0 4)) (fun _ => [.arr ((List.replicate 4 (⟨0, 0⟩ : Two)).map Two.cells)]) := by
  refine Con.vc [] TTok hmo Go.Proofs.Tryd.func76 rfl (by kernel_rfl) rfl (by kernel_rfl) ?_
  repeat' (first | refine And.intro ?_ ?_ | exact tf | exact ft | refine tt ?_ | refine ff ?_ | exact ⟨trivial⟩ | exact sAll rfl | exact sF1 rfl | exact sBld (by repeat' (first | exact trivial | rfl | exact Nat.le_of_ble_eq_true rfl | refine And.intro ?_ ?_)) rfl | exact sBS (by repeat' (first | exact trivial | rfl | exact Nat.le_of_ble_eq_true rfl | refine And.intro ?_ ?_)) rfl rfl rfl rfl | exact sBSF (by repeat' (first | exact trivial | rfl | exact Nat.le_of_ble_eq_true rfl | refine And.intro ?_ ?_)) rfl rfl rfl rfl | exact sLe rfl | exact Chk.mk (by kernel_rfl) | exact ⟨Chk.mk (by kernel_rfl)⟩ | exact sLeEq rfl rfl | refine fun h => ?_)
  · exact ⟨by decide⟩
  · exact ⟨trivial, trivial⟩
  · apply exU; refine ⟨[], [], trivial, ?_⟩
    repeat' (first | exact trivial | exact ⟨trivial⟩ | exact Side.mk rfl | exact sF1 rfl | exact Chk.mk (by kernel_rfl) | exact ⟨Chk.mk (by kernel_rfl)⟩ | exact sMapF Two.flat | exact ⟨rfl⟩ | refine And.intro ?_ ?_ | rfl)
def sBoxes (ds : List MV) (os : List Ob) : ConT := match os with
  | [.box [b, .sc (.int _ p)]] => ⟨List Two × Int, fun d => d.1.length ≤ 4 ∧ p ≤ d.2 ∧ d.2 ≤ p + 20, fun d => .one (.fz (d.1.map Two.cells)), fun d => [.box [b, i6 d.2]]⟩
  | _ => noT
theorem exBx {Q : List Two × Int → Prop} (xs : List Two) (q : Int) (h : Q (xs, q)) : ∃ d, Q d := ⟨_, h⟩
set_option maxHeartbeats 8000000 in
theorem c_l1Boxes (bs : List Int) (hb : BsOk bs) (p : Int) (h0 : 0 ≤ p) (h1 : p ≤ 999999990000) : Con PP 68 [.one (.ptr 0 0 0)] [rdO bs p] 1
    (fun d : List Two × Int => d.1.length ≤ 4 ∧ p ≤ d.2 ∧ d.2 ≤ p + 20) (fun d => .one (.fz (d.1.map Two.cells))) (fun d => [rdO bs d.2]) := by
  refine Con.vc [(5, .con false [] [] [] (fun _ _ => tBox4)), (22, .con false [0] [] [] sPick), (31, .con false [0] [] [] sPick), (33, .row []), (34, .con false [0] [] [] sNum), (41, .con false [0] [] [] sPick), (43, .row []), (44, .con false [0] [] [] sNum)] TTok hmo Go.Proofs.Tryd.func68 rfl (by kernel_rfl) rfl (by kernel_rfl) ?_
  repeat' (first | refine And.intro ?_ ?_ | exact tf | exact ft | refine tt ?_ | refine ff ?_ | exact ⟨trivial⟩ | exact sAll rfl | exact sF1 rfl | exact sBld (by repeat' (first | exact trivial | rfl | exact Nat.le_of_ble_eq_true rfl | refine And.intro ?_ ?_)) rfl | exact sBS (by repeat' (first | exact trivial | rfl | exact Nat.le_of_ble_eq_true rfl | refine And.intro ?_ ?_)) rfl rfl rfl rfl | exact sBSF (by repeat' (first | exact trivial | rfl | exact Nat.le_of_ble_eq_true rfl | refine And.intro ?_ ?_)) rfl rfl rfl rfl | exact sLe rfl | exact Chk.mk (by kernel_rfl) | exact ⟨Chk.mk (by kernel_rfl)⟩ | exact sLeEq rfl rfl | refine fun h => ?_)
  all_goals dsimp only [tBox4] at *
  all_goals try (exact ⟨c_BoxOpenC⟩)
  all_goals try (exact ⟨fun _ _ => trivial⟩)
  all_goals try (exact ⟨fun _ _ => ⟨allF Two.frz, trivial⟩⟩)
  refine W.loopC (D := Nat × List Two) (fun d => [(15, .con false [0] [] [] sPick), (17, .row []), (18, .con false [0] [] [] sNum)]) TTok hmo
    (fun d => ⟨48, 2, [(0, .one (.ptr 0 0 0)), (3, .one (.ref 1 0 4)), (4, oi d.1)], [(0, rdO bs (p + 2 * d.1)), (1, .arr (d.2.map Two.cells))]⟩) (fun d => 4 - d.1) (fun d => d.1 ≤ 4 ∧ d.2.length = 4) (0, List.replicate 4 ⟨0, 0⟩) [] ⟨by decide, rfl⟩ ?_ ?_
  · repeat' (first | exact trivial | exact ⟨trivial⟩ | exact Side.mk rfl | exact sF1 rfl | exact Chk.mk (by kernel_rfl) | exact ⟨Chk.mk (by kernel_rfl)⟩ | exact sMapF Two.flat | exact ⟨by dsimp only; omega⟩ | refine And.intro ?_ ?_ | rfl)
  · rintro ⟨i, xs⟩ ⟨hi, hx⟩
    dsimp only at hi hx
    repeat' (first | refine And.intro ?_ ?_ | exact tf | exact ft | refine tt ?_ | refine ff ?_ | exact ⟨trivial⟩ | exact sAll rfl | exact sF1 rfl | exact sBld (by repeat' (first | exact trivial | rfl | exact Nat.le_of_ble_eq_true rfl | refine And.intro ?_ ?_)) rfl | exact sBS (by repeat' (first | exact trivial | rfl | exact Nat.le_of_ble_eq_true rfl | refine And.intro ?_ ?_)) rfl rfl rfl rfl | exact sBSF (by repeat' (first | exact trivial | rfl | exact Nat.le_of_ble_eq_true rfl | refine And.intro ?_ ?_)) rfl rfl rfl rfl | exact sLe rfl | exact Chk.mk (by kernel_rfl) | exact ⟨Chk.mk (by kernel_rfl)⟩ | exact sLeEq rfl rfl | refine fun h => ?_)
    all_goals dsimp only [sPick, sNum] at *
    all_goals try (exact ⟨fun _ _ => trivial⟩)
    all_goals try (exact ⟨fun _ _ => ⟨trivial, trivial⟩⟩)
    all_goals try (exact ⟨c_pick bs hb _ _ (by omega) (by omega)⟩)
    all_goals try (exact ⟨c_num bs hb _ (by omega) (by omega) [0, 1, 2, 5, -3, 7, 100, 1000000, -1000000] (by decide) (by decide)⟩)
    all_goals try (exact ⟨c_num bs hb _ (by omega) (by omega) [-1, 1000001] (by decide) (by decide)⟩)
    all_goals try (exact ⟨c_num bs hb _ (by omega) (by omega) [1000001, -1000001] (by decide) (by decide)⟩)
    all_goals try (have hi4 : (i : Int) < 4 := of_decide_eq_true ‹decide ((i : Int) < ((4 : Nat) : Int)) = true›)
    all_goals try (have hi5 : ¬ (i : Int) < 4 := of_decide_eq_false ‹decide ((i : Int) < ((4 : Nat) : Int)) = false›)
    all_goals try (exact sIxO (c := Two.cells) (xs := xs) (k := (i : Int)) (by omega) (by omega) (by omega) (fun _ => rfl))
    all_goals try (exact sSt (c := Two.cells) (m := 2) (xs := xs) (by omega) (fun _ => rfl) rfl rfl)
    all_goals try (first | exact ⟨trivial, trivial⟩ | exact ⟨Nat.le_of_ble_eq_true rfl, trivial⟩ | exact ⟨trivial, Nat.le_of_ble_eq_true rfl, trivial⟩ | exact ⟨Nat.le_of_ble_eq_true rfl, trivial, trivial⟩)
    all_goals try (exact ⟨⟨by decide, by decide, by decide⟩, fun r hr => by obtain ⟨x, _, rfl⟩ := List.mem_map.1 hr; rfl⟩)
    · rename_i v1 hv1 v2
      refine ⟨(i + 1, xs.set i ⟨v1, v2⟩), [], by dsimp only; omega, ⟨by dsimp only; omega, by dsimp only; rw [List.length_set]; exact hx⟩, ?_⟩
      repeat' (first | exact trivial | exact ⟨trivial⟩ | exact Side.mk rfl | exact sF1 rfl | exact Chk.mk (by kernel_rfl) | exact ⟨Chk.mk (by kernel_rfl)⟩ | exact sMapF Two.flat | exact sSet (k := i) (by rw [mapGet (by omega)]; rfl) | exact ⟨by dsimp only; omega⟩ | exact ⟨by rw [wrapi] <;> omega⟩ | refine And.intro ?_ ?_ | rfl)
    all_goals try (refine sIxO (c := Two.cells) (xs := xs) ?_ ?_ ?_ (fun _ => rfl) <;> omega)
    · apply exBx (xs.take 3); refine ⟨[], [1], ⟨?_, ?_⟩, ?_⟩; rotate_left 2; focus (repeat' (first | exact trivial | exact ⟨trivial⟩ | exact Side.mk rfl | exact sF1 rfl | exact Chk.mk (by kernel_rfl) | exact ⟨Chk.mk (by kernel_rfl)⟩ | exact sMapZ Two.frz | exact ⟨by rw [List.map_take]; rfl⟩ | refine And.intro ?_ ?_ | rfl))
      · simp; omega
      · dsimp only; omega
    · rename_i v1 hv1 v2
      have e1 : (List.map Two.cells xs).set (0 + Int.toNat v1) (putAt ((List.map Two.cells xs).getD (0 + Int.toNat v1) []) (0 + 0) [i6 v2]) = (xs.set (Int.toNat v1) ⟨v2, (xs.getD (Int.toNat v1) default).b⟩).map Two.cells := by
        rw [mapGet (by omega)]; exact (setMap (c := Two.cells) (y := ⟨v2, (xs.getD (Int.toNat v1) default).b⟩) rfl).symm
      have l1 : (xs.set (Int.toNat v1) ⟨v2, (xs.getD (Int.toNat v1) default).b⟩).length = 4 := by rw [List.length_set]; exact hx
      generalize xs.set (Int.toNat v1) ⟨v2, (xs.getD (Int.toNat v1) default).b⟩ = ys at *
      simp only [S.set, upd, e1]
      apply exBx ys; refine ⟨[], [1], ⟨?_, ?_⟩, ?_⟩; rotate_left 2; (focus (repeat' (first | exact trivial | exact ⟨trivial⟩ | exact Side.mk rfl | exact sF1 rfl | exact Chk.mk (by kernel_rfl) | exact ⟨Chk.mk (by kernel_rfl)⟩ | exact sMapZ Two.frz | exact sFzE l1.symm | refine And.intro ?_ ?_ | rfl)))
      all_goals dsimp only
      all_goals omega
    · rename_i v1 hv1 v2
      have e1 : (List.map Two.cells xs).set (0 + Int.toNat v1) (putAt ((List.map Two.cells xs).getD (0 + Int.toNat v1) []) (0 + 1) [i6 v2]) = (xs.set (Int.toNat v1) ⟨(xs.getD (Int.toNat v1) default).a, v2⟩).map Two.cells := by
        rw [mapGet (by omega)]; exact (setMap (c := Two.cells) (y := ⟨(xs.getD (Int.toNat v1) default).a, v2⟩) rfl).symm
      have l1 : (xs.set (Int.toNat v1) ⟨(xs.getD (Int.toNat v1) default).a, v2⟩).length = 4 := by rw [List.length_set]; exact hx
      generalize xs.set (Int.toNat v1) ⟨(xs.getD (Int.toNat v1) default).a, v2⟩ = ys at *
      simp only [S.set, upd, e1]
      apply exBx ys; refine ⟨[], [1], ⟨?_, ?_⟩, ?_⟩; rotate_left 2; (focus (repeat' (first | exact trivial | exact ⟨trivial⟩ | exact Side.mk rfl | exact sF1 rfl | exact Chk.mk (by kernel_rfl) | exact ⟨Chk.mk (by kernel_rfl)⟩ | exact sMapZ Two.frz | exact sFzE l1.symm | refine And.intro ?_ ?_ | rfl)))
      all_goals dsimp only
      all_goals omega
    · apply exBx xs; refine ⟨[], [1], ⟨?_, ?_⟩, ?_⟩; rotate_left 2; (focus (repeat' (first | exact trivial | exact ⟨trivial⟩ | exact Side.mk rfl | exact sF1 rfl | exact Chk.mk (by kernel_rfl) | exact ⟨Chk.mk (by kernel_rfl)⟩ | exact sMapZ Two.frz | exact sFzE hx.symm | refine And.intro ?_ ?_ | rfl)))
      all_goals dsimp only
      all_goals omega
def sEnt (ds : List MV) (os : List Ob) : ConT := ⟨Entry, fun d => d.ok 30 ∧ d.int, fun d => .agg d.cells, fun _ => []⟩
def sEnt2 (ds : List MV) (os : List Ob) : ConT := ⟨Entry × Entry, fun d => (d.1.ok 30 ∧ d.1.int) ∧ d.2.ok 30 ∧ d.2.int, fun d => .tup [.agg d.1.cells, .agg d.2.cells], fun _ => []⟩
def sAnyI (ds : List MV) (os : List Ob) : ConT := match os with
  | [.box [b, .sc (.int _ p)]] => ⟨Entry × Int, fun d => d.1.ok 30 ∧ d.1.int ∧ p ≤ d.2 ∧ d.2 ≤ p + 70, fun d => .agg d.1.cells, fun d => [.box [b, i6 d.2]]⟩
  | _ => noT
theorem exEn {Q : Entry → Prop} (a : Entry) (h : Q a) : ∃ d, Q d := ⟨_, h⟩
theorem exEE {Q : Entry × Entry → Prop} (a b : Entry) (h : Q (a, b)) : ∃ d, Q d := ⟨_, h⟩
theorem c_DrawCertEntry (bs : List Int) (hb : Code8 bs) : Con PP 40 [.one (.fz (bs.map u8))] [] 0 (fun d : Entry => d.ok 30 ∧ d.int) (fun d => .agg d.cells) (fun _ => []) := by
  refine Con.vc [(5, .con false [] [] [] sOpen), (8, .con false [1] [] [] sBoxes), (9, .con false [1] [] [] sAnyI)] TTok hmo Go.Proofs.Tryd.func40 rfl (by kernel_rfl) rfl (by kernel_rfl) ?_
  repeat' (first | refine And.intro ?_ ?_ | exact tf | exact ft | refine tt ?_ | refine ff ?_ | exact ⟨trivial⟩ | exact sAll rfl | exact sF1 rfl | exact sBld (by repeat' (first | exact trivial | rfl | exact Nat.le_of_ble_eq_true rfl | refine And.intro ?_ ?_)) rfl | exact sBS (by repeat' (first | exact trivial | rfl | exact Nat.le_of_ble_eq_true rfl | refine And.intro ?_ ?_)) rfl rfl rfl rfl | exact sBSF (by repeat' (first | exact trivial | rfl | exact Nat.le_of_ble_eq_true rfl | refine And.intro ?_ ?_)) rfl rfl rfl rfl | exact sLe rfl | exact Chk.mk (by kernel_rfl) | exact ⟨Chk.mk (by kernel_rfl)⟩ | exact sLeEq rfl rfl | refine fun h => ?_)
  all_goals dsimp only [sOpen, sBoxes, sAnyI] at *
  all_goals try (exact ⟨fun _ _ => trivial⟩)
  all_goals try (exact ⟨fun _ _ => ⟨trivial, trivial⟩⟩)
  all_goals try (exact ⟨c_l15Open bs hb⟩)
  all_goals try (exact ⟨c_l1Boxes _ ‹_› _ (by omega) (by omega)⟩)
  all_goals try (exact ⟨c_l5AnyI _ ‹_› _ (Nat.le_trans (by omega : _ ≤ 4) (by decide)) _ (by omega) (by omega)⟩)
  all_goals try (first | exact ⟨trivial, trivial⟩ | exact ⟨Nat.le_of_ble_eq_true rfl, trivial⟩ | exact ⟨trivial, Nat.le_of_ble_eq_true rfl, trivial⟩ | exact ⟨Nat.le_of_ble_eq_true rfl, trivial, trivial⟩)
  · rename_i d0 _ d1 _ d2
    apply exEn d2.1; refine ⟨[], [], ⟨h.1, h.2.1⟩, ?_⟩
    repeat' (first | exact trivial | exact ⟨trivial⟩ | exact Side.mk rfl | exact sF1 rfl | exact Chk.mk (by kernel_rfl) | exact ⟨Chk.mk (by kernel_rfl)⟩ | refine And.intro ?_ ?_ | rfl)
theorem c_DrawMsgEntry (bs : List Int) (hb : Code8 bs) : Con PP 15 [.one (.fz (bs.map u8))] [] 0 (fun d : Entry => d.ok 30 ∧ d.int) (fun d => .agg d.cells) (fun _ => []) := by
  refine Con.vc [(4, .con false [] [] [] sEnt)] TTok hmo Go.Proofs.Tryd.func15 rfl (by kernel_rfl) rfl (by kernel_rfl) ?_
  repeat' (first | refine And.intro ?_ ?_ | exact tf | exact ft | refine tt ?_ | refine ff ?_ | exact ⟨trivial⟩ | exact sAll rfl | exact sF1 rfl | exact sBld (by repeat' (first | exact trivial | rfl | exact Nat.le_of_ble_eq_true rfl | refine And.intro ?_ ?_)) rfl | exact sBS (by repeat' (first | exact trivial | rfl | exact Nat.le_of_ble_eq_true rfl | refine And.intro ?_ ?_)) rfl rfl rfl rfl | exact sBSF (by repeat' (first | exact trivial | rfl | exact Nat.le_of_ble_eq_true rfl | refine And.intro ?_ ?_)) rfl rfl rfl rfl | exact sLe rfl | exact Chk.mk (by kernel_rfl) | exact ⟨Chk.mk (by kernel_rfl)⟩ | exact sLeEq rfl rfl | refine fun h => ?_)
  all_goals dsimp only [sEnt] at *
  all_goals try (exact ⟨fun _ _ => trivial⟩)
  all_goals try (exact ⟨c_DrawCertEntry bs hb⟩)
  all_goals try (first | exact ⟨trivial, trivial⟩ | exact ⟨Nat.le_of_ble_eq_true rfl, trivial⟩ | exact ⟨trivial, Nat.le_of_ble_eq_true rfl, trivial⟩ | exact ⟨Nat.le_of_ble_eq_true rfl, trivial, trivial⟩)
  · rename_i d0
    apply exEn d0; refine ⟨[], [], h, ?_⟩
    repeat' (first | exact trivial | exact ⟨trivial⟩ | exact Side.mk rfl | exact sF1 rfl | exact Chk.mk (by kernel_rfl) | exact ⟨Chk.mk (by kernel_rfl)⟩ | refine And.intro ?_ ?_ | rfl)
set_option maxHeartbeats 4000000 in
theorem c_DrawCertLike (bs : List Int) (hb : Code8 bs) : Con PP 14 [.one (.fz (bs.map u8))] [] 0 (fun d : Entry × Entry => (d.1.ok 30 ∧ d.1.int) ∧ d.2.ok 30 ∧ d.2.int) (fun d => .tup [.agg d.1.cells, .agg d.2.cells]) (fun _ => []) := by
  refine Con.vc [(7, .con false [] [] [] sEnt), (9, .con false [] [] [] sEnt), (15, .row (u8 (bs.getD 0 0))), (900005, .row [i6 0, i6 1, i6 2, i6 3])] TTok hmo Go.Proofs.Tryd.func14 rfl (by kernel_rfl) rfl (by kernel_rfl) ?_
  repeat' (first | refine And.intro ?_ ?_ | exact tf | exact ft | refine tt ?_ | refine ff ?_ | exact ⟨trivial⟩ | exact sAll rfl | exact sF1 rfl | exact sBld (by repeat' (first | exact trivial | rfl | exact Nat.le_of_ble_eq_true rfl | refine And.intro ?_ ?_)) rfl | exact sBS (by repeat' (first | exact trivial | rfl | exact Nat.le_of_ble_eq_true rfl | refine And.intro ?_ ?_)) rfl rfl rfl rfl | exact sBSF (by repeat' (first | exact trivial | rfl | exact Nat.le_of_ble_eq_true rfl | refine And.intro ?_ ?_)) rfl rfl rfl rfl | exact sLe rfl | exact Chk.mk (by kernel_rfl) | exact ⟨Chk.mk (by kernel_rfl)⟩ | exact sLeEq rfl rfl | refine fun h => ?_)
  all_goals dsimp only [sEnt] at *
  all_goals try (exact ⟨fun _ _ => trivial⟩)
  all_goals try (exact ⟨fun _ _ => ⟨trivial, trivial⟩⟩)
  all_goals try (exact ⟨c_DrawCertEntry bs hb⟩)
  all_goals try (first | exact ⟨trivial, trivial⟩ | exact ⟨Nat.le_of_ble_eq_true rfl, trivial⟩ | exact ⟨trivial, Nat.le_of_ble_eq_true rfl, trivial⟩ | exact ⟨Nat.le_of_ble_eq_true rfl, trivial, trivial⟩)
  all_goals try (exact Side.mk ⟨Nat.le_of_ble_eq_true rfl, Nat.le_of_ble_eq_true rfl, trivial⟩)
  all_goals try (exact sRow (by decide) (u8_at (k := 0) (by decide) (by have h := of_decide_eq_true h; rw [List.length_map] at h; exact h)) rfl)
  all_goals try (exact Side.mk (show (2 : Int) ≠ 0 by decide))
  all_goals try (exact ⟨rfl⟩)
  all_goals try (exact ⟨trivial⟩)
  all_goals try (exact trivial)
  all_goals first
    | (rename_i a ha b hb' c; apply exEE a ⟨b.none, ⟨b.q.a, IntKind.i64.wrap (b.q.b + 1)⟩, b.run⟩; refine ⟨[], [], ⟨ha, hb'.1, ⟨⟨hb'.2.q.1, I6.wrap _⟩, hb'.2.r, hb'.2.p, hb'.2.c, hb'.2.d⟩⟩, ?_⟩; (focus (repeat' (first | exact trivial | exact ⟨trivial⟩ | exact Side.mk rfl | exact sF1 rfl | exact Chk.mk (by kernel_rfl) | exact ⟨Chk.mk (by kernel_rfl)⟩ | refine And.intro ?_ ?_ | rfl))); done)
    | (rename_i a ha b hb' c; apply exEE a b; refine ⟨[], [], ⟨ha, hb'⟩, ?_⟩; (focus (repeat' (first | exact trivial | exact ⟨trivial⟩ | exact Side.mk rfl | exact sF1 rfl | exact Chk.mk (by kernel_rfl) | exact ⟨Chk.mk (by kernel_rfl)⟩ | refine And.intro ?_ ?_ | rfl))); done)
    | (rename_i a ha b hb'; apply exEE a b; refine ⟨[], [], ⟨ha, hb'⟩, ?_⟩; (focus (repeat' (first | exact trivial | exact ⟨trivial⟩ | exact Side.mk rfl | exact sF1 rfl | exact Chk.mk (by kernel_rfl) | exact ⟨Chk.mk (by kernel_rfl)⟩ | refine And.intro ?_ ?_ | rfl))); done)
    | skip
end Mg

/- The law of messages, walked. No condition. -/
namespace Mg
open Go Go.RowKit Go.Lib
set_option maxRecDepth 100000
set_option linter.unusedVariables false
set_option linter.unusedSimpArgs false
attribute [local irreducible] W Pure Con
theorem exMM {Q : Msg × Msg → Prop} (a b : Msg) (h : Q (a, b)) : ∃ d, Q d := ⟨_, h⟩
set_option maxHeartbeats 4000000 in
theorem c_DrawMsgSame (bs : List Int) (hb : Code8 bs) : Con PP 28 [.one (.fz (bs.map u8))] [] 0 (fun d : Msg × Msg => DM d.1 ∧ DM d.2) (fun d => .tup [.agg d.1.cells, .agg d.2.cells]) (fun _ => []) := by
  refine Con.vc [(7, .con false [] [] [] sOpen), (8, .con false [2] [] [] sMsg), (10, .con false [] [] [] sOpen), (11, .con false [4] [] [] sMsg), (17, .row (u8 (bs.getD 0 0))), (900005, .row [i6 0, i6 1, i6 2, i6 3])] TTok hmo Go.Proofs.Tryd.func28 rfl (by kernel_rfl) rfl (by kernel_rfl) ?_
  repeat' (first | refine And.intro ?_ ?_ | exact tf | exact ft | refine tt ?_ | refine ff ?_ | exact ⟨trivial⟩ | exact sAll rfl | exact sF1 rfl | exact sBld (by repeat' (first | exact trivial | rfl | exact Nat.le_of_ble_eq_true rfl | refine And.intro ?_ ?_)) rfl | exact sBS (by repeat' (first | exact trivial | rfl | exact Nat.le_of_ble_eq_true rfl | refine And.intro ?_ ?_)) rfl rfl rfl rfl | exact sBSF (by repeat' (first | exact trivial | rfl | exact Nat.le_of_ble_eq_true rfl | refine And.intro ?_ ?_)) rfl rfl rfl rfl | exact sLe rfl | exact Chk.mk (by kernel_rfl) | exact ⟨Chk.mk (by kernel_rfl)⟩ | exact sLeEq rfl rfl | refine fun h => ?_)
  all_goals dsimp only [sOpen, sMsg] at *
  all_goals try (exact ⟨fun _ _ => trivial⟩)
  all_goals try (exact ⟨fun _ _ => ⟨trivial, trivial⟩⟩)
  all_goals try (exact ⟨c_l15Open bs hb⟩)
  all_goals try (exact ⟨c_l7Msg _ ‹_› _ (by omega) (by omega)⟩)
  all_goals try (first | exact ⟨trivial, trivial⟩ | exact ⟨Nat.le_of_ble_eq_true rfl, trivial⟩ | exact ⟨trivial, Nat.le_of_ble_eq_true rfl, trivial⟩ | exact ⟨Nat.le_of_ble_eq_true rfl, trivial, trivial⟩)
  all_goals try (exact Side.mk ⟨Nat.le_of_ble_eq_true rfl, Nat.le_of_ble_eq_true rfl, trivial⟩)
  all_goals try (exact sRow (by decide) (u8_at (k := 0) (by decide) (by have h := of_decide_eq_true h; rw [List.length_map] at h; exact h)) rfl)
  all_goals try (exact Side.mk (show (2 : Int) ≠ 0 by decide))
  all_goals try (exact ⟨rfl⟩)
  all_goals try (exact ⟨trivial⟩)
  all_goals try (exact trivial)
  all_goals first
    | (rename_i o1 b1 a ha o2 b2 b hb' c; apply exMM a.1 ⟨b.1.kind, b.1.src, b.1.dst, b.1.bal, IntKind.i64.wrap (b.1.slot + 1), b.1.e, b.1.votes⟩; refine ⟨[], [], ⟨ha.1, hb'.1⟩, ?_⟩; (focus (repeat' (first | exact trivial | exact ⟨trivial⟩ | exact Side.mk rfl | exact sF1 rfl | exact Chk.mk (by kernel_rfl) | exact ⟨Chk.mk (by kernel_rfl)⟩ | refine And.intro ?_ ?_ | rfl))); done)
    | (rename_i o1 b1 a ha o2 b2 b hb' c; apply exMM a.1 b.1; refine ⟨[], [], ⟨ha.1, hb'.1⟩, ?_⟩; (focus (repeat' (first | exact trivial | exact ⟨trivial⟩ | exact Side.mk rfl | exact sF1 rfl | exact Chk.mk (by kernel_rfl) | exact ⟨Chk.mk (by kernel_rfl)⟩ | refine And.intro ?_ ?_ | rfl))); done)
    | (rename_i o1 b1 a ha o2 b2 b hb'; apply exMM a.1 b.1; refine ⟨[], [], ⟨ha.1, hb'.1⟩, ?_⟩; (focus (repeat' (first | exact trivial | exact ⟨trivial⟩ | exact Side.mk rfl | exact sF1 rfl | exact Chk.mk (by kernel_rfl) | exact ⟨Chk.mk (by kernel_rfl)⟩ | refine And.intro ?_ ?_ | rfl))); done)
    | skip
theorem c_iSame (a b : Msg) (ha : a.ok lim) (hb : b.ok lim) {c : Bool} (e : decide (a = b) = c) : Pure PP false 29 [.agg a.cells, .agg b.cells] (ob c) := e ▸ c_impl_MsgSame a b ha hb
theorem c_sSame (a b : Msg) (ha : a.ok lim) (hb : b.ok lim) {c : Bool} (e : decide (a = b) = c) : Pure PP false 30 [.agg a.cells, .agg b.cells] (ob c) := e ▸ c_spec_MsgSame a b ha hb
def sMsg2 (ds : List MV) (os : List Ob) : ConT := ⟨Msg × Msg, fun d => DM d.1 ∧ DM d.2, fun d => .tup [.agg d.1.cells, .agg d.2.cells], fun _ => []⟩
theorem text_cmp {a b : Msg} (ha : mOk a = true) (hb : mOk b = true) : ((str (msgText a)).toList == (str (msgText b)).toList) = decide (a = b) := by
  rw [toList_str, toList_str, Bool.eq_iff_iff]
  simp [msg_inj ha hb]
set_option maxHeartbeats 16000000 in
theorem c_FnMsg (bs ms : List Int) (hb : Code8 bs) (hm : Code8 ms) : Con PP 8 [.one (.fz (bs.map u8)), .one (.fz (ms.map u8))] [] 0 (fun _ : Unit => True) (fun _ => ob true) (fun _ => []) := by
  refine Con.vc [(18, .con false [] [] [] sMsg2), (22, .con false [] [] [] sMsgD), (800005, .row [])] TTok hmo Go.Proofs.Tryd.func8 rfl (by kernel_rfl) rfl (by kernel_rfl) ?_
  repeat' (first | refine And.intro ?_ ?_ | exact tf | exact ft | refine tt ?_ | refine ff ?_ | exact ⟨trivial⟩ | exact sAll rfl | exact sF1 rfl | exact sBld (by repeat' (first | exact trivial | rfl | exact Nat.le_of_ble_eq_true rfl | refine And.intro ?_ ?_)) rfl | exact sBS (by repeat' (first | exact trivial | rfl | exact Nat.le_of_ble_eq_true rfl | refine And.intro ?_ ?_)) rfl rfl rfl rfl | exact sBSF (by repeat' (first | exact trivial | rfl | exact Nat.le_of_ble_eq_true rfl | refine And.intro ?_ ?_)) rfl rfl rfl rfl | exact sLe rfl | exact Chk.mk (by kernel_rfl) | exact ⟨Chk.mk (by kernel_rfl)⟩ | exact sLeEq rfl rfl | refine fun h => ?_)
  all_goals try dsimp only [sMsgD, sMsg2] at *
  all_goals try (exact ⟨fun _ _ => trivial⟩)
  all_goals try (exact ⟨c_DrawMsgSame bs hb⟩)
  all_goals try (exact ⟨c_DrawMsgText ms hm⟩)
  all_goals try (first | exact ⟨trivial, trivial⟩ | exact ⟨Nat.le_of_ble_eq_true rfl, trivial⟩ | exact ⟨trivial, Nat.le_of_ble_eq_true rfl, trivial⟩ | exact ⟨Nat.le_of_ble_eq_true rfl, trivial, trivial⟩)
  all_goals try (apply exU2; refine ⟨[], [], trivial, ?_⟩; focus (repeat' (first | exact trivial | exact ⟨trivial⟩ | exact Side.mk rfl | exact sF1 rfl | exact Chk.mk (by kernel_rfl) | exact ⟨Chk.mk (by kernel_rfl)⟩ | refine And.intro ?_ ?_ | rfl)))
  rename_i d hd c
  revert h
  revert c
  revert hd
  revert d
  show ∀ d : Msg × Msg, DM d.1 ∧ DM d.2 → ∀ c : Msg, DM c → _
  rintro ⟨a, b⟩ ⟨da, db⟩ c dc
  dsimp only at da db
  have oa := DM.lim da
  have ob' := DM.lim db
  have oc := DM.lim dc
  have oaa : decide (a = a) = true := by simp
  have hcomm : decide (a = c) = decide (c = a) := decide_eq_decide.2 eq_comm
  cases ha : mOk a with
  | false =>
    refine W.go [(24, .res (os (msgText a))), (26, .res (os (msgText a))), (30, .res (os (msgText c))), (32, .res (os (msgText c))), (37, .res (ob false)), (39, .res (ob false)), (45, .res (ob (decide (a = b)))), (48, .res (ob (decide (a = b)))), (54, .res (ob true)), (58, .res (ob false)), (61, .res (os []))] TTok hmo ?_
    repeat' (first | refine And.intro ?_ ?_ | exact tf | exact ft | refine tt ?_ | refine ff ?_ | exact ⟨trivial⟩ | exact sAll rfl | exact sF1 rfl | exact sBld (by repeat' (first | exact trivial | rfl | exact Nat.le_of_ble_eq_true rfl | refine And.intro ?_ ?_)) rfl | exact sBS (by repeat' (first | exact trivial | rfl | exact Nat.le_of_ble_eq_true rfl | refine And.intro ?_ ?_)) rfl rfl rfl rfl | exact sBSF (by repeat' (first | exact trivial | rfl | exact Nat.le_of_ble_eq_true rfl | refine And.intro ?_ ?_)) rfl rfl rfl rfl | exact sLe rfl | exact Chk.mk (by kernel_rfl) | exact ⟨Chk.mk (by kernel_rfl)⟩ | exact sLeEq rfl rfl | exact sAnd (by repeat' constructor) (c_impl_MsgText a oa) | exact sAnd (by repeat' constructor) (c_spec_MsgText a oa) | exact sAnd (by repeat' constructor) (c_impl_MsgText c oc) | exact sAnd (by repeat' constructor) (c_spec_MsgText c oc) | exact sAnd (by repeat' constructor) (c_iOk a oa ha) | exact sAnd (by repeat' constructor) (c_sOk a oa ha) | exact sAnd (by repeat' constructor) (c_iSame a b oa ob' rfl) | exact sAnd (by repeat' constructor) (c_sSame a b oa ob' rfl) | exact sAnd (by repeat' constructor) (c_iSame a a oa oa oaa) | exact sAnd (by repeat' constructor) (text_no ha ▸ c_impl_MsgText a oa) | refine fun h => ?_)
    all_goals first
      | (exfalso; simp_all; done)
      | exact ⟨trivial, trivial⟩
      | (apply exU2; refine ⟨[], [], trivial, ?_⟩; (focus (repeat' (first | exact trivial | exact ⟨trivial⟩ | exact Side.mk rfl | exact sF1 rfl | exact Chk.mk (by kernel_rfl) | exact ⟨Chk.mk (by kernel_rfl)⟩ | exact ⟨by simp only [lit1, lit2, beq_self_eq_true]⟩ | refine And.intro ?_ ?_ | rfl))); done)
  | true =>
  have aa : ((str (msgText a)).toList == (str (msgText a)).toList) = true := beq_self_eq_true _
  have cc : ((str (msgText c)).toList == (str (msgText c)).toList) = true := beq_self_eq_true _
  cases hb2 : mOk b with
  | false =>
    refine W.go [(24, .res (os (msgText a))), (26, .res (os (msgText a))), (30, .res (os (msgText c))), (32, .res (os (msgText c))), (37, .res (ob true)), (39, .res (ob true)), (45, .res (ob (decide (a = b)))), (48, .res (ob (decide (a = b)))), (54, .res (ob true)), (58, .res (ob true)), (64, .res (ob false))] TTok hmo ?_
    repeat' (first | refine And.intro ?_ ?_ | exact tf | exact ft | refine tt ?_ | refine ff ?_ | exact ⟨trivial⟩ | exact sAll rfl | exact sF1 rfl | exact sBld (by repeat' (first | exact trivial | rfl | exact Nat.le_of_ble_eq_true rfl | refine And.intro ?_ ?_)) rfl | exact sBS (by repeat' (first | exact trivial | rfl | exact Nat.le_of_ble_eq_true rfl | refine And.intro ?_ ?_)) rfl rfl rfl rfl | exact sBSF (by repeat' (first | exact trivial | rfl | exact Nat.le_of_ble_eq_true rfl | refine And.intro ?_ ?_)) rfl rfl rfl rfl | exact sLe rfl | exact Chk.mk (by kernel_rfl) | exact ⟨Chk.mk (by kernel_rfl)⟩ | exact sLeEq rfl rfl | exact sAnd (by repeat' constructor) (c_impl_MsgText a oa) | exact sAnd (by repeat' constructor) (c_spec_MsgText a oa) | exact sAnd (by repeat' constructor) (c_impl_MsgText c oc) | exact sAnd (by repeat' constructor) (c_spec_MsgText c oc) | exact sAnd (by repeat' constructor) (c_iOk a oa ha) | exact sAnd (by repeat' constructor) (c_sOk a oa ha) | exact sAnd (by repeat' constructor) (c_sOk b ob' hb2) | exact sAnd (by repeat' constructor) (c_iSame a b oa ob' rfl) | exact sAnd (by repeat' constructor) (c_sSame a b oa ob' rfl) | exact sAnd (by repeat' constructor) (c_iSame a a oa oa oaa) | refine fun h => ?_)
    all_goals first
      | (exfalso; simp_all; done)
      | exact ⟨trivial, trivial⟩
      | (apply exU2; refine ⟨[], [], trivial, ?_⟩; (focus (repeat' (first | exact trivial | exact ⟨trivial⟩ | exact Side.mk rfl | exact sF1 rfl | exact Chk.mk (by kernel_rfl) | exact ⟨Chk.mk (by kernel_rfl)⟩ | refine And.intro ?_ ?_ | rfl))); done)
  | true =>
  cases hc2 : mOk c with
  | false =>
    refine W.go [(24, .res (os (msgText a))), (26, .res (os (msgText a))), (30, .res (os (msgText c))), (32, .res (os (msgText c))), (37, .res (ob true)), (39, .res (ob true)), (45, .res (ob (decide (a = b)))), (48, .res (ob (decide (a = b)))), (54, .res (ob true)), (58, .res (ob true)), (64, .res (ob true)), (68, .res (ob false))] TTok hmo ?_
    repeat' (first | refine And.intro ?_ ?_ | exact tf | exact ft | refine tt ?_ | refine ff ?_ | exact ⟨trivial⟩ | exact sAll rfl | exact sF1 rfl | exact sBld (by repeat' (first | exact trivial | rfl | exact Nat.le_of_ble_eq_true rfl | refine And.intro ?_ ?_)) rfl | exact sBS (by repeat' (first | exact trivial | rfl | exact Nat.le_of_ble_eq_true rfl | refine And.intro ?_ ?_)) rfl rfl rfl rfl | exact sBSF (by repeat' (first | exact trivial | rfl | exact Nat.le_of_ble_eq_true rfl | refine And.intro ?_ ?_)) rfl rfl rfl rfl | exact sLe rfl | exact Chk.mk (by kernel_rfl) | exact ⟨Chk.mk (by kernel_rfl)⟩ | exact sLeEq rfl rfl | exact sAnd (by repeat' constructor) (c_impl_MsgText a oa) | exact sAnd (by repeat' constructor) (c_spec_MsgText a oa) | exact sAnd (by repeat' constructor) (c_impl_MsgText c oc) | exact sAnd (by repeat' constructor) (c_spec_MsgText c oc) | exact sAnd (by repeat' constructor) (c_iOk a oa ha) | exact sAnd (by repeat' constructor) (c_sOk a oa ha) | exact sAnd (by repeat' constructor) (c_sOk b ob' hb2) | exact sAnd (by repeat' constructor) (c_sOk c oc hc2) | exact sAnd (by repeat' constructor) (c_iSame a b oa ob' rfl) | exact sAnd (by repeat' constructor) (c_sSame a b oa ob' rfl) | exact sAnd (by repeat' constructor) (c_iSame a a oa oa oaa) | refine fun h => ?_)
    all_goals first
      | (exfalso; simp_all; done)
      | exact ⟨trivial, trivial⟩
      | (apply exU2; refine ⟨[], [], trivial, ?_⟩; (focus (repeat' (first | exact trivial | exact ⟨trivial⟩ | exact Side.mk rfl | exact sF1 rfl | exact Chk.mk (by kernel_rfl) | exact ⟨Chk.mk (by kernel_rfl)⟩ | refine And.intro ?_ ?_ | rfl))); done)
  | true =>
    have t1 := text_cmp ha hb2
    have t2 := text_cmp ha hc2
    have hcm : decide (c = a) = decide (a = c) := decide_eq_decide.2 eq_comm
    refine W.go [(24, .res (os (msgText a))), (26, .res (os (msgText a))), (30, .res (os (msgText c))), (32, .res (os (msgText c))), (37, .res (ob true)), (39, .res (ob true)), (45, .res (ob (decide (a = b)))), (48, .res (ob (decide (a = b)))), (54, .res (ob true)), (58, .res (ob true)), (64, .res (ob true)), (68, .res (ob true)),
      (73, .res (ob (decide (a = b)))), (75, .res (os (msgText a))), (77, .res (os (msgText b))), (83, .res (ob (decide (a = c)))), (85, .res (os (msgText a))), (87, .res (os (msgText c))), (94, .res (ob (decide (a = c)))), (97, .res (ob (decide (a = c))))] TTok hmo ?_
    repeat' (first | refine And.intro ?_ ?_ | exact tf | exact ft | refine tt ?_ | refine ff ?_ | exact ⟨trivial⟩ | exact sAll rfl | exact sF1 rfl | exact sBld (by repeat' (first | exact trivial | rfl | exact Nat.le_of_ble_eq_true rfl | refine And.intro ?_ ?_)) rfl | exact sBS (by repeat' (first | exact trivial | rfl | exact Nat.le_of_ble_eq_true rfl | refine And.intro ?_ ?_)) rfl rfl rfl rfl | exact sBSF (by repeat' (first | exact trivial | rfl | exact Nat.le_of_ble_eq_true rfl | refine And.intro ?_ ?_)) rfl rfl rfl rfl | exact sLe rfl | exact Chk.mk (by kernel_rfl) | exact ⟨Chk.mk (by kernel_rfl)⟩ | exact sLeEq rfl rfl | exact sAnd (by repeat' constructor) (c_impl_MsgText a oa) | exact sAnd (by repeat' constructor) (c_spec_MsgText a oa) | exact sAnd (by repeat' constructor) (c_impl_MsgText b ob') | exact sAnd (by repeat' constructor) (c_impl_MsgText c oc) | exact sAnd (by repeat' constructor) (c_spec_MsgText c oc) | exact sAnd (by repeat' constructor) (c_iOk a oa ha) | exact sAnd (by repeat' constructor) (c_sOk a oa ha) | exact sAnd (by repeat' constructor) (c_sOk b ob' hb2) | exact sAnd (by repeat' constructor) (c_sOk c oc hc2) | exact sAnd (by repeat' constructor) (c_iSame a b oa ob' rfl) | exact sAnd (by repeat' constructor) (c_sSame a b oa ob' rfl) | exact sAnd (by repeat' constructor) (c_iSame a a oa oa oaa) | exact sAnd (by repeat' constructor) (c_iSame a c oa oc rfl) | exact sAnd (by repeat' constructor) (c_iSame c a oc oa hcm) | refine fun h => ?_)
    all_goals first
      | (exfalso; simp_all; done)
      | exact ⟨trivial, trivial⟩
      | (apply exU2; refine ⟨[], [], trivial, ?_⟩; (focus (repeat' (first | exact trivial | exact ⟨trivial⟩ | exact Side.mk rfl | exact sF1 rfl | exact Chk.mk (by kernel_rfl) | exact ⟨Chk.mk (by kernel_rfl)⟩ | exact ⟨by simp [t1, t2]⟩ | refine And.intro ?_ ?_ | rfl))); done)
      | skip
end Mg
