/- Parts of the abstract state logic and of the walks, one behind the other: B1, B2, B4, B7, B8, BC, BD. No condition. -/
import Derived.Test.YtedgmfmhilihoaaP21
import Derived.Test.YtedgmfmhilihoaaP7
import Derived.Test.YtedgmfmhilihoaaP13
import Derived.Test.YtedgmfmhilihoaaP12
/- Copies in the program's own way. No condition. -/
namespace Mg
open Go Go.RowKit
set_option maxRecDepth 100000
set_option linter.unusedVariables false
set_option linter.unusedSimpArgs false
attribute [local irreducible] W Pure Con
theorem sCp {α : Type} {c : α → List MC} {xs : List α} {z : List MC} {n k m : Nat} {rows2 : List (List MC)} (e : rows2 = xs.map c) (hn : n = xs.length) (hk : k = xs.length) (h0 : 0 < xs.length) (hz : z.length = m) (hc : ∀ x, (c x).length = m) :
    Side (n = (List.replicate k z).length ∧ rows2.length = (List.replicate k z).length ∧ 0 < (List.replicate k z).length ∧ (∀ r ∈ List.replicate k z, r.length = m) ∧ (∀ r ∈ rows2, r.length = m)) := by
  subst e
  refine ⟨by simp [hn, hk], by simp [hk], by simp [hk, h0], fun r hr => by rw [List.eq_of_mem_replicate hr, hz], fun r hr => by obtain ⟨x, _, rfl⟩ := List.mem_map.1 hr; exact hc x⟩
theorem sMk {α : Type} {c : α → List MC} {xs : List α} {b : Nat} (hx : xs.length ≤ 1048576) (hb : Nat.ble b 1000000 = true) :
    Side ((0 : Int) ≤ ((xs.map c).length : Int) ∧ ((xs.map c).length : Int) ≤ 281474976710656 ∧ (b : Int) * ((xs.map c).length : Int) ≤ 281474976710656) := by
  have hb' := Nat.le_of_ble_eq_true hb
  rw [List.length_map]
  refine ⟨by omega, by omega, ?_⟩
  have : b * xs.length ≤ 1000000 * 1048576 := Nat.mul_le_mul hb' hx
  have h2 : ((b * xs.length : Nat) : Int) ≤ 1000000 * 1048576 := by omega
  rw [← Int.natCast_mul]; omega
theorem c_copied_Read (xs : List Two) (hx : xs.length ≤ lim) : Pure PP false 110 [.one (.fz (xs.map Two.cells))] (.one (.fz (xs.map Two.cells))) := by
  have hx0 : xs.length ≤ 1048576 := hx
  refine Pure.vc [] TTok hmo Go.Proofs.Try.func110 (by kernel_rfl) rfl (by kernel_rfl) ?_
  repeat' (first | refine And.intro ?_ ?_ | exact tf | exact ft | refine tt ?_ | refine ff ?_ | exact ⟨trivial⟩ | exact sAll rfl | exact sF1 rfl | exact sBld (by repeat' (first | exact trivial | rfl | exact Nat.le_of_ble_eq_true rfl | refine And.intro ?_ ?_)) rfl | exact sBS (by repeat' (first | exact trivial | rfl | exact Nat.le_of_ble_eq_true rfl | refine And.intro ?_ ?_)) rfl rfl rfl rfl | exact sBSF (by repeat' (first | exact trivial | rfl | exact Nat.le_of_ble_eq_true rfl | refine And.intro ?_ ?_)) rfl rfl rfl rfl | exact sLe rfl | exact Chk.mk (by kernel_rfl) | exact ⟨Chk.mk (by kernel_rfl)⟩ | exact sLeEq rfl rfl | refine fun h => ?_)
  · have h0 : xs = [] := by simp at h; exact h
    subst h0
    exact ⟨⟨trivial, trivial⟩, rfl, trivial⟩
  · exact sMk hx0 rfl
  · have h0 : 0 < xs.length := Nat.pos_of_ne_zero (fun e => by rw [List.length_map, e] at h; revert h; decide)
    exact sCp (toA_map fun _ => rfl) (by simp) (by simp) h0 rfl (fun _ => rfl)
  · have e := toA_map (c := Two.cells) (xs := xs) fun _ => rfl
    refine ⟨⟨trivial, trivial⟩, ⟨?_, ?_⟩, trivial⟩
    · rw [e]; exact l_all (by simp)
    · rw [e]; exact allF Two.frz
theorem c_copied_Put (xs : List Two) (hx : xs.length ≤ lim) : Pure PP false 111 [.one (.fz (xs.map Two.cells))] (.one (.fz (xs.map Two.cells))) := by
  have hx0 : xs.length ≤ 1048576 := hx
  refine Pure.vc [] TTok hmo Go.Proofs.Try.func111 (by kernel_rfl) rfl (by kernel_rfl) ?_
  repeat' (first | refine And.intro ?_ ?_ | exact tf | exact ft | refine tt ?_ | refine ff ?_ | exact ⟨trivial⟩ | exact sAll rfl | exact sF1 rfl | exact sBld (by repeat' (first | exact trivial | rfl | exact Nat.le_of_ble_eq_true rfl | refine And.intro ?_ ?_)) rfl | exact sBS (by repeat' (first | exact trivial | rfl | exact Nat.le_of_ble_eq_true rfl | refine And.intro ?_ ?_)) rfl rfl rfl rfl | exact sBSF (by repeat' (first | exact trivial | rfl | exact Nat.le_of_ble_eq_true rfl | refine And.intro ?_ ?_)) rfl rfl rfl rfl | exact sLe rfl | exact Chk.mk (by kernel_rfl) | exact ⟨Chk.mk (by kernel_rfl)⟩ | exact sLeEq rfl rfl | refine fun h => ?_)
  · have h0 : xs = [] := by simp at h; exact h
    subst h0
    exact ⟨⟨trivial, trivial⟩, rfl, trivial⟩
  · exact sMk hx0 rfl
  · have h0 : 0 < xs.length := Nat.pos_of_ne_zero (fun e => by rw [List.length_map, e] at h; revert h; decide)
    exact sCp (toA_map fun _ => rfl) (by simp) (by simp) h0 rfl (fun _ => rfl)
  · have e := toA_map (c := Two.cells) (xs := xs) fun _ => rfl
    refine ⟨⟨trivial, trivial⟩, ⟨?_, ?_⟩, trivial⟩
    · rw [e]; exact l_all (by simp)
    · rw [e]; exact allF Two.frz
theorem c_runCopy (x : Run) (hx : x.ok lim) : Pure PP false 99 [.agg x.cells] (.agg x.cells) := by
  refine Pure.vc [(5, .res (.one (.fz (x.reads.map Two.cells)))), (8, .res (.one (.fz (x.puts.map Two.cells))))] TTok hmo Go.Proofs.Try.func99 (by kernel_rfl) rfl (by kernel_rfl) ?_
  repeat' (first | refine And.intro ?_ ?_ | exact tf | exact ft | refine tt ?_ | refine ff ?_ | exact ⟨trivial⟩ | exact sAll rfl | exact sF1 rfl | exact sBld (by repeat' (first | exact trivial | rfl | exact Nat.le_of_ble_eq_true rfl | refine And.intro ?_ ?_)) rfl | exact sBS (by repeat' (first | exact trivial | rfl | exact Nat.le_of_ble_eq_true rfl | refine And.intro ?_ ?_)) rfl rfl rfl rfl | exact sBSF (by repeat' (first | exact trivial | rfl | exact Nat.le_of_ble_eq_true rfl | refine And.intro ?_ ?_)) rfl rfl rfl rfl | exact sLe rfl | exact Chk.mk (by kernel_rfl) | exact ⟨Chk.mk (by kernel_rfl)⟩ | exact sLeEq rfl rfl | exact sAnd (by repeat' constructor) (c_copied_Read _ hx.1) | exact sAnd (by repeat' constructor) (c_copied_Put _ hx.2) | refine fun h => ?_)
  all_goals exact ⟨⟨Nat.le_of_ble_eq_true rfl, trivial⟩, rfl, rfl, rfl, rfl, trivial⟩
theorem c_entryCopy (e : Entry) (he : e.ok lim) : Pure PP false 73 [.agg e.cells] (.agg e.cells) := by
  refine Pure.vc [(9, .res (.agg e.run.cells))] TTok hmo Go.Proofs.Try.func73 (by kernel_rfl) rfl (by kernel_rfl) ?_
  repeat' (first | refine And.intro ?_ ?_ | exact tf | exact ft | refine tt ?_ | refine ff ?_ | exact ⟨trivial⟩ | exact sAll rfl | exact sF1 rfl | exact sBld (by repeat' (first | exact trivial | rfl | exact Nat.le_of_ble_eq_true rfl | refine And.intro ?_ ?_)) rfl | exact sBS (by repeat' (first | exact trivial | rfl | exact Nat.le_of_ble_eq_true rfl | refine And.intro ?_ ?_)) rfl rfl rfl rfl | exact sBSF (by repeat' (first | exact trivial | rfl | exact Nat.le_of_ble_eq_true rfl | refine And.intro ?_ ?_)) rfl rfl rfl rfl | exact sLe rfl | exact Chk.mk (by kernel_rfl) | exact ⟨Chk.mk (by kernel_rfl)⟩ | exact sLeEq rfl rfl | exact sAnd (by repeat' constructor) (c_runCopy _ he) | refine fun h => ?_)
  all_goals exact ⟨⟨Nat.le_of_ble_eq_true rfl, trivial⟩, rfl, rfl, rfl, rfl, rfl, rfl, rfl, trivial⟩
theorem exU' {Q : Unit → Prop} (h : Q ()) : ∃ d, Q d := ⟨_, h⟩
theorem c_copied_nil : Con PP 102 [.one (.fz [])] [] 0 (fun _ : Unit => True) (fun _ => .one (.fz [])) (fun _ => []) := by
  refine Con.vc [] TTok hmo Go.Proofs.Try.func102 rfl (by kernel_rfl) rfl (by kernel_rfl) ?_
  repeat' (first | refine And.intro ?_ ?_ | exact tf | exact ft | refine tt ?_ | refine ff ?_ | exact ⟨trivial⟩ | exact sAll rfl | exact sF1 rfl | exact sBld (by repeat' (first | exact trivial | rfl | exact Nat.le_of_ble_eq_true rfl | refine And.intro ?_ ?_)) rfl | exact sBS (by repeat' (first | exact trivial | rfl | exact Nat.le_of_ble_eq_true rfl | refine And.intro ?_ ?_)) rfl rfl rfl rfl | exact sBSF (by repeat' (first | exact trivial | rfl | exact Nat.le_of_ble_eq_true rfl | refine And.intro ?_ ?_)) rfl rfl rfl rfl | exact sLe rfl | exact Chk.mk (by kernel_rfl) | exact ⟨Chk.mk (by kernel_rfl)⟩ | exact sLeEq rfl rfl | refine fun h => ?_)
  all_goals try (first | exact ⟨trivial, trivial⟩ | exact ⟨Nat.le_of_ble_eq_true rfl, trivial⟩ | exact ⟨trivial, Nat.le_of_ble_eq_true rfl, trivial⟩ | exact ⟨Nat.le_of_ble_eq_true rfl, trivial, trivial⟩)
  · apply exU'; refine ⟨[], [], trivial, ?_⟩
    repeat' (first | exact trivial | exact ⟨trivial⟩ | exact Side.mk rfl | exact sF1 rfl | exact Chk.mk (by kernel_rfl) | exact ⟨Chk.mk (by kernel_rfl)⟩ | refine And.intro ?_ ?_ | rfl)
  all_goals (exfalso; revert h; decide)
theorem c_copied_Vote (vs : List Vote) (hx : vs.length ≤ lim) (h0 : 0 < vs.length) : Con PP 102 [.one (.fz (vs.map Vote.cells))] [] 0 (fun _ : Unit => True) (fun _ => .one (.ref 0 0 vs.length)) (fun _ => [.arr (vs.map Vote.cells)]) := by
  have hx0 : vs.length ≤ 1048576 := hx
  refine Con.vc [] TTok hmo Go.Proofs.Try.func102 rfl (by kernel_rfl) rfl (by kernel_rfl) ?_
  repeat' (first | refine And.intro ?_ ?_ | exact tf | exact ft | refine tt ?_ | refine ff ?_ | exact ⟨trivial⟩ | exact sAll rfl | exact sF1 rfl | exact sBld (by repeat' (first | exact trivial | rfl | exact Nat.le_of_ble_eq_true rfl | refine And.intro ?_ ?_)) rfl | exact sBS (by repeat' (first | exact trivial | rfl | exact Nat.le_of_ble_eq_true rfl | refine And.intro ?_ ?_)) rfl rfl rfl rfl | exact sBSF (by repeat' (first | exact trivial | rfl | exact Nat.le_of_ble_eq_true rfl | refine And.intro ?_ ?_)) rfl rfl rfl rfl | exact sLe rfl | exact Chk.mk (by kernel_rfl) | exact ⟨Chk.mk (by kernel_rfl)⟩ | exact sLeEq rfl rfl | refine fun h => ?_)
  all_goals try (first | exact ⟨trivial, trivial⟩ | exact ⟨Nat.le_of_ble_eq_true rfl, trivial⟩ | exact ⟨trivial, Nat.le_of_ble_eq_true rfl, trivial⟩ | exact ⟨Nat.le_of_ble_eq_true rfl, trivial, trivial⟩)
  · exfalso; simp at h; rw [h] at h0; exact Nat.lt_irrefl _ h0
  · exact sMk hx0 rfl
  · exact sCp rfl (by simp) (by simp) h0 rfl (fun _ => rfl)
  · apply exU'; refine ⟨[], [], trivial, ?_⟩
    repeat' (first | exact trivial | exact ⟨trivial⟩ | exact Side.mk rfl | exact sF1 rfl | exact Chk.mk (by kernel_rfl) | exact ⟨Chk.mk (by kernel_rfl)⟩ | exact sMapF Vote.flat | refine And.intro ?_ ?_ | rfl)
    all_goals exact ⟨by simp⟩
theorem set_same {α : Type} [Inhabited α] {xs : List α} {k : Nat} (h : k < xs.length) : xs.set k (xs.getD k default) = xs := by
  rw [List.getD_eq_getElem?_getD, List.getElem?_eq_getElem h]
  exact List.set_getElem_self h
theorem sSame {α : Type} [Inhabited α] {c : α → List MC} {xs : List α} {k : Nat} {r : List MC} (hk : k < xs.length) (h : c (xs.getD k default) = r) : Side (xs.map c = (xs.map c).set (0 + k) r) :=
  ⟨by rw [← setMap (y := xs.getD k default) h, set_same hk]⟩
theorem sLdA {α : Type} [Inhabited α] {c : α → List MC} {xs : List α} {k off n : Nat} {cs : List MC} (h : k < xs.length) (hc : n ≤ ((c (xs.getD k default)).drop off).length) (he : ((c (xs.getD k default)).drop off).take n = cs) :
    Side (n ≤ (List.drop off ((xs.map c).getD (0 + k) [])).length ∧ MV.agg (List.take n (List.drop off ((xs.map c).getD (0 + k) []))) = MV.agg cs) := by
  rw [mapGet h, he]; exact ⟨⟨hc, rfl⟩⟩
def sCpV (n : Nat) (ds : List MV) (os : List Ob) : ConT := match ds with
  | [.one (.fz rows)] => ⟨Unit, fun _ => True, fun _ => .one (.ref 0 0 n), fun _ => [.arr rows]⟩
  | _ => noT
def sFz (ds : List MV) (os : List Ob) : ConT := match ds with
  | [.one (.fz rows)] => ⟨Unit, fun _ => True, fun _ => .one (.fz rows), fun _ => []⟩
  | _ => noT
theorem c_votesCopy (vs : List Vote) (hx : vs.length ≤ lim) (hv : VsOk lim vs) : Con PP 80 [.one (.fz (vs.map Vote.cells))] [] 0 (fun _ : Unit => True) (fun _ => .one (.fz (vs.map Vote.cells))) (fun _ => []) := by
  have hx0 : vs.length ≤ 1048576 := hx
  rcases Nat.eq_zero_or_pos vs.length with hz | hz
  · have h0 : vs = [] := List.eq_nil_of_length_eq_zero hz
    subst h0
    refine Con.vc [(6, .con false [] [] [] sFz)] TTok hmo Go.Proofs.Try.func80 rfl (by kernel_rfl) rfl (by kernel_rfl) ?_
    repeat' (first | refine And.intro ?_ ?_ | exact tf | exact ft | refine tt ?_ | refine ff ?_ | exact ⟨trivial⟩ | exact sAll rfl | exact sF1 rfl | exact sBld (by repeat' (first | exact trivial | rfl | exact Nat.le_of_ble_eq_true rfl | refine And.intro ?_ ?_)) rfl | exact sBS (by repeat' (first | exact trivial | rfl | exact Nat.le_of_ble_eq_true rfl | refine And.intro ?_ ?_)) rfl rfl rfl rfl | exact sBSF (by repeat' (first | exact trivial | rfl | exact Nat.le_of_ble_eq_true rfl | refine And.intro ?_ ?_)) rfl rfl rfl rfl | exact sLe rfl | exact Chk.mk (by kernel_rfl) | exact ⟨Chk.mk (by kernel_rfl)⟩ | exact sLeEq rfl rfl | refine fun h => ?_)
    · exact ⟨c_copied_nil⟩
    · exact ⟨fun _ _ => trivial⟩
    · exact ⟨fun _ _ => trivial⟩
    · refine W.loopC (D := Nat) (fun _ => []) TTok hmo (fun _ => ⟨24, 0, [(3, .one (.fz [])), (8, oi 0), (9, oi 0)], []⟩) (fun _ => 0) (fun _ => True) 0 [] trivial ?_ ?_
      · repeat' (first | exact trivial | exact ⟨trivial⟩ | exact Side.mk rfl | exact sF1 rfl | exact Chk.mk (by kernel_rfl) | exact ⟨Chk.mk (by kernel_rfl)⟩ | refine And.intro ?_ ?_ | rfl)
      · intro i _
        repeat' (first | refine And.intro ?_ ?_ | exact tf | exact ft | refine tt ?_ | refine ff ?_ | exact ⟨trivial⟩ | exact sAll rfl | exact sF1 rfl | exact sBld (by repeat' (first | exact trivial | rfl | exact Nat.le_of_ble_eq_true rfl | refine And.intro ?_ ?_)) rfl | exact sBS (by repeat' (first | exact trivial | rfl | exact Nat.le_of_ble_eq_true rfl | refine And.intro ?_ ?_)) rfl rfl rfl rfl | exact sBSF (by repeat' (first | exact trivial | rfl | exact Nat.le_of_ble_eq_true rfl | refine And.intro ?_ ?_)) rfl rfl rfl rfl | exact sLe rfl | exact Chk.mk (by kernel_rfl) | exact ⟨Chk.mk (by kernel_rfl)⟩ | exact sLeEq rfl rfl | refine fun h => ?_)
        all_goals try (exfalso; have hf := of_decide_eq_true ‹decide ((0 : Int) < 0) = true›; omega)
        all_goals try (first | exact ⟨trivial, trivial⟩ | exact ⟨Nat.le_of_ble_eq_true rfl, trivial⟩ | exact ⟨trivial, Nat.le_of_ble_eq_true rfl, trivial⟩ | exact ⟨Nat.le_of_ble_eq_true rfl, trivial, trivial⟩)
        · apply exU'; refine ⟨[], [], trivial, ?_⟩
          repeat' (first | exact trivial | exact ⟨trivial⟩ | exact Side.mk rfl | exact sF1 rfl | exact Chk.mk (by kernel_rfl) | exact ⟨Chk.mk (by kernel_rfl)⟩ | refine And.intro ?_ ?_ | rfl)
  · refine Con.vc [(6, .con false [] [] [] (sCpV vs.length))] TTok hmo Go.Proofs.Try.func80 rfl (by kernel_rfl) rfl (by kernel_rfl) ?_
    repeat' (first | refine And.intro ?_ ?_ | exact tf | exact ft | refine tt ?_ | refine ff ?_ | exact ⟨trivial⟩ | exact sAll rfl | exact sF1 rfl | exact sBld (by repeat' (first | exact trivial | rfl | exact Nat.le_of_ble_eq_true rfl | refine And.intro ?_ ?_)) rfl | exact sBS (by repeat' (first | exact trivial | rfl | exact Nat.le_of_ble_eq_true rfl | refine And.intro ?_ ?_)) rfl rfl rfl rfl | exact sBSF (by repeat' (first | exact trivial | rfl | exact Nat.le_of_ble_eq_true rfl | refine And.intro ?_ ?_)) rfl rfl rfl rfl | exact sLe rfl | exact Chk.mk (by kernel_rfl) | exact ⟨Chk.mk (by kernel_rfl)⟩ | exact sLeEq rfl rfl | refine fun h => ?_)
    · exact ⟨c_copied_Vote vs hx hz⟩
    · exact ⟨fun _ _ => trivial⟩
    · exact ⟨fun _ _ => ⟨allF Vote.frz, trivial⟩⟩
    · refine W.loopC (D := Nat) (fun i => [(18, .res (.agg (vs.getD i default).e.cells)), (19, .res (.agg (vs.getD i default).e.cells))]) TTok hmo (fun i => ⟨24, 1, [(3, .one (.ref 0 0 vs.length)), (8, oi vs.length), (9, oi i)], [(0, .arr (vs.map Vote.cells))]⟩) (fun i => vs.length - i) (fun i => i ≤ vs.length) 0 [] (Nat.zero_le _) ?_ ?_
      · repeat' (first | exact trivial | exact ⟨trivial⟩ | exact Side.mk rfl | exact sF1 rfl | exact Chk.mk (by kernel_rfl) | exact ⟨Chk.mk (by kernel_rfl)⟩ | exact sMapF Vote.flat | refine And.intro ?_ ?_ | rfl)
      · intro i hi
        repeat' (first | refine And.intro ?_ ?_ | exact tf | exact ft | refine tt ?_ | refine ff ?_ | exact ⟨trivial⟩ | exact sAll rfl | exact sF1 rfl | exact sBld (by repeat' (first | exact trivial | rfl | exact Nat.le_of_ble_eq_true rfl | refine And.intro ?_ ?_)) rfl | exact sBS (by repeat' (first | exact trivial | rfl | exact Nat.le_of_ble_eq_true rfl | refine And.intro ?_ ?_)) rfl rfl rfl rfl | exact sBSF (by repeat' (first | exact trivial | rfl | exact Nat.le_of_ble_eq_true rfl | refine And.intro ?_ ?_)) rfl rfl rfl rfl | exact sLe rfl | exact Chk.mk (by kernel_rfl) | exact ⟨Chk.mk (by kernel_rfl)⟩ | exact sLeEq rfl rfl | exact sAnd (by repeat' constructor) (c_entryCopy _ (hv _ (getD_mem (by have := of_decide_eq_true h; omega)))) | refine fun h => ?_)
        all_goals try (have hl := of_decide_eq_true h)
        all_goals try (exact sIxO (c := Vote.cells) (k := (i : Int)) (by omega) (by omega) rfl (fun _ => rfl))
        all_goals try (exact sLdA (c := Vote.cells) (xs := vs) (k := i) (by omega) (Nat.le_of_ble_eq_true rfl) rfl)
        all_goals try (exact sSt (c := Vote.cells) (m := 8) (k := i) (xs := vs) (by omega) (fun _ => rfl) rfl rfl)
        all_goals try (first | exact ⟨trivial, trivial⟩ | exact ⟨Nat.le_of_ble_eq_true rfl, trivial⟩ | exact ⟨trivial, Nat.le_of_ble_eq_true rfl, trivial⟩ | exact ⟨Nat.le_of_ble_eq_true rfl, trivial, trivial⟩)
        · refine ⟨i + 1, [], by omega, by omega, ?_⟩
          repeat' (first | exact trivial | exact ⟨trivial⟩ | exact Side.mk rfl | exact sF1 rfl | exact Chk.mk (by kernel_rfl) | exact ⟨Chk.mk (by kernel_rfl)⟩ | exact sMapF Vote.flat | exact sSame (k := i) (by omega) (by rw [mapGet (by omega)]; rfl) | exact ⟨by rw [wrapi] <;> omega⟩ | exact ⟨by simp⟩ | refine And.intro ?_ ?_ | rfl)
        · apply exU'; refine ⟨[], [0], trivial, ?_⟩
          repeat' (first | exact trivial | exact ⟨trivial⟩ | exact Side.mk rfl | exact sF1 rfl | exact Chk.mk (by kernel_rfl) | exact ⟨Chk.mk (by kernel_rfl)⟩ | exact sMapZ Vote.frz | exact sFzE rfl | refine And.intro ?_ ?_ | rfl)
end Mg

/- The best of votes. No condition. -/
namespace Mg
open Go Go.RowKit
set_option maxRecDepth 100000
set_option linter.unusedVariables false
set_option linter.unusedSimpArgs false
attribute [local irreducible] W Pure Con
def bestAt (a b : List Vote) (i : Nat) : Vote :=
  if i < b.length ∧ (b.getD i default).bal > (if i < a.length then a.getD i default else default).bal then b.getD i default else if i < a.length then a.getD i default else default
def bestN (a b : List Vote) : List Vote := (List.range (max a.length b.length)).map (bestAt a b)
def accBest (a b : List Vote) : List Vote := if votesOk a && votesOk b then bestN a b else []
def implAt (a b : List Vote) (i : Nat) : Vote := if a.length ≤ i then b.getD i default else if b.length ≤ i ∨ (a.getD i default).bal ≥ (b.getD i default).bal then a.getD i default else b.getD i default
def upTo (f : Nat → Vote) (i : Nat) : List Vote := (List.range i).map f
theorem upTo_len (f : Nat → Vote) (i : Nat) : (upTo f i).length = i := by simp [upTo]
theorem upTo_succ (f : Nat → Vote) (i : Nat) : upTo f (i + 1) = upTo f i ++ [f i] := by simp [upTo, List.range_succ]
theorem sUp {f : Nat → Vote} {i : Nat} {v : Vote} {rows2 : List (List MC)} (h : f i = v) (e : rows2 = [v.cells]) : Side ((upTo f (i + 1)).map Vote.cells = (upTo f i).map Vote.cells ++ rows2) := ⟨by rw [upTo_succ, h, e]; simp⟩
theorem sUpL {f : Nat → Vote} {i m n : Nat} (hm : m = (upTo f i).length) (hn : n = 1) : Side (m + n = (upTo f (i + 1)).length) := ⟨by rw [hm, hn, upTo_len, upTo_len]⟩
theorem sUpL2 {f : Nat → Vote} {i m n : Nat} (hm : m = (upTo f i).length) (hn : n = 1) : Side ((upTo f (i + 1)).length = m + n) := ⟨by rw [hm, hn, upTo_len, upTo_len]⟩
theorem best_b1 {a b : List Vote} {i : Nat} (ha : ¬ i < a.length) (hb : i < b.length) (h : (b.getD i default).bal > 0) : bestAt a b i = b.getD i default := by
  unfold bestAt; rw [if_neg ha]; exact if_pos ⟨hb, h⟩
theorem best_b2 {a b : List Vote} {i : Nat} (ha : i < a.length) (hb : i < b.length) (h : (b.getD i default).bal > (a.getD i default).bal) : bestAt a b i = b.getD i default := by
  unfold bestAt; rw [if_pos ha]; exact if_pos ⟨hb, h⟩
theorem best_a1 {a b : List Vote} {i : Nat} (ha : i < a.length) (hb : ¬ i < b.length) : bestAt a b i = a.getD i default := by
  unfold bestAt; rw [if_pos ha]; exact if_neg fun h => hb h.1
theorem best_a2 {a b : List Vote} {i : Nat} (ha : i < a.length) (h : ¬ (b.getD i default).bal > (a.getD i default).bal) : bestAt a b i = a.getD i default := by
  unfold bestAt; rw [if_pos ha]; exact if_neg fun g => h g.2
theorem best_d {a b : List Vote} {i : Nat} (ha : ¬ i < a.length) (h : ¬ (b.getD i default).bal > 0) : bestAt a b i = default := by
  unfold bestAt; rw [if_neg ha]; exact if_neg fun g => h g.2
theorem implAt_ok {n : Nat} {a b : List Vote} (ha : VsOk n a) (hb : VsOk n b) (i : Nat) : (implAt a b i).ok n := by
  unfold implAt; split
  · exact hb.get i
  · split
    · exact ha.get i
    · exact hb.get i
theorem upTo_ok {n : Nat} {f : Nat → Vote} (h : ∀ i, (f i).ok n) (k : Nat) : VsOk n (upTo f k) := fun v hv => by
  obtain ⟨i, _, rfl⟩ := List.mem_map.1 hv; exact h i
end Mg

/- The best of votes, in plain terms. No condition. -/
namespace Mg
open Go Go.RowKit
set_option maxRecDepth 100000
set_option linter.unusedVariables false
set_option linter.unusedSimpArgs false
theorem voteOk_zero {v : Vote} (h : voteOk v = true) (hb : ¬ v.bal > 0) : v = default := by
  unfold voteOk at h
  split at h
  · rename_i h0
    have he := of_decide_eq_true h
    obtain ⟨bal, e⟩ := v
    simp only at h0 he
    subst h0; subst he; rfl
  · simp [inr] at h; omega
theorem votesOk_at {vs : List Vote} (h : votesOk vs = true) {i : Nat} (hi : i < vs.length) : voteOk (vs.getD i default) = true := by
  simp only [votesOk, Bool.and_eq_true, List.all_eq_true] at h
  exact h.2 _ (getD_mem hi)
theorem votesOk_len {vs : List Vote} (h : votesOk vs = true) : vs.length ≤ 40 := by
  simp only [votesOk, Bool.and_eq_true, decide_eq_true_eq] at h; exact h.1
theorem impl_best (a b : List Vote) (hb : votesOk b = true) : upTo (implAt a b) (max a.length b.length) = bestN a b := by
  unfold upTo bestN
  refine List.map_congr_left fun i hi => ?_
  have hi := List.mem_range.1 hi
  have d0 : (default : Vote).bal = 0 := rfl
  unfold implAt
  split
  · rename_i h1
    by_cases hp : (b.getD i default).bal > 0
    · rw [best_b1 (by omega) (by omega) hp]
    · rw [best_d (by omega) hp]
      exact voteOk_zero (votesOk_at hb (by omega)) hp
  · rename_i h1
    split
    · rename_i h2
      by_cases h3 : i < b.length
      · rw [best_a2 (by omega) (by omega)]
      · rw [best_a1 (by omega) h3]
    · rename_i h2
      rw [best_b2 (by omega) (by omega) (by omega)]
theorem impl_accBest (a b : List Vote) : (if votesOk a && votesOk b then upTo (implAt a b) (max a.length b.length) else []) = accBest a b := by
  unfold accBest
  split
  · rename_i h
    simp only [Bool.and_eq_true] at h
    exact impl_best a b h.2
  · rfl
theorem best_all {a b : List Vote} {i : Nat} {Q : Vote → Prop} (h1 : i < b.length → (i < a.length → (b.getD i default).bal > (a.getD i default).bal) → (¬ i < a.length → (b.getD i default).bal > 0) → Q (b.getD i default))
    (h2 : i < a.length → (i < b.length → ¬ (b.getD i default).bal > (a.getD i default).bal) → Q (a.getD i default)) (h3 : ¬ i < a.length → (¬ (b.getD i default).bal > 0 ∨ ¬ i < b.length) → Q default) : Q (bestAt a b i) := by
  by_cases ha : i < a.length
  · by_cases hb : i < b.length
    · by_cases hc : (b.getD i default).bal > (a.getD i default).bal
      · rw [best_b2 ha hb hc]; exact h1 hb (fun _ => hc) fun h => absurd ha h
      · rw [best_a2 ha hc]; exact h2 ha fun _ => hc
    · rw [best_a1 ha hb]; exact h2 ha fun h => absurd h hb
  · by_cases hb : i < b.length
    · by_cases hc : (b.getD i default).bal > 0
      · rw [best_b1 ha hb hc]; exact h1 hb (fun h => absurd h ha) fun _ => hc
      · rw [best_d ha hc]; exact h3 ha (.inl hc)
    · have e : b.getD i default = default := by simp [List.getD_eq_getElem?_getD, List.getElem?_eq_none (Nat.le_of_not_lt hb)]
      rw [best_d ha (by rw [e]; exact (by decide : ¬ (0 : Int) > 0))]; exact h3 ha (.inr hb)
theorem best_ge_a {a b : List Vote} {i : Nat} (hi : i < a.length) : (a.getD i default).bal ≤ (bestAt a b i).bal :=
  best_all (Q := fun v => (a.getD i default).bal ≤ v.bal) (fun _ h _ => by have := h hi; omega) (fun _ _ => Int.le_refl _) (fun h => absurd hi h)
theorem best_ge_b {a b : List Vote} {i : Nat} (hi : i < b.length) : (b.getD i default).bal ≤ (bestAt a b i).bal :=
  best_all (Q := fun v => (b.getD i default).bal ≤ v.bal) (fun _ _ _ => Int.le_refl _) (fun _ h => by have := h hi; omega) (fun _ h => by have d0 : (default : Vote).bal = 0 := rfl; have := h.resolve_right fun g => g hi; omega)
theorem bestN_len (a b : List Vote) : (bestN a b).length = max a.length b.length := by simp [bestN]
theorem bestN_at {a b : List Vote} {i : Nat} (hi : i < (bestN a b).length) : (bestN a b).getD i default = bestAt a b i := by
  rw [bestN_len] at hi
  simp [bestN, List.getD_eq_getElem?_getD, hi]
theorem bestAt_ok {n : Nat} {a b : List Vote} (ha : VsOk n a) (hb : VsOk n b) (i : Nat) : (bestAt a b i).ok n :=
  best_all (Q := fun v => v.ok n) (fun _ _ _ => hb.get i) (fun _ _ => ha.get i) (fun _ _ => ⟨Nat.zero_le _, Nat.zero_le _⟩)
theorem accBest_ok {n : Nat} {a b : List Vote} (ha : VsOk n a) (hb : VsOk n b) : VsOk n (accBest a b) := by
  unfold accBest
  split
  · exact upTo_ok (bestAt_ok ha hb) _
  · intro v hv; cases hv
theorem accBest_len {a b : List Vote} : (accBest a b).length ≤ max a.length b.length := by
  unfold accBest
  split
  · rw [bestN_len]; exact Nat.le_refl _
  · exact Nat.zero_le _
/-- What the best of votes holds at a place. -/
theorem accBest_ge {a b : List Vote} {i : Nat} (hi : i < (accBest a b).length) : (i < a.length → (a.getD i default).bal ≤ ((accBest a b).getD i default).bal) ∧ (i < b.length → (b.getD i default).bal ≤ ((accBest a b).getD i default).bal) := by
  unfold accBest at hi ⊢
  split at hi
  · rename_i h
    rw [if_pos h, bestN_at hi]
    exact ⟨best_ge_a, best_ge_b⟩
  · simp at hi
end Mg

/- The best of votes, with a list of its own. No condition. -/
namespace Mg
open Go Go.RowKit
set_option maxRecDepth 100000
set_option linter.unusedVariables false
set_option linter.unusedSimpArgs false
attribute [local irreducible] W Pure Con
theorem c_votesCopyO (vs : List Vote) (hx : vs.length ≤ lim) (hz : 0 < vs.length) (hv : VsOk lim vs) : Con PP 80 [.one (.fz (vs.map Vote.cells))] [] 0 (fun _ : Unit => True) (fun _ => .one (.ref 0 0 vs.length)) (fun _ => [.arr (vs.map Vote.cells)]) := by
  have hx0 : vs.length ≤ 1048576 := hx
  refine Con.vc [(6, .con false [] [] [] (sCpV vs.length))] TTok hmo Go.Proofs.Try.func80 rfl (by kernel_rfl) rfl (by kernel_rfl) ?_
  repeat' (first | refine And.intro ?_ ?_ | exact tf | exact ft | refine tt ?_ | refine ff ?_ | exact ⟨trivial⟩ | exact sAll rfl | exact sF1 rfl | exact sBld (by repeat' (first | exact trivial | rfl | exact Nat.le_of_ble_eq_true rfl | refine And.intro ?_ ?_)) rfl | exact sBS (by repeat' (first | exact trivial | rfl | exact Nat.le_of_ble_eq_true rfl | refine And.intro ?_ ?_)) rfl rfl rfl rfl | exact sBSF (by repeat' (first | exact trivial | rfl | exact Nat.le_of_ble_eq_true rfl | refine And.intro ?_ ?_)) rfl rfl rfl rfl | exact sLe rfl | exact Chk.mk (by kernel_rfl) | exact ⟨Chk.mk (by kernel_rfl)⟩ | exact sLeEq rfl rfl | refine fun h => ?_)
  · exact ⟨c_copied_Vote vs hx hz⟩
  · exact ⟨fun _ _ => trivial⟩
  · exact ⟨fun _ _ => ⟨allF Vote.frz, trivial⟩⟩
  · refine W.loopC (D := Nat) (fun i => [(18, .res (.agg (vs.getD i default).e.cells)), (19, .res (.agg (vs.getD i default).e.cells))]) TTok hmo (fun i => ⟨24, 1, [(3, .one (.ref 0 0 vs.length)), (8, oi vs.length), (9, oi i)], [(0, .arr (vs.map Vote.cells))]⟩) (fun i => vs.length - i) (fun i => i ≤ vs.length) 0 [] (Nat.zero_le _) ?_ ?_
    · repeat' (first | exact trivial | exact ⟨trivial⟩ | exact Side.mk rfl | exact sF1 rfl | exact Chk.mk (by kernel_rfl) | exact ⟨Chk.mk (by kernel_rfl)⟩ | exact sMapF Vote.flat | refine And.intro ?_ ?_ | rfl)
    · intro i hi
      repeat' (first | refine And.intro ?_ ?_ | exact tf | exact ft | refine tt ?_ | refine ff ?_ | exact ⟨trivial⟩ | exact sAll rfl | exact sF1 rfl | exact sBld (by repeat' (first | exact trivial | rfl | exact Nat.le_of_ble_eq_true rfl | refine And.intro ?_ ?_)) rfl | exact sBS (by repeat' (first | exact trivial | rfl | exact Nat.le_of_ble_eq_true rfl | refine And.intro ?_ ?_)) rfl rfl rfl rfl | exact sBSF (by repeat' (first | exact trivial | rfl | exact Nat.le_of_ble_eq_true rfl | refine And.intro ?_ ?_)) rfl rfl rfl rfl | exact sLe rfl | exact Chk.mk (by kernel_rfl) | exact ⟨Chk.mk (by kernel_rfl)⟩ | exact sLeEq rfl rfl | exact sAnd (by repeat' constructor) (c_entryCopy _ (hv _ (getD_mem (by have := of_decide_eq_true h; omega)))) | refine fun h => ?_)
      all_goals try (have hl := of_decide_eq_true h)
      all_goals try (exact sIxO (c := Vote.cells) (k := (i : Int)) (by omega) (by omega) rfl (fun _ => rfl))
      all_goals try (exact sLdA (c := Vote.cells) (xs := vs) (k := i) (by omega) (Nat.le_of_ble_eq_true rfl) rfl)
      all_goals try (exact sSt (c := Vote.cells) (m := 8) (k := i) (xs := vs) (by omega) (fun _ => rfl) rfl rfl)
      all_goals try (first | exact ⟨trivial, trivial⟩ | exact ⟨Nat.le_of_ble_eq_true rfl, trivial⟩ | exact ⟨trivial, Nat.le_of_ble_eq_true rfl, trivial⟩ | exact ⟨Nat.le_of_ble_eq_true rfl, trivial, trivial⟩)
      · refine ⟨i + 1, [], by omega, by omega, ?_⟩
        repeat' (first | exact trivial | exact ⟨trivial⟩ | exact Side.mk rfl | exact sF1 rfl | exact Chk.mk (by kernel_rfl) | exact ⟨Chk.mk (by kernel_rfl)⟩ | exact sMapF Vote.flat | exact sSame (k := i) (by omega) (by rw [mapGet (by omega)]; rfl) | exact ⟨by rw [wrapi] <;> omega⟩ | exact ⟨by simp⟩ | refine And.intro ?_ ?_ | rfl)
      · apply exU'; refine ⟨[], [], trivial, ?_⟩
        repeat' (first | exact trivial | exact ⟨trivial⟩ | exact Side.mk rfl | exact sF1 rfl | exact Chk.mk (by kernel_rfl) | exact ⟨Chk.mk (by kernel_rfl)⟩ | exact sMapF Vote.flat | refine And.intro ?_ ?_ | rfl)
def sOwnV (ds : List MV) (os : List Ob) : ConT := match ds with
  | [.one (.fz rows)] => ⟨Unit, fun _ => True, fun _ => .one (.ref 0 0 rows.length), fun _ => [.arr rows]⟩
  | _ => noT
end Mg

/- Promises and votes, by what they come to. No condition. -/
namespace Mg
open Go Go.RowKit
set_option maxRecDepth 100000
set_option linter.unusedVariables false
set_option linter.unusedSimpArgs false
attribute [local irreducible] W Pure Con
theorem con_arg {f : Nat} {xs ys : List MV} {os : List Ob} {k : Nat} {D : Type} {p : D → Prop} {r : D → MV} {os' : D → List Ob} (h : Con PP f xs os k p r os') (e : ys = xs) : Con PP f ys os k p r os' := e ▸ h
def accPromise (a : Acc) (bal : Int) : Acc × Bool := if accOk a = true then (if inr bal 1 3000 = true ∧ ¬ bal < a.p then (⟨bal, a.votes⟩, true) else (a, false)) else (⟨0, []⟩, false)
def padV (vs : List Vote) (n : Nat) : List Vote := vs ++ List.replicate (n - vs.length) default
def accVote (a : Acc) (bal slot : Int) (e : Entry) : Acc × Bool :=
  if (accPromise a bal).2 = true then (if inr slot 0 39 = true ∧ entryOk e = true then (⟨bal, (padV a.votes (slot.toNat + 1)).set slot.toNat ⟨bal, e⟩⟩, true) else (a, false)) else ((accPromise a bal).1, false)
theorem padV_step {vs d : List Vote} {n : Nat} (h : padV d n = padV vs n) (hl : d.length < n) : padV (d ++ [default]) n = padV vs n := by
  rw [← h]
  unfold padV
  rw [List.append_assoc, List.length_append]
  congr 1
  have : n - d.length = (n - (d.length + 1)) + 1 := by omega
  rw [this, List.replicate_succ]; rfl
theorem padV_end {d : List Vote} {n : Nat} (hl : n ≤ d.length) : padV d n = d := by
  unfold padV
  rw [Nat.sub_eq_zero_of_le hl]; simp
theorem c_copied_VoteU (vs : List Vote) (hx : vs.length ≤ lim) : Con PP 102 [.one (.fz (vs.map Vote.cells))] [] 0 (fun _ : Unit => True) (fun _ => .one (.ref 0 0 vs.length)) (fun _ => [.arr (vs.map Vote.cells)]) := by
  have hx0 : vs.length ≤ 1048576 := hx
  refine Con.vc [(700000, .row [])] TTok hmo Go.Proofs.Try.func102 rfl (by kernel_rfl) rfl (by kernel_rfl) ?_
  repeat' (first | refine And.intro ?_ ?_ | exact tf | exact ft | refine tt ?_ | refine ff ?_ | exact ⟨trivial⟩ | exact sAll rfl | exact sF1 rfl | exact sBld (by repeat' (first | exact trivial | rfl | exact Nat.le_of_ble_eq_true rfl | refine And.intro ?_ ?_)) rfl | exact sBS (by repeat' (first | exact trivial | rfl | exact Nat.le_of_ble_eq_true rfl | refine And.intro ?_ ?_)) rfl rfl rfl rfl | exact sBSF (by repeat' (first | exact trivial | rfl | exact Nat.le_of_ble_eq_true rfl | refine And.intro ?_ ?_)) rfl rfl rfl rfl | exact sLe rfl | exact Chk.mk (by kernel_rfl) | exact ⟨Chk.mk (by kernel_rfl)⟩ | exact sLeEq rfl rfl | refine fun h => ?_)
  · have h0 : vs = [] := by simp at h; exact h
    subst h0
    refine W.vslot 2 rfl (W.ret ?_)
    refine ⟨⟨trivial, trivial⟩, ?_⟩
    apply exU'; refine ⟨[], [], trivial, ?_⟩
    repeat' (first | exact trivial | exact ⟨trivial⟩ | exact Side.mk rfl | exact sF1 rfl | exact Chk.mk (by kernel_rfl) | exact ⟨Chk.mk (by kernel_rfl)⟩ | exact sMapF Vote.flat | refine And.intro ?_ ?_ | rfl)
  · exact sMk hx0 rfl
  · have h0 : 0 < vs.length := Nat.pos_of_ne_zero (fun e => by rw [List.length_map, e] at h; revert h; decide)
    exact sCp rfl (by simp) (by simp) h0 rfl (fun _ => rfl)
  · refine W.ret ?_
    refine ⟨⟨trivial, trivial⟩, ?_⟩
    apply exU'; refine ⟨[], [], trivial, ?_⟩
    repeat' (first | exact trivial | exact ⟨trivial⟩ | exact Side.mk rfl | exact sF1 rfl | exact Chk.mk (by kernel_rfl) | exact ⟨Chk.mk (by kernel_rfl)⟩ | exact sMapF Vote.flat | refine And.intro ?_ ?_ | rfl)
    all_goals exact ⟨by simp⟩
theorem c_votesCopyU (vs : List Vote) (hx : vs.length ≤ lim) (hv : VsOk lim vs) : Con PP 80 [.one (.fz (vs.map Vote.cells))] [] 0 (fun _ : Unit => True) (fun _ => .one (.ref 0 0 vs.length)) (fun _ => [.arr (vs.map Vote.cells)]) := by
  have hx0 : vs.length ≤ 1048576 := hx
  refine Con.vc [(6, .con false [] [] [] (sCpV vs.length))] TTok hmo Go.Proofs.Try.func80 rfl (by kernel_rfl) rfl (by kernel_rfl) ?_
  repeat' (first | refine And.intro ?_ ?_ | exact tf | exact ft | refine tt ?_ | refine ff ?_ | exact ⟨trivial⟩ | exact sAll rfl | exact sF1 rfl | exact sBld (by repeat' (first | exact trivial | rfl | exact Nat.le_of_ble_eq_true rfl | refine And.intro ?_ ?_)) rfl | exact sBS (by repeat' (first | exact trivial | rfl | exact Nat.le_of_ble_eq_true rfl | refine And.intro ?_ ?_)) rfl rfl rfl rfl | exact sBSF (by repeat' (first | exact trivial | rfl | exact Nat.le_of_ble_eq_true rfl | refine And.intro ?_ ?_)) rfl rfl rfl rfl | exact sLe rfl | exact Chk.mk (by kernel_rfl) | exact ⟨Chk.mk (by kernel_rfl)⟩ | exact sLeEq rfl rfl | refine fun h => ?_)
  · exact ⟨c_copied_VoteU vs hx⟩
  · exact ⟨fun _ _ => trivial⟩
  · exact ⟨fun _ _ => ⟨allF Vote.frz, trivial⟩⟩
  · refine W.loopC (D := Nat) (fun i => [(18, .res (.agg (vs.getD i default).e.cells)), (19, .res (.agg (vs.getD i default).e.cells))]) TTok hmo (fun i => ⟨24, 1, [(3, .one (.ref 0 0 vs.length)), (8, oi vs.length), (9, oi i)], [(0, .arr (vs.map Vote.cells))]⟩) (fun i => vs.length - i) (fun i => i ≤ vs.length) 0 [] (Nat.zero_le _) ?_ ?_
    · repeat' (first | exact trivial | exact ⟨trivial⟩ | exact Side.mk rfl | exact sF1 rfl | exact Chk.mk (by kernel_rfl) | exact ⟨Chk.mk (by kernel_rfl)⟩ | exact sMapF Vote.flat | refine And.intro ?_ ?_ | rfl)
    · intro i hi
      repeat' (first | refine And.intro ?_ ?_ | exact tf | exact ft | refine tt ?_ | refine ff ?_ | exact ⟨trivial⟩ | exact sAll rfl | exact sF1 rfl | exact sBld (by repeat' (first | exact trivial | rfl | exact Nat.le_of_ble_eq_true rfl | refine And.intro ?_ ?_)) rfl | exact sBS (by repeat' (first | exact trivial | rfl | exact Nat.le_of_ble_eq_true rfl | refine And.intro ?_ ?_)) rfl rfl rfl rfl | exact sBSF (by repeat' (first | exact trivial | rfl | exact Nat.le_of_ble_eq_true rfl | refine And.intro ?_ ?_)) rfl rfl rfl rfl | exact sLe rfl | exact Chk.mk (by kernel_rfl) | exact ⟨Chk.mk (by kernel_rfl)⟩ | exact sLeEq rfl rfl | exact sAnd (by repeat' constructor) (c_entryCopy _ (hv _ (getD_mem (by have := of_decide_eq_true h; omega)))) | refine fun h => ?_)
      all_goals try (have hl := of_decide_eq_true h)
      all_goals try (exact sIxO (c := Vote.cells) (k := (i : Int)) (by omega) (by omega) rfl (fun _ => rfl))
      all_goals try (exact sLdA (c := Vote.cells) (xs := vs) (k := i) (by omega) (Nat.le_of_ble_eq_true rfl) rfl)
      all_goals try (exact sSt (c := Vote.cells) (m := 8) (k := i) (xs := vs) (by omega) (fun _ => rfl) rfl rfl)
      all_goals try (first | exact ⟨trivial, trivial⟩ | exact ⟨Nat.le_of_ble_eq_true rfl, trivial⟩ | exact ⟨trivial, Nat.le_of_ble_eq_true rfl, trivial⟩ | exact ⟨Nat.le_of_ble_eq_true rfl, trivial, trivial⟩)
      · refine ⟨i + 1, [], by omega, by omega, ?_⟩
        repeat' (first | exact trivial | exact ⟨trivial⟩ | exact Side.mk rfl | exact sF1 rfl | exact Chk.mk (by kernel_rfl) | exact ⟨Chk.mk (by kernel_rfl)⟩ | exact sMapF Vote.flat | exact sSame (k := i) (by omega) (by rw [mapGet (by omega)]; rfl) | exact ⟨by rw [wrapi] <;> omega⟩ | exact ⟨by simp⟩ | refine And.intro ?_ ?_ | rfl)
      · apply exU'; refine ⟨[], [], trivial, ?_⟩
        repeat' (first | exact trivial | exact ⟨trivial⟩ | exact Side.mk rfl | exact sF1 rfl | exact Chk.mk (by kernel_rfl) | exact ⟨Chk.mk (by kernel_rfl)⟩ | exact sMapF Vote.flat | refine And.intro ?_ ?_ | rfl)
theorem c_accCopyU (a : Acc) (ha : a.ok lim) : Con PP 78 [.agg a.cells] [] 0 (fun _ : Unit => True) (fun _ => .agg [i6 a.p, .ref 0 0 a.votes.length]) (fun _ => [.arr (a.votes.map Vote.cells)]) := by
  refine Con.vc [(7, .con false [] [] [] (sCpV a.votes.length)), (900001, .row [i6 0, i6 1, i6 2, i6 3, i6 4, i6 5, i6 6])] TTok hmo Go.Proofs.Try.func78 rfl (by kernel_rfl) rfl (by kernel_rfl) ?_
  repeat' (first | refine And.intro ?_ ?_ | exact tf | exact ft | refine tt ?_ | refine ff ?_ | exact ⟨trivial⟩ | exact sAll rfl | exact sF1 rfl | exact sBld (by repeat' (first | exact trivial | rfl | exact Nat.le_of_ble_eq_true rfl | refine And.intro ?_ ?_)) rfl | exact sBS (by repeat' (first | exact trivial | rfl | exact Nat.le_of_ble_eq_true rfl | refine And.intro ?_ ?_)) rfl rfl rfl rfl | exact sBSF (by repeat' (first | exact trivial | rfl | exact Nat.le_of_ble_eq_true rfl | refine And.intro ?_ ?_)) rfl rfl rfl rfl | exact sLe rfl | exact Chk.mk (by kernel_rfl) | exact ⟨Chk.mk (by kernel_rfl)⟩ | exact sLeEq rfl rfl | refine fun h => ?_)
  all_goals try dsimp only [sCpV] at *
  all_goals try (exact ⟨rfl⟩)
  all_goals try (exact trivial)
  all_goals try (exact ⟨fun _ _ => trivial⟩)
  all_goals try (exact ⟨fun _ _ => ⟨allF Vote.frz, trivial⟩⟩)
  all_goals try (exact ⟨c_votesCopyU _ ha.1 ha.2⟩)
  all_goals try (first | exact ⟨trivial, trivial⟩ | exact ⟨Nat.le_of_ble_eq_true rfl, trivial⟩ | exact ⟨trivial, Nat.le_of_ble_eq_true rfl, trivial⟩ | exact ⟨Nat.le_of_ble_eq_true rfl, trivial, trivial⟩)
  all_goals (apply exU'; refine ⟨[(0, 2)], [], trivial, ?_⟩)
  all_goals repeat' (first | exact trivial | exact ⟨trivial⟩ | exact Side.mk rfl | exact sF1 rfl | exact Chk.mk (by kernel_rfl) | exact ⟨Chk.mk (by kernel_rfl)⟩ | exact sMapF Vote.flat | refine And.intro ?_ ?_ | rfl)
theorem c_accCopyF (a : Acc) (ha : a.ok lim) : Con PP 78 [.agg a.cells] [] 0 (fun _ : Unit => True) (fun _ => .agg a.cells) (fun _ => []) := by
  refine Con.vc [(7, .con false [] [] [] sFz), (900001, .row [i6 0, i6 1, i6 2, i6 3, i6 4, i6 5, i6 6])] TTok hmo Go.Proofs.Try.func78 rfl (by kernel_rfl) rfl (by kernel_rfl) ?_
  repeat' (first | refine And.intro ?_ ?_ | exact tf | exact ft | refine tt ?_ | refine ff ?_ | exact ⟨trivial⟩ | exact sAll rfl | exact sF1 rfl | exact sBld (by repeat' (first | exact trivial | rfl | exact Nat.le_of_ble_eq_true rfl | refine And.intro ?_ ?_)) rfl | exact sBS (by repeat' (first | exact trivial | rfl | exact Nat.le_of_ble_eq_true rfl | refine And.intro ?_ ?_)) rfl rfl rfl rfl | exact sBSF (by repeat' (first | exact trivial | rfl | exact Nat.le_of_ble_eq_true rfl | refine And.intro ?_ ?_)) rfl rfl rfl rfl | exact sLe rfl | exact Chk.mk (by kernel_rfl) | exact ⟨Chk.mk (by kernel_rfl)⟩ | exact sLeEq rfl rfl | refine fun h => ?_)
  all_goals try dsimp only [sFz] at *
  all_goals try (exact ⟨rfl⟩)
  all_goals try (exact trivial)
  all_goals try (exact ⟨fun _ _ => trivial⟩)
  all_goals try (exact ⟨c_votesCopy _ ha.1 ha.2⟩)
  all_goals try (first | exact ⟨trivial, trivial⟩ | exact ⟨Nat.le_of_ble_eq_true rfl, trivial⟩ | exact ⟨trivial, Nat.le_of_ble_eq_true rfl, trivial⟩ | exact ⟨Nat.le_of_ble_eq_true rfl, trivial, trivial⟩)
  all_goals (apply exU'; refine ⟨[], [], trivial, ?_⟩)
  all_goals repeat' (first | exact trivial | exact ⟨trivial⟩ | exact Side.mk rfl | exact sF1 rfl | exact Chk.mk (by kernel_rfl) | exact ⟨Chk.mk (by kernel_rfl)⟩ | refine And.intro ?_ ?_ | rfl)
def tAcc (vs : List Vote) (p : Int) (b : Bool) : ConT := ⟨Unit, fun _ => True, fun _ => .tup [.agg [i6 p, .ref 0 0 vs.length], ob b], fun _ => [.arr (vs.map Vote.cells)]⟩
def fAcc (a : Acc) (b : Bool) : ConT := ⟨Unit, fun _ => True, fun _ => .tup [.agg a.cells, ob b], fun _ => []⟩
theorem accPromise_t {a : Acc} {bal : Int} (h : (accPromise a bal).2 = true) : (accPromise a bal).1 = ⟨bal, a.votes⟩ := by
  unfold accPromise at h ⊢
  split at h
  · rename_i h1
    rw [if_pos h1]
    split at h
    · rename_i h2; rw [if_pos h2]
    · cases h
  · cases h
theorem accPromise_l {a : Acc} {bal : Int} (h : (accPromise a bal).2 = true) : a.votes.length ≤ 40 := by
  unfold accPromise at h
  split at h
  · rename_i h1
    simp only [accOk, votesOk, Bool.and_eq_true, decide_eq_true_eq] at h1
    exact h1.1.2.1
  · cases h
end Mg

/- Copies with nothing of the argument in them. No condition. -/
namespace Mg
open Go Go.RowKit
set_option maxRecDepth 100000
set_option linter.unusedVariables false
set_option linter.unusedSimpArgs false
attribute [local irreducible] W Pure Con
section
variable {α : Type} {c cA : α → List MC} {xs : List α} {i m : Nat}
/-- A list of which the first ones are one's own already. -/
def rowsG (c cA : α → List MC) (xs : List α) (i : Nat) : List (List MC) := (xs.take i).map c ++ (xs.drop i).map cA
theorem rowsG_len : (rowsG c cA xs i).length = xs.length := by simp [rowsG]; omega
theorem rowsG_all (h : xs.length ≤ i) : rowsG c cA xs i = xs.map c := by
  unfold rowsG; rw [List.take_of_length_le h, List.drop_of_length_le h]; simp
theorem rowsG_row (h1 : ∀ x, (c x).length = m) (h2 : ∀ x, (cA x).length = m) : ∀ r ∈ rowsG c cA xs i, r.length = m := fun r hr => by
  rcases List.mem_append.1 hr with hr | hr
  · obtain ⟨x, _, rfl⟩ := List.mem_map.1 hr; exact h1 x
  · obtain ⟨x, _, rfl⟩ := List.mem_map.1 hr; exact h2 x
theorem sFlG (h1 : ∀ x, (c x).all MC.flat = true) (h2 : ∀ x, (cA x).all MC.flat = true) : Side (∀ r ∈ rowsG c cA xs i, ∀ x ∈ r, x.flat = true) := ⟨fun r hr => by
  rcases List.mem_append.1 hr with hr | hr
  · obtain ⟨x, _, rfl⟩ := List.mem_map.1 hr; exact List.all_eq_true.1 (h1 x)
  · obtain ⟨x, _, rfl⟩ := List.mem_map.1 hr; exact List.all_eq_true.1 (h2 x)⟩
end
section
variable {α : Type} [Inhabited α] {c cA : α → List MC} {xs : List α} {i m : Nat}
theorem rowsG_get (h : i < xs.length) : (rowsG c cA xs i)[i]? = some (cA (xs.getD i default)) := by
  unfold rowsG
  have hl : ((xs.take i).map c).length = i := by simp; omega
  rw [List.getElem?_append_right (by omega), hl, Nat.sub_self, List.getElem?_map, List.getElem?_drop, Nat.add_zero, List.getElem?_eq_getElem h, getD_get h]; rfl
theorem rowsG_getD (h : i < xs.length) : (rowsG c cA xs i).getD (0 + i) [] = cA (xs.getD i default) := by
  rw [Nat.zero_add, List.getD_eq_getElem?_getD, rowsG_get h]; rfl
theorem rowsG_set {r : List MC} (h : i < xs.length) (hr : r = c (xs.getD i default)) : (rowsG c cA xs i).set (0 + i) r = rowsG c cA xs (i + 1) := by
  subst hr
  unfold rowsG
  have hl : ((xs.take i).map c).length = i := by simp; omega
  rw [Nat.zero_add, List.set_append, if_neg (by omega), hl, Nat.sub_self]
  rw [List.drop_eq_getElem_cons h, List.map_cons, List.set_cons_zero]
  rw [List.take_succ_eq_append_getElem h, List.map_append, getD_get h]
  simp
theorem sIxG {k : Int} {n : Nat} (h0 : k = i) (h : i < xs.length) (hn : n = xs.length) (h2 : ∀ x, (cA x).length = m) :
    Side ((0 ≤ k ∧ k < n) ∧ 0 + k.toNat < (rowsG c cA xs i).length ∧ ((rowsG c cA xs i).getD (0 + k.toNat) []).length = m) := by
  subst h0
  rw [Int.toNat_natCast, rowsG_len, rowsG_getD h, hn]
  exact ⟨⟨by omega, by omega⟩, by omega, h2 _⟩
theorem sLdG {off n : Nat} {cs : List MC} (h : i < xs.length) (hc : n ≤ ((cA (xs.getD i default)).drop off).length) (he : ((cA (xs.getD i default)).drop off).take n = cs) :
    Side (n ≤ (List.drop off ((rowsG c cA xs i).getD (0 + i) [])).length ∧ MV.agg (List.take n (List.drop off ((rowsG c cA xs i).getD (0 + i) []))) = MV.agg cs) := by
  rw [rowsG_getD h, he]; exact ⟨⟨hc, rfl⟩⟩
theorem sStG {off n z : Nat} (h : i < xs.length) (h2 : ∀ x, (cA x).length = m) (hb : Nat.ble (off + n) m = true) (hz : n = z) :
    Side ((0 + i < (rowsG c cA xs i).length ∧ off + n ≤ ((rowsG c cA xs i).getD (0 + i) []).length) ∧ n = z) :=
  ⟨⟨by rw [rowsG_len]; omega, by rw [rowsG_getD h, h2]; exact Nat.le_of_ble_eq_true hb⟩, hz⟩
theorem sSetG {k : Nat} {r : List MC} (h : i < xs.length) (hk : k = i) (hr : c (xs.getD i default) = r) : Side (rowsG c cA xs (i + 1) = (rowsG c cA xs i).set (0 + k) r) := ⟨by rw [hk, rowsG_set h hr.symm]⟩
end
def Vote.cellsA (v : Vote) : List MC := v.cells.map MC.toA
def Entry.cellsA (v : Entry) : List MC := v.cells.map MC.toA
theorem c_votesCopyP (vs : List Vote) (hx : vs.length ≤ lim) (hv : VsOk lim vs) : Pure PP false 80 [.one (.fz (vs.map Vote.cells))] (.one (.own (vs.map Vote.cells))) := by
  have hx0 : vs.length ≤ 1048576 := hx
  refine Pure.vc [(6, .con true [] [] [] (sCpV vs.length))] TTok hmo Go.Proofs.Try.func80 (by kernel_rfl) rfl (by kernel_rfl) ?_
  repeat' (first | refine And.intro ?_ ?_ | exact tf | exact ft | refine tt ?_ | refine ff ?_ | exact ⟨trivial⟩ | exact sAll rfl | exact sF1 rfl | exact sBld (by repeat' (first | exact trivial | rfl | exact Nat.le_of_ble_eq_true rfl | refine And.intro ?_ ?_)) rfl | exact sBS (by repeat' (first | exact trivial | rfl | exact Nat.le_of_ble_eq_true rfl | refine And.intro ?_ ?_)) rfl rfl rfl rfl | exact sBSF (by repeat' (first | exact trivial | rfl | exact Nat.le_of_ble_eq_true rfl | refine And.intro ?_ ?_)) rfl rfl rfl rfl | exact sLe rfl | exact Chk.mk (by kernel_rfl) | exact ⟨Chk.mk (by kernel_rfl)⟩ | exact sLeEq rfl rfl | refine fun h => ?_)
  · exact ⟨c_copied_VoteU vs hx⟩
  · exact ⟨fun _ _ => trivial⟩
  · exact ⟨fun _ _ => ⟨trivial, trivial⟩⟩
  · refine W.loopC (D := Nat) (fun i => [(18, .res (.agg (vs.getD i default).e.cellsA)), (19, .res (.agg (vs.getD i default).e.cells))]) TTok hmo (fun i => ⟨24, 1, [(3, .one (.ref 0 0 vs.length)), (8, oi vs.length), (9, oi i)], [(0, .arr (rowsG Vote.cells Vote.cellsA vs i))]⟩) (fun i => vs.length - i) (fun i => i ≤ vs.length) 0 [] (Nat.zero_le _) ?_ ?_
    · repeat' (first | exact trivial | exact ⟨trivial⟩ | exact Side.mk rfl | exact sF1 rfl | exact Chk.mk (by kernel_rfl) | exact ⟨Chk.mk (by kernel_rfl)⟩ | exact sFlG Vote.flat (fun _ => rfl) | refine And.intro ?_ ?_ | rfl)
      exact ⟨by unfold rowsG; rw [List.map_map]; rfl⟩
    · intro i hi
      repeat' (first | refine And.intro ?_ ?_ | exact tf | exact ft | refine tt ?_ | refine ff ?_ | exact ⟨trivial⟩ | exact sAll rfl | exact sF1 rfl | exact sBld (by repeat' (first | exact trivial | rfl | exact Nat.le_of_ble_eq_true rfl | refine And.intro ?_ ?_)) rfl | exact sBS (by repeat' (first | exact trivial | rfl | exact Nat.le_of_ble_eq_true rfl | refine And.intro ?_ ?_)) rfl rfl rfl rfl | exact sBSF (by repeat' (first | exact trivial | rfl | exact Nat.le_of_ble_eq_true rfl | refine And.intro ?_ ?_)) rfl rfl rfl rfl | exact sLe rfl | exact Chk.mk (by kernel_rfl) | exact ⟨Chk.mk (by kernel_rfl)⟩ | exact sLeEq rfl rfl | exact sAnd (by repeat' constructor) (c_entryCopy _ (hv _ (getD_mem (by have := of_decide_eq_true h; omega)))) | refine fun h => ?_)
      all_goals try (have hl := of_decide_eq_true h)
      all_goals try (exact sIxG rfl (by omega) rfl (fun _ => rfl))
      all_goals try (exact sLdG (xs := vs) (i := i) (by omega) (Nat.le_of_ble_eq_true rfl) rfl)
      all_goals try (exact sStG (m := 8) (i := i) (xs := vs) (by omega) (fun _ => rfl) rfl rfl)
      all_goals try (first | exact ⟨trivial, trivial⟩ | exact ⟨Nat.le_of_ble_eq_true rfl, trivial⟩ | exact ⟨trivial, Nat.le_of_ble_eq_true rfl, trivial⟩ | exact ⟨Nat.le_of_ble_eq_true rfl, trivial, trivial⟩)
      · refine ⟨i + 1, [], by omega, by omega, ?_⟩
        repeat' (first | exact trivial | exact ⟨trivial⟩ | exact Side.mk rfl | exact sF1 rfl | exact Chk.mk (by kernel_rfl) | exact ⟨Chk.mk (by kernel_rfl)⟩ | exact sFlG Vote.flat (fun _ => rfl) | exact sSetG (by omega) rfl (by rw [Int.toNat_natCast, rowsG_getD (by omega)]; rfl) | exact ⟨by rw [wrapi] <;> omega⟩ | refine And.intro ?_ ?_ | rfl)
      · have hi' := of_decide_eq_false h
        refine ⟨⟨trivial, trivial⟩, ⟨rfl, ?_, rowsG_all (by omega), ?_⟩, trivial⟩
        · rw [rowsG_len]
        · rw [rowsG_all (by omega)]; exact allF Vote.frz
theorem map_unA (d : List Vote) : ((d.map Vote.cells).map fun r => r.map MC.unA) = d.map Vote.cells := by
  rw [List.map_map]; exact List.map_congr_left fun v _ => rfl
theorem set_unA {d : List Vote} {k n : Nat} {r : List MC} {v : Vote} (hr : (r.map MC.unA) = v.cells) (hn : n = d.length) : (((((d.map Vote.cells).set k r).drop 0).take n).map fun r => r.map MC.unA) = (d.set k v).map Vote.cells := by
  rw [List.drop_zero, List.take_of_length_le (by simp [hn]), List.map_set, map_unA, hr, List.map_set]
theorem set_allA {d : List Vote} {k : Nat} {r : List MC} (hr : r.all MC.fa = true) : AllA ((d.map Vote.cells).set k r) := ⟨fun x hx => by
  rcases List.mem_or_eq_of_mem_set hx with hx | rfl
  · obtain ⟨v, _, rfl⟩ := List.mem_map.1 hx
    exact List.all_eq_true.1 (show v.cells.all MC.fa = true from rfl)
  · exact List.all_eq_true.1 hr⟩
theorem c_accCopyP (a : Acc) (ha : a.ok lim) : Pure PP false 78 [.agg a.cells] (.agg [i6 a.p, .own (a.votes.map Vote.cells)]) := by
  refine Pure.vc [(7, .res (.one (.own (a.votes.map Vote.cells)))), (900001, .row [i6 0, i6 1, i6 2, i6 3, i6 4, i6 5, i6 6])] TTok hmo Go.Proofs.Try.func78 (by kernel_rfl) rfl (by kernel_rfl) ?_
  repeat' (first | refine And.intro ?_ ?_ | exact tf | exact ft | refine tt ?_ | refine ff ?_ | exact ⟨trivial⟩ | exact sAll rfl | exact sF1 rfl | exact sBld (by repeat' (first | exact trivial | rfl | exact Nat.le_of_ble_eq_true rfl | refine And.intro ?_ ?_)) rfl | exact sBS (by repeat' (first | exact trivial | rfl | exact Nat.le_of_ble_eq_true rfl | refine And.intro ?_ ?_)) rfl rfl rfl rfl | exact sBSF (by repeat' (first | exact trivial | rfl | exact Nat.le_of_ble_eq_true rfl | refine And.intro ?_ ?_)) rfl rfl rfl rfl | exact sLe rfl | exact Chk.mk (by kernel_rfl) | exact ⟨Chk.mk (by kernel_rfl)⟩ | exact sLeEq rfl rfl | exact sAnd (by repeat' constructor) (c_votesCopyP _ ha.1 ha.2) | refine fun h => ?_)
  all_goals try (exact ⟨rfl⟩)
  all_goals try (exact trivial)
  exact ⟨⟨Nat.le_of_ble_eq_true rfl, trivial⟩, rfl, ⟨rfl, by simp, rfl, allF Vote.frz⟩, trivial⟩
theorem c_accCopyQ (a : Acc) (ha : a.ok lim) : Pure PP false 78 [.agg a.cells] (.agg a.cells) := (c_accCopyP a ha).to rfl
def pAcc (q : Acc × Bool) : MV := .tup [.agg [i6 q.1.p, .own (q.1.votes.map Vote.cells)], ob q.2]
def qAcc (q : Acc × Bool) : MV := .tup [.agg q.1.cells, ob q.2]
end Mg

/- Promises and votes of the other side, by what they come to. No condition. -/
namespace Mg
open Go Go.RowKit
set_option maxRecDepth 100000
set_option linter.unusedVariables false
set_option linter.unusedSimpArgs false
attribute [local irreducible] W Pure Con
theorem take_step {vs : List Vote} {i : Nat} (h : i < vs.length) : vs.take (i + 1) = vs.take i ++ [vs.getD i default] := by
  rw [List.take_succ_eq_append_getElem h, getD_get h]
theorem sTkR {α : Type} [Inhabited α] {c : α → List MC} {xs : List α} {i : Nat} {rows2 : List (List MC)} (h : i < xs.length) (hr : rows2 = [c (xs.getD i default)]) : Side ((xs.take (i + 1)).map c = (xs.take i).map c ++ rows2) :=
  ⟨by rw [List.take_succ_eq_append_getElem h, List.map_append, hr, getD_get h]; rfl⟩
theorem sTkL {α : Type} {xs : List α} {i m n : Nat} (h : i < xs.length) (hm : m = (xs.take i).length) (hn : n = 1) : Side ((xs.take (i + 1)).length = m + n) := ⟨by subst hm hn; simp; omega⟩
theorem sTkL2 {α : Type} {xs : List α} {i m n : Nat} (h : i < xs.length) (hm : m = (xs.take i).length) (hn : n = 1) : Side (m + n = (xs.take (i + 1)).length) := ⟨by subst hm hn; simp; omega⟩
def promP (p b : Int) : Int × Bool := if inr b 1 3000 = true ∧ ¬ b < p then (b, true) else (p, false)
def tProX (vs : List Vote) (q : Int × Bool) : ConT := ⟨Unit, fun _ => True, fun _ => .tup [.agg [i6 q.1, .ref 0 0 vs.length], ob q.2], fun _ => [.arr (vs.map Vote.cells)]⟩
/-- What is cast, of what is right. -/
def castA (a : Acc) (b slot : Int) (e : Entry) : Acc × Bool :=
  if (inr slot 0 39 = true ∧ entryOk e = true) ∧ (promP a.p b).2 = true then (⟨b, (padV a.votes (slot.toNat + 1)).set slot.toNat ⟨b, e⟩⟩, true) else (a, false)
def tCaX (q : Acc × Bool) : ConT := ⟨Unit, fun _ => True, fun _ => .tup [.agg [i6 q.1.p, .ref 0 0 q.1.votes.length], ob q.2], fun _ => [.arr (q.1.votes.map Vote.cells)]⟩
end Mg
