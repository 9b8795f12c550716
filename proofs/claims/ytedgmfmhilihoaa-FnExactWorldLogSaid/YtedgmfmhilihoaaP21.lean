/- Parts of the abstract state logic and of the walks, one behind the other: E23, NW1, E5, R1N, R1O, R1P, R1Q, R1U, H1. No condition. -/
import Derived.Test.YtedgmfmhilihoaaP20
import Derived.Test.YtedgmfmhilihoaaP15
import Derived.Test.YtedgmfmhilihoaaP14
import Derived.Test.YtedgmfmhilihoaaP12
import Derived.Test.YtedgmfmhilihoaaP13
/- Worlds, numbered and held. No condition. -/
namespace Mg
open Go Go.RowKit
set_option maxRecDepth 100000
set_option linter.unusedVariables false
set_option linter.unusedSimpArgs false
attribute [local irreducible] W Pure

structure World.bdd (x : World) : Prop where
  nodes : ctL ctNodeL x.nodes ≤ 10000000000000000
  net : ctL ctMsgL x.net ≤ 10000000000000000
  asked : ctL ctAskL x.asked ≤ 10000000000000000
def mkWorld (x : World) (k : Int) : World := ⟨mkL mkNodeL ctNodeL x.nodes k, mkL mkMsgL ctMsgL x.net (k + ctL ctNodeL x.nodes), mkL mkAskL ctAskL x.asked (k + ctL ctNodeL x.nodes + ctL ctMsgL x.net), mkTolds x.told (k + ctL ctNodeL x.nodes + ctL ctMsgL x.net + ctL ctAskL x.asked)⟩
theorem nodes_nn {x : World} (hx : x.ok lim) : 0 ≤ ctL ctNodeL x.nodes := by
  have := ctL_tot (fun y hy => ctNodeL_nn (hx.nodes.2 y hy)) 0
  simp [ctL] at this; exact this
theorem net_nn {x : World} (hx : x.ok lim) : 0 ≤ ctL ctMsgL x.net := by
  have := ctL_tot (fun y hy => ctMsgL_nn (hx.net.2 y hy)) 0
  simp [ctL] at this; exact this
theorem asked_nn {x : World} (hx : x.ok lim) : 0 ≤ ctL ctAskL x.asked := by
  have := ctL_tot (fun y hy => ctAskL_nn (hx.asked.2 y hy)) 0
  simp [ctL] at this; exact this

set_option maxHeartbeats 4000000 in
theorem k_markWorld (x : World) (k : Int) (hk0 : 0 ≤ k) (hk1 : k ≤ 10000000000000000) (hx : x.ok lim) (hb : x.bdd) : TMark PP 8 (.agg x.cells) k (.agg (mkWorld x k).cells) (k + ctL ctNodeL x.nodes + ctL ctMsgL x.net + ctL ctAskL x.asked + 5 * (x.told.length : Int)) := by
  have n1 := nodes_nn hx
  have n2 := net_nn hx
  have n3 := asked_nn hx
  have n4 : x.told.length ≤ 1048576 := hx.told
  have m1 := hb.nodes
  have m2 := hb.net
  have m3 := hb.asked
  refine TMark.vcS (fun B => [(800001, .row [])]) TTok hmo Go.Proofs.Try.func8 (by kernel_rfl) rfl (by kernel_rfl) rfl (fun B hB => ?_)
  repeat' (first | refine And.intro ?_ ?_ | exact tf | exact ft | refine tt ?_ | refine ff ?_ | exact ⟨trivial⟩ | exact sAll rfl | exact sF1 rfl | exact sBld (by repeat' (first | exact trivial | rfl | exact Nat.le_of_ble_eq_true rfl | refine And.intro ?_ ?_)) rfl | exact sBS (by repeat' (first | exact trivial | rfl | exact Nat.le_of_ble_eq_true rfl | refine And.intro ?_ ?_)) rfl rfl rfl rfl | exact sBSF (by repeat' (first | exact trivial | rfl | exact Nat.le_of_ble_eq_true rfl | refine And.intro ?_ ?_)) rfl rfl rfl rfl | exact sLe rfl | exact Chk.mk (by kernel_rfl) | exact ⟨Chk.mk (by kernel_rfl)⟩ | exact sLeEq rfl rfl | refine fun h => ?_)
  refine W.sub ⟨22, 1, [(0, .agg [.tr true (B 0).B (B 0).u (x.nodes.map Node.cells), .tr true (B 1).B (B 1).u (x.net.map Msg.cells), .tr true (B 2).B (B 2).u (x.asked.map Asked.cells), .tr true (B 3).B (B 3).u (x.told.map Told.cells)]), (1, oi k), (2, .one (.ptr 0 0 0))], [(0, .box [.tr true (B 0).B (B 0).u (x.nodes.map Node.cells), .tr true (B 1).B (B 1).u (x.net.map Msg.cells), .tr true (B 2).B (B 2).u (x.asked.map Asked.cells), .tr true (B 3).B (B 3).u (x.told.map Told.cells)])]⟩ [] ?_ ?_
  · repeat' (first | exact trivial | exact Side.mk rfl | exact Chk.mk (by kernel_rfl) | exact ⟨Chk.mk (by kernel_rfl)⟩ | refine And.intro ?_ ?_ | rfl)
  have q1 := k_markNodeS x.nodes (k) (by omega) (by omega) hx.nodes.1 hx.nodes.2 (by omega)
  have q2 := tmark_eq (k2 := k + ctL ctNodeL x.nodes) q1 (by rfl)
  refine W.go [(800002, .row []), (8, .mark (fun _ _ => (.one (.fz ((mkL mkNodeL ctNodeL x.nodes (k)).map Node.cells)), k + ctL ctNodeL x.nodes)) [2] [(0, [(0, 0)])] [0] [(0, 0, 0)])] TTok hmo ?_
  repeat' (first | refine And.intro ?_ ?_ | exact tf | exact ft | refine tt ?_ | refine ff ?_ | exact ⟨trivial⟩ | exact sAll rfl | exact sF1 rfl | exact sBld (by repeat' (first | exact trivial | rfl | exact Nat.le_of_ble_eq_true rfl | refine And.intro ?_ ?_)) rfl | exact sBS (by repeat' (first | exact trivial | rfl | exact Nat.le_of_ble_eq_true rfl | refine And.intro ?_ ?_)) rfl rfl rfl rfl | exact sBSF (by repeat' (first | exact trivial | rfl | exact Nat.le_of_ble_eq_true rfl | refine And.intro ?_ ?_)) rfl rfl rfl rfl | exact sLe rfl | exact Chk.mk (by kernel_rfl) | exact ⟨Chk.mk (by kernel_rfl)⟩ | exact sLeEq rfl rfl | refine fun h => ?_)
  all_goals try (exact ⟨apart_one⟩)
  all_goals try (exact Side.mk q2)
  all_goals try (exact trivial)
  all_goals try (exact Side.mk (.ptr _ _ _))
  all_goals try (repeat' (first | exact trivial | exact Side.mk (.sc _) | exact Side.mk (.mk _ _ _ _ (List.Mem.head _)) | exact Side.mk (.tr _ _ _ _ fun y h1 h2 => absurd (hB _ _ y h1 h2) (by decide)) | refine And.intro ?_ ?_); done)
  refine W.sub ⟨22, 1, [(0, .agg [.tr true (B 0).B (B 0).u ((mkL mkNodeL ctNodeL x.nodes (k)).map Node.cells), .tr true (B 1).B (B 1).u (x.net.map Msg.cells), .tr true (B 2).B (B 2).u (x.asked.map Asked.cells), .tr true (B 3).B (B 3).u (x.told.map Told.cells)]), (1, oi (k + ctL ctNodeL x.nodes)), (2, .one (.ptr 0 0 0))], [(0, .box [.tr true (B 0).B (B 0).u ((mkL mkNodeL ctNodeL x.nodes (k)).map Node.cells), .tr true (B 1).B (B 1).u (x.net.map Msg.cells), .tr true (B 2).B (B 2).u (x.asked.map Asked.cells), .tr true (B 3).B (B 3).u (x.told.map Told.cells)])]⟩ [] ?_ ?_
  · repeat' (first | exact trivial | exact Side.mk rfl | exact Chk.mk (by kernel_rfl) | exact ⟨Chk.mk (by kernel_rfl)⟩ | exact ⟨by omega⟩ | refine And.intro ?_ ?_ | rfl)
  have q1 := k_markMsgS x.net (k + ctL ctNodeL x.nodes) (by omega) (by omega) hx.net.1 hx.net.2 (by omega)
  have q2 := tmark_eq (k2 := k + ctL ctNodeL x.nodes + ctL ctMsgL x.net) q1 (by rfl)
  refine W.go [(800003, .row []), (12, .mark (fun _ _ => (.one (.fz ((mkL mkMsgL ctMsgL x.net (k + ctL ctNodeL x.nodes)).map Msg.cells)), k + ctL ctNodeL x.nodes + ctL ctMsgL x.net)) [2] [(0, [(1, 0)])] [0] [(0, 0, 1)])] TTok hmo ?_
  repeat' (first | refine And.intro ?_ ?_ | exact tf | exact ft | refine tt ?_ | refine ff ?_ | exact ⟨trivial⟩ | exact sAll rfl | exact sF1 rfl | exact sBld (by repeat' (first | exact trivial | rfl | exact Nat.le_of_ble_eq_true rfl | refine And.intro ?_ ?_)) rfl | exact sBS (by repeat' (first | exact trivial | rfl | exact Nat.le_of_ble_eq_true rfl | refine And.intro ?_ ?_)) rfl rfl rfl rfl | exact sBSF (by repeat' (first | exact trivial | rfl | exact Nat.le_of_ble_eq_true rfl | refine And.intro ?_ ?_)) rfl rfl rfl rfl | exact sLe rfl | exact Chk.mk (by kernel_rfl) | exact ⟨Chk.mk (by kernel_rfl)⟩ | exact sLeEq rfl rfl | refine fun h => ?_)
  all_goals try (exact ⟨apart_one⟩)
  all_goals try (exact Side.mk q2)
  all_goals try (exact trivial)
  all_goals try (exact Side.mk (.ptr _ _ _))
  all_goals try (repeat' (first | exact trivial | exact Side.mk (.sc _) | exact Side.mk (.mk _ _ _ _ (List.Mem.head _)) | exact Side.mk (.tr _ _ _ _ fun y h1 h2 => absurd (hB _ _ y h1 h2) (by decide)) | refine And.intro ?_ ?_); done)
  refine W.sub ⟨22, 1, [(0, .agg [.tr true (B 0).B (B 0).u ((mkL mkNodeL ctNodeL x.nodes (k)).map Node.cells), .tr true (B 1).B (B 1).u ((mkL mkMsgL ctMsgL x.net (k + ctL ctNodeL x.nodes)).map Msg.cells), .tr true (B 2).B (B 2).u (x.asked.map Asked.cells), .tr true (B 3).B (B 3).u (x.told.map Told.cells)]), (1, oi (k + ctL ctNodeL x.nodes + ctL ctMsgL x.net)), (2, .one (.ptr 0 0 0))], [(0, .box [.tr true (B 0).B (B 0).u ((mkL mkNodeL ctNodeL x.nodes (k)).map Node.cells), .tr true (B 1).B (B 1).u ((mkL mkMsgL ctMsgL x.net (k + ctL ctNodeL x.nodes)).map Msg.cells), .tr true (B 2).B (B 2).u (x.asked.map Asked.cells), .tr true (B 3).B (B 3).u (x.told.map Told.cells)])]⟩ [] ?_ ?_
  · repeat' (first | exact trivial | exact Side.mk rfl | exact Chk.mk (by kernel_rfl) | exact ⟨Chk.mk (by kernel_rfl)⟩ | exact ⟨by omega⟩ | refine And.intro ?_ ?_ | rfl)
  have q1 := k_markAskedS x.asked (k + ctL ctNodeL x.nodes + ctL ctMsgL x.net) (by omega) (by omega) hx.asked.1 hx.asked.2 (by omega)
  have q2 := tmark_eq (k2 := k + ctL ctNodeL x.nodes + ctL ctMsgL x.net + ctL ctAskL x.asked) q1 (by rfl)
  refine W.go [(800004, .row []), (16, .mark (fun _ _ => (.one (.fz ((mkL mkAskL ctAskL x.asked (k + ctL ctNodeL x.nodes + ctL ctMsgL x.net)).map Asked.cells)), k + ctL ctNodeL x.nodes + ctL ctMsgL x.net + ctL ctAskL x.asked)) [2] [(0, [(2, 0)])] [0] [(0, 0, 2)])] TTok hmo ?_
  repeat' (first | refine And.intro ?_ ?_ | exact tf | exact ft | refine tt ?_ | refine ff ?_ | exact ⟨trivial⟩ | exact sAll rfl | exact sF1 rfl | exact sBld (by repeat' (first | exact trivial | rfl | exact Nat.le_of_ble_eq_true rfl | refine And.intro ?_ ?_)) rfl | exact sBS (by repeat' (first | exact trivial | rfl | exact Nat.le_of_ble_eq_true rfl | refine And.intro ?_ ?_)) rfl rfl rfl rfl | exact sBSF (by repeat' (first | exact trivial | rfl | exact Nat.le_of_ble_eq_true rfl | refine And.intro ?_ ?_)) rfl rfl rfl rfl | exact sLe rfl | exact Chk.mk (by kernel_rfl) | exact ⟨Chk.mk (by kernel_rfl)⟩ | exact sLeEq rfl rfl | refine fun h => ?_)
  all_goals try (exact ⟨apart_one⟩)
  all_goals try (exact Side.mk q2)
  all_goals try (exact trivial)
  all_goals try (exact Side.mk (.ptr _ _ _))
  all_goals try (repeat' (first | exact trivial | exact Side.mk (.sc _) | exact Side.mk (.mk _ _ _ _ (List.Mem.head _)) | exact Side.mk (.tr _ _ _ _ fun y h1 h2 => absurd (hB _ _ y h1 h2) (by decide)) | refine And.intro ?_ ?_); done)
  refine W.sub ⟨22, 1, [(0, .agg [.tr true (B 0).B (B 0).u ((mkL mkNodeL ctNodeL x.nodes (k)).map Node.cells), .tr true (B 1).B (B 1).u ((mkL mkMsgL ctMsgL x.net (k + ctL ctNodeL x.nodes)).map Msg.cells), .tr true (B 2).B (B 2).u ((mkL mkAskL ctAskL x.asked (k + ctL ctNodeL x.nodes + ctL ctMsgL x.net)).map Asked.cells), .tr true (B 3).B (B 3).u (x.told.map Told.cells)]), (1, oi (k + ctL ctNodeL x.nodes + ctL ctMsgL x.net + ctL ctAskL x.asked)), (2, .one (.ptr 0 0 0))], [(0, .box [.tr true (B 0).B (B 0).u ((mkL mkNodeL ctNodeL x.nodes (k)).map Node.cells), .tr true (B 1).B (B 1).u ((mkL mkMsgL ctMsgL x.net (k + ctL ctNodeL x.nodes)).map Msg.cells), .tr true (B 2).B (B 2).u ((mkL mkAskL ctAskL x.asked (k + ctL ctNodeL x.nodes + ctL ctMsgL x.net)).map Asked.cells), .tr true (B 3).B (B 3).u (x.told.map Told.cells)])]⟩ [] ?_ ?_
  · repeat' (first | exact trivial | exact Side.mk rfl | exact Chk.mk (by kernel_rfl) | exact ⟨Chk.mk (by kernel_rfl)⟩ | exact ⟨by omega⟩ | refine And.intro ?_ ?_ | rfl)
  have q1 := k_markToldS x.told (k + ctL ctNodeL x.nodes + ctL ctMsgL x.net + ctL ctAskL x.asked) (by omega) (by omega) hx.told
  have q2 := tmark_eq (k2 := k + ctL ctNodeL x.nodes + ctL ctMsgL x.net + ctL ctAskL x.asked + 5 * (x.told.length : Int)) q1 (by have := ctL_const (n := 5) x.told; omega)
  refine W.go [(20, .mark (fun _ _ => (.one (.fz ((mkTolds x.told (k + ctL ctNodeL x.nodes + ctL ctMsgL x.net + ctL ctAskL x.asked)).map Told.cells)), k + ctL ctNodeL x.nodes + ctL ctMsgL x.net + ctL ctAskL x.asked + 5 * (x.told.length : Int))) [2] [(0, [(3, 0)])] [0] [(0, 0, 3)])] TTok hmo ?_
  repeat' (first | refine And.intro ?_ ?_ | exact tf | exact ft | refine tt ?_ | refine ff ?_ | exact ⟨trivial⟩ | exact sAll rfl | exact sF1 rfl | exact sBld (by repeat' (first | exact trivial | rfl | exact Nat.le_of_ble_eq_true rfl | refine And.intro ?_ ?_)) rfl | exact sBS (by repeat' (first | exact trivial | rfl | exact Nat.le_of_ble_eq_true rfl | refine And.intro ?_ ?_)) rfl rfl rfl rfl | exact sBSF (by repeat' (first | exact trivial | rfl | exact Nat.le_of_ble_eq_true rfl | refine And.intro ?_ ?_)) rfl rfl rfl rfl | exact sLe rfl | exact Chk.mk (by kernel_rfl) | exact ⟨Chk.mk (by kernel_rfl)⟩ | exact sLeEq rfl rfl | refine fun h => ?_)
  all_goals try (exact ⟨apart_one⟩)
  all_goals try (exact Side.mk q2)
  all_goals try (exact trivial)
  all_goals try (exact Side.mk (.ptr _ _ _))
  all_goals try (repeat' (first | exact trivial | exact Side.mk (.sc _) | exact Side.mk (.mk _ _ _ _ (List.Mem.head _)) | exact Side.mk (.tr _ _ _ _ fun y h1 h2 => absurd (hB _ _ y h1 h2) (by decide)) | refine And.intro ?_ ?_); done)
  all_goals first | exact ⟨⟨trivial, trivial⟩⟩ | exact ⟨rfl⟩ | exact ⟨trivial⟩ | exact ⟨by repeat' constructor⟩

end Mg

/- How much there is to number in a world whose size is counted. No condition. -/
namespace Mg
open Go Go.RowKit
set_option linter.unusedVariables false
set_option linter.unusedSimpArgs false
/-- What is weighed is at most twenty times what the count takes away. -/
structure SzW (f : Int → Int) (w : Int) : Prop where
  le : ∀ l : Int, 0 ≤ l → f l ≤ l
  wt : ∀ l : Int, 0 ≤ l → 0 ≤ f l → w ≤ 20 * (l - f l)
theorem SzW.imp {f : Int → Int} {w v : Int} (h : SzW f w) (hv : v ≤ w) : SzW f v := ⟨h.le, fun l h0 h1 => Int.le_trans hv (h.wt l h0 h1)⟩
theorem SzW.then_ {f g : Int → Int} {w v : Int} (hf : SzW f w) (hg : SzW g v) : SzW (fun l => thenI (f l) g) (w + v) := by
  refine ⟨fun l h => ?_, fun l h0 h => ?_⟩
  · have := hf.le l h
    simp only [thenI]; split
    · omega
    · have := hg.le (f l) (by omega); omega
  · obtain ⟨h2, h3⟩ := thenI_pos h
    have e : thenI (f l) g = g (f l) := by unfold thenI; rw [if_neg (by omega)]
    simp only [e] at h ⊢
    have h4 := hf.wt l h0 h2
    have h5 := hg.wt _ h2 h3
    omega
theorem SzW.sg {f : Int → Int} {w : Int} (hf : SzW f w) : SzW (fun l => Mg.sg (f l)) w := by
  refine ⟨fun l h => sg_le (hf.le l h) h, fun l h0 h => ?_⟩
  have h1 := sg_pos h
  have e : Mg.sg (f l) = f l := by unfold Mg.sg; rw [if_neg (by omega)]
  simp only [e]
  exact hf.wt l h0 h1
theorem szW_T (n : Nat) : SzW (szT n) (20 * n) := by
  refine ⟨fun l h => szT_le n h, fun l h0 h => ?_⟩
  have h1 := sg_pos h
  have e : szT n l = l - n := by unfold szT Mg.sg; rw [if_neg (by omega)]
  rw [e]; omega
theorem szW_L {α : Type} {f : α → Int → Int} {w : α → Int} (hf : ∀ x, SzW (f x) (w x)) : ∀ xs : List α, SzW (szL f xs) (ctL w xs)
  | [] => ⟨fun l h => Int.le_refl _, fun l _ _ => by simp [ctL, szL]⟩
  | x :: xs => (hf x).then_ (szW_L hf xs)
theorem ctL_add {α : Type} {w : α → Int} {c : Int} : ∀ xs : List α, ctL (fun x => w x + c) xs = ctL w xs + c * xs.length
  | [] => by simp [ctL]
  | x :: xs => by simp only [ctL, ctL_add xs, List.length_cons]; rw [Int.natCast_add, Int.mul_add]; omega
theorem szW_S {α : Type} {f : α → Int → Int} {w : α → Int} (hf : ∀ x, SzW (f x) (w x)) (xs : List α) : SzW (szS f xs) (ctL (fun x => w x + 20) xs) := by
  refine ⟨fun l h => ?_, fun l h0 h => ?_⟩
  · unfold szS thenI
    split
    · omega
    · have := (szW_L hf xs).le (l - xs.length) (by omega); omega
  · obtain ⟨h2, h3⟩ := thenI_pos h
    have e : szS f xs l = szL f xs (l - xs.length) := by unfold szS thenI; rw [if_neg (by omega)]
    rw [e]
    have h5 := (szW_L hf xs).wt _ h2 h3
    rw [ctL_add]; omega
theorem ctL_mono {α : Type} {a b : α → Int} (h : ∀ x, a x ≤ b x) : ∀ xs : List α, ctL a xs ≤ ctL b xs
  | [] => Int.le_refl _
  | x :: xs => by have := h x; have := ctL_mono h xs; simp only [ctL]; omega
theorem szW_run (x : Run) : SzW (szRun x) (2 * (x.reads.length : Int) + 2 * (x.puts.length : Int)) := ((szW_T x.reads.length).then_ (szW_T x.puts.length).sg).imp (by omega)
theorem szW_entry (x : Entry) : SzW (szEntry x) (2 * (x.run.reads.length : Int) + 2 * (x.run.puts.length : Int)) := (szW_run x.run).sg
theorem szW_vote (x : Vote) : SzW (szVote x) (2 * (x.e.run.reads.length : Int) + 2 * (x.e.run.puts.length : Int)) := (szW_entry x.e).sg
theorem szW_votes (xs : List Vote) : SzW (szVoteS xs) (ctVotes xs) := (szW_S szW_vote xs).imp (ctL_mono (fun x => by unfold ctVote; omega) xs)
theorem szW_entries (xs : List Entry) : SzW (szS szEntry xs) (ctEntries xs) := (szW_S szW_entry xs).imp (ctL_mono (fun x => by unfold ctEntry; omega) xs)
theorem szW_acc (x : Acc) : SzW (szAcc x) (ctVotes x.votes) := (szW_votes x.votes).sg
theorem szW_node (x : Node) : SzW (szNode x) (ctNodeL x - 16) :=
  ((szW_acc x.acc).then_ <| (szW_entries x.known).then_ <| (szW_T x.fro.length).then_ <| (szW_votes x.best).then_ <| (szW_entry x.cur).then_ <| (szW_T x.votes.length).then_ <| (szW_T x.prog.length).then_ <| (szW_entry x.want).then_ <| (szW_entries x.queue).sg).imp (by unfold ctNodeL; omega)
theorem szW_msg (x : Msg) : SzW (szMsg x) (ctMsgL x - 10) := ((szW_entry x.e).then_ (szW_votes x.votes).sg).imp (by unfold ctMsgL; omega)
theorem szW_asked (x : Asked) : SzW (szAsked x) (ctAskL x - 2) := (szW_T x.prog.length).sg.imp (by unfold ctAskL; omega)
theorem szW_nodes (xs : List Node) : SzW (szS szNode xs) (ctL ctNodeL xs) := (szW_S szW_node xs).imp (ctL_mono (fun x => by omega) xs)
theorem szW_msgs (xs : List Msg) : SzW (szS szMsg xs) (ctL ctMsgL xs) := (szW_S szW_msg xs).imp (ctL_mono (fun x => by omega) xs)
theorem szW_askeds (xs : List Asked) : SzW (szS szAsked xs) (ctL ctAskL xs) := (szW_S szW_asked xs).imp (ctL_mono (fun x => by omega) xs)
theorem szWorld_bdd {x : World} {l : Int} (h0 : 0 ≤ l) (h1 : l ≤ 1048576) (h : 0 ≤ szWorld x l) (ho : x.ok lim) : x.bdd := by
  have w := ((szW_nodes x.nodes).then_ <| (szW_msgs x.net).then_ <| (szW_askeds x.asked).then_ <| (szW_T x.told.length).sg).wt l h0 h
  have n1 := nodes_nn ho
  have n2 := net_nn ho
  have n3 := asked_nn ho
  have w2 : ctL ctNodeL x.nodes + (ctL ctMsgL x.net + (ctL ctAskL x.asked + 20 * (x.told.length : Int))) ≤ 20 * (l - szWorld x l) := w
  exact ⟨by omega, by omega, by omega⟩
end Mg

/- Lists of trees that fill up. No condition. -/
namespace Mg
open Go Go.RowKit
set_option linter.unusedVariables false
set_option linter.unusedSectionVars false
set_option linter.unusedSectionVars false
/-- A list of which the first ones are trees already. -/
def rowsT {α : Type} (Bf : Nat → Nat → Tk) (c : α → List MC) (xs : List α) (tl : List (List MC)) (i : Nat) : List (List MC) := labR true Bf 0 ((xs.take i).map c) ++ tl.drop i
def noTk : Tk := ⟨fun _ => False, undef⟩
def tkAt : Option MC → Tk → Tk
  | some (.fz _), t => t
  | _, t => noTk
/-- The blocks of the trees so far, with those of one more. -/
def updT (Bf : Nat → Nat → Tk) (i : Nat) (r : List MC) (B : Nat → Tk) : Nat → Nat → Tk := fun i' j => if i' = i then tkAt r[j]? (B j) else Bf i' j
structure FillInv {α : Type} (Bf : Nat → Nat → Tk) (c : α → List MC) (xs : List α) (i : Nat) : Prop where
  ap : Apart Bf
  inn : ∀ i' j x, (Bf i' j).B x → ∃ r d, ((xs.take i).map c)[i']? = some r ∧ r[j]? = some d ∧ inC x (labc true (Bf i' j) d)
section
variable {α : Type} {Bf : Nat → Nat → Tk} {c : α → List MC} {xs : List α} {tl : List (List MC)} {i m : Nat}
theorem FillInv.zero : FillInv (fun _ _ => noTk) c xs 0 := ⟨fun _ _ _ _ _ h => h.elim, fun _ _ _ h => h.elim⟩
theorem rowsT_zero : rowsT Bf c xs tl 0 = tl := by simp [rowsT, labR]
theorem rowsT_len (hl : tl.length = xs.length) : (rowsT Bf c xs tl i).length = xs.length := by simp [rowsT, labR_len, hl]; omega
theorem rowsT_all (hl : tl.length = xs.length) (h : xs.length ≤ i) : rowsT Bf c xs tl i = labR true Bf 0 (xs.map c) := by
  rw [rowsT, List.take_of_length_le h, List.drop_eq_nil_of_le (by omega), List.append_nil]
theorem labRow_flat (hc : ∀ x, (c x).all MC.frz = true) {o : Bool} {B : Nat → Tk} {x : α} : ∀ d ∈ labRow o B 0 (c x), d.flat = true := fun d hd => by
  obtain ⟨j, hj⟩ := List.getElem?_of_mem hd
  rw [labRow_get] at hj
  obtain ⟨d0, h0, rfl⟩ := Option.map_eq_some_iff.1 hj
  have := List.all_eq_true.1 (hc x) d0 (List.mem_of_getElem? h0)
  cases d0 <;> first | (cases this; done) | rfl
theorem sFlatT (hc : ∀ x, (c x).all MC.frz = true) (ht : ∀ r ∈ tl, ∀ d ∈ r, d.flat = true) : Side (∀ r ∈ rowsT Bf c xs tl i, ∀ d ∈ r, d.flat = true) := ⟨fun r hr d hd => by
  rcases List.mem_append.1 hr with hr | hr
  · obtain ⟨k, hk⟩ := List.getElem?_of_mem hr
    rw [labR_get] at hk
    obtain ⟨r0, h0, rfl⟩ := Option.map_eq_some_iff.1 hk
    rw [List.getElem?_map] at h0
    obtain ⟨x, _, rfl⟩ := Option.map_eq_some_iff.1 h0
    exact labRow_flat hc d hd
  · exact ht r (List.mem_of_mem_drop hr) d hd⟩
end
section
variable {α : Type} [Inhabited α] {Bf : Nat → Nat → Tk} {c : α → List MC} {xs : List α} {tl : List (List MC)} {i m : Nat}
theorem rowsT_getD {r : List MC} (hl : tl.length = xs.length) (h : i < xs.length) (hr : tl[i]? = some r) : (rowsT Bf c xs tl i).getD (0 + i) [] = r := by
  have hll : (labR true Bf 0 ((xs.take i).map c)).length = i := by rw [labR_len]; simp; omega
  rw [Nat.zero_add, List.getD_eq_getElem?_getD, rowsT, List.getElem?_append_right (by omega), hll, Nat.sub_self, List.getElem?_drop, Nat.add_zero, hr]; rfl
theorem labR_app (o : Bool) (B : Nat → Nat → Tk) : ∀ (a b : List (List MC)) (k : Nat), labR o B k (a ++ b) = labR o B k a ++ labR o B (k + a.length) b
  | [], b, k => by simp [labR]
  | r :: a, b, k => by
    simp only [List.cons_append, labR, labR_app o B a b (k + 1), List.length_cons]
    rw [show k + 1 + a.length = k + (a.length + 1) by omega]
theorem labR_congr {o : Bool} {B B' : Nat → Nat → Tk} : ∀ (rows : List (List MC)) (k : Nat), (∀ i, k ≤ i → i < k + rows.length → B i = B' i) → labR o B k rows = labR o B' k rows
  | [], k, _ => rfl
  | r :: rows, k, h => by
    simp only [labR]
    rw [h k (Nat.le_refl _) (by simp), labR_congr rows (k + 1) fun i h1 h2 => h i (by omega) (by simp; omega)]
theorem labRow_upd {r : List MC} {B : Nat → Tk} : labRow true (updT Bf i r B i) 0 r = labRow true B 0 r := by
  apply List.ext_getElem?
  intro j
  rw [labRow_get, labRow_get]
  cases hj : r[j]? with
  | none => rfl
  | some d =>
    simp only [Option.map_some, Nat.zero_add, updT, if_true]
    rw [hj]
    cases d <;> rfl
theorem FillInv.stepB (h : FillInv Bf c xs i) (hi : i < xs.length) {B : Nat → Tk} {N : Bk} (hB : ∀ j j' x rows rows', (c (xs.getD i default))[j]? = some (.fz rows) → (c (xs.getD i default))[j']? = some (.fz rows') → (B j).B x → (B j').B x → j = j') (hN : ∀ j x, (B j).B x → N x)
    (hd : ∀ r ∈ rowsT Bf c xs tl i, ∀ d ∈ r, disC N d) : FillInv (updT Bf i (c (xs.getD i default)) B) c xs (i + 1) := by
  have hin : ∀ i' j x, (Bf i' j).B x → i' < i ∧ ¬ N x := fun i' j x hx => by
    obtain ⟨r, d, h1, h2, h3⟩ := h.inn i' j x hx
    have hlt := (List.getElem?_eq_some_iff.1 h1).1
    refine ⟨by simp at hlt; omega, ?_⟩
    have h4 : labRow true (Bf i') 0 r ∈ rowsT Bf c xs tl i := List.mem_append_left _ (List.mem_of_getElem? (by rw [labR_get, h1, Nat.zero_add]; rfl))
    have h5 : labc true (Bf i' j) d ∈ labRow true (Bf i') 0 r := List.mem_of_getElem? (by rw [labRow_get, h2, Nat.zero_add]; rfl)
    have h6 := hd _ h4 _ h5
    intro h7
    generalize labc true (Bf i' j) d = dd at h3 h6
    cases dd <;> first | exact h3.elim | exact h6 x h3 h7
  have hnew : ∀ j x, (tkAt (c (xs.getD i default))[j]? (B j)).B x → (B j).B x ∧ ∃ rows, (c (xs.getD i default))[j]? = some (.fz rows) := fun j x hx => by
    unfold tkAt at hx
    split at hx
    · rename_i rows hr; exact ⟨hx, rows, hr⟩
    · exact hx.elim
  refine ⟨fun i1 j1 i2 j2 x h1 h2 => ?_, fun i' j x hx => ?_⟩
  · simp only [updT] at h1 h2
    split at h1 <;> split at h2
    · rename_i e1 e2
      obtain ⟨g1, r1, g2⟩ := hnew _ _ h1
      obtain ⟨g3, r2, g4⟩ := hnew _ _ h2
      exact ⟨e1.trans e2.symm, hB j1 j2 x _ _ g2 g4 g1 g3⟩
    · exact absurd (hN _ _ (hnew _ _ h1).1) (hin i2 j2 x h2).2
    · exact absurd (hN _ _ (hnew _ _ h2).1) (hin i1 j1 x h1).2
    · exact h.ap i1 j1 i2 j2 x h1 h2
  · have htk : (xs.take (i + 1)).map c = (xs.take i).map c ++ [c (xs.getD i default)] := by rw [take1 hi]; simp
    have hll : ((xs.take i).map c).length = i := by simp; omega
    simp only [updT] at hx ⊢
    by_cases e : i' = i
    · subst e
      rw [if_pos rfl] at hx ⊢
      obtain ⟨h1, rows, h2⟩ := hnew j x hx
      refine ⟨_, _, by rw [htk, List.getElem?_append_right (by omega), hll, Nat.sub_self]; rfl, h2, ?_⟩
      rw [h2] at hx ⊢
      exact hx
    · rw [if_neg e] at hx ⊢
      obtain ⟨r, d, h1, h2, h3⟩ := h.inn i' j x hx
      exact ⟨r, d, by rw [htk, List.getElem?_append_left (List.getElem?_eq_some_iff.1 h1).1]; exact h1, h2, h3⟩
theorem FillInv.step (h : FillInv Bf c xs i) (hi : i < xs.length) {B : Nat → Nat → Tk} (hB : Apart B) (hd : ∀ r ∈ rowsT Bf c xs tl i, ∀ d ∈ r, disC (Any B) d) :
    FillInv (updT Bf i (c (xs.getD i default)) (B 0)) c xs (i + 1) :=
  h.stepB hi (N := Any B) (fun j j' x _ _ _ _ h1 h2 => (hB 0 j 0 j' x h1 h2).2) (fun j x hx => ⟨0, j, hx⟩) hd
theorem rowsT_set (hl : tl.length = xs.length) (hi : i < xs.length) {B : Nat → Tk} : (rowsT Bf c xs tl i).set (0 + i) (labRow true B 0 (c (xs.getD i default))) = rowsT (updT Bf i (c (xs.getD i default)) B) c xs tl (i + 1) := by
  have hll : (labR true Bf 0 ((xs.take i).map c)).length = i := by rw [labR_len]; simp; omega
  have hl2 : ((xs.take i).map c).length = i := by simp; omega
  rw [rowsT, Nat.zero_add, List.set_append, if_neg (by omega), hll, Nat.sub_self, List.drop_eq_getElem_cons (by omega), List.set_cons_zero, rowsT, take1 hi, List.map_append, labR_app, hl2, Nat.zero_add]
  rw [List.append_assoc]
  congr 1
  · exact labR_congr _ 0 fun k h1 h2 => by
      rw [hl2] at h2
      funext j
      simp only [updT]
      rw [if_neg (by omega)]
  · simp only [List.map_cons, List.map_nil, labR, List.cons_append, List.nil_append]
    rw [labRow_upd]
theorem sIxT {k : Int} {n : Nat} {r : List MC} (hl : tl.length = xs.length) (h0 : k = i) (h : i < xs.length) (hn : n = xs.length) (hr : tl[i]? = some r) (hm : r.length = m) :
    Side ((0 ≤ k ∧ k < n) ∧ 0 + k.toNat < (rowsT Bf c xs tl i).length ∧ ((rowsT Bf c xs tl i).getD (0 + k.toNat) []).length = m) := by
  subst h0
  rw [Int.toNat_natCast, rowsT_len hl, rowsT_getD hl h hr, hn]
  exact ⟨⟨by omega, by omega⟩, by omega, hm⟩
theorem sStT {off n z : Nat} {k : Nat} {r : List MC} (hl : tl.length = xs.length) (hk : k = i) (h : i < xs.length) (hr : tl[i]? = some r) (hb : Nat.ble (off + n) r.length = true) (hz : n = z) :
    Side ((0 + k < (rowsT Bf c xs tl i).length ∧ off + n ≤ ((rowsT Bf c xs tl i).getD (0 + k) []).length) ∧ n = z) := by
  subst hk
  rw [rowsT_len hl, rowsT_getD hl h hr]
  exact ⟨⟨by omega, Nat.le_of_ble_eq_true hb⟩, hz⟩
theorem sSetT {k off : Nat} {r cs : List MC} {B : Nat → Tk} (hl : tl.length = xs.length) (hk : k = i) (h : i < xs.length) (hr : tl[i]? = some r) (he : putAt r off cs = labRow true B 0 (c (xs.getD i default))) :
    Side (rowsT (updT Bf i (c (xs.getD i default)) B) c xs tl (i + 1) = (rowsT Bf c xs tl i).set (0 + k) (putAt ((rowsT Bf c xs tl i).getD (0 + k) []) off cs)) := by
  subst hk
  rw [rowsT_getD hl h hr, he, rowsT_set hl h]; exact ⟨rfl⟩
theorem sLdT {k off n : Nat} {r cs : List MC} (hl : tl.length = xs.length) (hk : k = i) (h : i < xs.length) (hr : tl[i]? = some r) (hb : Nat.ble n (r.drop off).length = true) (he : (r.drop off).take n = cs) :
    Side (n ≤ (List.drop off ((rowsT Bf c xs tl i).getD (0 + k) [])).length ∧ MV.agg (List.take n (List.drop off ((rowsT Bf c xs tl i).getD (0 + k) []))) = MV.agg cs) := by
  subst hk
  rw [rowsT_getD hl h hr, he]; exact ⟨⟨Nat.le_of_ble_eq_true hb, rfl⟩⟩
end
theorem sZ0 {α : Type} {Bf : Nat → Nat → Tk} {c : α → List MC} {xs : List α} {z : List MC} {n : Nat} (h : n = xs.length) : Side (rowsT Bf c xs (List.replicate xs.length z) 0 = List.replicate n z) := ⟨by rw [rowsT_zero, h]⟩
theorem rep_get {z : List MC} {n i : Nat} (h : i < n) : (List.replicate n z)[i]? = some z := by simp [h]
theorem rep_flat {z : List MC} {n : Nat} (hz : z.all MC.flat = true) : ∀ r ∈ List.replicate n z, ∀ d ∈ r, d.flat = true := fun r hr d hd => by
  rw [List.eq_of_mem_replicate hr] at hd; exact List.all_eq_true.1 hz d hd
theorem labRow_sc {B : Nat → Tk} : ∀ {cs : List MC} {k : Nat}, (∀ c ∈ cs, ∃ v, c = .sc v) → labRow true B k cs = cs
  | [], _, _ => rfl
  | c :: cs, k, h => by
    obtain ⟨v, rfl⟩ := h c (by simp)
    simp only [labRow, labRow_sc (cs := cs) fun c hc => h c (List.mem_cons_of_mem _ hc)]; rfl
theorem labR_sc {B : Nat → Nat → Tk} : ∀ {rows : List (List MC)} {k : Nat}, (∀ r ∈ rows, ∀ c ∈ r, ∃ v, c = .sc v) → labR true B k rows = rows
  | [], _, _ => rfl
  | r :: rows, k, h => by simp only [labR, labRow_sc (h r (by simp)), labR_sc (rows := rows) fun r hr => h r (List.mem_cons_of_mem _ hr)]
def scB : MC → Bool
  | .sc _ => true
  | _ => false
/-- A flat list at the end. -/
theorem endFlat {α : Type} [Inhabited α] {c : α → List MC} {xs : List α} {len : Nat} {rows : List (List MC)} (hr : rows = xs.map c) (hl : len = xs.length) (hf : ∀ x, (c x).all MC.frz = true) (hc : ∀ x, (c x).all scB = true) :
    ∃ B : Nat → Nat → Tk, Side (len = (xs.map c).length ∧ rows = labR true B 0 (xs.map c)) ∧ Side (Apart B) ∧ Side (AllF (xs.map c)) :=
  ⟨fun _ _ => noTk, ⟨by rw [hl, List.length_map], by rw [hr, labR_sc fun r hr => by obtain ⟨x, _, rfl⟩ := List.mem_map.1 hr; exact fun d hd => (by have := List.all_eq_true.1 (hc x) d hd; cases d <;> first | exact ⟨_, rfl⟩ | (cases this; done))]⟩, ⟨fun _ _ _ _ _ h => h.elim⟩, ⟨map_frz hf⟩⟩
theorem endTree {α : Type} [Inhabited α] {c : α → List MC} {xs : List α} {tl : List (List MC)} {len i : Nat} {Bf : Nat → Nat → Tk} (hi : FillInv Bf c xs i) (ht : tl.length = xs.length) (h : xs.length ≤ i) (hl : len = xs.length) (hf : ∀ x, (c x).all MC.frz = true) :
    ∃ B : Nat → Nat → Tk, Side (len = (xs.map c).length ∧ rowsT Bf c xs tl i = labR true B 0 (xs.map c)) ∧ Side (Apart B) ∧ Side (AllF (xs.map c)) :=
  ⟨Bf, ⟨by rw [hl, List.length_map], rowsT_all ht h⟩, ⟨hi.ap⟩, ⟨map_frz hf⟩⟩
/-- Trees of a struct, apart, reckoned. -/
def disAll (B : Bk) : List MC → Prop
  | [] => True
  | .tr _ B' _ _ :: cs => (∀ x, B x → ¬ B' x) ∧ disAll B cs
  | _ :: cs => disAll B cs
def apartL : List MC → Prop
  | [] => True
  | .tr _ B _ _ :: cs => disAll B cs ∧ apartL cs
  | _ :: cs => apartL cs
theorem disAll_ok {B : Bk} : ∀ {cs : List MC}, disAll B cs → ∀ c ∈ cs, ∀ x, B x → ¬ inC x c
  | [], _, c, hc => by cases hc
  | d :: cs, h, c, hc => fun x hx hi => by
    rcases List.mem_cons.1 hc with rfl | hc
    · cases c <;> first | exact hi.elim | exact h.1 x hx hi
    · have h' : disAll B cs := by cases d <;> first | exact h | exact h.2
      exact disAll_ok h' c hc x hx hi
theorem apartL_ok : ∀ {cs : List MC}, apartL cs → ∀ (j j' : Nat) (c d : MC), cs[j]? = some c → cs[j']? = some d → ∀ x, inC x c → inC x d → j = j'
  | [], _, j, j', c, d, h1, _ => by simp at h1
  | e :: cs, h, j, j', c, d, h1, h2 => fun x hx hy => by
    have ht : apartL cs := by cases e <;> first | exact h | exact h.2
    have hd : ∀ c ∈ cs, inC x e → ¬ inC x c := fun c hc he => by
      cases e <;> first | exact he.elim | exact disAll_ok h.1 c hc x he
    cases j with
    | zero =>
      cases j' with
      | zero => rfl
      | succ j' =>
        obtain rfl := Option.some.inj h1
        exact absurd hy (hd d (List.mem_of_getElem? (by simpa using h2)) hx)
    | succ j =>
      cases j' with
      | zero =>
        obtain rfl := Option.some.inj h2
        exact absurd hx (hd c (List.mem_of_getElem? (by simpa using h1)) hy)
      | succ j' => rw [apartL_ok ht j j' c d (by simpa using h1) (by simpa using h2) x hx hy]
theorem apart_agg {cs : List MC} (h : apartL cs) : Apart fun i j => ⟨setAt [.agg cs] i j, undef⟩ := fun i j i' j' x h1 h2 => by
  have key : ∀ i j, setAt [.agg cs] i j x → i = 0 ∧ ∃ c, cs[j]? = some c ∧ inC x c := fun i j h => by
    cases i with
    | succ i => exact (by simp [setAt, cellsV, inC] at h : False).elim
    | zero =>
      have h : inC x (cs.getD j .dead) := h
      rw [List.getD_eq_getElem?_getD] at h
      cases hj : cs[j]? with
      | none => rw [hj] at h; exact h.elim
      | some c => rw [hj] at h; exact ⟨rfl, c, rfl, h⟩
  obtain ⟨e1, c, hc, h3⟩ := key i j h1
  obtain ⟨e2, d, hd, h4⟩ := key i' j' h2
  exact ⟨e1.trans e2.symm, apartL_ok h j j' c d hc hd x h3 h4⟩
theorem disAll_app {B : Bk} : ∀ {a b : List MC}, disAll B (a ++ b) → disAll B a ∧ disAll B b
  | [], b, h => ⟨trivial, h⟩
  | c :: a, b, h => by
    have h' : disAll B (a ++ b) := by cases c <;> first | exact h | exact h.2
    obtain ⟨h1, h2⟩ := disAll_app h'
    refine ⟨?_, h2⟩
    cases c <;> first | exact h1 | exact ⟨h.1, h1⟩
theorem apartL_app : ∀ {a b : List MC}, apartL (a ++ b) → apartL a ∧ apartL b ∧ ∀ c ∈ a, ∀ d ∈ b, ∀ x, inC x c → ¬ inC x d
  | [], b, h => ⟨trivial, h, fun c hc => by cases hc⟩
  | c :: a, b, h => by
    have ht : apartL (a ++ b) := by cases c <;> first | exact h | exact h.2
    obtain ⟨h1, h2, h3⟩ := apartL_app ht
    refine ⟨?_, h2, fun e he d hd x hx => ?_⟩
    · cases c <;> first | exact h1 | exact ⟨(disAll_app h.1).1, h1⟩
    · rcases List.mem_cons.1 he with rfl | he
      · cases e <;> first | exact hx.elim | exact disAll_ok (disAll_app h.1).2 d hd x hx
      · exact h3 e he d hd x hx
theorem setAt_in {vs : List MV} {i j x : Nat} (h : setAt vs i j x) : ∃ v c, vs[i]? = some v ∧ (cellsV v)[j]? = some c ∧ inC x c := by
  unfold setAt at h
  rw [List.getD_eq_getElem?_getD, List.getD_eq_getElem?_getD] at h
  cases hv : vs[i]? with
  | none => rw [hv] at h; exact (by simp [cellsV, inC] at h : False).elim
  | some v =>
    rw [hv] at h
    cases hc : (cellsV v)[j]? with
    | none => simp only [Option.getD_some, hc] at h; exact h.elim
    | some c => simp only [Option.getD_some, hc] at h; exact ⟨v, c, rfl, hc, h⟩
theorem apart_vs' : ∀ {vs : List MV}, apartL (vs.flatMap cellsV) → ∀ (i j i' j' x : Nat), setAt vs i j x → setAt vs i' j' x → i = i' ∧ j = j'
  | [], _, i, j, _, _, x, h1, _ => by obtain ⟨v, c, hv, _⟩ := setAt_in h1; simp at hv
  | v :: vs, h, i, j, i', j', x, h1, h2 => by
    rw [List.flatMap_cons] at h
    obtain ⟨h3, h4, h5⟩ := apartL_app h
    obtain ⟨a, c, ha, hc, hx⟩ := setAt_in h1
    obtain ⟨b, d, hb, hd, hy⟩ := setAt_in h2
    have hin : ∀ {k : Nat} {e : MV} {g : MC} {l : Nat}, vs[k]? = some e → (cellsV e)[l]? = some g → g ∈ vs.flatMap cellsV := fun h6 h7 => List.mem_flatMap.2 ⟨_, List.mem_of_getElem? h6, List.mem_of_getElem? h7⟩
    cases i with
    | zero =>
      obtain rfl := Option.some.inj ha
      cases i' with
      | zero =>
        obtain rfl := Option.some.inj hb
        exact ⟨rfl, apartL_ok h3 j j' c d hc hd x hx hy⟩
      | succ i' => exact absurd hy (h5 c (List.mem_of_getElem? hc) d (hin (by simpa using hb) hd) x hx)
    | succ i =>
      cases i' with
      | zero =>
        obtain rfl := Option.some.inj hb
        exact absurd hx (h5 d (List.mem_of_getElem? hd) c (hin (by simpa using ha) hc) x hy)
      | succ i' =>
        have := apart_vs' h4 i j i' j' x h1 h2
        exact ⟨by rw [this.1], this.2⟩
theorem apart_vs {vs : List MV} (h : apartL (vs.flatMap cellsV)) : Apart fun i j => ⟨setAt vs i j, undef⟩ := fun i j i' j' x h1 h2 => apart_vs' h i j i' j' x h1 h2
/-- Trees of a struct, apart. -/
theorem apart_none {vs : List MV} (h : ∀ i j, ∀ x, ¬ setAt vs i j x) : Apart fun i j => ⟨setAt vs i j, undef⟩ := fun i j _ _ x h1 => absurd h1 (h i j x)
end Mg

/- Ranges. No condition. -/
namespace Mg
open Go Go.RowKit
set_option maxRecDepth 100000
set_option linter.unusedVariables false
set_option linter.unusedSimpArgs false
attribute [local irreducible] W Pure

def inr (n lo hi : Int) : Bool := decide (lo ≤ n) && decide (n ≤ hi)
theorem c_impl_in (n lo hi : Int) : Pure PP false 47 [oi n, oi lo, oi hi] (ob (inr n lo hi)) := by
  refine Pure.vc [] TTok hmo Go.Proofs.Try.func47 (by kernel_rfl) rfl (by kernel_rfl) ?_
  repeat' (first | refine And.intro ?_ ?_ | exact tf | exact ft | refine tt ?_ | refine ff ?_ | exact ⟨trivial⟩ | exact sAll rfl | exact sF1 rfl | exact sBld (by repeat' (first | exact trivial | rfl | exact Nat.le_of_ble_eq_true rfl | refine And.intro ?_ ?_)) rfl | exact sBS (by repeat' (first | exact trivial | rfl | exact Nat.le_of_ble_eq_true rfl | refine And.intro ?_ ?_)) rfl rfl rfl rfl | exact sBSF (by repeat' (first | exact trivial | rfl | exact Nat.le_of_ble_eq_true rfl | refine And.intro ?_ ?_)) rfl rfl rfl rfl | exact sLe rfl | exact Chk.mk (by kernel_rfl) | exact ⟨Chk.mk (by kernel_rfl)⟩ | exact sLeEq rfl rfl | refine fun h => ?_)
  all_goals (refine ⟨?_⟩; simp_all [inr])
  all_goals omega
def reqOk (q : Two) : Bool := inr q.a 0 2 && inr q.b 1 1000
def saw (xs : List Two) (b : Int) : Bool := xs.any fun x => x.a == b
theorem saw_step {xs : List Two} {b : Int} {i : Nat} (h : i < xs.length) : saw (xs.take (i + 1)) b = (saw (xs.take i) b || (xs.getD i default).a == b) := by
  unfold saw
  rw [getD_get h, List.take_succ_eq_append_getElem h, List.any_append]
  simp only [List.any_cons, List.any_nil, Bool.or_false]
theorem saw_mem {xs : List Two} {b : Int} {i : Nat} (h : i < xs.length) (he : (xs.getD i default).a = b) : saw xs b = true := by
  simp only [saw, List.any_eq_true, beq_iff_eq]
  exact ⟨_, getD_mem h, he⟩
def atI (xs : List Two) (b : Int) : Int := match xs with
  | [] => -1
  | x :: xs => if x.a = b then 0 else if atI xs b < 0 then -1 else atI xs b + 1
theorem atI_get {b : Int} : ∀ {xs : List Two} {i : Nat}, i < xs.length → saw (xs.take i) b = false → (xs.getD i default).a = b → atI xs b = i
  | [], i, h, _, _ => by simp at h
  | x :: xs, 0, h, _, he => by
    have : x.a = b := he
    simp [atI, this]
  | x :: xs, i + 1, h, hp, he => by
    have h1 : ¬ x.a = b ∧ saw (xs.take i) b = false := by
      simp only [saw, List.take_succ_cons, List.any_cons, Bool.or_eq_false_iff, beq_eq_false_iff_ne, ne_eq] at hp
      exact hp
    have := atI_get (xs := xs) (i := i) (by simpa using h) h1.2 he
    simp only [atI, if_neg h1.1, this]
    rw [if_neg (by omega)]; omega
theorem atI_none {b : Int} : ∀ {xs : List Two}, saw xs b = false → atI xs b = -1
  | [], _ => rfl
  | x :: xs, hp => by
    simp only [saw, List.any_cons, Bool.or_eq_false_iff, beq_eq_false_iff_ne, ne_eq] at hp
    simp only [atI, if_neg hp.1, atI_none (xs := xs) hp.2]
    rfl
theorem atI_neg {b : Int} {xs : List Two} : decide (0 ≤ atI xs b) = saw xs b := by
  induction xs with
  | nil => rfl
  | cons x xs ih =>
    simp only [atI, saw, List.any_cons]
    by_cases h : x.a = b
    · simp [h]
    · simp only [if_neg h]
      have h' : (x.a == b) = false := by simpa using h
      rw [h', Bool.false_or, ← saw, ← ih]
      by_cases g : atI xs b < 0
      · simp [g]
      · rw [if_neg g]; simp; omega
end Mg

/- Runs that are right. No condition. -/
namespace Mg
open Go Go.RowKit
set_option maxRecDepth 100000
set_option linter.unusedVariables false
set_option linter.unusedSimpArgs false
attribute [local irreducible] W Pure

def elemOk (lo : Int) (xs : List Two) (i : Nat) : Bool := inr (xs.getD i default).a 0 3 && inr (xs.getD i default).b lo 1000000 && !saw (xs.take i) (xs.getD i default).a
def listOk (lo : Int) (xs : List Two) : Bool := (List.range xs.length).all (elemOk lo xs)
def headOk (r : Run) : Bool := inr r.d 0 3 && inr r.c (-1000000) 1000000 && !(r.d != 0 && (r.c != 0 || decide (0 < r.puts.length))) && !(r.d == 3 && decide (0 < r.reads.length))
def execOk (r : Run) : Bool := headOk r && listOk 0 r.reads && listOk (-1000000) r.puts
theorem listOk_bad {lo : Int} {xs : List Two} {i : Nat} (h : i < xs.length) (he : elemOk lo xs i = false) : listOk lo xs = false := by
  unfold listOk
  rw [List.all_eq_false]
  exact ⟨i, List.mem_range.2 h, by rw [he]; simp⟩
theorem listOk_all {lo : Int} {xs : List Two} {i : Nat} (h : xs.length ≤ i) (he : ∀ j, j < i → j < xs.length → elemOk lo xs j = true) : listOk lo xs = true := by
  unfold listOk
  rw [List.all_eq_true]
  exact fun j hj => he j (by have := List.mem_range.1 hj; omega) (List.mem_range.1 hj)
end Mg

/- Runs that are right: spec's walk. No condition. -/
namespace Mg
open Go Go.RowKit
set_option maxRecDepth 100000
set_option linter.unusedVariables false
set_option linter.unusedSimpArgs false
attribute [local irreducible] W Pure
theorem atI_saw {xs : List Two} {b : Int} : atI xs b ≥ 0 ↔ saw xs b = true := by
  rw [← atI_neg, decide_eq_true_eq]
theorem atI_nsaw {xs : List Two} {b : Int} : ¬ atI xs b ≥ 0 ↔ saw xs b = false := by
  rw [← atI_neg, decide_eq_false_iff_not]
end Mg

/- Runs that are right: impl's walk. No condition. -/
namespace Mg
open Go Go.RowKit
set_option maxRecDepth 100000
set_option linter.unusedVariables false
set_option linter.unusedSimpArgs false
attribute [local irreducible] W Pure
theorem inr_cases {a : Int} : a = 0 ∨ a = 1 ∨ a = 2 ∨ a = 3 ∨ inr a 0 3 = false := by
  by_cases h : inr a 0 3 = true
  · simp only [inr, Bool.and_eq_true, decide_eq_true_eq] at h; omega
  · simp only [Bool.not_eq_true] at h; simp [h]
theorem saw_other {xs : List Two} {i : Nat} {a b k : Int} (hi : i < xs.length) (hx : xs.getD i default = ⟨a, b⟩) (h : a ≠ k) : saw (xs.take (i + 1)) k = saw (xs.take i) k := by
  rw [saw_step hi, hx]; simp [h]
theorem saw_this {xs : List Two} {i : Nat} {a b : Int} (hi : i < xs.length) (hx : xs.getD i default = ⟨a, b⟩) : saw (xs.take (i + 1)) a = true := by
  rw [saw_step hi, hx]; simp
theorem row_is {xs : List Two} {i : Nat} {x : Two} (h : i < xs.length) (hx : xs.getD i default = x) : (xs.map Two.cells)[((i : Int)).toNat]? = some x.cells := by
  rw [← hx]; exact row_at xs _ h
theorem elemOk_is {lo : Int} {xs : List Two} {i : Nat} {a b : Int} (hx : xs.getD i default = ⟨a, b⟩) : elemOk lo xs i = (inr a 0 3 && inr b lo 1000000 && !saw (xs.take i) a) := by
  unfold elemOk; rw [hx]
end Mg

/- Entries, votes and acceptors that are right. No condition. -/
namespace Mg
open Go Go.RowKit
set_option maxRecDepth 100000
set_option linter.unusedVariables false
set_option linter.unusedSimpArgs false
attribute [local irreducible] W Pure
theorem all_step {α : Type} [Inhabited α] {f : α → Bool} {xs : List α} {i : Nat} (h : i < xs.length) (hp : (xs.take i).all f = true) (he : f (xs.getD i default) = true) : (xs.take (i + 1)).all f = true := by
  rw [getD_get h] at he
  rw [List.take_succ_eq_append_getElem h, List.all_append]
  simp [hp, he]
theorem all_bad {α : Type} [Inhabited α] {f : α → Bool} {xs : List α} {i : Nat} (h : i < xs.length) (he : f (xs.getD i default) = false) : xs.all f = false := by
  rw [List.all_eq_false]
  exact ⟨_, getD_mem h, by rw [he]; simp⟩
theorem all_end {α : Type} [Inhabited α] {f : α → Bool} {xs : List α} {i : Nat} (h : xs.length ≤ i) (hp : (xs.take i).all f = true) : xs.all f = true := by
  rwa [List.take_of_length_le h] at hp

def zeroRun : Run := ⟨[], [], 0, 0⟩
def zeroE (n : Bool) : Entry := ⟨n, ⟨0, 0⟩, zeroRun⟩
theorem zeroRun_ok {n : Nat} : zeroRun.ok n := ⟨Nat.zero_le _, Nat.zero_le _⟩
def entryOk (e : Entry) : Bool := if e.none then decide (e = zeroE true) else reqOk e.q && execOk e.run && e.run.d != 3
def voteOk (v : Vote) : Bool := if v.bal = 0 then decide (v.e = zeroE false) else inr v.bal 1 3000 && entryOk v.e
def votesOk (xs : List Vote) : Bool := decide (xs.length ≤ 40) && xs.all voteOk
def accOk (a : Acc) : Bool := inr a.p 0 3000 && votesOk a.votes && a.votes.all fun v => decide (v.bal ≤ a.p)

end Mg

/- What is shared by the walks: copies of the other side, lists of votes. No condition. -/
namespace Mg
open Go Go.RowKit
set_option maxRecDepth 100000
set_option linter.unusedVariables false
set_option linter.unusedSimpArgs false
attribute [local irreducible] W Pure Con
def noT : ConT := ⟨Unit, fun _ => True, fun _ => .un, fun _ => []⟩
theorem c_l3Copy (x : Run) (hx : x.ok lim) : Pure PP false 91 [.agg x.cells] (.agg x.cells) := by
  have hx0 : x.reads.length ≤ 1048576 := hx.1
  have hx1 : x.puts.length ≤ 1048576 := hx.2
  refine Pure.vc [(6, .res (.one (.fz (x.reads.map Two.cells)))), (10, .res (.one (.fz (x.puts.map Two.cells))))] TTok hmo Go.Proofs.Try.func91 (by kernel_rfl) rfl (by kernel_rfl) ?_
  repeat' (first | refine And.intro ?_ ?_ | exact tf | exact ft | refine tt ?_ | refine ff ?_ | exact ⟨trivial⟩ | exact sAll rfl | exact sF1 rfl | exact sBld (by repeat' (first | exact trivial | rfl | exact Nat.le_of_ble_eq_true rfl | refine And.intro ?_ ?_)) rfl | exact sBS (by repeat' (first | exact trivial | rfl | exact Nat.le_of_ble_eq_true rfl | refine And.intro ?_ ?_)) rfl rfl rfl rfl | exact sBSF (by repeat' (first | exact trivial | rfl | exact Nat.le_of_ble_eq_true rfl | refine And.intro ?_ ?_)) rfl rfl rfl rfl | exact sLe rfl | exact Chk.mk (by kernel_rfl) | exact ⟨Chk.mk (by kernel_rfl)⟩ | exact sLeEq rfl rfl | refine fun h => ?_)
  all_goals try (exact sAppF (c := Two.cells) (xs := x.reads) (toA_map fun _ => rfl) (fun _ => rfl) Two.frz (by omega) rfl)
  all_goals try (exact sAppF (c := Two.cells) (xs := x.puts) (toA_map fun _ => rfl) (fun _ => rfl) Two.frz (by omega) rfl)
  all_goals exact ⟨⟨Nat.le_of_ble_eq_true rfl, trivial⟩, rfl, rfl, rfl, rfl, trivial⟩
theorem c_l5Entry (e : Entry) (he : e.ok lim) : Pure PP false 67 [.agg e.cells] (.agg e.cells) := by
  refine Pure.vc [(9, .res (.agg e.run.cells))] TTok hmo Go.Proofs.Try.func67 (by kernel_rfl) rfl (by kernel_rfl) ?_
  repeat' (first | refine And.intro ?_ ?_ | exact tf | exact ft | refine tt ?_ | refine ff ?_ | exact ⟨trivial⟩ | exact sAll rfl | exact sF1 rfl | exact sBld (by repeat' (first | exact trivial | rfl | exact Nat.le_of_ble_eq_true rfl | refine And.intro ?_ ?_)) rfl | exact sBS (by repeat' (first | exact trivial | rfl | exact Nat.le_of_ble_eq_true rfl | refine And.intro ?_ ?_)) rfl rfl rfl rfl | exact sBSF (by repeat' (first | exact trivial | rfl | exact Nat.le_of_ble_eq_true rfl | refine And.intro ?_ ?_)) rfl rfl rfl rfl | exact sLe rfl | exact Chk.mk (by kernel_rfl) | exact ⟨Chk.mk (by kernel_rfl)⟩ | exact sLeEq rfl rfl | exact sAnd (by repeat' constructor) (c_l3Copy _ he) | refine fun h => ?_)
  all_goals exact ⟨⟨Nat.le_of_ble_eq_true rfl, trivial⟩, rfl, rfl, rfl, rfl, rfl, rfl, rfl, trivial⟩
theorem sAppL2 {α : Type} {xs : List α} {x : α} {m n : Nat} (hm : m = xs.length) (hn : n = 1) : Side (m + n = (xs ++ [x]).length) := ⟨by simp [hm, hn]⟩
theorem Vote.ok_default : (default : Vote).ok 30 := ⟨Nat.zero_le _, Nat.zero_le _⟩
def VsOk (n : Nat) (vs : List Vote) : Prop := ∀ v ∈ vs, v.ok n
theorem VsOk.app {n : Nat} {vs : List Vote} {v : Vote} (h : VsOk n vs) (hv : v.ok n) : VsOk n (vs ++ [v]) := fun x hx => by
  rcases List.mem_append.1 hx with hx | hx
  · exact h x hx
  · simp at hx; rw [hx]; exact hv
theorem VsOk.set {n k : Nat} {vs : List Vote} {v : Vote} (h : VsOk n vs) (hv : v.ok n) : VsOk n (vs.set k v) := fun x hx => by
  rcases List.mem_or_eq_of_mem_set hx with hx | hx
  · exact h x hx
  · rw [hx]; exact hv
theorem VsOk.get {n : Nat} {vs : List Vote} (h : VsOk n vs) (i : Nat) : (vs.getD i default).ok n := by
  by_cases hi : i < vs.length
  · exact h _ (getD_mem hi)
  · have : vs.getD i default = default := by simp [List.getD_eq_getElem?_getD, List.getElem?_eq_none (Nat.le_of_not_lt hi)]
    rw [this]; exact ⟨Nat.zero_le _, Nat.zero_le _⟩
theorem VsOk.lim {vs : List Vote} (h : VsOk 30 vs) : VsOk lim vs := fun v hv => ⟨Nat.le_trans (h v hv).1 (by decide), Nat.le_trans (h v hv).2 (by decide)⟩
theorem inr_iff {n lo hi : Int} : inr n lo hi = true ↔ lo ≤ n ∧ n ≤ hi := by simp [inr]
theorem inr_no {n lo hi : Int} (h : inr n lo hi = false) : ¬ (lo ≤ n ∧ n ≤ hi) := fun g => by rw [inr_iff.2 g] at h; cases h
theorem getD_none {a : List Vote} {i : Nat} (h : ¬ i < a.length) : a.getD i default = default := by simp [List.getD_eq_getElem?_getD, List.getElem?_eq_none (Nat.le_of_not_lt h)]
end Mg
