/- Messages. No condition. -/
import Derived.Test.YthflichlfpmenaaGreatR1H
namespace Mg
open Go Go.RowKit
set_option maxRecDepth 100000
set_option linter.unusedVariables false
set_option linter.unusedSimpArgs false
attribute [local irreducible] W Pure
structure Msg where
  kind : Int
  src : Int
  dst : Int
  bal : Int
  slot : Int
  e : Entry
  votes : List Vote
  deriving DecidableEq, Inhabited
def Msg.cells (x : Msg) : List MC := [i6 x.kind, i6 x.src, i6 x.dst, i6 x.bal, i6 x.slot] ++ x.e.cells ++ [.fz (x.votes.map Vote.cells)]
def Msg.ok (n : Nat) (x : Msg) : Prop := x.e.ok n ∧ VotesOk n x.votes
theorem c_eqMsg (x y : Msg) (hx : x.ok lim) (hy : y.ok lim) :
    Pure PP false 56 [.agg x.cells, .agg y.cells] (ob (decide (x = y))) := by
  obtain ⟨k, f, t, b, s, e, vs⟩ := x
  obtain ⟨k', f', t', b', s', e', vs'⟩ := y
  refine Pure.vc [(34, .res (ob (decide (e = e')))), (40, .res (ob (decide (vs = vs'))))] TTok hmo Go.Proofs.Tryz.func56 (by kernel_rfl) rfl (by kernel_rfl) ?_
  repeat' (first | refine And.intro ?_ ?_ | exact tf | exact ft | refine tt ?_ | refine ff ?_ | exact ⟨trivial⟩ | exact sLe rfl | exact Chk.mk (by kernel_rfl) | exact ⟨Chk.mk (by kernel_rfl)⟩ | exact sLeEq rfl rfl | exact sAnd (by repeat' constructor) (c_eqEntry _ _ hx.1 hy.1) | exact sAnd (by repeat' constructor) (c_eqVoteS _ _ (Nat.le_trans hx.2.1 (by decide)) (Nat.le_trans hy.2.1 (by decide)) hx.2.2 hy.2.2) | refine fun h => ?_)
  all_goals (refine ⟨?_⟩; simp_all)
  all_goals rfl

theorem c_toMsg (x : Msg) (hx : x.ok lim) :
    Pure PP false 45 [.agg x.cells] (.agg x.cells) := by
  refine Pure.vc [(21, .res (.agg x.e.cells)), (25, .res (.one (.fz (x.votes.map Vote.cells))))] TTok hmo Go.Proofs.Tryz.func45 (by kernel_rfl) rfl (by kernel_rfl) ?_
  repeat' (first | refine And.intro ?_ ?_ | exact tf | exact ft | refine tt ?_ | refine ff ?_ | exact ⟨trivial⟩ | exact sLe rfl | exact Chk.mk (by kernel_rfl) | exact ⟨Chk.mk (by kernel_rfl)⟩ | exact sLeEq rfl rfl | exact sAnd (by repeat' constructor) (c_toEntry _ hx.1) | exact sAnd (by repeat' constructor) (c_toVoteS _ hx.2.1 hx.2.2) | refine fun h => ?_)
  all_goals (refine ⟨?_⟩; repeat' (first | exact trivial | exact Nat.le_of_ble_eq_true rfl | rfl | refine And.intro ?_ ?_))

def szMsg (x : Msg) (l : Int) : Int := thenI (szEntry x.e l) fun a => sg (szVoteS x.votes a)
theorem c_szMsg (x : Msg) (l : Int) (h0 : 0 ≤ l) (h1 : l ≤ lim) (hx : x.ok maxLen) : Pure PP false 32 [.agg x.cells, oi l] (oi (szMsg x l)) := by
  have hle := szEntry_le x.e h0
  refine Pure.vc [(8, .res (oi (szEntry x.e l))), (14, .res (oi (szVoteS x.votes (szEntry x.e l))))] TTok hmo Go.Proofs.Tryz.func32 (by kernel_rfl) rfl (by kernel_rfl) ?_
  repeat' (first | refine And.intro ?_ ?_ | exact tf | exact ft | refine tt ?_ | refine ff ?_ | exact ⟨trivial⟩ | exact sLe rfl | exact Chk.mk (by kernel_rfl) | exact ⟨Chk.mk (by kernel_rfl)⟩ | exact sLeEq rfl rfl | refine fun h => ?_)
  · exact sAnd (by repeat' constructor) (c_szEntry _ _ h0 h1 hx.1)
  · refine ⟨?_⟩; simp_all [szMsg, thenI]
  · exact sAnd (by repeat' constructor) (c_szVoteS _ _ (by simpa using h) (by omega) hx.2.1 hx.2.2)
  all_goals (refine ⟨?_⟩; simp_all [szMsg, thenI, sg])
  all_goals omega
theorem szVoteS_le {xs : List Vote} {l : Int} (h : 0 ≤ l) : szVoteS xs l ≤ l := by
  unfold szVoteS thenI
  split
  · omega
  · have := szL_le (xs := xs) (l := l - xs.length) (by omega); omega
theorem szVoteS_ok {xs : List Vote} {l : Int} (h1 : l ≤ lim) (h : 0 ≤ szVoteS xs l) : VotesOk lim xs := by
  obtain ⟨ha, hb⟩ := thenI_pos h
  exact ⟨by omega, szL_ok ha (by omega) hb⟩
theorem szMsg_le {x : Msg} {l : Int} (h : 0 ≤ l) : szMsg x l ≤ l := by
  have h1 := szEntry_le x.e h
  unfold szMsg thenI
  split
  · omega
  · have := szVoteS_le (xs := x.votes) (l := szEntry x.e l) (by omega)
    exact sg_le (by omega) h
theorem szMsg_ok {x : Msg} {l : Int} (h0 : 0 ≤ l) (h1 : l ≤ lim) (h : 0 ≤ szMsg x l) : x.ok lim := by
  obtain ⟨ha, hb⟩ := thenI_pos h
  have h2 := szEntry_le x.e h0
  exact ⟨szRun_ok h1 (sg_pos ha), szVoteS_ok (by omega) (sg_pos hb)⟩
end Mg
