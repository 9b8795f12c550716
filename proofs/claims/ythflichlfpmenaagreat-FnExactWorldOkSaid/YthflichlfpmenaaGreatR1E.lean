/- Sizes. No condition. -/
import Derived.Test.YthflichlfpmenaaGreatR1C
namespace Mg
open Go Go.RowKit
set_option maxRecDepth 100000
set_option linter.unusedVariables false
set_option linter.unusedSimpArgs false
attribute [local irreducible] W Pure

def sg (a : Int) : Int := if a < 0 then -1 else a
def szT (n : Nat) (l : Int) : Int := sg (l - n)
def thenI (a : Int) (f : Int → Int) : Int := if a < 0 then -1 else f a
def szRun (x : Run) (l : Int) : Int := thenI (szT x.reads.length l) fun a => sg (szT x.puts.length a)
def szEntry (x : Entry) (l : Int) : Int := sg (szRun x.run l)
def szVote (x : Vote) (l : Int) : Int := sg (szEntry x.e l)
def szL {α : Type} (f : α → Int → Int) : List α → Int → Int
  | [], l => l
  | x :: xs, l => thenI (f x l) (szL f xs)
def szVoteS (xs : List Vote) (l : Int) : Int := thenI (l - xs.length) (szL szVote xs)
def szAcc (x : Acc) (l : Int) : Int := sg (szVoteS x.votes l)

theorem sg_le {a b : Int} (h : a ≤ b) (h0 : 0 ≤ b) : sg a ≤ b := by unfold sg; split <;> omega
theorem szT_le (n : Nat) {l : Int} (h : 0 ≤ l) : szT n l ≤ l := sg_le (by omega) h
theorem szRun_le (x : Run) {l : Int} (h : 0 ≤ l) : szRun x l ≤ l := by
  have h1 := szT_le x.reads.length h
  unfold szRun thenI
  split
  · omega
  · have := szT_le x.puts.length (l := szT x.reads.length l) (by omega)
    exact sg_le (by omega) h
theorem szEntry_le (x : Entry) {l : Int} (h : 0 ≤ l) : szEntry x l ≤ l := sg_le (szRun_le _ h) h
theorem szVote_le (x : Vote) {l : Int} (h : 0 ≤ l) : szVote x l ≤ l := sg_le (szEntry_le _ h) h
theorem szL_step {α : Type} [Inhabited α] (f : α → Int → Int) (xs : List α) {i : Nat} (l : Int) (h : i < xs.length) : szL f (xs.drop i) l = thenI (f (xs.getD i default) l) (szL f (xs.drop (i + 1))) := by
  rw [List.drop_eq_getElem_cons h, getD_get h]; rfl
theorem c_szReadS (xs : List Two) (l : Int) (h0 : 0 ≤ l) (h1 : l ≤ lim) (hx : xs.length ≤ maxLen) : Pure PP false 104 [.one (.fz (xs.map Two.cells)), oi l] (oi (szT xs.length l)) := by
  have hw : IntKind.i64.wrap (l - ((xs.map Two.cells).length : Int)) = l - xs.length := by
    unfold maxLen at hx; unfold lim at h1; rw [List.length_map, wrapi] <;> omega
  refine Pure.vc [] TTok hmo Go.Proofs.Tryz.func104 (by kernel_rfl) rfl (by kernel_rfl) ?_
  repeat' (first | refine And.intro ?_ ?_ | exact tf | exact ft | refine tt ?_ | refine ff ?_ | exact ⟨trivial⟩ | exact sLe rfl | exact Chk.mk (by kernel_rfl) | exact ⟨Chk.mk (by kernel_rfl)⟩ | exact sLeEq rfl rfl | refine fun h => ?_)
  all_goals (rw [hw] at h; refine ⟨?_⟩; simp_all [szT, sg])
  omega

theorem c_szPutS (xs : List Two) (l : Int) (h0 : 0 ≤ l) (h1 : l ≤ lim) (hx : xs.length ≤ maxLen) : Pure PP false 105 [.one (.fz (xs.map Two.cells)), oi l] (oi (szT xs.length l)) := by
  have hw : IntKind.i64.wrap (l - ((xs.map Two.cells).length : Int)) = l - xs.length := by
    unfold maxLen at hx; unfold lim at h1; rw [List.length_map, wrapi] <;> omega
  refine Pure.vc [] TTok hmo Go.Proofs.Tryz.func105 (by kernel_rfl) rfl (by kernel_rfl) ?_
  repeat' (first | refine And.intro ?_ ?_ | exact tf | exact ft | refine tt ?_ | refine ff ?_ | exact ⟨trivial⟩ | exact sLe rfl | exact Chk.mk (by kernel_rfl) | exact ⟨Chk.mk (by kernel_rfl)⟩ | exact sLeEq rfl rfl | refine fun h => ?_)
  all_goals (rw [hw] at h; refine ⟨?_⟩; simp_all [szT, sg])
  omega

theorem c_szRun (x : Run) (l : Int) (h0 : 0 ≤ l) (h1 : l ≤ lim) (hx : x.ok maxLen) : Pure PP false 93 [.agg x.cells, oi l] (oi (szRun x l)) := by
  have hle := szT_le x.reads.length h0
  refine Pure.vc [(8, .res (oi (szT x.reads.length l))), (14, .res (oi (szT x.puts.length (szT x.reads.length l))))] TTok hmo Go.Proofs.Tryz.func93 (by kernel_rfl) rfl (by kernel_rfl) ?_
  repeat' (first | refine And.intro ?_ ?_ | exact tf | exact ft | refine tt ?_ | refine ff ?_ | exact ⟨trivial⟩ | exact sLe rfl | exact Chk.mk (by kernel_rfl) | exact ⟨Chk.mk (by kernel_rfl)⟩ | exact sLeEq rfl rfl | refine fun h => ?_)
  · exact sAnd (by repeat' constructor) (c_szReadS _ _ h0 h1 hx.1)
  · refine ⟨?_⟩; simp_all [szRun, thenI]
  · exact sAnd (by repeat' constructor) (c_szPutS _ _ (by simpa using h) (by omega) hx.2)
  all_goals (refine ⟨?_⟩; simp_all [szRun, thenI, sg])
  all_goals omega

theorem c_szEntry (x : Entry) (l : Int) (h0 : 0 ≤ l) (h1 : l ≤ lim) (hx : x.ok maxLen) : Pure PP false 63 [.agg x.cells, oi l] (oi (szEntry x l)) := by
  refine Pure.vc [(8, .res (oi (szRun x.run l)))] TTok hmo Go.Proofs.Tryz.func63 (by kernel_rfl) rfl (by kernel_rfl) ?_
  repeat' (first | refine And.intro ?_ ?_ | exact tf | exact ft | refine tt ?_ | refine ff ?_ | exact ⟨trivial⟩ | exact sLe rfl | exact Chk.mk (by kernel_rfl) | exact ⟨Chk.mk (by kernel_rfl)⟩ | exact sLeEq rfl rfl | refine fun h => ?_)
  · exact sAnd (by repeat' constructor) (c_szRun _ _ h0 h1 hx)
  all_goals (refine ⟨?_⟩; simp_all [szEntry, sg])
  all_goals omega

theorem c_szVote (x : Vote) (l : Int) (h0 : 0 ≤ l) (h1 : l ≤ lim) (hx : x.ok maxLen) : Pure PP false 92 [.agg x.cells, oi l] (oi (szVote x l)) := by
  refine Pure.vc [(8, .res (oi (szEntry x.e l)))] TTok hmo Go.Proofs.Tryz.func92 (by kernel_rfl) rfl (by kernel_rfl) ?_
  repeat' (first | refine And.intro ?_ ?_ | exact tf | exact ft | refine tt ?_ | refine ff ?_ | exact ⟨trivial⟩ | exact sLe rfl | exact Chk.mk (by kernel_rfl) | exact ⟨Chk.mk (by kernel_rfl)⟩ | exact sLeEq rfl rfl | refine fun h => ?_)
  · exact sAnd (by repeat' constructor) (c_szEntry _ _ h0 h1 hx)
  all_goals (refine ⟨?_⟩; simp_all [szVote, sg])
  all_goals omega

theorem c_szVoteS (xs : List Vote) (l : Int) (h0 : 0 ≤ l) (h1 : l ≤ lim) (hx : xs.length ≤ maxLen) (hv : ∀ v ∈ xs, v.ok maxLen) : Pure PP false 62 [.one (.fz (xs.map Vote.cells)), oi l] (oi (szVoteS xs l)) := by
  have hw : IntKind.i64.wrap (l - ((xs.map Vote.cells).length : Int)) = l - xs.length := by
    unfold maxLen at hx; unfold lim at h1; rw [List.length_map, wrapi] <;> omega
  have hx' : xs.length ≤ 9223372036854775807 := hx
  refine Pure.vc [] TTok hmo Go.Proofs.Tryz.func62 (by kernel_rfl) rfl (by kernel_rfl) ?_
  repeat' (first | refine And.intro ?_ ?_ | exact tf | exact ft | refine tt ?_ | refine ff ?_ | exact ⟨trivial⟩ | exact sLe rfl | exact Chk.mk (by kernel_rfl) | exact ⟨Chk.mk (by kernel_rfl)⟩ | exact sLeEq rfl rfl | refine fun h => ?_)
  · rw [hw] at h; refine ⟨?_⟩; simp_all [szVoteS, thenI]
  · rw [hw] at h
    simp only [decide_eq_false_iff_not] at h
    refine W.loopC (D := Nat × Int) (fun d => [(20, .row (xs.getD d.1 default).cells), (23, .res (oi (szVote (xs.getD d.1 default) d.2)))]) TTok hmo
      (fun d => ⟨27, 0, [(0, .one (.ag (xs.map Vote.cells))), (1, oi d.2), (4, oi 0), (5, oi d.1)], []⟩) (fun d => xs.length - d.1) (fun d => d.1 ≤ xs.length ∧ 0 ≤ d.2 ∧ d.2 ≤ lim ∧ szVoteS xs l = szL szVote (xs.drop d.1) d.2) (0, l - xs.length) [] ⟨by simp, by simp only; omega, by simp only; omega, by simp [szVoteS, thenI]; omega⟩ ?_ ?_
    · repeat' (first | exact trivial | exact ⟨rfl⟩ | exact Chk.mk (by kernel_rfl) | refine And.intro ?_ ?_ | rfl)
      exact ⟨hw.symm⟩
    · intro ⟨i, a⟩ ⟨hi, ha0, ha1, hp⟩
      simp only at hi ha0 ha1 hp
      repeat' (first | refine And.intro ?_ ?_ | exact tf | exact ft | refine tt ?_ | refine ff ?_ | exact ⟨trivial⟩ | exact sLe rfl | exact Chk.mk (by kernel_rfl) | exact ⟨Chk.mk (by kernel_rfl)⟩ | exact sLeEq rfl rfl | refine fun h => ?_)
      all_goals simp only [decide_eq_true_eq, decide_eq_false_iff_not, List.length_map] at *
      · exact sRow (by omega) (row_at xs _ (by omega)) rfl
      · exact sAnd (by repeat' constructor) (c_szVote _ _ ha0 ha1 (hv _ (getD_mem (by omega))))
      · rw [szL_step _ _ _ (by omega)] at hp
        refine ⟨?_⟩; simp_all [thenI]
      · rw [szL_step _ _ _ (by omega)] at hp
        have hle := szVote_le (xs.getD i default) ha0
        refine ⟨(i + 1, szVote (xs.getD i default) a), [], by simp only; omega, ⟨by simp only; omega, by simp only; omega, by simp only; omega, by simp only; rw [hp, thenI, if_neg (by assumption)]⟩, ?_⟩
        repeat' (first | exact trivial | exact ⟨rfl⟩ | exact Chk.mk (by kernel_rfl) | exact ⟨wrap_succ (n := xs.length) (by omega) (by omega)⟩ | refine And.intro ?_ ?_ | rfl)
      · rw [List.drop_eq_nil_of_le (by omega)] at hp
        refine ⟨?_⟩; simp_all [szL]

theorem c_szAcc (x : Acc) (l : Int) (h0 : 0 ≤ l) (h1 : l ≤ lim) (hx : x.ok maxLen) : Pure PP false 59 [.agg x.cells, oi l] (oi (szAcc x l)) := by
  refine Pure.vc [(8, .res (oi (szVoteS x.votes l)))] TTok hmo Go.Proofs.Tryz.func59 (by kernel_rfl) rfl (by kernel_rfl) ?_
  repeat' (first | refine And.intro ?_ ?_ | exact tf | exact ft | refine tt ?_ | refine ff ?_ | exact ⟨trivial⟩ | exact sLe rfl | exact Chk.mk (by kernel_rfl) | exact ⟨Chk.mk (by kernel_rfl)⟩ | exact sLeEq rfl rfl | refine fun h => ?_)
  · exact sAnd (by repeat' constructor) (c_szVoteS _ _ h0 h1 hx.1 hx.2)
  all_goals (refine ⟨?_⟩; simp_all [szAcc, sg])
  all_goals omega
end Mg
