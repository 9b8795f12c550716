/- Parts of the abstract state logic and of the walks, one behind the other: R1T, R1D, R1C, R1E, R1F. No condition. -/
import Derived.Test.YtedgmfmhilihoaaDoorRows
import Derived.Test.YtedgmfmhilihoaaDoorP11
/- The seat's types. No condition. -/
namespace Mg
open Go Go.RowKit

def tyL : List (Nat × TI) := [
  (3, ⟨1, 8, .int .i64, [.int .i64]⟩),
  (4, ⟨1, 1, .bool, [.bool]⟩),
  (5, ⟨1, 1, .int .u8, [.int .u8]⟩),
  (9, ⟨1, 16, .str, [.str]⟩),
  (12, ⟨1, 8, .int .u64, [.int .u64]⟩),
  (22, ⟨2, 16, .struct [(0, 3), (1, 3)], [.int .i64, .int .i64]⟩),
  (23, ⟨2, 16, .struct [(0, 3), (1, 3)], [.int .i64, .int .i64]⟩),
  (24, ⟨1, 24, .slice 125, [.nil]⟩),
  (25, ⟨1, 24, .slice 127, [.nil]⟩),
  (26, ⟨4, 64, .struct [(0, 24), (1, 25), (2, 3), (3, 3)], [.nil, .nil, .int .i64, .int .i64]⟩),
  (27, ⟨4, 64, .struct [(0, 24), (1, 25), (2, 3), (3, 3)], [.nil, .nil, .int .i64, .int .i64]⟩),
  (28, ⟨7, 88, .struct [(0, 4), (1, 23), (3, 27)], [.bool, .int .i64, .int .i64, .nil, .nil, .int .i64, .int .i64]⟩),
  (29, ⟨7, 88, .struct [(0, 4), (1, 23), (3, 27)], [.bool, .int .i64, .int .i64, .nil, .nil, .int .i64, .int .i64]⟩),
  (32, ⟨2, 16, .struct [(0, 3), (1, 3)], [.int .i64, .int .i64]⟩),
  (33, ⟨1, 24, .slice 67, [.nil]⟩),
  (34, ⟨1, 24, .slice 69, [.nil]⟩),
  (35, ⟨4, 64, .struct [(0, 33), (1, 34), (2, 3), (3, 3)], [.nil, .nil, .int .i64, .int .i64]⟩),
  (36, ⟨4, 64, .struct [(0, 33), (1, 34), (2, 3), (3, 3)], [.nil, .nil, .int .i64, .int .i64]⟩),
  (37, ⟨7, 88, .struct [(0, 4), (1, 32), (3, 36)], [.bool, .int .i64, .int .i64, .nil, .nil, .int .i64, .int .i64]⟩),
  (38, ⟨7, 88, .struct [(0, 4), (1, 32), (3, 36)], [.bool, .int .i64, .int .i64, .nil, .nil, .int .i64, .int .i64]⟩),
  (42, ⟨1, 24, .slice 5, [.nil]⟩),
  (48, ⟨1, 24, .slice 92, [.nil]⟩),
  (50, ⟨13, 152, .struct [(0, 3), (1, 3), (2, 3), (3, 3), (4, 3), (5, 38), (12, 48)], [.int .i64, .int .i64, .int .i64, .int .i64, .int .i64, .bool, .int .i64, .int .i64, .nil, .nil, .int .i64, .int .i64, .nil]⟩),
  (55, ⟨1, 24, .slice 121, [.nil]⟩),
  (57, ⟨13, 152, .struct [(0, 3), (1, 3), (2, 3), (3, 3), (4, 3), (5, 29), (12, 55)], [.int .i64, .int .i64, .int .i64, .int .i64, .int .i64, .bool, .int .i64, .int .i64, .nil, .nil, .int .i64, .int .i64, .nil]⟩),
  (66, ⟨2, 16, .struct [(0, 3), (1, 3)], [.int .i64, .int .i64]⟩),
  (67, ⟨2, 16, .struct [(0, 3), (1, 3)], [.int .i64, .int .i64]⟩),
  (68, ⟨2, 16, .struct [(0, 3), (1, 3)], [.int .i64, .int .i64]⟩),
  (69, ⟨2, 16, .struct [(0, 3), (1, 3)], [.int .i64, .int .i64]⟩),
  (90, ⟨1, 24, .slice 9, [.nil]⟩),
  (91, ⟨8, 96, .struct [(0, 3), (1, 38)], [.int .i64, .bool, .int .i64, .int .i64, .nil, .nil, .int .i64, .int .i64]⟩),
  (92, ⟨8, 96, .struct [(0, 3), (1, 38)], [.int .i64, .bool, .int .i64, .int .i64, .nil, .nil, .int .i64, .int .i64]⟩),
  (105, ⟨1, 24, .slice 137, [.nil]⟩),
  (111, ⟨2, 32, .struct [(0, 3), (1, 48)], [.int .i64, .nil]⟩),
  (112, ⟨2, 32, .struct [(0, 3), (1, 48)], [.int .i64, .nil]⟩),
  (115, ⟨1, 24, .slice 3, [.nil]⟩),
  (116, ⟨2, 32, .struct [(0, 42), (1, 3)], [.nil, .int .i64]⟩),
  (117, ⟨2, 32, .struct [(0, 42), (1, 3)], [.nil, .int .i64]⟩),
  (120, ⟨8, 96, .struct [(0, 3), (1, 29)], [.int .i64, .bool, .int .i64, .int .i64, .nil, .nil, .int .i64, .int .i64]⟩),
  (121, ⟨8, 96, .struct [(0, 3), (1, 29)], [.int .i64, .bool, .int .i64, .int .i64, .nil, .nil, .int .i64, .int .i64]⟩),
  (125, ⟨2, 16, .struct [(0, 3), (1, 3)], [.int .i64, .int .i64]⟩),
  (127, ⟨2, 16, .struct [(0, 3), (1, 3)], [.int .i64, .int .i64]⟩),
  (134, ⟨1, 24, .slice 151, [.nil]⟩),
  (136, ⟨2, 16, .struct [(0, 3), (1, 3)], [.int .i64, .int .i64]⟩),
  (137, ⟨2, 16, .struct [(0, 3), (1, 3)], [.int .i64, .int .i64]⟩),
  (141, ⟨4, 4, .arr 4 4, [.bool, .bool, .bool, .bool]⟩),
  (142, ⟨24, 24, .arr 24 5, [.int .u8, .int .u8, .int .u8, .int .u8, .int .u8, .int .u8, .int .u8, .int .u8, .int .u8, .int .u8, .int .u8, .int .u8, .int .u8, .int .u8, .int .u8, .int .u8, .int .u8, .int .u8, .int .u8, .int .u8, .int .u8, .int .u8, .int .u8, .int .u8]⟩),
  (143, ⟨1, 8, .int .u64, [.int .u64]⟩),
  (151, ⟨4, 32, .struct [(0, 3), (1, 3), (2, 3), (3, 3)], [.int .i64, .int .i64, .int .i64, .int .i64]⟩),
  (156, ⟨20, 160, .arr 20 143, [.int .u64, .int .u64, .int .u64, .int .u64, .int .u64, .int .u64, .int .u64, .int .u64, .int .u64, .int .u64, .int .u64, .int .u64, .int .u64, .int .u64, .int .u64, .int .u64, .int .u64, .int .u64, .int .u64, .int .u64]⟩),
  (158, ⟨65, 65, .arr 65 5, [.int .u8, .int .u8, .int .u8, .int .u8, .int .u8, .int .u8, .int .u8, .int .u8, .int .u8, .int .u8, .int .u8, .int .u8, .int .u8, .int .u8, .int .u8, .int .u8, .int .u8, .int .u8, .int .u8, .int .u8, .int .u8, .int .u8, .int .u8, .int .u8, .int .u8, .int .u8, .int .u8, .int .u8, .int .u8, .int .u8, .int .u8, .int .u8, .int .u8, .int .u8, .int .u8, .int .u8, .int .u8, .int .u8, .int .u8, .int .u8, .int .u8, .int .u8, .int .u8, .int .u8, .int .u8, .int .u8, .int .u8, .int .u8, .int .u8, .int .u8, .int .u8, .int .u8, .int .u8, .int .u8, .int .u8, .int .u8, .int .u8, .int .u8, .int .u8, .int .u8, .int .u8, .int .u8, .int .u8, .int .u8, .int .u8]⟩),
  (159, ⟨1, 8, .int .u64, [.int .u64]⟩),
  (167, ⟨32, 32, .arr 32 5, [.int .u8, .int .u8, .int .u8, .int .u8, .int .u8, .int .u8, .int .u8, .int .u8, .int .u8, .int .u8, .int .u8, .int .u8, .int .u8, .int .u8, .int .u8, .int .u8, .int .u8, .int .u8, .int .u8, .int .u8, .int .u8, .int .u8, .int .u8, .int .u8, .int .u8, .int .u8, .int .u8, .int .u8, .int .u8, .int .u8, .int .u8, .int .u8]⟩),
  (168, ⟨64, 64, .arr 64 5, [.int .u8, .int .u8, .int .u8, .int .u8, .int .u8, .int .u8, .int .u8, .int .u8, .int .u8, .int .u8, .int .u8, .int .u8, .int .u8, .int .u8, .int .u8, .int .u8, .int .u8, .int .u8, .int .u8, .int .u8, .int .u8, .int .u8, .int .u8, .int .u8, .int .u8, .int .u8, .int .u8, .int .u8, .int .u8, .int .u8, .int .u8, .int .u8, .int .u8, .int .u8, .int .u8, .int .u8, .int .u8, .int .u8, .int .u8, .int .u8, .int .u8, .int .u8, .int .u8, .int .u8, .int .u8, .int .u8, .int .u8, .int .u8, .int .u8, .int .u8, .int .u8, .int .u8, .int .u8, .int .u8, .int .u8, .int .u8, .int .u8, .int .u8, .int .u8, .int .u8, .int .u8, .int .u8, .int .u8, .int .u8]⟩)]
def TT : Tab := fun t => look tyL t
noncomputable abbrev PP : Program := Go.Proofs.Tryd.prog
theorem look_mem {α : Type} : ∀ {l : List (Nat × α)} {t : Nat} {i : α}, look l t = some i → (t, i) ∈ l
  | (k, v) :: l, t, i, h => by
    rw [look_cons] at h
    split at h
    · rename_i e; subst e; cases h; exact List.mem_cons_self
    · exact List.mem_cons_of_mem _ (look_mem h)
set_option maxRecDepth 100000 in
theorem TTok : TOk PP TT := fun t i h => by
  have h1 : (tyL.all fun q => q.2.ok PP q.1) = true := by kernel_rfl
  have h2 : (t, i) ∈ tyL := look_mem h
  exact List.all_eq_true.1 h1 _ h2
end Mg

/- The data of boxes, runs, entries, votes. No condition. -/
namespace Mg
open Go Go.RowKit

@[reducible] def i6 (n : Int) : MC := .sc (.int .i64 n)
@[reducible] def bo (b : Bool) : MC := .sc (.bool b)
@[reducible] def oi (n : Int) : MV := .one (.sc (.int .i64 n))
@[reducible] def ob (b : Bool) : MV := .one (.sc (.bool b))

structure Two where
  a : Int
  b : Int
  deriving DecidableEq, Inhabited
structure Run where
  reads : List Two
  puts : List Two
  c : Int
  d : Int
  deriving DecidableEq, Inhabited
structure Entry where
  none : Bool
  q : Two
  run : Run
  deriving DecidableEq, Inhabited
structure Vote where
  bal : Int
  e : Entry
  deriving DecidableEq, Inhabited
structure Acc where
  p : Int
  votes : List Vote
  deriving DecidableEq, Inhabited

def Two.cells (x : Two) : List MC := [i6 x.a, i6 x.b]
def Run.cells (x : Run) : List MC := [.fz (x.reads.map Two.cells), .fz (x.puts.map Two.cells), i6 x.c, i6 x.d]
def Entry.cells (x : Entry) : List MC := bo x.none :: (x.q.cells ++ x.run.cells)
def Vote.cells (x : Vote) : List MC := i6 x.bal :: x.e.cells
def Acc.cells (x : Acc) : List MC := [i6 x.p, .fz (x.votes.map Vote.cells)]

/-- What is small enough. -/
def Run.ok (n : Nat) (x : Run) : Prop := x.reads.length ≤ n ∧ x.puts.length ≤ n
def Entry.ok (n : Nat) (x : Entry) : Prop := x.run.ok n
def Vote.ok (n : Nat) (x : Vote) : Prop := x.e.ok n
def VotesOk (n : Nat) (xs : List Vote) : Prop := xs.length ≤ n ∧ ∀ v ∈ xs, v.ok n
def Acc.ok (n : Nat) (x : Acc) : Prop := VotesOk n x.votes
@[reducible] def lim : Nat := 1048576

theorem getD_mem {α : Type} [Inhabited α] {xs : List α} {i : Nat} (h : i < xs.length) : xs.getD i default ∈ xs := by
  rw [getD_get h]; exact List.getElem_mem h

theorem Two.frz (x : Two) : x.cells.all MC.frz = true := rfl
theorem Run.frz (x : Run) : x.cells.all MC.frz = true := rfl
theorem Entry.frz (x : Entry) : x.cells.all MC.frz = true := rfl
theorem Vote.frz (x : Vote) : x.cells.all MC.frz = true := rfl
theorem Two.flat (x : Two) : x.cells.all MC.flat = true := rfl
theorem Vote.flat (x : Vote) : x.cells.all MC.flat = true := rfl
end Mg

/- Contracts of the law's helpers. No condition. -/
namespace Mg
open Go Go.RowKit
set_option maxRecDepth 100000
set_option linter.unusedVariables false
set_option linter.unusedSimpArgs false
attribute [local irreducible] W Pure
theorem hmo : PP.follows .mixedOrders = true := by kernel_rfl
theorem c_toRead (x : Two) :
    Pure PP false 86 [.agg x.cells] (.agg x.cells) := by
  refine Pure.vc [] TTok hmo Go.Proofs.Tryd.func86 (by kernel_rfl) rfl (by kernel_rfl) ?_
  repeat' (first | refine And.intro ?_ ?_ | exact tf | exact ft | refine tt ?_ | refine ff ?_ | exact ⟨trivial⟩ | exact sLe rfl | exact Chk.mk (by kernel_rfl) | exact ⟨Chk.mk (by kernel_rfl)⟩ | exact sLeEq rfl rfl | refine fun h => ?_)
  all_goals (refine ⟨?_⟩; repeat' (first | exact trivial | exact Nat.le_of_ble_eq_true rfl | rfl | refine And.intro ?_ ?_))

theorem c_toPut (x : Two) :
    Pure PP false 87 [.agg x.cells] (.agg x.cells) := by
  refine Pure.vc [] TTok hmo Go.Proofs.Tryd.func87 (by kernel_rfl) rfl (by kernel_rfl) ?_
  repeat' (first | refine And.intro ?_ ?_ | exact tf | exact ft | refine tt ?_ | refine ff ?_ | exact ⟨trivial⟩ | exact sLe rfl | exact Chk.mk (by kernel_rfl) | exact ⟨Chk.mk (by kernel_rfl)⟩ | exact sLeEq rfl rfl | refine fun h => ?_)
  all_goals (refine ⟨?_⟩; repeat' (first | exact trivial | exact Nat.le_of_ble_eq_true rfl | rfl | refine And.intro ?_ ?_))

theorem c_toReq (x : Two) :
    Pure PP false 33 [.agg x.cells] (.agg x.cells) := by
  refine Pure.vc [] TTok hmo Go.Proofs.Tryd.func33 (by kernel_rfl) rfl (by kernel_rfl) ?_
  repeat' (first | refine And.intro ?_ ?_ | exact tf | exact ft | refine tt ?_ | refine ff ?_ | exact ⟨trivial⟩ | exact sLe rfl | exact Chk.mk (by kernel_rfl) | exact ⟨Chk.mk (by kernel_rfl)⟩ | exact sLeEq rfl rfl | refine fun h => ?_)
  all_goals (refine ⟨?_⟩; repeat' (first | exact trivial | exact Nat.le_of_ble_eq_true rfl | rfl | refine And.intro ?_ ?_))

theorem c_eqRead (x y : Two)  :
    Pure PP false 90 [.agg x.cells, .agg y.cells] (ob (decide (x = y))) := by
  obtain ⟨a, b⟩ := x
  obtain ⟨a', b'⟩ := y
  refine Pure.vc [] TTok hmo Go.Proofs.Tryd.func90 (by kernel_rfl) rfl (by kernel_rfl) ?_
  repeat' (first | refine And.intro ?_ ?_ | exact tf | exact ft | refine tt ?_ | refine ff ?_ | exact ⟨trivial⟩ | exact sLe rfl | exact Chk.mk (by kernel_rfl) | exact ⟨Chk.mk (by kernel_rfl)⟩ | exact sLeEq rfl rfl | refine fun h => ?_)
  all_goals (refine ⟨?_⟩; simp_all)
  all_goals rfl

theorem c_eqPut (x y : Two)  :
    Pure PP false 91 [.agg x.cells, .agg y.cells] (ob (decide (x = y))) := by
  obtain ⟨a, b⟩ := x
  obtain ⟨a', b'⟩ := y
  refine Pure.vc [] TTok hmo Go.Proofs.Tryd.func91 (by kernel_rfl) rfl (by kernel_rfl) ?_
  repeat' (first | refine And.intro ?_ ?_ | exact tf | exact ft | refine tt ?_ | refine ff ?_ | exact ⟨trivial⟩ | exact sLe rfl | exact Chk.mk (by kernel_rfl) | exact ⟨Chk.mk (by kernel_rfl)⟩ | exact sLeEq rfl rfl | refine fun h => ?_)
  all_goals (refine ⟨?_⟩; simp_all)
  all_goals rfl

theorem c_eqReq (x y : Two)  :
    Pure PP false 38 [.agg x.cells, .agg y.cells] (ob (decide (x = y))) := by
  obtain ⟨a, b⟩ := x
  obtain ⟨a', b'⟩ := y
  refine Pure.vc [] TTok hmo Go.Proofs.Tryd.func38 (by kernel_rfl) rfl (by kernel_rfl) ?_
  repeat' (first | refine And.intro ?_ ?_ | exact tf | exact ft | refine tt ?_ | refine ff ?_ | exact ⟨trivial⟩ | exact sLe rfl | exact Chk.mk (by kernel_rfl) | exact ⟨Chk.mk (by kernel_rfl)⟩ | exact sLeEq rfl rfl | refine fun h => ?_)
  all_goals (refine ⟨?_⟩; simp_all)
  all_goals rfl

theorem c_eqReadS (xs ys : List Two) (hx : xs.length ≤ maxLen) (hy : ys.length ≤ maxLen)  :
    Pure PP false 65 [.one (.fz (xs.map Two.cells)), .one (.fz (ys.map Two.cells))] (ob (decide (xs = ys))) := by
  refine Pure.vc [] TTok hmo Go.Proofs.Tryd.func65 (by kernel_rfl) rfl (by kernel_rfl) ?_
  repeat' (first | refine And.intro ?_ ?_ | exact tf | exact ft | refine tt ?_ | refine ff ?_ | exact ⟨trivial⟩ | exact sLe rfl | exact Chk.mk (by kernel_rfl) | exact ⟨Chk.mk (by kernel_rfl)⟩ | exact sLeEq rfl rfl | refine fun h => ?_)
  · refine ⟨?_⟩
    simp at *
    intro e; subst e; simp at h
  · have hl : xs.length = ys.length := by simp at h; omega
    unfold maxLen at hx hy
    refine W.loopC (D := Nat) (fun i => [(19, .row (xs.getD i default).cells), (23, .row (ys.getD i default).cells), (25, .res (ob (decide (xs.getD i default = ys.getD i default))))]) TTok hmo
      (fun i => ⟨27, 0, [(0, .one (.ag (xs.map Two.cells))), (1, .one (.ag (ys.map Two.cells))), (4, ob false), (5, oi i)], []⟩) (fun i => xs.length - i) (fun i => i ≤ xs.length ∧ xs.take i = ys.take i) 0 [] ⟨by omega, by simp⟩ ?_ ?_
    · repeat' (first | exact trivial | exact ⟨rfl⟩ | exact Chk.mk (by kernel_rfl) | refine And.intro ?_ ?_ | rfl)
    · intro i ⟨hi, hp⟩
      repeat' (first | refine And.intro ?_ ?_ | exact tf | exact ft | refine tt ?_ | refine ff ?_ | exact ⟨trivial⟩ | exact sLe rfl | exact Chk.mk (by kernel_rfl) | exact ⟨Chk.mk (by kernel_rfl)⟩ | exact sLeEq rfl rfl | exact sAnd (by repeat' constructor) (c_eqRead _ _) | refine fun h => ?_)
      all_goals simp only [decide_eq_true_eq, decide_eq_false_iff_not, List.length_map, Bool.not_eq_true', Bool.not_eq_false', Bool.not_eq_eq_eq_not, Bool.not_true, Bool.not_false] at *
      · exact sRow (by omega) (row_at xs _ (by omega)) rfl
      · exact sRow (by omega) (row_at ys _ (by omega)) rfl
      · refine ⟨?_⟩
        simp
        intro e; subst e; contradiction
      · refine ⟨i + 1, [], by omega, ⟨by omega, eq_upto hl (by omega) hp (by assumption)⟩, ?_⟩
        repeat' (first | exact trivial | exact ⟨rfl⟩ | exact Chk.mk (by kernel_rfl) | refine And.intro ?_ ?_ | rfl)
        exact ⟨by rw [wrapi] <;> omega⟩
      · refine ⟨?_⟩
        simp
        exact eq_all hl (by omega) hp

theorem c_eqPutS (xs ys : List Two) (hx : xs.length ≤ maxLen) (hy : ys.length ≤ maxLen)  :
    Pure PP false 66 [.one (.fz (xs.map Two.cells)), .one (.fz (ys.map Two.cells))] (ob (decide (xs = ys))) := by
  refine Pure.vc [] TTok hmo Go.Proofs.Tryd.func66 (by kernel_rfl) rfl (by kernel_rfl) ?_
  repeat' (first | refine And.intro ?_ ?_ | exact tf | exact ft | refine tt ?_ | refine ff ?_ | exact ⟨trivial⟩ | exact sLe rfl | exact Chk.mk (by kernel_rfl) | exact ⟨Chk.mk (by kernel_rfl)⟩ | exact sLeEq rfl rfl | refine fun h => ?_)
  · refine ⟨?_⟩
    simp at *
    intro e; subst e; simp at h
  · have hl : xs.length = ys.length := by simp at h; omega
    unfold maxLen at hx hy
    refine W.loopC (D := Nat) (fun i => [(19, .row (xs.getD i default).cells), (23, .row (ys.getD i default).cells), (25, .res (ob (decide (xs.getD i default = ys.getD i default))))]) TTok hmo
      (fun i => ⟨27, 0, [(0, .one (.ag (xs.map Two.cells))), (1, .one (.ag (ys.map Two.cells))), (4, ob false), (5, oi i)], []⟩) (fun i => xs.length - i) (fun i => i ≤ xs.length ∧ xs.take i = ys.take i) 0 [] ⟨by omega, by simp⟩ ?_ ?_
    · repeat' (first | exact trivial | exact ⟨rfl⟩ | exact Chk.mk (by kernel_rfl) | refine And.intro ?_ ?_ | rfl)
    · intro i ⟨hi, hp⟩
      repeat' (first | refine And.intro ?_ ?_ | exact tf | exact ft | refine tt ?_ | refine ff ?_ | exact ⟨trivial⟩ | exact sLe rfl | exact Chk.mk (by kernel_rfl) | exact ⟨Chk.mk (by kernel_rfl)⟩ | exact sLeEq rfl rfl | exact sAnd (by repeat' constructor) (c_eqPut _ _) | refine fun h => ?_)
      all_goals simp only [decide_eq_true_eq, decide_eq_false_iff_not, List.length_map, Bool.not_eq_true', Bool.not_eq_false', Bool.not_eq_eq_eq_not, Bool.not_true, Bool.not_false] at *
      · exact sRow (by omega) (row_at xs _ (by omega)) rfl
      · exact sRow (by omega) (row_at ys _ (by omega)) rfl
      · refine ⟨?_⟩
        simp
        intro e; subst e; contradiction
      · refine ⟨i + 1, [], by omega, ⟨by omega, eq_upto hl (by omega) hp (by assumption)⟩, ?_⟩
        repeat' (first | exact trivial | exact ⟨rfl⟩ | exact Chk.mk (by kernel_rfl) | refine And.intro ?_ ?_ | rfl)
        exact ⟨by rw [wrapi] <;> omega⟩
      · refine ⟨?_⟩
        simp
        exact eq_all hl (by omega) hp

theorem c_toReadS (xs : List Two) (hx : xs.length ≤ lim)  :
    Pure PP false 61 [.one (.fz (xs.map Two.cells))] (.one (.fz (xs.map Two.cells))) := by
  have hx0 : xs.length ≤ 1048576 := hx
  refine Pure.vc [] TTok hmo Go.Proofs.Tryd.func61 (by kernel_rfl) rfl (by kernel_rfl) ?_
  repeat' (first | refine And.intro ?_ ?_ | exact tf | exact ft | refine tt ?_ | refine ff ?_ | exact ⟨trivial⟩ | exact sLe rfl | exact Chk.mk (by kernel_rfl) | exact ⟨Chk.mk (by kernel_rfl)⟩ | exact sLeEq rfl rfl | refine fun h => ?_)
  · refine ⟨?_⟩
    simp at *
    omega
  · refine W.loopC (D := Nat) (fun i => [(18, .row (xs.getD i default).cells), (20, .res (.agg (xs.getD i default).cells))]) TTok hmo
      (fun i => ⟨23, 1, [(0, .one (.ag (xs.map Two.cells))), (2, .one .nil), (3, .one (.ref 0 0 xs.length)), (4, oi i)], [(0, .arr (part Two.cells [i6 0, i6 0] xs i))]⟩) (fun i => xs.length - i) (fun i => i ≤ xs.length) 0 [] (by omega) ?_ ?_
    · repeat' (first | exact trivial | exact ⟨rfl⟩ | exact Chk.mk (by kernel_rfl) | exact sPart0 (by simp) | exact sFlat Two.flat rfl | refine And.intro ?_ ?_ | rfl)
      all_goals exact ⟨by simp⟩
    · intro i hi
      repeat' (first | refine And.intro ?_ ?_ | exact tf | exact ft | refine tt ?_ | refine ff ?_ | exact ⟨trivial⟩ | exact sLe rfl | exact Chk.mk (by kernel_rfl) | exact ⟨Chk.mk (by kernel_rfl)⟩ | exact sLeEq rfl rfl | exact sAnd (by repeat' constructor) (c_toRead _) | refine fun h => ?_)
      all_goals simp only [decide_eq_true_eq, decide_eq_false_iff_not, List.length_map] at *
      · exact sRow (by omega) (row_at xs _ (by omega)) rfl
      · exact sIdx (by omega) rfl rfl
      · exact sPut (by omega) rfl rfl
      · refine ⟨i + 1, [], by omega, by omega, ?_⟩
        repeat' (first | exact trivial | exact ⟨rfl⟩ | exact Chk.mk (by kernel_rfl) | exact ⟨wrap_succ (n := xs.length) (by omega) (by omega)⟩ | exact sPartS (by omega) rfl | exact sFlat Two.flat rfl | refine And.intro ?_ ?_ | rfl)
      · refine ⟨⟨trivial, trivial⟩, ⟨part_end (by omega) rfl, ?_⟩, trivial⟩
        show AllF _
        rw [part_all (by omega)]
        exact map_frz Two.frz

theorem c_toPutS (xs : List Two) (hx : xs.length ≤ lim)  :
    Pure PP false 62 [.one (.fz (xs.map Two.cells))] (.one (.fz (xs.map Two.cells))) := by
  have hx0 : xs.length ≤ 1048576 := hx
  refine Pure.vc [] TTok hmo Go.Proofs.Tryd.func62 (by kernel_rfl) rfl (by kernel_rfl) ?_
  repeat' (first | refine And.intro ?_ ?_ | exact tf | exact ft | refine tt ?_ | refine ff ?_ | exact ⟨trivial⟩ | exact sLe rfl | exact Chk.mk (by kernel_rfl) | exact ⟨Chk.mk (by kernel_rfl)⟩ | exact sLeEq rfl rfl | refine fun h => ?_)
  · refine ⟨?_⟩
    simp at *
    omega
  · refine W.loopC (D := Nat) (fun i => [(18, .row (xs.getD i default).cells), (20, .res (.agg (xs.getD i default).cells))]) TTok hmo
      (fun i => ⟨23, 1, [(0, .one (.ag (xs.map Two.cells))), (2, .one .nil), (3, .one (.ref 0 0 xs.length)), (4, oi i)], [(0, .arr (part Two.cells [i6 0, i6 0] xs i))]⟩) (fun i => xs.length - i) (fun i => i ≤ xs.length) 0 [] (by omega) ?_ ?_
    · repeat' (first | exact trivial | exact ⟨rfl⟩ | exact Chk.mk (by kernel_rfl) | exact sPart0 (by simp) | exact sFlat Two.flat rfl | refine And.intro ?_ ?_ | rfl)
      all_goals exact ⟨by simp⟩
    · intro i hi
      repeat' (first | refine And.intro ?_ ?_ | exact tf | exact ft | refine tt ?_ | refine ff ?_ | exact ⟨trivial⟩ | exact sLe rfl | exact Chk.mk (by kernel_rfl) | exact ⟨Chk.mk (by kernel_rfl)⟩ | exact sLeEq rfl rfl | exact sAnd (by repeat' constructor) (c_toPut _) | refine fun h => ?_)
      all_goals simp only [decide_eq_true_eq, decide_eq_false_iff_not, List.length_map] at *
      · exact sRow (by omega) (row_at xs _ (by omega)) rfl
      · exact sIdx (by omega) rfl rfl
      · exact sPut (by omega) rfl rfl
      · refine ⟨i + 1, [], by omega, by omega, ?_⟩
        repeat' (first | exact trivial | exact ⟨rfl⟩ | exact Chk.mk (by kernel_rfl) | exact ⟨wrap_succ (n := xs.length) (by omega) (by omega)⟩ | exact sPartS (by omega) rfl | exact sFlat Two.flat rfl | refine And.intro ?_ ?_ | rfl)
      · refine ⟨⟨trivial, trivial⟩, ⟨part_end (by omega) rfl, ?_⟩, trivial⟩
        show AllF _
        rw [part_all (by omega)]
        exact map_frz Two.frz

theorem c_eqRun (x y : Run) (hx : x.ok lim) (hy : y.ok lim) :
    Pure PP false 39 [.agg x.cells, .agg y.cells] (ob (decide (x = y))) := by
  obtain ⟨rs, ps, c, d⟩ := x
  obtain ⟨rs', ps', c', d'⟩ := y
  refine Pure.vc [(9, .res (ob (decide (rs = rs')))), (15, .res (ob (decide (ps = ps'))))] TTok hmo Go.Proofs.Tryd.func39 (by kernel_rfl) rfl (by kernel_rfl) ?_
  repeat' (first | refine And.intro ?_ ?_ | exact tf | exact ft | refine tt ?_ | refine ff ?_ | exact ⟨trivial⟩ | exact sLe rfl | exact Chk.mk (by kernel_rfl) | exact ⟨Chk.mk (by kernel_rfl)⟩ | exact sLeEq rfl rfl | exact sAnd (by repeat' constructor) (c_eqReadS _ _ (Nat.le_trans hx.1 (by decide)) (Nat.le_trans hy.1 (by decide))) | exact sAnd (by repeat' constructor) (c_eqPutS _ _ (Nat.le_trans hx.2 (by decide)) (Nat.le_trans hy.2 (by decide))) | refine fun h => ?_)
  all_goals (refine ⟨?_⟩; simp_all)
  all_goals rfl

theorem c_eqEntry (x y : Entry) (hx : x.ok lim) (hy : y.ok lim) :
    Pure PP false 13 [.agg x.cells, .agg y.cells] (ob (decide (x = y))) := by
  obtain ⟨n, q, r⟩ := x
  obtain ⟨n', q', r'⟩ := y
  refine Pure.vc [(14, .res (ob (decide (q = q')))), (20, .res (ob (decide (r = r'))))] TTok hmo Go.Proofs.Tryd.func13 (by kernel_rfl) rfl (by kernel_rfl) ?_
  repeat' (first | refine And.intro ?_ ?_ | exact tf | exact ft | refine tt ?_ | refine ff ?_ | exact ⟨trivial⟩ | exact sLe rfl | exact Chk.mk (by kernel_rfl) | exact ⟨Chk.mk (by kernel_rfl)⟩ | exact sLeEq rfl rfl | exact sAnd (by repeat' constructor) (c_eqReq _ _) | exact sAnd (by repeat' constructor) (c_eqRun _ _ hx hy) | refine fun h => ?_)
  all_goals (refine ⟨?_⟩; simp_all)
  all_goals rfl

theorem c_eqVote (x y : Vote) (hx : x.ok lim) (hy : y.ok lim) :
    Pure PP false 85 [.agg x.cells, .agg y.cells] (ob (decide (x = y))) := by
  obtain ⟨b, e⟩ := x
  obtain ⟨b', e'⟩ := y
  refine Pure.vc [(14, .res (ob (decide (e = e'))))] TTok hmo Go.Proofs.Tryd.func85 (by kernel_rfl) rfl (by kernel_rfl) ?_
  repeat' (first | refine And.intro ?_ ?_ | exact tf | exact ft | refine tt ?_ | refine ff ?_ | exact ⟨trivial⟩ | exact sLe rfl | exact Chk.mk (by kernel_rfl) | exact ⟨Chk.mk (by kernel_rfl)⟩ | exact sLeEq rfl rfl | exact sAnd (by repeat' constructor) (c_eqEntry _ _ hx hy) | refine fun h => ?_)
  all_goals (refine ⟨?_⟩; simp_all)
  all_goals rfl

theorem c_eqVoteS (xs ys : List Vote) (hx : xs.length ≤ maxLen) (hy : ys.length ≤ maxLen) (hvx : ∀ v ∈ xs, v.ok lim) (hvy : ∀ v ∈ ys, v.ok lim) :
    Pure PP false 56 [.one (.fz (xs.map Vote.cells)), .one (.fz (ys.map Vote.cells))] (ob (decide (xs = ys))) := by
  refine Pure.vc [] TTok hmo Go.Proofs.Tryd.func56 (by kernel_rfl) rfl (by kernel_rfl) ?_
  repeat' (first | refine And.intro ?_ ?_ | exact tf | exact ft | refine tt ?_ | refine ff ?_ | exact ⟨trivial⟩ | exact sLe rfl | exact Chk.mk (by kernel_rfl) | exact ⟨Chk.mk (by kernel_rfl)⟩ | exact sLeEq rfl rfl | refine fun h => ?_)
  · refine ⟨?_⟩
    simp at *
    intro e; subst e; simp at h
  · have hl : xs.length = ys.length := by simp at h; omega
    unfold maxLen at hx hy
    refine W.loopC (D := Nat) (fun i => [(19, .row (xs.getD i default).cells), (23, .row (ys.getD i default).cells), (25, .res (ob (decide (xs.getD i default = ys.getD i default))))]) TTok hmo
      (fun i => ⟨27, 0, [(0, .one (.ag (xs.map Vote.cells))), (1, .one (.ag (ys.map Vote.cells))), (4, ob false), (5, oi i)], []⟩) (fun i => xs.length - i) (fun i => i ≤ xs.length ∧ xs.take i = ys.take i) 0 [] ⟨by omega, by simp⟩ ?_ ?_
    · repeat' (first | exact trivial | exact ⟨rfl⟩ | exact Chk.mk (by kernel_rfl) | refine And.intro ?_ ?_ | rfl)
    · intro i ⟨hi, hp⟩
      repeat' (first | refine And.intro ?_ ?_ | exact tf | exact ft | refine tt ?_ | refine ff ?_ | exact ⟨trivial⟩ | exact sLe rfl | exact Chk.mk (by kernel_rfl) | exact ⟨Chk.mk (by kernel_rfl)⟩ | exact sLeEq rfl rfl | refine fun h => ?_)
      all_goals simp only [decide_eq_true_eq, decide_eq_false_iff_not, List.length_map, Bool.not_eq_true', Bool.not_eq_false', Bool.not_eq_eq_eq_not, Bool.not_true, Bool.not_false] at *
      · exact sRow (by omega) (row_at xs _ (by omega)) rfl
      · exact sRow (by omega) (row_at ys _ (by omega)) rfl
      · exact sAnd (by repeat' constructor) (c_eqVote _ _ (hvx _ (getD_mem (by omega))) (hvy _ (getD_mem (by omega))))
      · refine ⟨?_⟩
        simp
        intro e; subst e; contradiction
      · refine ⟨i + 1, [], by omega, ⟨by omega, eq_upto hl (by omega) hp (by assumption)⟩, ?_⟩
        repeat' (first | exact trivial | exact ⟨rfl⟩ | exact Chk.mk (by kernel_rfl) | refine And.intro ?_ ?_ | rfl)
        exact ⟨by rw [wrapi] <;> omega⟩
      · refine ⟨?_⟩
        simp
        exact eq_all hl (by omega) hp

theorem c_toRun (x : Run) (hx : x.ok lim) :
    Pure PP false 34 [.agg x.cells] (.agg x.cells) := by
  refine Pure.vc [(6, .res (.one (.fz (x.reads.map Two.cells)))), (10, .res (.one (.fz (x.puts.map Two.cells))))] TTok hmo Go.Proofs.Tryd.func34 (by kernel_rfl) rfl (by kernel_rfl) ?_
  repeat' (first | refine And.intro ?_ ?_ | exact tf | exact ft | refine tt ?_ | refine ff ?_ | exact ⟨trivial⟩ | exact sLe rfl | exact Chk.mk (by kernel_rfl) | exact ⟨Chk.mk (by kernel_rfl)⟩ | exact sLeEq rfl rfl | exact sAnd (by repeat' constructor) (c_toReadS _ hx.1) | exact sAnd (by repeat' constructor) (c_toPutS _ hx.2) | refine fun h => ?_)
  all_goals (refine ⟨?_⟩; repeat' (first | exact trivial | exact Nat.le_of_ble_eq_true rfl | rfl | refine And.intro ?_ ?_))

theorem c_toEntry (x : Entry) (hx : x.ok lim) :
    Pure PP false 11 [.agg x.cells] (.agg x.cells) := by
  refine Pure.vc [(9, .res (.agg x.q.cells)), (13, .res (.agg x.run.cells))] TTok hmo Go.Proofs.Tryd.func11 (by kernel_rfl) rfl (by kernel_rfl) ?_
  repeat' (first | refine And.intro ?_ ?_ | exact tf | exact ft | refine tt ?_ | refine ff ?_ | exact ⟨trivial⟩ | exact sLe rfl | exact Chk.mk (by kernel_rfl) | exact ⟨Chk.mk (by kernel_rfl)⟩ | exact sLeEq rfl rfl | exact sAnd (by repeat' constructor) (c_toReq _) | exact sAnd (by repeat' constructor) (c_toRun _ hx) | refine fun h => ?_)
  all_goals (refine ⟨?_⟩; repeat' (first | exact trivial | exact Nat.le_of_ble_eq_true rfl | rfl | refine And.intro ?_ ?_))

theorem c_toVote (x : Vote) (hx : x.ok lim) :
    Pure PP false 84 [.agg x.cells] (.agg x.cells) := by
  refine Pure.vc [(9, .res (.agg x.e.cells))] TTok hmo Go.Proofs.Tryd.func84 (by kernel_rfl) rfl (by kernel_rfl) ?_
  repeat' (first | refine And.intro ?_ ?_ | exact tf | exact ft | refine tt ?_ | refine ff ?_ | exact ⟨trivial⟩ | exact sLe rfl | exact Chk.mk (by kernel_rfl) | exact ⟨Chk.mk (by kernel_rfl)⟩ | exact sLeEq rfl rfl | exact sAnd (by repeat' constructor) (c_toEntry _ hx) | refine fun h => ?_)
  all_goals (refine ⟨?_⟩; repeat' (first | exact trivial | exact Nat.le_of_ble_eq_true rfl | rfl | refine And.intro ?_ ?_))

theorem c_toVoteS (xs : List Vote) (hx : xs.length ≤ lim) (hv : ∀ v ∈ xs, v.ok lim) :
    Pure PP false 55 [.one (.fz (xs.map Vote.cells))] (.one (.fz (xs.map Vote.cells))) := by
  have hx0 : xs.length ≤ 1048576 := hx
  refine Pure.vc [] TTok hmo Go.Proofs.Tryd.func55 (by kernel_rfl) rfl (by kernel_rfl) ?_
  repeat' (first | refine And.intro ?_ ?_ | exact tf | exact ft | refine tt ?_ | refine ff ?_ | exact ⟨trivial⟩ | exact sLe rfl | exact Chk.mk (by kernel_rfl) | exact ⟨Chk.mk (by kernel_rfl)⟩ | exact sLeEq rfl rfl | refine fun h => ?_)
  · refine ⟨?_⟩
    simp at *
    omega
  · refine W.loopC (D := Nat) (fun i => [(18, .row (xs.getD i default).cells), (20, .res (.agg (xs.getD i default).cells))]) TTok hmo
      (fun i => ⟨23, 1, [(0, .one (.ag (xs.map Vote.cells))), (2, .one .nil), (3, .one (.ref 0 0 xs.length)), (4, oi i)], [(0, .arr (part Vote.cells [i6 0, bo false, i6 0, i6 0, .nil, .nil, i6 0, i6 0] xs i))]⟩) (fun i => xs.length - i) (fun i => i ≤ xs.length) 0 [] (by omega) ?_ ?_
    · repeat' (first | exact trivial | exact ⟨rfl⟩ | exact Chk.mk (by kernel_rfl) | exact sPart0 (by simp) | exact sFlat Vote.flat rfl | refine And.intro ?_ ?_ | rfl)
      all_goals exact ⟨by simp⟩
    · intro i hi
      repeat' (first | refine And.intro ?_ ?_ | exact tf | exact ft | refine tt ?_ | refine ff ?_ | exact ⟨trivial⟩ | exact sLe rfl | exact Chk.mk (by kernel_rfl) | exact ⟨Chk.mk (by kernel_rfl)⟩ | exact sLeEq rfl rfl | refine fun h => ?_)
      all_goals simp only [decide_eq_true_eq, decide_eq_false_iff_not, List.length_map] at *
      · exact sRow (by omega) (row_at xs _ (by omega)) rfl
      · exact sAnd (by repeat' constructor) (c_toVote _ (hv _ (getD_mem (by omega))))
      · exact sIdx (by omega) rfl rfl
      · exact sPut (by omega) rfl rfl
      · refine ⟨i + 1, [], by omega, by omega, ?_⟩
        repeat' (first | exact trivial | exact ⟨rfl⟩ | exact Chk.mk (by kernel_rfl) | exact ⟨wrap_succ (n := xs.length) (by omega) (by omega)⟩ | exact sPartS (by omega) rfl | exact sFlat Vote.flat rfl | refine And.intro ?_ ?_ | rfl)
      · refine ⟨⟨trivial, trivial⟩, ⟨part_end (by omega) rfl, ?_⟩, trivial⟩
        show AllF _
        rw [part_all (by omega)]
        exact map_frz Vote.frz
end Mg

/- Sizes. No condition. -/
namespace Mg
open Go Go.RowKit
set_option maxRecDepth 100000
set_option linter.unusedVariables false
set_option linter.unusedSimpArgs false
attribute [local irreducible] W Pure

def sg (a : Int) : Int := if a < 0 then -1 else a
def szT (n : Nat) (l : Int) : Int := sg (l - n)
def thenI (a : Int) (f : Int → Int) : Int := if a < 0 then -1 else f a
def szRun (x : Run) (l : Int) : Int := thenI (szT x.reads.length l) fun a => sg (szT x.puts.length a)
def szEntry (x : Entry) (l : Int) : Int := sg (szRun x.run l)
def szVote (x : Vote) (l : Int) : Int := sg (szEntry x.e l)
def szL {α : Type} (f : α → Int → Int) : List α → Int → Int
  | [], l => l
  | x :: xs, l => thenI (f x l) (szL f xs)
def szVoteS (xs : List Vote) (l : Int) : Int := thenI (l - xs.length) (szL szVote xs)
def szAcc (x : Acc) (l : Int) : Int := sg (szVoteS x.votes l)

theorem sg_le {a b : Int} (h : a ≤ b) (h0 : 0 ≤ b) : sg a ≤ b := by unfold sg; split <;> omega
theorem szT_le (n : Nat) {l : Int} (h : 0 ≤ l) : szT n l ≤ l := sg_le (by omega) h
theorem szRun_le (x : Run) {l : Int} (h : 0 ≤ l) : szRun x l ≤ l := by
  have h1 := szT_le x.reads.length h
  unfold szRun thenI
  split
  · omega
  · have := szT_le x.puts.length (l := szT x.reads.length l) (by omega)
    exact sg_le (by omega) h
theorem szEntry_le (x : Entry) {l : Int} (h : 0 ≤ l) : szEntry x l ≤ l := sg_le (szRun_le _ h) h
theorem szVote_le (x : Vote) {l : Int} (h : 0 ≤ l) : szVote x l ≤ l := sg_le (szEntry_le _ h) h
theorem szL_step {α : Type} [Inhabited α] (f : α → Int → Int) (xs : List α) {i : Nat} (l : Int) (h : i < xs.length) : szL f (xs.drop i) l = thenI (f (xs.getD i default) l) (szL f (xs.drop (i + 1))) := by
  rw [List.drop_eq_getElem_cons h, getD_get h]; rfl
theorem c_szReadS (xs : List Two) (l : Int) (h0 : 0 ≤ l) (h1 : l ≤ lim) (hx : xs.length ≤ maxLen) : Pure PP false 59 [.one (.fz (xs.map Two.cells)), oi l] (oi (szT xs.length l)) := by
  have hw : IntKind.i64.wrap (l - ((xs.map Two.cells).length : Int)) = l - xs.length := by
    unfold maxLen at hx; unfold lim at h1; rw [List.length_map, wrapi] <;> omega
  refine Pure.vc [] TTok hmo Go.Proofs.Tryd.func59 (by kernel_rfl) rfl (by kernel_rfl) ?_
  repeat' (first | refine And.intro ?_ ?_ | exact tf | exact ft | refine tt ?_ | refine ff ?_ | exact ⟨trivial⟩ | exact sLe rfl | exact Chk.mk (by kernel_rfl) | exact ⟨Chk.mk (by kernel_rfl)⟩ | exact sLeEq rfl rfl | refine fun h => ?_)
  all_goals (rw [hw] at h; refine ⟨?_⟩; simp_all [szT, sg])
  omega

theorem c_szPutS (xs : List Two) (l : Int) (h0 : 0 ≤ l) (h1 : l ≤ lim) (hx : xs.length ≤ maxLen) : Pure PP false 60 [.one (.fz (xs.map Two.cells)), oi l] (oi (szT xs.length l)) := by
  have hw : IntKind.i64.wrap (l - ((xs.map Two.cells).length : Int)) = l - xs.length := by
    unfold maxLen at hx; unfold lim at h1; rw [List.length_map, wrapi] <;> omega
  refine Pure.vc [] TTok hmo Go.Proofs.Tryd.func60 (by kernel_rfl) rfl (by kernel_rfl) ?_
  repeat' (first | refine And.intro ?_ ?_ | exact tf | exact ft | refine tt ?_ | refine ff ?_ | exact ⟨trivial⟩ | exact sLe rfl | exact Chk.mk (by kernel_rfl) | exact ⟨Chk.mk (by kernel_rfl)⟩ | exact sLeEq rfl rfl | refine fun h => ?_)
  all_goals (rw [hw] at h; refine ⟨?_⟩; simp_all [szT, sg])
  omega

theorem c_szRun (x : Run) (l : Int) (h0 : 0 ≤ l) (h1 : l ≤ lim) (hx : x.ok maxLen) : Pure PP false 31 [.agg x.cells, oi l] (oi (szRun x l)) := by
  have hle := szT_le x.reads.length h0
  refine Pure.vc [(8, .res (oi (szT x.reads.length l))), (14, .res (oi (szT x.puts.length (szT x.reads.length l))))] TTok hmo Go.Proofs.Tryd.func31 (by kernel_rfl) rfl (by kernel_rfl) ?_
  repeat' (first | refine And.intro ?_ ?_ | exact tf | exact ft | refine tt ?_ | refine ff ?_ | exact ⟨trivial⟩ | exact sLe rfl | exact Chk.mk (by kernel_rfl) | exact ⟨Chk.mk (by kernel_rfl)⟩ | exact sLeEq rfl rfl | refine fun h => ?_)
  · exact sAnd (by repeat' constructor) (c_szReadS _ _ h0 h1 hx.1)
  · refine ⟨?_⟩; simp_all [szRun, thenI]
  · exact sAnd (by repeat' constructor) (c_szPutS _ _ (by simpa using h) (by omega) hx.2)
  all_goals (refine ⟨?_⟩; simp_all [szRun, thenI, sg])
  all_goals omega

theorem c_szEntry (x : Entry) (l : Int) (h0 : 0 ≤ l) (h1 : l ≤ lim) (hx : x.ok maxLen) : Pure PP false 9 [.agg x.cells, oi l] (oi (szEntry x l)) := by
  refine Pure.vc [(8, .res (oi (szRun x.run l)))] TTok hmo Go.Proofs.Tryd.func9 (by kernel_rfl) rfl (by kernel_rfl) ?_
  repeat' (first | refine And.intro ?_ ?_ | exact tf | exact ft | refine tt ?_ | refine ff ?_ | exact ⟨trivial⟩ | exact sLe rfl | exact Chk.mk (by kernel_rfl) | exact ⟨Chk.mk (by kernel_rfl)⟩ | exact sLeEq rfl rfl | refine fun h => ?_)
  · exact sAnd (by repeat' constructor) (c_szRun _ _ h0 h1 hx)
  all_goals (refine ⟨?_⟩; simp_all [szEntry, sg])
  all_goals omega

theorem c_szVote (x : Vote) (l : Int) (h0 : 0 ≤ l) (h1 : l ≤ lim) (hx : x.ok maxLen) : Pure PP false 83 [.agg x.cells, oi l] (oi (szVote x l)) := by
  refine Pure.vc [(8, .res (oi (szEntry x.e l)))] TTok hmo Go.Proofs.Tryd.func83 (by kernel_rfl) rfl (by kernel_rfl) ?_
  repeat' (first | refine And.intro ?_ ?_ | exact tf | exact ft | refine tt ?_ | refine ff ?_ | exact ⟨trivial⟩ | exact sLe rfl | exact Chk.mk (by kernel_rfl) | exact ⟨Chk.mk (by kernel_rfl)⟩ | exact sLeEq rfl rfl | refine fun h => ?_)
  · exact sAnd (by repeat' constructor) (c_szEntry _ _ h0 h1 hx)
  all_goals (refine ⟨?_⟩; simp_all [szVote, sg])
  all_goals omega

theorem c_szVoteS (xs : List Vote) (l : Int) (h0 : 0 ≤ l) (h1 : l ≤ lim) (hx : xs.length ≤ maxLen) (hv : ∀ v ∈ xs, v.ok maxLen) : Pure PP false 53 [.one (.fz (xs.map Vote.cells)), oi l] (oi (szVoteS xs l)) := by
  have hw : IntKind.i64.wrap (l - ((xs.map Vote.cells).length : Int)) = l - xs.length := by
    unfold maxLen at hx; unfold lim at h1; rw [List.length_map, wrapi] <;> omega
  have hx' : xs.length ≤ 9223372036854775807 := hx
  refine Pure.vc [] TTok hmo Go.Proofs.Tryd.func53 (by kernel_rfl) rfl (by kernel_rfl) ?_
  repeat' (first | refine And.intro ?_ ?_ | exact tf | exact ft | refine tt ?_ | refine ff ?_ | exact ⟨trivial⟩ | exact sLe rfl | exact Chk.mk (by kernel_rfl) | exact ⟨Chk.mk (by kernel_rfl)⟩ | exact sLeEq rfl rfl | refine fun h => ?_)
  · rw [hw] at h; refine ⟨?_⟩; simp_all [szVoteS, thenI]
  · rw [hw] at h
    simp only [decide_eq_false_iff_not] at h
    refine W.loopC (D := Nat × Int) (fun d => [(20, .row (xs.getD d.1 default).cells), (23, .res (oi (szVote (xs.getD d.1 default) d.2)))]) TTok hmo
      (fun d => ⟨27, 0, [(0, .one (.ag (xs.map Vote.cells))), (1, oi d.2), (4, oi 0), (5, oi d.1)], []⟩) (fun d => xs.length - d.1) (fun d => d.1 ≤ xs.length ∧ 0 ≤ d.2 ∧ d.2 ≤ lim ∧ szVoteS xs l = szL szVote (xs.drop d.1) d.2) (0, l - xs.length) [] ⟨by simp, by simp only; omega, by simp only; omega, by simp [szVoteS, thenI]; omega⟩ ?_ ?_
    · repeat' (first | exact trivial | exact ⟨rfl⟩ | exact Chk.mk (by kernel_rfl) | refine And.intro ?_ ?_ | rfl)
      exact ⟨hw.symm⟩
    · intro ⟨i, a⟩ ⟨hi, ha0, ha1, hp⟩
      simp only at hi ha0 ha1 hp
      repeat' (first | refine And.intro ?_ ?_ | exact tf | exact ft | refine tt ?_ | refine ff ?_ | exact ⟨trivial⟩ | exact sLe rfl | exact Chk.mk (by kernel_rfl) | exact ⟨Chk.mk (by kernel_rfl)⟩ | exact sLeEq rfl rfl | refine fun h => ?_)
      all_goals simp only [decide_eq_true_eq, decide_eq_false_iff_not, List.length_map] at *
      · exact sRow (by omega) (row_at xs _ (by omega)) rfl
      · exact sAnd (by repeat' constructor) (c_szVote _ _ ha0 ha1 (hv _ (getD_mem (by omega))))
      · rw [szL_step _ _ _ (by omega)] at hp
        refine ⟨?_⟩; simp_all [thenI]
      · rw [szL_step _ _ _ (by omega)] at hp
        have hle := szVote_le (xs.getD i default) ha0
        refine ⟨(i + 1, szVote (xs.getD i default) a), [], by simp only; omega, ⟨by simp only; omega, by simp only; omega, by simp only; omega, by simp only; rw [hp, thenI, if_neg (by assumption)]⟩, ?_⟩
        repeat' (first | exact trivial | exact ⟨rfl⟩ | exact Chk.mk (by kernel_rfl) | exact ⟨wrap_succ (n := xs.length) (by omega) (by omega)⟩ | refine And.intro ?_ ?_ | rfl)
      · rw [List.drop_eq_nil_of_le (by omega)] at hp
        refine ⟨?_⟩; simp_all [szL]
end Mg

/- Sameness. No condition. -/
namespace Mg
open Go Go.RowKit
set_option maxRecDepth 100000
set_option linter.unusedVariables false
set_option linter.unusedSimpArgs false
attribute [local irreducible] W Pure
theorem Two.eq_iff {x y : Two} : x = y ↔ x.a = y.a ∧ x.b = y.b := by
  cases x; cases y; simp
theorem Vote.eq_iff {x y : Vote} : x = y ↔ x.bal = y.bal ∧ x.e = y.e := by
  cases x; cases y; simp
theorem c_same_Read (xs ys : List Two) (hx : xs.length ≤ maxLen) (hy : ys.length ≤ maxLen)  : Pure PP false 69 [.one (.fz (xs.map Two.cells)), .one (.fz (ys.map Two.cells))] (ob (decide (xs = ys))) := by
  refine Pure.vc [] TTok hmo Go.Proofs.Tryd.func69 (by kernel_rfl) rfl (by kernel_rfl) ?_
  repeat' (first | refine And.intro ?_ ?_ | exact tf | exact ft | refine tt ?_ | refine ff ?_ | exact ⟨trivial⟩ | exact sLe rfl | exact Chk.mk (by kernel_rfl) | exact ⟨Chk.mk (by kernel_rfl)⟩ | exact sLeEq rfl rfl | refine fun h => ?_)
  · refine ⟨?_⟩
    simp at *
    intro e; subst e; simp at h
  · have hl : xs.length = ys.length := by simp at h; omega
    unfold maxLen at hx hy
    refine W.loopC (D := Nat) (fun i => [(18, .row (xs.getD i default).cells), (22, .row (ys.getD i default).cells)]) TTok hmo
      (fun i => ⟨26, 0, [(0, .one (.ag (xs.map Two.cells))), (1, .one (.ag (ys.map Two.cells))), (4, ob false), (12, oi xs.length), (13, oi i)], []⟩) (fun i => xs.length - i) (fun i => i ≤ xs.length ∧ xs.take i = ys.take i) 0 [] ⟨by omega, by simp⟩ ?_ ?_
    · repeat' (first | exact trivial | exact ⟨rfl⟩ | exact Chk.mk (by kernel_rfl) | refine And.intro ?_ ?_ | rfl)
      all_goals exact ⟨by simp⟩
    · intro i ⟨hi, hp⟩
      repeat' (first | refine And.intro ?_ ?_ | exact tf | exact ft | refine tt ?_ | refine ff ?_ | exact ⟨trivial⟩ | exact sLe rfl | exact Chk.mk (by kernel_rfl) | exact ⟨Chk.mk (by kernel_rfl)⟩ | exact sLeEq rfl rfl | refine fun h => ?_)
      all_goals simp only [decide_eq_true_eq, decide_eq_false_iff_not, List.length_map, Bool.not_eq_true', Bool.not_eq_false', Bool.not_eq_eq_eq_not, Bool.not_true, Bool.not_false, bne_iff_ne, ne_eq, bne_eq_false_iff_eq] at *
      · exact sRow (by omega) (row_at xs _ (by omega)) rfl
      · exact sRow (by omega) (row_at ys _ (by omega)) rfl
      · refine ⟨?_⟩
        simp
        intro e; subst e; simp_all
      · refine ⟨i + 1, [], by omega, ⟨by omega, eq_upto hl (by omega) hp (by simp_all [Two.eq_iff])⟩, ?_⟩
        repeat' (first | exact trivial | exact ⟨rfl⟩ | exact Chk.mk (by kernel_rfl) | exact ⟨wrap_succ (n := xs.length) (by omega) (by omega)⟩ | refine And.intro ?_ ?_ | rfl)
      · refine ⟨?_⟩
        simp
        exact eq_all hl (by omega) hp

theorem c_same_Put (xs ys : List Two) (hx : xs.length ≤ maxLen) (hy : ys.length ≤ maxLen)  : Pure PP false 70 [.one (.fz (xs.map Two.cells)), .one (.fz (ys.map Two.cells))] (ob (decide (xs = ys))) := by
  refine Pure.vc [] TTok hmo Go.Proofs.Tryd.func70 (by kernel_rfl) rfl (by kernel_rfl) ?_
  repeat' (first | refine And.intro ?_ ?_ | exact tf | exact ft | refine tt ?_ | refine ff ?_ | exact ⟨trivial⟩ | exact sLe rfl | exact Chk.mk (by kernel_rfl) | exact ⟨Chk.mk (by kernel_rfl)⟩ | exact sLeEq rfl rfl | refine fun h => ?_)
  · refine ⟨?_⟩
    simp at *
    intro e; subst e; simp at h
  · have hl : xs.length = ys.length := by simp at h; omega
    unfold maxLen at hx hy
    refine W.loopC (D := Nat) (fun i => [(18, .row (xs.getD i default).cells), (22, .row (ys.getD i default).cells)]) TTok hmo
      (fun i => ⟨26, 0, [(0, .one (.ag (xs.map Two.cells))), (1, .one (.ag (ys.map Two.cells))), (4, ob false), (12, oi xs.length), (13, oi i)], []⟩) (fun i => xs.length - i) (fun i => i ≤ xs.length ∧ xs.take i = ys.take i) 0 [] ⟨by omega, by simp⟩ ?_ ?_
    · repeat' (first | exact trivial | exact ⟨rfl⟩ | exact Chk.mk (by kernel_rfl) | refine And.intro ?_ ?_ | rfl)
      all_goals exact ⟨by simp⟩
    · intro i ⟨hi, hp⟩
      repeat' (first | refine And.intro ?_ ?_ | exact tf | exact ft | refine tt ?_ | refine ff ?_ | exact ⟨trivial⟩ | exact sLe rfl | exact Chk.mk (by kernel_rfl) | exact ⟨Chk.mk (by kernel_rfl)⟩ | exact sLeEq rfl rfl | refine fun h => ?_)
      all_goals simp only [decide_eq_true_eq, decide_eq_false_iff_not, List.length_map, Bool.not_eq_true', Bool.not_eq_false', Bool.not_eq_eq_eq_not, Bool.not_true, Bool.not_false, bne_iff_ne, ne_eq, bne_eq_false_iff_eq] at *
      · exact sRow (by omega) (row_at xs _ (by omega)) rfl
      · exact sRow (by omega) (row_at ys _ (by omega)) rfl
      · refine ⟨?_⟩
        simp
        intro e; subst e; simp_all
      · refine ⟨i + 1, [], by omega, ⟨by omega, eq_upto hl (by omega) hp (by simp_all [Two.eq_iff])⟩, ?_⟩
        repeat' (first | exact trivial | exact ⟨rfl⟩ | exact Chk.mk (by kernel_rfl) | exact ⟨wrap_succ (n := xs.length) (by omega) (by omega)⟩ | refine And.intro ?_ ?_ | rfl)
      · refine ⟨?_⟩
        simp
        exact eq_all hl (by omega) hp

theorem c_impl_ExecSame (x y : Run) (hx : x.ok lim) (hy : y.ok lim) :
    Pure PP false 41 [.agg x.cells, .agg y.cells] (ob (decide (x = y))) := by
  obtain ⟨rs, ps, c, d⟩ := x
  obtain ⟨rs', ps', c', d'⟩ := y
  refine Pure.vc [(9, .res (ob (decide (rs = rs')))), (15, .res (ob (decide (ps = ps'))))] TTok hmo Go.Proofs.Tryd.func41 (by kernel_rfl) rfl (by kernel_rfl) ?_
  repeat' (first | refine And.intro ?_ ?_ | exact tf | exact ft | refine tt ?_ | refine ff ?_ | exact ⟨trivial⟩ | exact sLe rfl | exact Chk.mk (by kernel_rfl) | exact ⟨Chk.mk (by kernel_rfl)⟩ | exact sLeEq rfl rfl | exact sAnd (by repeat' constructor) (c_same_Read _ _ (Nat.le_trans hx.1 (by decide)) (Nat.le_trans hy.1 (by decide))) | exact sAnd (by repeat' constructor) (c_same_Put _ _ (Nat.le_trans hx.2 (by decide)) (Nat.le_trans hy.2 (by decide))) | refine fun h => ?_)
  all_goals (refine ⟨?_⟩; simp_all)
  all_goals rfl

theorem c_impl_CertLike (x y : Entry) (hx : x.ok lim) (hy : y.ok lim) :
    Pure PP false 16 [.agg x.cells, .agg y.cells] (ob (decide (x = y))) := by
  obtain ⟨n, ⟨qa, qb⟩, r⟩ := x
  obtain ⟨n', ⟨qa', qb'⟩, r'⟩ := y
  refine Pure.vc [(22, .res (ob (decide (r = r'))))] TTok hmo Go.Proofs.Tryd.func16 (by kernel_rfl) rfl (by kernel_rfl) ?_
  repeat' (first | refine And.intro ?_ ?_ | exact tf | exact ft | refine tt ?_ | refine ff ?_ | exact ⟨trivial⟩ | exact sLe rfl | exact Chk.mk (by kernel_rfl) | exact ⟨Chk.mk (by kernel_rfl)⟩ | exact sLeEq rfl rfl | exact sAnd (by repeat' constructor) (c_impl_ExecSame _ _ hx hy) | refine fun h => ?_)
  all_goals (refine ⟨?_⟩; simp_all)
  all_goals rfl

theorem c_votesSame (xs ys : List Vote) (hx : xs.length ≤ maxLen) (hy : ys.length ≤ maxLen) (hvx : ∀ v ∈ xs, v.ok lim) (hvy : ∀ v ∈ ys, v.ok lim) : Pure PP false 57 [.one (.fz (xs.map Vote.cells)), .one (.fz (ys.map Vote.cells))] (ob (decide (xs = ys))) := by
  refine Pure.vc [] TTok hmo Go.Proofs.Tryd.func57 (by kernel_rfl) rfl (by kernel_rfl) ?_
  repeat' (first | refine And.intro ?_ ?_ | exact tf | exact ft | refine tt ?_ | refine ff ?_ | exact ⟨trivial⟩ | exact sLe rfl | exact Chk.mk (by kernel_rfl) | exact ⟨Chk.mk (by kernel_rfl)⟩ | exact sLeEq rfl rfl | refine fun h => ?_)
  · refine ⟨?_⟩
    simp at *
    intro e; subst e; simp at h
  · have hl : xs.length = ys.length := by simp at h; omega
    unfold maxLen at hx hy
    refine W.loopC (D := Nat) (fun i => [(18, .row (xs.getD i default).cells), (23, .row (ys.getD i default).cells), (30, .row (xs.getD i default).cells), (35, .row (ys.getD i default).cells), (38, .res (ob (decide ((xs.getD i default).e = (ys.getD i default).e))))]) TTok hmo
      (fun i => ⟨42, 0, [(0, .one (.ag (xs.map Vote.cells))), (1, .one (.ag (ys.map Vote.cells))), (4, ob false), (12, oi xs.length), (13, oi i)], []⟩) (fun i => xs.length - i) (fun i => i ≤ xs.length ∧ xs.take i = ys.take i) 0 [] ⟨by omega, by simp⟩ ?_ ?_
    · repeat' (first | exact trivial | exact ⟨rfl⟩ | exact Chk.mk (by kernel_rfl) | refine And.intro ?_ ?_ | rfl)
      all_goals exact ⟨by simp⟩
    · intro i ⟨hi, hp⟩
      repeat' (first | refine And.intro ?_ ?_ | exact tf | exact ft | refine tt ?_ | refine ff ?_ | exact ⟨trivial⟩ | exact sLe rfl | exact Chk.mk (by kernel_rfl) | exact ⟨Chk.mk (by kernel_rfl)⟩ | exact sLeEq rfl rfl | refine fun h => ?_)
      all_goals simp only [decide_eq_true_eq, decide_eq_false_iff_not, List.length_map, Bool.not_eq_true', Bool.not_eq_false', Bool.not_eq_eq_eq_not, Bool.not_true, Bool.not_false, bne_iff_ne, ne_eq, bne_eq_false_iff_eq] at *
      · exact sRow (by omega) (row_at xs _ (by omega)) rfl
      · exact sRow (by omega) (row_at ys _ (by omega)) rfl
      · exact sRow (by omega) (row_at xs _ (by omega)) rfl
      · exact sRow (by omega) (row_at ys _ (by omega)) rfl
      · exact sAnd (by repeat' constructor) (c_impl_CertLike _ _ (hvx _ (getD_mem (by omega))) (hvy _ (getD_mem (by omega))))
      · refine ⟨?_⟩
        simp
        intro e; subst e; simp_all
      · refine ⟨i + 1, [], by omega, ⟨by omega, eq_upto hl (by omega) hp (by simp_all [Vote.eq_iff])⟩, ?_⟩
        repeat' (first | exact trivial | exact ⟨rfl⟩ | exact Chk.mk (by kernel_rfl) | exact ⟨wrap_succ (n := xs.length) (by omega) (by omega)⟩ | refine And.intro ?_ ?_ | rfl)
      · refine ⟨?_⟩
        simp
        intro e; subst e; simp_all
      · refine ⟨?_⟩
        simp
        exact eq_all hl (by omega) hp

theorem c_spec_ExecSame (x y : Run) (hx : x.ok lim) (hy : y.ok lim) : Pure PP false 42 [.agg x.cells, .agg y.cells] (ob (decide (x = y))) := by
  obtain ⟨rs, ps, c, d⟩ := x
  obtain ⟨rs', ps', c', d'⟩ := y
  have hxr : rs.length ≤ 1048576 := hx.1
  have hxp : ps.length ≤ 1048576 := hx.2
  refine Pure.vc [] TTok hmo Go.Proofs.Tryd.func42 (by kernel_rfl) rfl (by kernel_rfl) ?_
  repeat' (first | refine And.intro ?_ ?_ | exact tf | exact ft | refine tt ?_ | refine ff ?_ | exact ⟨trivial⟩ | exact sLe rfl | exact Chk.mk (by kernel_rfl) | exact ⟨Chk.mk (by kernel_rfl)⟩ | exact sLeEq rfl rfl | refine fun h => ?_)
  all_goals try (refine Side.mk ?_; simp_all; done)
  · refine ⟨?_⟩; simp_all; repeat intro e
    simp_all
  · have hlr : rs.length = rs'.length := by simp_all; omega
    have hlp : ps.length = ps'.length := by simp_all; omega
    have hcc : c = c' := by simp_all
    have hdd : d = d' := by simp_all
    refine W.loopC (D := Nat) (fun i => [(47, .row (rs.getD i default).cells), (52, .row (rs'.getD i default).cells)]) TTok hmo
      (fun i => ⟨73, 2, [(2, .one (.ptr 0 0 0)), (3, .one (.ptr 1 0 0)), (4, ob false), (5, oi i)], [(0, .box [.ag (rs.map Two.cells), .ag (ps.map Two.cells), i6 c, i6 d]), (1, .box [.ag (rs'.map Two.cells), .ag (ps'.map Two.cells), i6 c', i6 d'])]⟩) (fun i => rs.length - i) (fun i => i ≤ rs.length ∧ rs.take i = rs'.take i) 0 [] ⟨by omega, by simp⟩ ?_ ?_
    · repeat' (first | exact trivial | exact ⟨rfl⟩ | exact Chk.mk (by kernel_rfl) | refine And.intro ?_ ?_ | rfl)
    · intro i ⟨hi, hp⟩
      repeat' (first | refine And.intro ?_ ?_ | exact tf | exact ft | refine tt ?_ | refine ff ?_ | exact ⟨trivial⟩ | exact sLe rfl | exact Chk.mk (by kernel_rfl) | exact ⟨Chk.mk (by kernel_rfl)⟩ | exact sLeEq rfl rfl | refine fun h => ?_)
      all_goals simp only [decide_eq_true_eq, decide_eq_false_iff_not, List.length_map, Bool.not_eq_true', Bool.not_eq_false', Bool.not_eq_eq_eq_not, Bool.not_true, Bool.not_false, bne_iff_ne, ne_eq, bne_eq_false_iff_eq] at *
      · exact sRow (by omega) (row_at rs _ (by omega)) rfl
      · exact sRow (by omega) (row_at rs' _ (by omega)) rfl
      · refine ⟨?_⟩
        simp_all
        repeat intro e
        simp_all
      · refine ⟨i + 1, [], by omega, ⟨by omega, eq_upto hlr (by omega) hp (by simp_all [Two.eq_iff])⟩, ?_⟩
        repeat' (first | exact trivial | exact ⟨rfl⟩ | exact Chk.mk (by kernel_rfl) | exact ⟨wrap_succ (n := rs.length) (by omega) (by omega)⟩ | refine And.intro ?_ ?_ | rfl)
      · have rse : rs = rs' := eq_all hlr (by omega) hp
        refine W.loopC (D := Nat) (fun i => [(65, .row (ps.getD i default).cells), (70, .row (ps'.getD i default).cells)]) TTok hmo
          (fun i => ⟨73, 2, [(2, .one (.ptr 0 0 0)), (3, .one (.ptr 1 0 0)), (4, ob false), (6, oi i)], [(0, .box [.ag (rs.map Two.cells), .ag (ps.map Two.cells), i6 c, i6 d]), (1, .box [.ag (rs'.map Two.cells), .ag (ps'.map Two.cells), i6 c', i6 d'])]⟩) (fun i => ps.length - i) (fun i => i ≤ ps.length ∧ ps.take i = ps'.take i) 0 [] ⟨by omega, by simp⟩ ?_ ?_
        · repeat' (first | exact trivial | exact ⟨rfl⟩ | exact Chk.mk (by kernel_rfl) | refine And.intro ?_ ?_ | rfl)
        · intro i ⟨hi, hp⟩
          repeat' (first | refine And.intro ?_ ?_ | exact tf | exact ft | refine tt ?_ | refine ff ?_ | exact ⟨trivial⟩ | exact sLe rfl | exact Chk.mk (by kernel_rfl) | exact ⟨Chk.mk (by kernel_rfl)⟩ | exact sLeEq rfl rfl | refine fun h => ?_)
          all_goals simp only [decide_eq_true_eq, decide_eq_false_iff_not, List.length_map, Bool.not_eq_true', Bool.not_eq_false', Bool.not_eq_eq_eq_not, Bool.not_true, Bool.not_false, bne_iff_ne, ne_eq, bne_eq_false_iff_eq] at *
          · exact sRow (by omega) (row_at ps _ (by omega)) rfl
          · exact sRow (by omega) (row_at ps' _ (by omega)) rfl
          · refine ⟨?_⟩
            simp_all
            repeat intro e
            simp_all
          · refine ⟨i + 1, [], by omega, ⟨by omega, eq_upto hlp (by omega) hp (by simp_all [Two.eq_iff])⟩, ?_⟩
            repeat' (first | exact trivial | exact ⟨rfl⟩ | exact Chk.mk (by kernel_rfl) | exact ⟨wrap_succ (n := ps.length) (by omega) (by omega)⟩ | refine And.intro ?_ ?_ | rfl)
          · have pse : ps = ps' := eq_all hlp (by omega) hp
            refine ⟨?_⟩
            simp_all
  all_goals (refine Side.mk ?_; simp_all; repeat intro e)
  all_goals simp_all

theorem c_spec_CertLike (x y : Entry) (hx : x.ok lim) (hy : y.ok lim) :
    Pure PP false 17 [.agg x.cells, .agg y.cells] (ob (decide (x = y))) := by
  obtain ⟨n, ⟨qa, qb⟩, r⟩ := x
  obtain ⟨n', ⟨qa', qb'⟩, r'⟩ := y
  refine Pure.vc [(22, .res (ob (decide (r = r'))))] TTok hmo Go.Proofs.Tryd.func17 (by kernel_rfl) rfl (by kernel_rfl) ?_
  repeat' (first | refine And.intro ?_ ?_ | exact tf | exact ft | refine tt ?_ | refine ff ?_ | exact ⟨trivial⟩ | exact sLe rfl | exact Chk.mk (by kernel_rfl) | exact ⟨Chk.mk (by kernel_rfl)⟩ | exact sLeEq rfl rfl | exact sAnd (by repeat' constructor) (c_spec_ExecSame _ _ hx hy) | refine fun h => ?_)
  all_goals (refine ⟨?_⟩; simp_all)
  all_goals rfl

theorem c_l6Same (xs ys : List Vote) (hx : xs.length ≤ maxLen) (hy : ys.length ≤ maxLen) (hvx : ∀ v ∈ xs, v.ok lim) (hvy : ∀ v ∈ ys, v.ok lim) : Pure PP false 58 [.one (.fz (xs.map Vote.cells)), .one (.fz (ys.map Vote.cells))] (ob (decide (xs = ys))) := by
  refine Pure.vc [] TTok hmo Go.Proofs.Tryd.func58 (by kernel_rfl) rfl (by kernel_rfl) ?_
  repeat' (first | refine And.intro ?_ ?_ | exact tf | exact ft | refine tt ?_ | refine ff ?_ | exact ⟨trivial⟩ | exact sLe rfl | exact Chk.mk (by kernel_rfl) | exact ⟨Chk.mk (by kernel_rfl)⟩ | exact sLeEq rfl rfl | refine fun h => ?_)
  · refine ⟨?_⟩
    simp at *
    intro e; subst e; simp at h
  · have hl : xs.length = ys.length := by simp at h; omega
    unfold maxLen at hx hy
    refine W.loopC (D := Nat) (fun i => [(19, .row (xs.getD i default).cells), (24, .row (ys.getD i default).cells), (31, .row (xs.getD i default).cells), (36, .row (ys.getD i default).cells), (39, .res (ob (decide ((xs.getD i default).e = (ys.getD i default).e))))]) TTok hmo
      (fun i => ⟨42, 0, [(0, .one (.ag (xs.map Vote.cells))), (1, .one (.ag (ys.map Vote.cells))), (4, ob false), (5, oi i)], []⟩) (fun i => xs.length - i) (fun i => i ≤ xs.length ∧ xs.take i = ys.take i) 0 [] ⟨by omega, by simp⟩ ?_ ?_
    · repeat' (first | exact trivial | exact ⟨rfl⟩ | exact Chk.mk (by kernel_rfl) | refine And.intro ?_ ?_ | rfl)
      all_goals exact ⟨by simp⟩
    · intro i ⟨hi, hp⟩
      repeat' (first | refine And.intro ?_ ?_ | exact tf | exact ft | refine tt ?_ | refine ff ?_ | exact ⟨trivial⟩ | exact sLe rfl | exact Chk.mk (by kernel_rfl) | exact ⟨Chk.mk (by kernel_rfl)⟩ | exact sLeEq rfl rfl | refine fun h => ?_)
      all_goals simp only [decide_eq_true_eq, decide_eq_false_iff_not, List.length_map, Bool.not_eq_true', Bool.not_eq_false', Bool.not_eq_eq_eq_not, Bool.not_true, Bool.not_false, bne_iff_ne, ne_eq, bne_eq_false_iff_eq] at *
      · exact sRow (by omega) (row_at xs _ (by omega)) rfl
      · exact sRow (by omega) (row_at ys _ (by omega)) rfl
      · exact sRow (by omega) (row_at xs _ (by omega)) rfl
      · exact sRow (by omega) (row_at ys _ (by omega)) rfl
      · exact sAnd (by repeat' constructor) (c_spec_CertLike _ _ (hvx _ (getD_mem (by omega))) (hvy _ (getD_mem (by omega))))
      · refine ⟨?_⟩
        simp
        intro e; subst e; simp_all
      · refine ⟨i + 1, [], by omega, ⟨by omega, eq_upto hl (by omega) hp (by simp_all [Vote.eq_iff])⟩, ?_⟩
        repeat' (first | exact trivial | exact ⟨rfl⟩ | exact Chk.mk (by kernel_rfl) | exact ⟨wrap_succ (n := xs.length) (by omega) (by omega)⟩ | refine And.intro ?_ ?_ | rfl)
      · refine ⟨?_⟩
        simp
        intro e; subst e; simp_all
      · refine ⟨?_⟩
        simp
        exact eq_all hl (by omega) hp
end Mg
