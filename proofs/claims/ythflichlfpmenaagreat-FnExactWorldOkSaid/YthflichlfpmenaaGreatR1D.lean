/- The data of boxes, runs, entries, votes. No condition. -/
import Derived.Test.YthflichlfpmenaaGreatMg22
namespace Mg
open Go Go.RowKit

@[reducible] def i6 (n : Int) : MC := .sc (.int .i64 n)
@[reducible] def bo (b : Bool) : MC := .sc (.bool b)
@[reducible] def oi (n : Int) : MV := .one (.sc (.int .i64 n))
@[reducible] def ob (b : Bool) : MV := .one (.sc (.bool b))

structure Two where
  a : Int
  b : Int
  deriving DecidableEq, Inhabited
structure Run where
  reads : List Two
  puts : List Two
  c : Int
  d : Int
  deriving DecidableEq, Inhabited
structure Entry where
  none : Bool
  q : Two
  run : Run
  deriving DecidableEq, Inhabited
structure Vote where
  bal : Int
  e : Entry
  deriving DecidableEq, Inhabited
structure Acc where
  p : Int
  votes : List Vote
  deriving DecidableEq, Inhabited

def Two.cells (x : Two) : List MC := [i6 x.a, i6 x.b]
def Run.cells (x : Run) : List MC := [.fz (x.reads.map Two.cells), .fz (x.puts.map Two.cells), i6 x.c, i6 x.d]
def Entry.cells (x : Entry) : List MC := bo x.none :: (x.q.cells ++ x.run.cells)
def Vote.cells (x : Vote) : List MC := i6 x.bal :: x.e.cells
def Acc.cells (x : Acc) : List MC := [i6 x.p, .fz (x.votes.map Vote.cells)]

/-- What is small enough. -/
def Run.ok (n : Nat) (x : Run) : Prop := x.reads.length ≤ n ∧ x.puts.length ≤ n
def Entry.ok (n : Nat) (x : Entry) : Prop := x.run.ok n
def Vote.ok (n : Nat) (x : Vote) : Prop := x.e.ok n
def VotesOk (n : Nat) (xs : List Vote) : Prop := xs.length ≤ n ∧ ∀ v ∈ xs, v.ok n
def Acc.ok (n : Nat) (x : Acc) : Prop := VotesOk n x.votes
@[reducible] def lim : Nat := 1048576

theorem getD_mem {α : Type} [Inhabited α] {xs : List α} {i : Nat} (h : i < xs.length) : xs.getD i default ∈ xs := by
  rw [getD_get h]; exact List.getElem_mem h

theorem Two.frz (x : Two) : x.cells.all MC.frz = true := rfl
theorem Run.frz (x : Run) : x.cells.all MC.frz = true := rfl
theorem Entry.frz (x : Entry) : x.cells.all MC.frz = true := rfl
theorem Vote.frz (x : Vote) : x.cells.all MC.frz = true := rfl
theorem Two.flat (x : Two) : x.cells.all MC.flat = true := rfl
theorem Vote.flat (x : Vote) : x.cells.all MC.flat = true := rfl
end Mg
