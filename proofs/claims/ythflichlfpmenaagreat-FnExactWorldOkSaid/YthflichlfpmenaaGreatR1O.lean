/- Runs that are right. No condition. -/
import Derived.Test.YthflichlfpmenaaGreatR1N
namespace Mg
open Go Go.RowKit
set_option maxRecDepth 100000
set_option linter.unusedVariables false
set_option linter.unusedSimpArgs false
attribute [local irreducible] W Pure

def elemOk (lo : Int) (xs : List Two) (i : Nat) : Bool := inr (xs.getD i default).a 0 3 && inr (xs.getD i default).b lo 1000000 && !saw (xs.take i) (xs.getD i default).a
def listOk (lo : Int) (xs : List Two) : Bool := (List.range xs.length).all (elemOk lo xs)
def headOk (r : Run) : Bool := inr r.d 0 3 && inr r.c (-1000000) 1000000 && !(r.d != 0 && (r.c != 0 || decide (0 < r.puts.length))) && !(r.d == 3 && decide (0 < r.reads.length))
def execOk (r : Run) : Bool := headOk r && listOk 0 r.reads && listOk (-1000000) r.puts
theorem listOk_bad {lo : Int} {xs : List Two} {i : Nat} (h : i < xs.length) (he : elemOk lo xs i = false) : listOk lo xs = false := by
  unfold listOk
  rw [List.all_eq_false]
  exact ⟨i, List.mem_range.2 h, by rw [he]; simp⟩
theorem listOk_all {lo : Int} {xs : List Two} {i : Nat} (h : xs.length ≤ i) (he : ∀ j, j < i → j < xs.length → elemOk lo xs j = true) : listOk lo xs = true := by
  unfold listOk
  rw [List.all_eq_true]
  exact fun j hj => he j (by have := List.mem_range.1 hj; omega) (List.mem_range.1 hj)
theorem c_l3Saw' {rows : List (List MC)} {xs : List Two} {b : Int} (e : rows = xs.map Two.cells) (hx : xs.length ≤ maxLen) : Pure PP false 94 [.one (.fz rows), oi b] (ob (saw xs b)) := e ▸ c_l3Saw xs b hx
theorem c_l3At' {rows : List (List MC)} {xs : List Two} {b : Int} (e : rows = xs.map Two.cells) (hx : xs.length ≤ maxLen) : Pure PP false 95 [.one (.fz rows), oi b] (oi (atI xs b)) := e ▸ c_l3At xs b hx
end Mg
