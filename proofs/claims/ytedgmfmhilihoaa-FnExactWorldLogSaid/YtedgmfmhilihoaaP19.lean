/- Parts of the abstract state logic and of the walks, one behind the other: E4, EB. No condition. -/
import Derived.Test.YtedgmfmhilihoaaP18
import Derived.Test.YtedgmfmhilihoaaP15
import Derived.Test.YtedgmfmhilihoaaP14
/- Structs, numbered and held. No condition. -/
namespace Mg
open Go Go.RowKit
set_option maxRecDepth 100000
set_option linter.unusedVariables false
set_option linter.unusedSimpArgs false
attribute [local irreducible] W Pure

end Mg

/- How much there is to number; blocks apart. No condition. -/
namespace Mg
open Go Go.RowKit
set_option linter.unusedVariables false
theorem ctVotes_bd {vs : List Vote} (hl : vs.length ≤ lim) (h : ∀ v ∈ vs, v.ok lim) : 0 ≤ ctVotes vs ∧ ctVotes vs ≤ 6000000000000 := by
  have hl : vs.length ≤ 1048576 := hl
  have := ctL_bd (ct := ctVote) (M := 5000001) (xs := vs) fun x hx => ctVote_bd (h x hx)
  unfold ctVotes
  omega
theorem ctL_tot {α : Type} [Inhabited α] {ct : α → Int} : ∀ {xs : List α}, (∀ x ∈ xs, 0 ≤ ct x) → ∀ i, 0 ≤ ctL ct (xs.take i) ∧ ctL ct (xs.take i) ≤ ctL ct xs
  | [], _, i => by simp [ctL]
  | x :: xs, h, 0 => by
    have h1 := h x (by simp)
    have h2 := ctL_tot (ct := ct) (xs := xs) (fun y hy => h y (List.mem_cons_of_mem _ hy)) xs.length
    rw [List.take_length] at h2
    simp only [List.take_zero, ctL]; omega
  | x :: xs, h, i + 1 => by
    have h1 := h x (by simp)
    have h2 := ctL_tot (ct := ct) (xs := xs) (fun y hy => h y (List.mem_cons_of_mem _ hy)) i
    simp only [List.take_succ_cons, ctL]; omega
theorem ctEntries_bd {vs : List Entry} (h : EntriesOk lim vs) : 0 ≤ ctEntries vs ∧ ctEntries vs ≤ 6000000000000 := by
  have hl : vs.length ≤ 1048576 := h.1
  have := ctL_bd (ct := ctEntry) (M := 5000000) (xs := vs) fun x hx => ctEntry_bd (h.2 x hx)
  unfold ctEntries
  omega
theorem in_any {T : Nat → Nat → Tk} {y : Nat} {i o : Nat} {cs0 : List MC} (h : in1 y (.agg (labRow true (T i) o cs0))) (hp : cs0.all plainC = true := by rfl) : Any T y := by
  obtain ⟨c, hc, h2⟩ := h
  obtain ⟨j, hj⟩ := List.getElem?_of_mem hc
  rw [labRow_get] at hj
  obtain ⟨d, hd, rfl⟩ := Option.map_eq_some_iff.1 hj
  have hpc := List.all_eq_true.1 hp d (List.mem_of_getElem? hd)
  refine ⟨i, o + j, ?_⟩
  cases d <;> first | exact h2.elim | exact h2 | cases hpc
theorem in_dis {N : Bk} {y : Nat} {cs : List MC} (hd : ∀ c ∈ cs, disC N c) (h : in1 y (.agg cs)) : ¬ N y := by
  obtain ⟨c, hc, h2⟩ := h
  have := hd c hc
  cases c <;> first | exact h2.elim | exact this y h2
theorem disAt {N : Bk} {cs : List MC} (hd : ∀ c ∈ cs, disC N c) (j : Nat) {o : Bool} {B : Bk} {u : Value} {rows : List (List MC)} (h : cs[j]? = some (.tr o B u rows)) : ∀ x, B x → ¬ N x := hd _ (List.mem_of_getElem? h)
def ctRun (r : Run) : Int := 2 * (r.reads.length : Int) + 2 * (r.puts.length : Int)
theorem ctRun_bd {e : Entry} (h : e.ok lim) : 0 ≤ ctRun e.run ∧ ctRun e.run ≤ 6000000000000 := by
  have h1 : e.run.reads.length ≤ 1048576 := h.1
  have h2 : e.run.puts.length ≤ 1048576 := h.2
  unfold ctRun; omega
end Mg
