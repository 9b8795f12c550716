/- The abstract state logic, part 23: data out of what was read. No condition. -/
import Derived.Test.YthflichlfpmenaaGreatMg22
namespace Mg
open Go Go.RowKit
set_option linter.unusedVariables false

variable {T : Tab} {n t : Nat} {cs : List MC} {i : TI}

theorem fit_int {k : IntKind} (h : fit T n t cs) (ht : T t = some i) (hk : i.k = .int k) : ∃ m, cs = [.sc (.int k m)] ∧ k.min ≤ m ∧ m ≤ k.max := by
  cases n with
  | zero => exact h.elim
  | succ n => simpa only [fit, ht, hk] using h
theorem fit_bool (h : fit T n t cs) (ht : T t = some i) (hk : i.k = .bool) : ∃ b, cs = [.sc (.bool b)] := by
  cases n with
  | zero => exact h.elim
  | succ n => simpa only [fit, ht, hk] using h
theorem fit_str (h : fit T n t cs) (ht : T t = some i) (hk : i.k = .str) : ∃ s : ByteArray, cs = [.sc (.string s)] ∧ s.size ≤ maxLen := by
  cases n with
  | zero => exact h.elim
  | succ n => simpa only [fit, ht, hk] using h
theorem fit_slice {e : Nat} (h : fit T n t cs) (ht : T t = some i) (hk : i.k = .slice e) : ∃ rows, cs = [.fz rows] ∧ rows.length ≤ maxLen ∧ ∀ r ∈ rows, ∃ n, fit T n e r := by
  cases n with
  | zero => exact h.elim
  | succ n =>
    simp only [fit, ht, hk] at h
    obtain ⟨rows, h1, h2, h3⟩ := h
    exact ⟨rows, h1, h2, fun r hr => ⟨n, h3 r hr⟩⟩
theorem fit_struct {l : List (Nat × Nat)} (h : fit T n t cs) (ht : T t = some i) (hk : i.k = .struct l) : ∃ n, fitL (fit T n) (l.map (·.2)) cs := by
  cases n with
  | zero => exact h.elim
  | succ n => exact ⟨n, by simpa only [fit, ht, hk] using h⟩
theorem fit_arr {m e : Nat} (h : fit T n t cs) (ht : T t = some i) (hk : i.k = .arr m e) : ∃ n, fitL (fit T n) (List.replicate m e) cs := by
  cases n with
  | zero => exact h.elim
  | succ n => exact ⟨n, by simpa only [fit, ht, hk] using h⟩
theorem rows_data {α : Type} {c : α → List MC} {p : α → Prop} : ∀ {rows : List (List MC)}, (∀ r ∈ rows, ∃ x, r = c x ∧ p x) → ∃ xs : List α, rows = xs.map c ∧ ∀ x ∈ xs, p x
  | [], _ => ⟨[], rfl, fun x hx => by cases hx⟩
  | r :: rs, h => by
    obtain ⟨x, hx, hp⟩ := h r List.mem_cons_self
    obtain ⟨xs, hxs, hps⟩ := rows_data fun r hr => h r (List.mem_cons_of_mem _ hr)
    exact ⟨x :: xs, by simp [hx, hxs], fun y hy => by
      rcases List.mem_cons.1 hy with rfl | hy
      · exact hp
      · exact hps y hy⟩

/-- A result that is one scalar. -/
theorem OV_sc {w : World} {F : Nat → Prop} {u v : Value} {bs : List Nat} (h : OV w F (.one (.sc u)) v bs) : v = u := by
  have h : OC w F [.sc u] [v] bs := h
  cases h with
  | fz h _ => cases h; rfl

end Mg
