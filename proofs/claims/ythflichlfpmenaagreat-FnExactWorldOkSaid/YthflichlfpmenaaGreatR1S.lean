/- What a message reads as. No condition. -/
import Derived.Test.YthflichlfpmenaaGreatR1R
import Derived.Test.YthflichlfpmenaaGreatR1M
namespace Mg
open Go Go.RowKit
set_option maxRecDepth 100000
set_option linter.unusedVariables false
theorem fit_msg {n : Nat} {cs : List MC} (h : fit TT n 96 cs) : ∃ x : Msg, cs = x.cells ∧ x.ok maxLen := by
  obtain ⟨n, a, r, rfl, ha, b, r', rfl, hb, c, r2, rfl, hc, d, r3, rfl, hd, e, r4, rfl, he, f, r5, rfl, hf, g, r6, rfl, hg, rfl⟩ := fit_struct h (i := ⟨13, 152, .struct [(0, 3), (1, 3), (2, 3), (3, 3), (4, 3), (5, 90), (12, 80)], [.int .i64, .int .i64, .int .i64, .int .i64, .int .i64, .bool, .int .i64, .int .i64, .nil, .nil, .int .i64, .int .i64, .nil]⟩) rfl rfl
  obtain ⟨a, rfl, _⟩ := fit_int ha (i := ⟨1, 8, .int .i64, [.int .i64]⟩) rfl rfl
  obtain ⟨b, rfl, _⟩ := fit_int hb (i := ⟨1, 8, .int .i64, [.int .i64]⟩) rfl rfl
  obtain ⟨c, rfl, _⟩ := fit_int hc (i := ⟨1, 8, .int .i64, [.int .i64]⟩) rfl rfl
  obtain ⟨d, rfl, _⟩ := fit_int hd (i := ⟨1, 8, .int .i64, [.int .i64]⟩) rfl rfl
  obtain ⟨e, rfl, _⟩ := fit_int he (i := ⟨1, 8, .int .i64, [.int .i64]⟩) rfl rfl
  obtain ⟨y, rfl, hy⟩ := fit_entry hf
  obtain ⟨xs, rfl, hx⟩ := fit_votes hg
  exact ⟨⟨a, b, c, d, e, y, xs⟩, by simp [Msg.cells], hy, hx⟩
end Mg
