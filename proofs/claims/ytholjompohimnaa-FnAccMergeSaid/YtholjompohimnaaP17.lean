/- What a row's text of bytes reads as. No condition. -/
import Derived.Test.YtholjompohimnaaP16
import Derived.Test.YtholjompohimnaaP15
namespace Mg
open Go Go.RowKit
set_option maxRecDepth 100000
set_option linter.unusedVariables false
theorem fit_code {n : Nat} {c : MC} (h : fit TT n 33 [c]) : ∃ bs : List Int, c = .fz (bs.map u8) ∧ Code8 bs := by
  obtain ⟨rows, e, hl, hr⟩ := fit_slice h (i := ⟨1, 24, .slice 5, [.nil]⟩) rfl rfl
  obtain ⟨bs, rfl, hb⟩ := rows_data (c := u8) (p := fun b : Int => 0 ≤ b ∧ b ≤ 255) fun r hr' => by
    obtain ⟨n, hn⟩ := hr r hr'
    obtain ⟨m, rfl, h1, h2⟩ := fit_int hn (i := ⟨1, 1, .int .u8, [.int .u8]⟩) rfl rfl
    exact ⟨m, rfl, h1, h2⟩
  simp only [List.cons.injEq, and_true] at e
  exact ⟨bs, e, by simpa using hl, hb⟩
end Mg
