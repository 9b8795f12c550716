/- What nodes and worlds read as. No condition. -/
import Derived.Test.YthflichlfpmenaaGreatR1S
import Derived.Test.YthflichlfpmenaaGreatR2D
namespace Mg
open Go Go.RowKit
set_option maxRecDepth 100000
set_option linter.unusedVariables false
set_option linter.unusedSimpArgs false
theorem fit_ins {n : Nat} {cs : List MC} (h : fit TT n 158 cs) : ∃ x : Ins, cs = x.cells := by
  obtain ⟨n, f0, r0, rfl, h0, f1, r1, rfl, h1, f2, r2, rfl, h2, f3, r3, rfl, h3, rfl⟩ := fit_struct h (i := ⟨4, 32, .struct [(0, 3), (1, 3), (2, 3), (3, 3)], [.int .i64, .int .i64, .int .i64, .int .i64]⟩) rfl rfl
  obtain ⟨x0, rfl, _⟩ := fit_int h0 (i := ⟨1, 8, .int .i64, [.int .i64]⟩) rfl rfl
  obtain ⟨x1, rfl, _⟩ := fit_int h1 (i := ⟨1, 8, .int .i64, [.int .i64]⟩) rfl rfl
  obtain ⟨x2, rfl, _⟩ := fit_int h2 (i := ⟨1, 8, .int .i64, [.int .i64]⟩) rfl rfl
  obtain ⟨x3, rfl, _⟩ := fit_int h3 (i := ⟨1, 8, .int .i64, [.int .i64]⟩) rfl rfl
  exact ⟨⟨x0, x1, x2, x3⟩, by simp [Ins.cells]⟩
theorem fit_inss {n : Nat} {cs : List MC} (h : fit TT n 91 cs) : ∃ xs : List Ins, cs = [.fz (xs.map Ins.cells)] ∧ xs.length ≤ maxLen := by
  obtain ⟨rows, rfl, hl, hr⟩ := fit_slice h (i := ⟨1, 24, .slice 158, [.nil]⟩) rfl rfl
  obtain ⟨xs, rfl, hv⟩ := rows_data (c := Ins.cells) (p := fun v => True) fun r hr' => by
    obtain ⟨n, hn⟩ := hr r hr'
    obtain ⟨x, hx⟩ := fit_ins hn; exact ⟨x, hx, trivial⟩
  exact ⟨xs, rfl, by simpa using hl⟩
theorem fit_bools {n : Nat} {cs : List MC} (h : fit TT n 47 cs) : ∃ xs : List Bool, cs = [.fz (xs.map Bool.cells)] ∧ xs.length ≤ maxLen := by
  obtain ⟨rows, rfl, hl, hr⟩ := fit_slice h (i := ⟨1, 24, .slice 4, [.nil]⟩) rfl rfl
  obtain ⟨xs, rfl, hv⟩ := rows_data (c := Bool.cells) (p := fun v => True) fun r hr' => by
    obtain ⟨n, hn⟩ := hr r hr'
    obtain ⟨x, hx⟩ := fit_bool hn (i := ⟨1, 1, .bool, [.bool]⟩) rfl rfl; exact ⟨x, hx, trivial⟩
  exact ⟨xs, rfl, by simpa using hl⟩
theorem fit_entries {n : Nat} {cs : List MC} (h : fit TT n 83 cs) : ∃ xs : List Entry, cs = [.fz (xs.map Entry.cells)] ∧ xs.length ≤ maxLen ∧ ∀ v ∈ xs, v.ok maxLen := by
  obtain ⟨rows, rfl, hl, hr⟩ := fit_slice h (i := ⟨1, 24, .slice 90, [.nil]⟩) rfl rfl
  obtain ⟨xs, rfl, hv⟩ := rows_data (c := Entry.cells) (p := fun v => v.ok maxLen) fun r hr' => by
    obtain ⟨n, hn⟩ := hr r hr'
    exact fit_entry hn
  exact ⟨xs, rfl, by simpa using hl, hv⟩
theorem fit_msgs {n : Nat} {cs : List MC} (h : fit TT n 23 cs) : ∃ xs : List Msg, cs = [.fz (xs.map Msg.cells)] ∧ xs.length ≤ maxLen ∧ ∀ v ∈ xs, v.ok maxLen := by
  obtain ⟨rows, rfl, hl, hr⟩ := fit_slice h (i := ⟨1, 24, .slice 96, [.nil]⟩) rfl rfl
  obtain ⟨xs, rfl, hv⟩ := rows_data (c := Msg.cells) (p := fun v => v.ok maxLen) fun r hr' => by
    obtain ⟨n, hn⟩ := hr r hr'
    exact fit_msg hn
  exact ⟨xs, rfl, by simpa using hl, hv⟩
theorem fit_node {n : Nat} {cs : List MC} (h : fit TT n 93 cs) : ∃ x : Node, cs = x.cells ∧ x.ok maxLen := by
  obtain ⟨n, f0, r0, rfl, h0, f1, r1, rfl, h1, f2, r2, rfl, h2, f3, r3, rfl, h3, f4, r4, rfl, h4, f5, r5, rfl, h5, f6, r6, rfl, h6, f7, r7, rfl, h7, f8, r8, rfl, h8, f9, r9, rfl, h9, f10, r10, rfl, h10, f11, r11, rfl, h11, f12, r12, rfl, h12, f13, r13, rfl, h13, rfl⟩ := fit_struct h (i := ⟨27, 392, .struct [(0, 3), (1, 82), (3, 83), (4, 3), (5, 3), (6, 3), (7, 47), (8, 80), (9, 90), (16, 47), (17, 4), (18, 91), (19, 90), (26, 83)], [.int .i64, .int .i64, .nil, .nil, .int .i64, .int .i64, .int .i64, .nil, .nil, .bool, .int .i64, .int .i64, .nil, .nil, .int .i64, .int .i64, .nil, .bool, .nil, .bool, .int .i64, .int .i64, .nil, .nil, .int .i64, .int .i64, .nil]⟩) rfl rfl
  obtain ⟨x0, rfl, _⟩ := fit_int h0 (i := ⟨1, 8, .int .i64, [.int .i64]⟩) rfl rfl
  obtain ⟨x1, rfl, o1⟩ := fit_acc h1
  obtain ⟨x2, rfl, o2⟩ := fit_entries h2
  obtain ⟨x3, rfl, _⟩ := fit_int h3 (i := ⟨1, 8, .int .i64, [.int .i64]⟩) rfl rfl
  obtain ⟨x4, rfl, _⟩ := fit_int h4 (i := ⟨1, 8, .int .i64, [.int .i64]⟩) rfl rfl
  obtain ⟨x5, rfl, _⟩ := fit_int h5 (i := ⟨1, 8, .int .i64, [.int .i64]⟩) rfl rfl
  obtain ⟨x6, rfl, o6⟩ := fit_bools h6
  obtain ⟨x7, rfl, o7⟩ := fit_votes h7
  obtain ⟨x8, rfl, o8⟩ := fit_entry h8
  obtain ⟨x9, rfl, o9⟩ := fit_bools h9
  obtain ⟨x10, rfl⟩ := fit_bool h10 (i := ⟨1, 1, .bool, [.bool]⟩) rfl rfl
  obtain ⟨x11, rfl, o11⟩ := fit_inss h11
  obtain ⟨x12, rfl, o12⟩ := fit_entry h12
  obtain ⟨x13, rfl, o13⟩ := fit_entries h13
  exact ⟨⟨x0, x1, x2, x3, x4, x5, x6, x7, x8, x9, x10, x11, x12, x13⟩, by simp [Node.cells], ⟨o1, o2, o6, o7, o8, o9, o11, o12, o13⟩⟩
theorem fit_nodes {n : Nat} {cs : List MC} (h : fit TT n 22 cs) : ∃ xs : List Node, cs = [.fz (xs.map Node.cells)] ∧ xs.length ≤ maxLen ∧ ∀ v ∈ xs, v.ok maxLen := by
  obtain ⟨rows, rfl, hl, hr⟩ := fit_slice h (i := ⟨1, 24, .slice 93, [.nil]⟩) rfl rfl
  obtain ⟨xs, rfl, hv⟩ := rows_data (c := Node.cells) (p := fun v => v.ok maxLen) fun r hr' => by
    obtain ⟨n, hn⟩ := hr r hr'
    exact fit_node hn
  exact ⟨xs, rfl, by simpa using hl, hv⟩
theorem fit_asked {n : Nat} {cs : List MC} (h : fit TT n 99 cs) : ∃ x : Asked, cs = x.cells ∧ x.ok maxLen := by
  obtain ⟨n, f0, r0, rfl, h0, f1, r1, rfl, h1, rfl⟩ := fit_struct h (i := ⟨3, 40, .struct [(0, 84), (2, 91)], [.int .i64, .int .i64, .nil]⟩) rfl rfl
  obtain ⟨x0, rfl⟩ := fit_two h0 (i := ⟨2, 16, .struct [(0, 3), (1, 3)], [.int .i64, .int .i64]⟩) rfl rfl
  obtain ⟨x1, rfl, o1⟩ := fit_inss h1
  exact ⟨⟨x0, x1⟩, by simp [Asked.cells], o1⟩
theorem fit_askeds {n : Nat} {cs : List MC} (h : fit TT n 24 cs) : ∃ xs : List Asked, cs = [.fz (xs.map Asked.cells)] ∧ xs.length ≤ maxLen ∧ ∀ v ∈ xs, v.ok maxLen := by
  obtain ⟨rows, rfl, hl, hr⟩ := fit_slice h (i := ⟨1, 24, .slice 99, [.nil]⟩) rfl rfl
  obtain ⟨xs, rfl, hv⟩ := rows_data (c := Asked.cells) (p := fun v => v.ok maxLen) fun r hr' => by
    obtain ⟨n, hn⟩ := hr r hr'
    exact fit_asked hn
  exact ⟨xs, rfl, by simpa using hl, hv⟩
theorem fit_told {n : Nat} {cs : List MC} (h : fit TT n 113 cs) : ∃ x : Told, cs = x.cells := by
  obtain ⟨n, f0, r0, rfl, h0, f1, r1, rfl, h1, f2, r2, rfl, h2, f3, r3, rfl, h3, rfl⟩ := fit_struct h (i := ⟨5, 40, .struct [(0, 3), (1, 84), (3, 3), (4, 3)], [.int .i64, .int .i64, .int .i64, .int .i64, .int .i64]⟩) rfl rfl
  obtain ⟨x0, rfl, _⟩ := fit_int h0 (i := ⟨1, 8, .int .i64, [.int .i64]⟩) rfl rfl
  obtain ⟨x1, rfl⟩ := fit_two h1 (i := ⟨2, 16, .struct [(0, 3), (1, 3)], [.int .i64, .int .i64]⟩) rfl rfl
  obtain ⟨x2, rfl, _⟩ := fit_int h2 (i := ⟨1, 8, .int .i64, [.int .i64]⟩) rfl rfl
  obtain ⟨x3, rfl, _⟩ := fit_int h3 (i := ⟨1, 8, .int .i64, [.int .i64]⟩) rfl rfl
  exact ⟨⟨x0, x1, x2, x3⟩, by simp [Told.cells]⟩
theorem fit_tolds {n : Nat} {cs : List MC} (h : fit TT n 25 cs) : ∃ xs : List Told, cs = [.fz (xs.map Told.cells)] ∧ xs.length ≤ maxLen := by
  obtain ⟨rows, rfl, hl, hr⟩ := fit_slice h (i := ⟨1, 24, .slice 113, [.nil]⟩) rfl rfl
  obtain ⟨xs, rfl, hv⟩ := rows_data (c := Told.cells) (p := fun v => True) fun r hr' => by
    obtain ⟨n, hn⟩ := hr r hr'
    obtain ⟨x, hx⟩ := fit_told hn; exact ⟨x, hx, trivial⟩
  exact ⟨xs, rfl, by simpa using hl⟩
theorem fit_world {n : Nat} {cs : List MC} (h : fit TT n 27 cs) : ∃ x : World, cs = x.cells ∧ x.ok maxLen := by
  obtain ⟨n, f0, r0, rfl, h0, f1, r1, rfl, h1, f2, r2, rfl, h2, f3, r3, rfl, h3, rfl⟩ := fit_struct h (i := ⟨4, 96, .struct [(0, 22), (1, 23), (2, 24), (3, 25)], [.nil, .nil, .nil, .nil]⟩) rfl rfl
  obtain ⟨x0, rfl, o0⟩ := fit_nodes h0
  obtain ⟨x1, rfl, o1⟩ := fit_msgs h1
  obtain ⟨x2, rfl, o2⟩ := fit_askeds h2
  obtain ⟨x3, rfl, o3⟩ := fit_tolds h3
  exact ⟨⟨x0, x1, x2, x3⟩, by simp [World.cells], ⟨o0, o1, o2, o3⟩⟩
end Mg
