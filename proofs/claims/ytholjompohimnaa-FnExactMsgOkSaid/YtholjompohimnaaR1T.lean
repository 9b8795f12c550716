/- The seat's types. No condition. -/
import Derived.Test.YtholjompohimnaaRows
import Derived.Test.YtholjompohimnaaMg20
namespace Mg
open Go Go.RowKit

def tyL : List (Nat × TI) := [
  (3, ⟨1, 8, .int .i64, [.int .i64]⟩),
  (4, ⟨1, 1, .bool, [.bool]⟩),
  (5, ⟨1, 1, .int .u8, [.int .u8]⟩),
  (9, ⟨1, 16, .str, [.str]⟩),
  (12, ⟨1, 8, .int .u64, [.int .u64]⟩),
  (22, ⟨1, 24, .slice 105, [.nil]⟩),
  (23, ⟨2, 32, .struct [(0, 3), (1, 22)], [.int .i64, .nil]⟩),
  (24, ⟨2, 32, .struct [(0, 3), (1, 22)], [.int .i64, .nil]⟩),
  (27, ⟨1, 24, .slice 46, [.nil]⟩),
  (28, ⟨2, 32, .struct [(0, 3), (1, 27)], [.int .i64, .nil]⟩),
  (29, ⟨2, 32, .struct [(0, 3), (1, 27)], [.int .i64, .nil]⟩),
  (33, ⟨1, 24, .slice 5, [.nil]⟩),
  (37, ⟨2, 16, .struct [(0, 3), (1, 3)], [.int .i64, .int .i64]⟩),
  (38, ⟨2, 16, .struct [(0, 3), (1, 3)], [.int .i64, .int .i64]⟩),
  (39, ⟨1, 24, .slice 121, [.nil]⟩),
  (40, ⟨1, 24, .slice 124, [.nil]⟩),
  (41, ⟨4, 64, .struct [(0, 39), (1, 40), (2, 3), (3, 3)], [.nil, .nil, .int .i64, .int .i64]⟩),
  (42, ⟨4, 64, .struct [(0, 39), (1, 40), (2, 3), (3, 3)], [.nil, .nil, .int .i64, .int .i64]⟩),
  (43, ⟨7, 88, .struct [(0, 4), (1, 38), (3, 42)], [.bool, .int .i64, .int .i64, .nil, .nil, .int .i64, .int .i64]⟩),
  (44, ⟨7, 88, .struct [(0, 4), (1, 38), (3, 42)], [.bool, .int .i64, .int .i64, .nil, .nil, .int .i64, .int .i64]⟩),
  (45, ⟨8, 96, .struct [(0, 3), (1, 44)], [.int .i64, .bool, .int .i64, .int .i64, .nil, .nil, .int .i64, .int .i64]⟩),
  (46, ⟨8, 96, .struct [(0, 3), (1, 44)], [.int .i64, .bool, .int .i64, .int .i64, .nil, .nil, .int .i64, .int .i64]⟩),
  (53, ⟨2, 16, .struct [(0, 3), (1, 3)], [.int .i64, .int .i64]⟩),
  (54, ⟨1, 24, .slice 144, [.nil]⟩),
  (55, ⟨1, 24, .slice 146, [.nil]⟩),
  (56, ⟨4, 64, .struct [(0, 54), (1, 55), (2, 3), (3, 3)], [.nil, .nil, .int .i64, .int .i64]⟩),
  (57, ⟨4, 64, .struct [(0, 54), (1, 55), (2, 3), (3, 3)], [.nil, .nil, .int .i64, .int .i64]⟩),
  (58, ⟨7, 88, .struct [(0, 4), (1, 53), (3, 57)], [.bool, .int .i64, .int .i64, .nil, .nil, .int .i64, .int .i64]⟩),
  (59, ⟨7, 88, .struct [(0, 4), (1, 53), (3, 57)], [.bool, .int .i64, .int .i64, .nil, .nil, .int .i64, .int .i64]⟩),
  (61, ⟨13, 152, .struct [(0, 3), (1, 3), (2, 3), (3, 3), (4, 3), (5, 59), (12, 22)], [.int .i64, .int .i64, .int .i64, .int .i64, .int .i64, .bool, .int .i64, .int .i64, .nil, .nil, .int .i64, .int .i64, .nil]⟩),
  (65, ⟨13, 152, .struct [(0, 3), (1, 3), (2, 3), (3, 3), (4, 3), (5, 44), (12, 27)], [.int .i64, .int .i64, .int .i64, .int .i64, .int .i64, .bool, .int .i64, .int .i64, .nil, .nil, .int .i64, .int .i64, .nil]⟩),
  (99, ⟨1, 24, .slice 3, [.nil]⟩),
  (101, ⟨1, 24, .slice 152, [.nil]⟩),
  (104, ⟨8, 96, .struct [(0, 3), (1, 59)], [.int .i64, .bool, .int .i64, .int .i64, .nil, .nil, .int .i64, .int .i64]⟩),
  (105, ⟨8, 96, .struct [(0, 3), (1, 59)], [.int .i64, .bool, .int .i64, .int .i64, .nil, .nil, .int .i64, .int .i64]⟩),
  (116, ⟨2, 32, .struct [(0, 33), (1, 3)], [.nil, .int .i64]⟩),
  (117, ⟨2, 32, .struct [(0, 33), (1, 3)], [.nil, .int .i64]⟩),
  (120, ⟨2, 16, .struct [(0, 3), (1, 3)], [.int .i64, .int .i64]⟩),
  (121, ⟨2, 16, .struct [(0, 3), (1, 3)], [.int .i64, .int .i64]⟩),
  (123, ⟨2, 16, .struct [(0, 3), (1, 3)], [.int .i64, .int .i64]⟩),
  (124, ⟨2, 16, .struct [(0, 3), (1, 3)], [.int .i64, .int .i64]⟩),
  (128, ⟨1, 24, .slice 140, [.nil]⟩),
  (135, ⟨4, 4, .arr 4 4, [.bool, .bool, .bool, .bool]⟩),
  (140, ⟨4, 32, .struct [(0, 3), (1, 3), (2, 3), (3, 3)], [.int .i64, .int .i64, .int .i64, .int .i64]⟩),
  (144, ⟨2, 16, .struct [(0, 3), (1, 3)], [.int .i64, .int .i64]⟩),
  (146, ⟨2, 16, .struct [(0, 3), (1, 3)], [.int .i64, .int .i64]⟩),
  (151, ⟨2, 16, .struct [(0, 3), (1, 3)], [.int .i64, .int .i64]⟩),
  (152, ⟨2, 16, .struct [(0, 3), (1, 3)], [.int .i64, .int .i64]⟩),
  (175, ⟨1, 8, .int .u64, [.int .u64]⟩)]
def TT : Tab := fun t => look tyL t
noncomputable abbrev PP : Program := Go.Proofs.Try.prog
theorem look_mem {α : Type} : ∀ {l : List (Nat × α)} {t : Nat} {i : α}, look l t = some i → (t, i) ∈ l
  | (k, v) :: l, t, i, h => by
    rw [look_cons] at h
    split at h
    · rename_i e; subst e; cases h; exact List.mem_cons_self
    · exact List.mem_cons_of_mem _ (look_mem h)
set_option maxRecDepth 100000 in
theorem TTok : TOk PP TT := fun t i h => by
  have h1 : (tyL.all fun q => q.2.ok PP q.1) = true := by kernel_rfl
  have h2 : (t, i) ∈ tyL := look_mem h
  exact List.all_eq_true.1 h1 _ h2
end Mg
