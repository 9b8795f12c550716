/- The seat's types. No condition. -/
import Derived.Test.YthflichlfpmenaaRows
import Derived.Test.YthflichlfpmenaaMg20
namespace Mg
open Go Go.RowKit

def tyL : List (Nat × TI) := [
  (3, ⟨1, 8, .int .i64, [.int .i64]⟩),
  (4, ⟨1, 1, .bool, [.bool]⟩),
  (5, ⟨1, 1, .int .u8, [.int .u8]⟩),
  (9, ⟨1, 16, .str, [.str]⟩),
  (12, ⟨1, 8, .int .u64, [.int .u64]⟩),
  (22, ⟨1, 24, .slice 117, [.nil]⟩),
  (23, ⟨2, 32, .struct [(0, 3), (1, 22)], [.int .i64, .nil]⟩),
  (24, ⟨2, 32, .struct [(0, 3), (1, 22)], [.int .i64, .nil]⟩),
  (25, ⟨1, 24, .slice 34, [.nil]⟩),
  (26, ⟨1, 24, .slice 4, [.nil]⟩),
  (27, ⟨2, 16, .struct [(0, 3), (1, 3)], [.int .i64, .int .i64]⟩),
  (28, ⟨2, 16, .struct [(0, 3), (1, 3)], [.int .i64, .int .i64]⟩),
  (29, ⟨1, 24, .slice 167, [.nil]⟩),
  (30, ⟨1, 24, .slice 169, [.nil]⟩),
  (31, ⟨4, 64, .struct [(0, 29), (1, 30), (2, 3), (3, 3)], [.nil, .nil, .int .i64, .int .i64]⟩),
  (32, ⟨4, 64, .struct [(0, 29), (1, 30), (2, 3), (3, 3)], [.nil, .nil, .int .i64, .int .i64]⟩),
  (33, ⟨7, 88, .struct [(0, 4), (1, 28), (3, 32)], [.bool, .int .i64, .int .i64, .nil, .nil, .int .i64, .int .i64]⟩),
  (34, ⟨7, 88, .struct [(0, 4), (1, 28), (3, 32)], [.bool, .int .i64, .int .i64, .nil, .nil, .int .i64, .int .i64]⟩),
  (35, ⟨1, 24, .slice 133, [.nil]⟩),
  (36, ⟨27, 392, .struct [(0, 3), (1, 24), (3, 25), (4, 3), (5, 3), (6, 3), (7, 26), (8, 22), (9, 34), (16, 26), (17, 4), (18, 35), (19, 34), (26, 25)], [.int .i64, .int .i64, .nil, .nil, .int .i64, .int .i64, .int .i64, .nil, .nil, .bool, .int .i64, .int .i64, .nil, .nil, .int .i64, .int .i64, .nil, .bool, .nil, .bool, .int .i64, .int .i64, .nil, .nil, .int .i64, .int .i64, .nil]⟩),
  (37, ⟨27, 392, .struct [(0, 3), (1, 24), (3, 25), (4, 3), (5, 3), (6, 3), (7, 26), (8, 22), (9, 34), (16, 26), (17, 4), (18, 35), (19, 34), (26, 25)], [.int .i64, .int .i64, .nil, .nil, .int .i64, .int .i64, .int .i64, .nil, .nil, .bool, .int .i64, .int .i64, .nil, .nil, .int .i64, .int .i64, .nil, .bool, .nil, .bool, .int .i64, .int .i64, .nil, .nil, .int .i64, .int .i64, .nil]⟩),
  (40, ⟨1, 24, .slice 121, [.nil]⟩),
  (41, ⟨2, 32, .struct [(0, 3), (1, 40)], [.int .i64, .nil]⟩),
  (42, ⟨2, 32, .struct [(0, 3), (1, 40)], [.int .i64, .nil]⟩),
  (43, ⟨1, 24, .slice 50, [.nil]⟩),
  (44, ⟨2, 16, .struct [(0, 3), (1, 3)], [.int .i64, .int .i64]⟩),
  (45, ⟨1, 24, .slice 156, [.nil]⟩),
  (46, ⟨1, 24, .slice 158, [.nil]⟩),
  (47, ⟨4, 64, .struct [(0, 45), (1, 46), (2, 3), (3, 3)], [.nil, .nil, .int .i64, .int .i64]⟩),
  (48, ⟨4, 64, .struct [(0, 45), (1, 46), (2, 3), (3, 3)], [.nil, .nil, .int .i64, .int .i64]⟩),
  (49, ⟨7, 88, .struct [(0, 4), (1, 44), (3, 48)], [.bool, .int .i64, .int .i64, .nil, .nil, .int .i64, .int .i64]⟩),
  (50, ⟨7, 88, .struct [(0, 4), (1, 44), (3, 48)], [.bool, .int .i64, .int .i64, .nil, .nil, .int .i64, .int .i64]⟩),
  (51, ⟨1, 24, .slice 131, [.nil]⟩),
  (52, ⟨27, 392, .struct [(0, 3), (1, 42), (3, 43), (4, 3), (5, 3), (6, 3), (7, 26), (8, 40), (9, 50), (16, 26), (17, 4), (18, 51), (19, 50), (26, 43)], [.int .i64, .int .i64, .nil, .nil, .int .i64, .int .i64, .int .i64, .nil, .nil, .bool, .int .i64, .int .i64, .nil, .nil, .int .i64, .int .i64, .nil, .bool, .nil, .bool, .int .i64, .int .i64, .nil, .nil, .int .i64, .int .i64, .nil]⟩),
  (53, ⟨27, 392, .struct [(0, 3), (1, 42), (3, 43), (4, 3), (5, 3), (6, 3), (7, 26), (8, 40), (9, 50), (16, 26), (17, 4), (18, 51), (19, 50), (26, 43)], [.int .i64, .int .i64, .nil, .nil, .int .i64, .int .i64, .int .i64, .nil, .nil, .bool, .int .i64, .int .i64, .nil, .nil, .int .i64, .int .i64, .nil, .bool, .nil, .bool, .int .i64, .int .i64, .nil, .nil, .int .i64, .int .i64, .nil]⟩),
  (57, ⟨1, 24, .slice 37, [.nil]⟩),
  (58, ⟨1, 24, .slice 141, [.nil]⟩),
  (59, ⟨1, 24, .slice 144, [.nil]⟩),
  (60, ⟨1, 24, .slice 149, [.nil]⟩),
  (61, ⟨4, 96, .struct [(0, 57), (1, 58), (2, 59), (3, 60)], [.nil, .nil, .nil, .nil]⟩),
  (62, ⟨4, 96, .struct [(0, 57), (1, 58), (2, 59), (3, 60)], [.nil, .nil, .nil, .nil]⟩),
  (65, ⟨1, 24, .slice 53, [.nil]⟩),
  (66, ⟨1, 24, .slice 102, [.nil]⟩),
  (67, ⟨1, 24, .slice 104, [.nil]⟩),
  (68, ⟨1, 24, .slice 106, [.nil]⟩),
  (69, ⟨4, 96, .struct [(0, 65), (1, 66), (2, 67), (3, 68)], [.nil, .nil, .nil, .nil]⟩),
  (70, ⟨4, 96, .struct [(0, 65), (1, 66), (2, 67), (3, 68)], [.nil, .nil, .nil, .nil]⟩),
  (102, ⟨13, 152, .struct [(0, 3), (1, 3), (2, 3), (3, 3), (4, 3), (5, 50), (12, 40)], [.int .i64, .int .i64, .int .i64, .int .i64, .int .i64, .bool, .int .i64, .int .i64, .nil, .nil, .int .i64, .int .i64, .nil]⟩),
  (103, ⟨3, 40, .struct [(0, 44), (2, 51)], [.int .i64, .int .i64, .nil]⟩),
  (104, ⟨3, 40, .struct [(0, 44), (2, 51)], [.int .i64, .int .i64, .nil]⟩),
  (105, ⟨5, 40, .struct [(0, 3), (1, 44), (3, 3), (4, 3)], [.int .i64, .int .i64, .int .i64, .int .i64, .int .i64]⟩),
  (106, ⟨5, 40, .struct [(0, 3), (1, 44), (3, 3), (4, 3)], [.int .i64, .int .i64, .int .i64, .int .i64, .int .i64]⟩),
  (116, ⟨8, 96, .struct [(0, 3), (1, 34)], [.int .i64, .bool, .int .i64, .int .i64, .nil, .nil, .int .i64, .int .i64]⟩),
  (117, ⟨8, 96, .struct [(0, 3), (1, 34)], [.int .i64, .bool, .int .i64, .int .i64, .nil, .nil, .int .i64, .int .i64]⟩),
  (120, ⟨8, 96, .struct [(0, 3), (1, 50)], [.int .i64, .bool, .int .i64, .int .i64, .nil, .nil, .int .i64, .int .i64]⟩),
  (121, ⟨8, 96, .struct [(0, 3), (1, 50)], [.int .i64, .bool, .int .i64, .int .i64, .nil, .nil, .int .i64, .int .i64]⟩),
  (131, ⟨4, 32, .struct [(0, 3), (1, 3), (2, 3), (3, 3)], [.int .i64, .int .i64, .int .i64, .int .i64]⟩),
  (133, ⟨4, 32, .struct [(0, 3), (1, 3), (2, 3), (3, 3)], [.int .i64, .int .i64, .int .i64, .int .i64]⟩),
  (141, ⟨13, 152, .struct [(0, 3), (1, 3), (2, 3), (3, 3), (4, 3), (5, 34), (12, 22)], [.int .i64, .int .i64, .int .i64, .int .i64, .int .i64, .bool, .int .i64, .int .i64, .nil, .nil, .int .i64, .int .i64, .nil]⟩),
  (143, ⟨3, 40, .struct [(0, 28), (2, 35)], [.int .i64, .int .i64, .nil]⟩),
  (144, ⟨3, 40, .struct [(0, 28), (2, 35)], [.int .i64, .int .i64, .nil]⟩),
  (148, ⟨5, 40, .struct [(0, 3), (1, 28), (3, 3), (4, 3)], [.int .i64, .int .i64, .int .i64, .int .i64, .int .i64]⟩),
  (149, ⟨5, 40, .struct [(0, 3), (1, 28), (3, 3), (4, 3)], [.int .i64, .int .i64, .int .i64, .int .i64, .int .i64]⟩),
  (155, ⟨2, 16, .struct [(0, 3), (1, 3)], [.int .i64, .int .i64]⟩),
  (156, ⟨2, 16, .struct [(0, 3), (1, 3)], [.int .i64, .int .i64]⟩),
  (157, ⟨2, 16, .struct [(0, 3), (1, 3)], [.int .i64, .int .i64]⟩),
  (158, ⟨2, 16, .struct [(0, 3), (1, 3)], [.int .i64, .int .i64]⟩),
  (163, ⟨4, 4, .arr 4 4, [.bool, .bool, .bool, .bool]⟩),
  (167, ⟨2, 16, .struct [(0, 3), (1, 3)], [.int .i64, .int .i64]⟩),
  (169, ⟨2, 16, .struct [(0, 3), (1, 3)], [.int .i64, .int .i64]⟩)]
def TT : Tab := fun t => look tyL t
noncomputable abbrev PP : Program := Go.Proofs.Try.prog
theorem look_mem {α : Type} : ∀ {l : List (Nat × α)} {t : Nat} {i : α}, look l t = some i → (t, i) ∈ l
  | (k, v) :: l, t, i, h => by
    rw [look_cons] at h
    split at h
    · rename_i e; subst e; cases h; exact List.mem_cons_self
    · exact List.mem_cons_of_mem _ (look_mem h)
set_option maxRecDepth 100000 in
theorem TTok : TOk PP TT := fun t i h => by
  have h1 : (tyL.all fun q => q.2.ok PP q.1) = true := by kernel_rfl
  have h2 : (t, i) ∈ tyL := look_mem h
  exact List.all_eq_true.1 h1 _ h2
end Mg
