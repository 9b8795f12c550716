/- The seat's types. No condition. -/
import Derived.Test.YthflichlfpmenaaGreatRows
import Derived.Test.YthflichlfpmenaaGreatMg20
namespace Mg
open Go Go.RowKit

def tyL : List (Nat × TI) := [
  (3, ⟨1, 8, .int .i64, [.int .i64]⟩),
  (4, ⟨1, 1, .bool, [.bool]⟩),
  (5, ⟨1, 1, .int .u8, [.int .u8]⟩),
  (9, ⟨1, 16, .str, [.str]⟩),
  (12, ⟨1, 8, .int .u64, [.int .u64]⟩),
  (22, ⟨1, 24, .slice 93, [.nil]⟩),
  (23, ⟨1, 24, .slice 96, [.nil]⟩),
  (24, ⟨1, 24, .slice 99, [.nil]⟩),
  (25, ⟨1, 24, .slice 113, [.nil]⟩),
  (26, ⟨4, 96, .struct [(0, 22), (1, 23), (2, 24), (3, 25)], [.nil, .nil, .nil, .nil]⟩),
  (27, ⟨4, 96, .struct [(0, 22), (1, 23), (2, 24), (3, 25)], [.nil, .nil, .nil, .nil]⟩),
  (30, ⟨1, 24, .slice 58, [.nil]⟩),
  (31, ⟨1, 24, .slice 62, [.nil]⟩),
  (32, ⟨1, 24, .slice 65, [.nil]⟩),
  (33, ⟨1, 24, .slice 69, [.nil]⟩),
  (34, ⟨4, 96, .struct [(0, 30), (1, 31), (2, 32), (3, 33)], [.nil, .nil, .nil, .nil]⟩),
  (35, ⟨4, 96, .struct [(0, 30), (1, 31), (2, 32), (3, 33)], [.nil, .nil, .nil, .nil]⟩),
  (43, ⟨1, 24, .slice 126, [.nil]⟩),
  (44, ⟨2, 32, .struct [(0, 3), (1, 43)], [.int .i64, .nil]⟩),
  (45, ⟨2, 32, .struct [(0, 3), (1, 43)], [.int .i64, .nil]⟩),
  (46, ⟨1, 24, .slice 55, [.nil]⟩),
  (47, ⟨1, 24, .slice 4, [.nil]⟩),
  (48, ⟨2, 16, .struct [(0, 3), (1, 3)], [.int .i64, .int .i64]⟩),
  (49, ⟨2, 16, .struct [(0, 3), (1, 3)], [.int .i64, .int .i64]⟩),
  (50, ⟨1, 24, .slice 150, [.nil]⟩),
  (51, ⟨1, 24, .slice 152, [.nil]⟩),
  (52, ⟨4, 64, .struct [(0, 50), (1, 51), (2, 3), (3, 3)], [.nil, .nil, .int .i64, .int .i64]⟩),
  (53, ⟨4, 64, .struct [(0, 50), (1, 51), (2, 3), (3, 3)], [.nil, .nil, .int .i64, .int .i64]⟩),
  (54, ⟨7, 88, .struct [(0, 4), (1, 49), (3, 53)], [.bool, .int .i64, .int .i64, .nil, .nil, .int .i64, .int .i64]⟩),
  (55, ⟨7, 88, .struct [(0, 4), (1, 49), (3, 53)], [.bool, .int .i64, .int .i64, .nil, .nil, .int .i64, .int .i64]⟩),
  (56, ⟨1, 24, .slice 107, [.nil]⟩),
  (57, ⟨27, 392, .struct [(0, 3), (1, 45), (3, 46), (4, 3), (5, 3), (6, 3), (7, 47), (8, 43), (9, 55), (16, 47), (17, 4), (18, 56), (19, 55), (26, 46)], [.int .i64, .int .i64, .nil, .nil, .int .i64, .int .i64, .int .i64, .nil, .nil, .bool, .int .i64, .int .i64, .nil, .nil, .int .i64, .int .i64, .nil, .bool, .nil, .bool, .int .i64, .int .i64, .nil, .nil, .int .i64, .int .i64, .nil]⟩),
  (58, ⟨27, 392, .struct [(0, 3), (1, 45), (3, 46), (4, 3), (5, 3), (6, 3), (7, 47), (8, 43), (9, 55), (16, 47), (17, 4), (18, 56), (19, 55), (26, 46)], [.int .i64, .int .i64, .nil, .nil, .int .i64, .int .i64, .int .i64, .nil, .nil, .bool, .int .i64, .int .i64, .nil, .nil, .int .i64, .int .i64, .nil, .bool, .nil, .bool, .int .i64, .int .i64, .nil, .nil, .int .i64, .int .i64, .nil]⟩),
  (62, ⟨13, 152, .struct [(0, 3), (1, 3), (2, 3), (3, 3), (4, 3), (5, 55), (12, 43)], [.int .i64, .int .i64, .int .i64, .int .i64, .int .i64, .bool, .int .i64, .int .i64, .nil, .nil, .int .i64, .int .i64, .nil]⟩),
  (64, ⟨3, 40, .struct [(0, 49), (2, 56)], [.int .i64, .int .i64, .nil]⟩),
  (65, ⟨3, 40, .struct [(0, 49), (2, 56)], [.int .i64, .int .i64, .nil]⟩),
  (68, ⟨5, 40, .struct [(0, 3), (1, 49), (3, 3), (4, 3)], [.int .i64, .int .i64, .int .i64, .int .i64, .int .i64]⟩),
  (69, ⟨5, 40, .struct [(0, 3), (1, 49), (3, 3), (4, 3)], [.int .i64, .int .i64, .int .i64, .int .i64, .int .i64]⟩),
  (80, ⟨1, 24, .slice 147, [.nil]⟩),
  (81, ⟨2, 32, .struct [(0, 3), (1, 80)], [.int .i64, .nil]⟩),
  (82, ⟨2, 32, .struct [(0, 3), (1, 80)], [.int .i64, .nil]⟩),
  (83, ⟨1, 24, .slice 90, [.nil]⟩),
  (84, ⟨2, 16, .struct [(0, 3), (1, 3)], [.int .i64, .int .i64]⟩),
  (85, ⟨1, 24, .slice 169, [.nil]⟩),
  (86, ⟨1, 24, .slice 171, [.nil]⟩),
  (87, ⟨4, 64, .struct [(0, 85), (1, 86), (2, 3), (3, 3)], [.nil, .nil, .int .i64, .int .i64]⟩),
  (88, ⟨4, 64, .struct [(0, 85), (1, 86), (2, 3), (3, 3)], [.nil, .nil, .int .i64, .int .i64]⟩),
  (89, ⟨7, 88, .struct [(0, 4), (1, 84), (3, 88)], [.bool, .int .i64, .int .i64, .nil, .nil, .int .i64, .int .i64]⟩),
  (90, ⟨7, 88, .struct [(0, 4), (1, 84), (3, 88)], [.bool, .int .i64, .int .i64, .nil, .nil, .int .i64, .int .i64]⟩),
  (91, ⟨1, 24, .slice 158, [.nil]⟩),
  (92, ⟨27, 392, .struct [(0, 3), (1, 82), (3, 83), (4, 3), (5, 3), (6, 3), (7, 47), (8, 80), (9, 90), (16, 47), (17, 4), (18, 91), (19, 90), (26, 83)], [.int .i64, .int .i64, .nil, .nil, .int .i64, .int .i64, .int .i64, .nil, .nil, .bool, .int .i64, .int .i64, .nil, .nil, .int .i64, .int .i64, .nil, .bool, .nil, .bool, .int .i64, .int .i64, .nil, .nil, .int .i64, .int .i64, .nil]⟩),
  (93, ⟨27, 392, .struct [(0, 3), (1, 82), (3, 83), (4, 3), (5, 3), (6, 3), (7, 47), (8, 80), (9, 90), (16, 47), (17, 4), (18, 91), (19, 90), (26, 83)], [.int .i64, .int .i64, .nil, .nil, .int .i64, .int .i64, .int .i64, .nil, .nil, .bool, .int .i64, .int .i64, .nil, .nil, .int .i64, .int .i64, .nil, .bool, .nil, .bool, .int .i64, .int .i64, .nil, .nil, .int .i64, .int .i64, .nil]⟩),
  (96, ⟨13, 152, .struct [(0, 3), (1, 3), (2, 3), (3, 3), (4, 3), (5, 90), (12, 80)], [.int .i64, .int .i64, .int .i64, .int .i64, .int .i64, .bool, .int .i64, .int .i64, .nil, .nil, .int .i64, .int .i64, .nil]⟩),
  (98, ⟨3, 40, .struct [(0, 84), (2, 91)], [.int .i64, .int .i64, .nil]⟩),
  (99, ⟨3, 40, .struct [(0, 84), (2, 91)], [.int .i64, .int .i64, .nil]⟩),
  (107, ⟨4, 32, .struct [(0, 3), (1, 3), (2, 3), (3, 3)], [.int .i64, .int .i64, .int .i64, .int .i64]⟩),
  (112, ⟨5, 40, .struct [(0, 3), (1, 84), (3, 3), (4, 3)], [.int .i64, .int .i64, .int .i64, .int .i64, .int .i64]⟩),
  (113, ⟨5, 40, .struct [(0, 3), (1, 84), (3, 3), (4, 3)], [.int .i64, .int .i64, .int .i64, .int .i64, .int .i64]⟩),
  (125, ⟨8, 96, .struct [(0, 3), (1, 55)], [.int .i64, .bool, .int .i64, .int .i64, .nil, .nil, .int .i64, .int .i64]⟩),
  (126, ⟨8, 96, .struct [(0, 3), (1, 55)], [.int .i64, .bool, .int .i64, .int .i64, .nil, .nil, .int .i64, .int .i64]⟩),
  (146, ⟨8, 96, .struct [(0, 3), (1, 90)], [.int .i64, .bool, .int .i64, .int .i64, .nil, .nil, .int .i64, .int .i64]⟩),
  (147, ⟨8, 96, .struct [(0, 3), (1, 90)], [.int .i64, .bool, .int .i64, .int .i64, .nil, .nil, .int .i64, .int .i64]⟩),
  (149, ⟨2, 16, .struct [(0, 3), (1, 3)], [.int .i64, .int .i64]⟩),
  (150, ⟨2, 16, .struct [(0, 3), (1, 3)], [.int .i64, .int .i64]⟩),
  (151, ⟨2, 16, .struct [(0, 3), (1, 3)], [.int .i64, .int .i64]⟩),
  (152, ⟨2, 16, .struct [(0, 3), (1, 3)], [.int .i64, .int .i64]⟩),
  (158, ⟨4, 32, .struct [(0, 3), (1, 3), (2, 3), (3, 3)], [.int .i64, .int .i64, .int .i64, .int .i64]⟩),
  (159, ⟨4, 4, .arr 4 4, [.bool, .bool, .bool, .bool]⟩),
  (169, ⟨2, 16, .struct [(0, 3), (1, 3)], [.int .i64, .int .i64]⟩),
  (171, ⟨2, 16, .struct [(0, 3), (1, 3)], [.int .i64, .int .i64]⟩)]
def TT : Tab := fun t => look tyL t
noncomputable abbrev PP : Program := Go.Proofs.Tryz.prog
theorem look_mem {α : Type} : ∀ {l : List (Nat × α)} {t : Nat} {i : α}, look l t = some i → (t, i) ∈ l
  | (k, v) :: l, t, i, h => by
    rw [look_cons] at h
    split at h
    · rename_i e; subst e; cases h; exact List.mem_cons_self
    · exact List.mem_cons_of_mem _ (look_mem h)
set_option maxRecDepth 100000 in
theorem TTok : TOk PP TT := fun t i h => by
  have h1 : (tyL.all fun q => q.2.ok PP q.1) = true := by kernel_rfl
  have h2 : (t, i) ∈ tyL := look_mem h
  exact List.all_eq_true.1 h1 _ h2
end Mg
