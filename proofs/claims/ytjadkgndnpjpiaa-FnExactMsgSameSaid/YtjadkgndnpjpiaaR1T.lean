/- The seat's types. No condition. -/
import Derived.Test.YtjadkgndnpjpiaaRows
import Derived.Test.YtjadkgndnpjpiaaMg20
namespace Mg
open Go Go.RowKit

def tyL : List (Nat × TI) := [
  (3, ⟨1, 8, .int .i64, [.int .i64]⟩),
  (4, ⟨1, 1, .bool, [.bool]⟩),
  (5, ⟨1, 1, .int .u8, [.int .u8]⟩),
  (6, ⟨1, 1, .int .u8, [.int .u8]⟩),
  (24, ⟨1, 24, .slice 5, [.nil]⟩),
  (28, ⟨1, 24, .slice 82, [.nil]⟩),
  (29, ⟨2, 32, .struct [(0, 3), (1, 28)], [.int .i64, .nil]⟩),
  (30, ⟨2, 32, .struct [(0, 3), (1, 28)], [.int .i64, .nil]⟩),
  (33, ⟨1, 24, .slice 77, [.nil]⟩),
  (34, ⟨2, 32, .struct [(0, 3), (1, 33)], [.int .i64, .nil]⟩),
  (35, ⟨2, 32, .struct [(0, 3), (1, 33)], [.int .i64, .nil]⟩),
  (38, ⟨2, 16, .struct [(0, 3), (1, 3)], [.int .i64, .int .i64]⟩),
  (39, ⟨2, 16, .struct [(0, 3), (1, 3)], [.int .i64, .int .i64]⟩),
  (40, ⟨1, 24, .slice 103, [.nil]⟩),
  (41, ⟨1, 24, .slice 105, [.nil]⟩),
  (42, ⟨4, 64, .struct [(0, 40), (1, 41), (2, 3), (3, 3)], [.nil, .nil, .int .i64, .int .i64]⟩),
  (43, ⟨4, 64, .struct [(0, 40), (1, 41), (2, 3), (3, 3)], [.nil, .nil, .int .i64, .int .i64]⟩),
  (44, ⟨7, 88, .struct [(0, 4), (1, 39), (3, 43)], [.bool, .int .i64, .int .i64, .nil, .nil, .int .i64, .int .i64]⟩),
  (45, ⟨7, 88, .struct [(0, 4), (1, 39), (3, 43)], [.bool, .int .i64, .int .i64, .nil, .nil, .int .i64, .int .i64]⟩),
  (46, ⟨13, 152, .struct [(0, 3), (1, 3), (2, 3), (3, 3), (4, 3), (5, 45), (12, 28)], [.int .i64, .int .i64, .int .i64, .int .i64, .int .i64, .bool, .int .i64, .int .i64, .nil, .nil, .int .i64, .int .i64, .nil]⟩),
  (47, ⟨13, 152, .struct [(0, 3), (1, 3), (2, 3), (3, 3), (4, 3), (5, 45), (12, 28)], [.int .i64, .int .i64, .int .i64, .int .i64, .int .i64, .bool, .int .i64, .int .i64, .nil, .nil, .int .i64, .int .i64, .nil]⟩),
  (50, ⟨2, 16, .struct [(0, 3), (1, 3)], [.int .i64, .int .i64]⟩),
  (51, ⟨1, 24, .slice 94, [.nil]⟩),
  (52, ⟨1, 24, .slice 96, [.nil]⟩),
  (53, ⟨4, 64, .struct [(0, 51), (1, 52), (2, 3), (3, 3)], [.nil, .nil, .int .i64, .int .i64]⟩),
  (54, ⟨4, 64, .struct [(0, 51), (1, 52), (2, 3), (3, 3)], [.nil, .nil, .int .i64, .int .i64]⟩),
  (55, ⟨7, 88, .struct [(0, 4), (1, 50), (3, 54)], [.bool, .int .i64, .int .i64, .nil, .nil, .int .i64, .int .i64]⟩),
  (56, ⟨7, 88, .struct [(0, 4), (1, 50), (3, 54)], [.bool, .int .i64, .int .i64, .nil, .nil, .int .i64, .int .i64]⟩),
  (57, ⟨13, 152, .struct [(0, 3), (1, 3), (2, 3), (3, 3), (4, 3), (5, 56), (12, 33)], [.int .i64, .int .i64, .int .i64, .int .i64, .int .i64, .bool, .int .i64, .int .i64, .nil, .nil, .int .i64, .int .i64, .nil]⟩),
  (58, ⟨13, 152, .struct [(0, 3), (1, 3), (2, 3), (3, 3), (4, 3), (5, 56), (12, 33)], [.int .i64, .int .i64, .int .i64, .int .i64, .int .i64, .bool, .int .i64, .int .i64, .nil, .nil, .int .i64, .int .i64, .nil]⟩),
  (67, ⟨1, 24, .slice 3, [.nil]⟩),
  (76, ⟨8, 96, .struct [(0, 3), (1, 56)], [.int .i64, .bool, .int .i64, .int .i64, .nil, .nil, .int .i64, .int .i64]⟩),
  (77, ⟨8, 96, .struct [(0, 3), (1, 56)], [.int .i64, .bool, .int .i64, .int .i64, .nil, .nil, .int .i64, .int .i64]⟩),
  (78, ⟨2, 32, .struct [(0, 24), (1, 3)], [.nil, .int .i64]⟩),
  (79, ⟨2, 32, .struct [(0, 24), (1, 3)], [.nil, .int .i64]⟩),
  (81, ⟨8, 96, .struct [(0, 3), (1, 45)], [.int .i64, .bool, .int .i64, .int .i64, .nil, .nil, .int .i64, .int .i64]⟩),
  (82, ⟨8, 96, .struct [(0, 3), (1, 45)], [.int .i64, .bool, .int .i64, .int .i64, .nil, .nil, .int .i64, .int .i64]⟩),
  (93, ⟨2, 16, .struct [(0, 3), (1, 3)], [.int .i64, .int .i64]⟩),
  (94, ⟨2, 16, .struct [(0, 3), (1, 3)], [.int .i64, .int .i64]⟩),
  (95, ⟨2, 16, .struct [(0, 3), (1, 3)], [.int .i64, .int .i64]⟩),
  (96, ⟨2, 16, .struct [(0, 3), (1, 3)], [.int .i64, .int .i64]⟩),
  (103, ⟨2, 16, .struct [(0, 3), (1, 3)], [.int .i64, .int .i64]⟩),
  (105, ⟨2, 16, .struct [(0, 3), (1, 3)], [.int .i64, .int .i64]⟩),
  (112, ⟨4, 4, .arr 4 4, [.bool, .bool, .bool, .bool]⟩)]
def TT : Tab := fun t => look tyL t
noncomputable abbrev PP : Program := Go.Proofs.Try.prog
theorem look_mem {α : Type} : ∀ {l : List (Nat × α)} {t : Nat} {i : α}, look l t = some i → (t, i) ∈ l
  | (k, v) :: l, t, i, h => by
    rw [look_cons] at h
    split at h
    · rename_i e; subst e; cases h; exact List.mem_cons_self
    · exact List.mem_cons_of_mem _ (look_mem h)
set_option maxRecDepth 100000 in
theorem TTok : TOk PP TT := fun t i h => by
  have h1 : (tyL.all fun q => q.2.ok PP q.1) = true := by kernel_rfl
  have h2 : (t, i) ∈ tyL := look_mem h
  exact List.all_eq_true.1 h1 _ h2
end Mg
