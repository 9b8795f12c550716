/- The abstract state logic, part 22: lists that fill up, lists that are compared. No condition. -/
import Derived.Test.YthflichlfpmenaaGreatMg20
namespace Mg
open Go Go.RowKit
set_option linter.unusedVariables false
set_option linter.unusedSectionVars false

section
variable {α : Type} [Inhabited α]

/-- A made list, filled so far. -/
def part (c : α → List MC) (z : List MC) (xs : List α) (i : Nat) : List (List MC) := (xs.take i).map c ++ List.replicate (xs.length - i) z

theorem getD_get {xs : List α} {i : Nat} (h : i < xs.length) : xs.getD i default = xs[i] := by
  simp [List.getD_eq_getElem?_getD, List.getElem?_eq_getElem h]
theorem part_len {c : α → List MC} {z : List MC} {xs : List α} {i : Nat} (h : i ≤ xs.length) : (part c z xs i).length = xs.length := by
  simp [part]; omega
theorem part_zero {c : α → List MC} {z : List MC} {xs : List α} : part c z xs 0 = List.replicate xs.length z := by simp [part]
theorem part_all {c : α → List MC} {z : List MC} {xs : List α} {i : Nat} (h : xs.length ≤ i) : part c z xs i = xs.map c := by
  have : xs.length - i = 0 := by omega
  simp [part, this, List.take_of_length_le h]
theorem part_get {c : α → List MC} {z : List MC} {xs : List α} {i : Nat} (h : i < xs.length) : (part c z xs i).getD i [] = z := by
  have h1 : ((xs.take i).map c).length = i := by simp; omega
  unfold part
  rw [List.getD_eq_getElem?_getD, List.getElem?_append_right (by omega), h1, Nat.sub_self, List.getElem?_replicate, if_pos (by omega)]
  rfl
theorem part_set {c : α → List MC} {z : List MC} {xs : List α} {i : Nat} (h : i < xs.length) : (part c z xs i).set i (c (xs.getD i default)) = part c z xs (i + 1) := by
  have h1 : ((xs.take i).map c).length = i := by simp; omega
  unfold part
  rw [List.set_append_right _ _ (by omega), h1, Nat.sub_self]
  obtain ⟨m, hm⟩ : ∃ m, xs.length - i = m + 1 := ⟨xs.length - i - 1, by omega⟩
  have hm' : xs.length - (i + 1) = m := by omega
  rw [hm, hm', List.replicate_succ, List.set_cons_zero, List.take_succ_eq_append_getElem h, List.map_append, getD_get h]
  simp
theorem part_flat {c : α → List MC} {z : List MC} {xs : List α} {i : Nat} (hc : ∀ x, (c x).all MC.flat = true) (hz : z.all MC.flat = true) : ∀ r ∈ part c z xs i, ∀ x ∈ r, x.flat = true := fun r hr x hx => by
  unfold part at hr
  rcases List.mem_append.1 hr with h | h
  · obtain ⟨y, _, rfl⟩ := List.mem_map.1 h
    exact List.all_eq_true.1 (hc y) x hx
  · rw [(List.mem_replicate.1 h).2] at hx
    exact List.all_eq_true.1 hz x hx
theorem map_frz {c : α → List MC} {xs : List α} (hc : ∀ x, (c x).all MC.frz = true) : ∀ r ∈ xs.map c, ∀ x ∈ r, x.frz = true := fun r hr x hx => by
  obtain ⟨y, _, rfl⟩ := List.mem_map.1 hr
  exact List.all_eq_true.1 (hc y) x hx

theorem eq_upto {xs ys : List α} {i : Nat} (hl : xs.length = ys.length) (hi : i < xs.length) (hp : xs.take i = ys.take i) (he : xs.getD i default = ys.getD i default) : xs.take (i + 1) = ys.take (i + 1) := by
  have e : xs[i] = ys[i]'(by omega) := by rwa [getD_get hi, getD_get (by omega)] at he
  rw [List.take_succ_eq_append_getElem hi, List.take_succ_eq_append_getElem (by omega), hp, e]
theorem eq_all {xs ys : List α} {i : Nat} (hl : xs.length = ys.length) (hi : xs.length ≤ i) (hp : xs.take i = ys.take i) : xs = ys := by
  rwa [List.take_of_length_le hi, List.take_of_length_le (by omega)] at hp

/- The steps of a loop that fills a made list. -/
theorem sPart0 {c : α → List MC} {z : List MC} {xs : List α} {n : Nat} (h : n = xs.length) : Side (part c z xs 0 = List.replicate n z) := ⟨by rw [part_zero, h]⟩
theorem sFlat {c : α → List MC} {z : List MC} {xs : List α} {i : Nat} (hc : ∀ x, (c x).all MC.flat = true) (hz : z.all MC.flat = true) : Side (∀ r ∈ part c z xs i, ∀ x ∈ r, x.flat = true) := ⟨part_flat hc hz⟩
theorem sIdx {c : α → List MC} {z : List MC} {xs : List α} {i n k : Nat} (h : i < xs.length) (hn : n = xs.length) (hz : z.length = k) :
    Side ((0 ≤ (i : Int) ∧ (i : Int) < (n : Int)) ∧ 0 + ((i : Int)).toNat < (part c z xs i).length ∧ ((part c z xs i).getD (0 + ((i : Int)).toNat) []).length = k) := by
  refine ⟨⟨by omega, by omega⟩, ?_, ?_⟩
  · rw [part_len (by omega)]; simp; omega
  · simp only [Int.toNat_natCast, Nat.zero_add, part_get h, hz]
theorem sPut {c : α → List MC} {z cs : List MC} {xs : List α} {i k : Nat} (h : i < xs.length) (hz : Nat.ble cs.length z.length = true) (hk : cs.length = k) :
    Side ((0 + ((i : Int)).toNat < (part c z xs i).length ∧ 0 + cs.length ≤ ((part c z xs i).getD (0 + ((i : Int)).toNat) []).length) ∧ cs.length = k) := by
  refine ⟨⟨?_, ?_⟩, hk⟩
  · rw [part_len (by omega)]; simp; omega
  · simp only [Int.toNat_natCast, Nat.zero_add, part_get h]; exact Nat.le_of_ble_eq_true hz
theorem sPartS {c : α → List MC} {z cs : List MC} {xs : List α} {i : Nat} (h : i < xs.length) (hp : putAt z 0 cs = c (xs.getD i default)) :
    Side (part c z xs (i + 1) = (part c z xs i).set (0 + ((i : Int)).toNat) (putAt ((part c z xs i).getD (0 + ((i : Int)).toNat) []) 0 cs)) := by
  refine ⟨?_⟩
  simp only [Int.toNat_natCast, Nat.zero_add, part_get h, hp, part_set h]
theorem part_end {c : α → List MC} {z : List MC} {xs : List α} {i n : Nat} (h : xs.length ≤ i) (hn : n = xs.length) : ((part c z xs i).drop 0).take n = xs.map c := by
  rw [part_all h, List.drop_zero, List.take_of_length_le (by simp [hn])]
end

theorem wrap_succ {i n : Nat} (h : i < n) (hn : n ≤ 9223372036854775807) : ((i + 1 : Nat) : Int) = IntKind.i64.wrap ((i : Int) + 1) := by
  rw [wrapi] <;> omega
theorem sAll {T : Tab} {l : List (Nat × Nat)} (h : (l.all fun g => (T g.2).isSome) = true) : Side (True ∧ ∀ g ∈ l, (T g.2).isSome = true) :=
  ⟨trivial, fun g hg => List.all_eq_true.1 h g hg⟩
theorem sBld {T : Tab} {a : Prop} {l : List (Nat × Nat)} (h1 : a) (h : (l.all fun g => (T g.2).isSome) = true) : Side (a ∧ ∀ g ∈ l, (T g.2).isSome = true) :=
  ⟨h1, fun g hg => List.all_eq_true.1 h g hg⟩
theorem sBS {a : Prop} {sz k m n : Nat} {cs : List MC} (h1 : a) (h2 : Nat.blt 0 sz = true) (h3 : Nat.ble (k * sz) 16777216 = true) (h4 : cs.length = n) (h5 : cs.all MC.frz = true) : Side (a ∧ (0 < sz ∧ k * sz ≤ 16777216) ∧ cs.length = n ∧ ∀ x ∈ cs, x.bd m) :=
  ⟨h1, ⟨Nat.lt_of_lt_of_le (Nat.lt_of_lt_of_le (Nat.zero_lt_one) (Nat.le_of_ble_eq_true h2)) (Nat.le_refl _), Nat.le_of_ble_eq_true h3⟩, h4, fun x hx => MC.bd_frz (List.all_eq_true.1 h5 x hx)⟩
theorem sF1 {rows : List (List MC)} (h : (rows.all fun r => r.all MC.frz) = true) : Side (AllF rows ∧ True) :=
  ⟨fun r hr c hc => List.all_eq_true.1 (List.all_eq_true.1 h r hr) c hc, trivial⟩
end Mg
