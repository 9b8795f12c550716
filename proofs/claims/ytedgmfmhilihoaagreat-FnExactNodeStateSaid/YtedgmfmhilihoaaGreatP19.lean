/- Parts of the abstract state logic and of the walks, one behind the other: H1, D1, D2, D3, D4, B1, B2, B4, B7. No condition. -/
import Derived.Test.YtedgmfmhilihoaaGreatP17
import Derived.Test.YtedgmfmhilihoaaGreatP12
import Derived.Test.YtedgmfmhilihoaaGreatP15
import Derived.Test.YtedgmfmhilihoaaGreatP7
/- What is shared by the walks: copies of the other side, lists of votes. No condition. -/
namespace Mg
open Go Go.RowKit
set_option maxRecDepth 100000
set_option linter.unusedVariables false
set_option linter.unusedSimpArgs false
attribute [local irreducible] W Pure Con
def noT : ConT := ⟨Unit, fun _ => True, fun _ => .un, fun _ => []⟩
theorem c_l3Copy (x : Run) (hx : x.ok lim) : Pure PP false 135 [.agg x.cells] (.agg x.cells) := by
  have hx0 : x.reads.length ≤ 1048576 := hx.1
  have hx1 : x.puts.length ≤ 1048576 := hx.2
  refine Pure.vc [(6, .res (.one (.fz (x.reads.map Two.cells)))), (10, .res (.one (.fz (x.puts.map Two.cells))))] TTok hmo Go.Proofs.Tryz.func135 (by kernel_rfl) rfl (by kernel_rfl) ?_
  repeat' (first | refine And.intro ?_ ?_ | exact tf | exact ft | refine tt ?_ | refine ff ?_ | exact ⟨trivial⟩ | exact sAll rfl | exact sF1 rfl | exact sBld (by repeat' (first | exact trivial | rfl | exact Nat.le_of_ble_eq_true rfl | refine And.intro ?_ ?_)) rfl | exact sBS (by repeat' (first | exact trivial | rfl | exact Nat.le_of_ble_eq_true rfl | refine And.intro ?_ ?_)) rfl rfl rfl rfl | exact sBSF (by repeat' (first | exact trivial | rfl | exact Nat.le_of_ble_eq_true rfl | refine And.intro ?_ ?_)) rfl rfl rfl rfl | exact sLe rfl | exact Chk.mk (by kernel_rfl) | exact ⟨Chk.mk (by kernel_rfl)⟩ | exact sLeEq rfl rfl | refine fun h => ?_)
  all_goals try (exact sAppF (c := Two.cells) (xs := x.reads) (toA_map fun _ => rfl) (fun _ => rfl) Two.frz (by omega) rfl)
  all_goals try (exact sAppF (c := Two.cells) (xs := x.puts) (toA_map fun _ => rfl) (fun _ => rfl) Two.frz (by omega) rfl)
  all_goals exact ⟨⟨Nat.le_of_ble_eq_true rfl, trivial⟩, rfl, rfl, rfl, rfl, trivial⟩
theorem c_l5Entry (e : Entry) (he : e.ok lim) : Pure PP false 91 [.agg e.cells] (.agg e.cells) := by
  refine Pure.vc [(9, .res (.agg e.run.cells))] TTok hmo Go.Proofs.Tryz.func91 (by kernel_rfl) rfl (by kernel_rfl) ?_
  repeat' (first | refine And.intro ?_ ?_ | exact tf | exact ft | refine tt ?_ | refine ff ?_ | exact ⟨trivial⟩ | exact sAll rfl | exact sF1 rfl | exact sBld (by repeat' (first | exact trivial | rfl | exact Nat.le_of_ble_eq_true rfl | refine And.intro ?_ ?_)) rfl | exact sBS (by repeat' (first | exact trivial | rfl | exact Nat.le_of_ble_eq_true rfl | refine And.intro ?_ ?_)) rfl rfl rfl rfl | exact sBSF (by repeat' (first | exact trivial | rfl | exact Nat.le_of_ble_eq_true rfl | refine And.intro ?_ ?_)) rfl rfl rfl rfl | exact sLe rfl | exact Chk.mk (by kernel_rfl) | exact ⟨Chk.mk (by kernel_rfl)⟩ | exact sLeEq rfl rfl | exact sAnd (by repeat' constructor) (c_l3Copy _ he) | refine fun h => ?_)
  all_goals exact ⟨⟨Nat.le_of_ble_eq_true rfl, trivial⟩, rfl, rfl, rfl, rfl, rfl, rfl, rfl, trivial⟩
theorem sAppL2 {α : Type} {xs : List α} {x : α} {m n : Nat} (hm : m = xs.length) (hn : n = 1) : Side (m + n = (xs ++ [x]).length) := ⟨by simp [hm, hn]⟩
theorem Vote.ok_default : (default : Vote).ok 30 := ⟨Nat.zero_le _, Nat.zero_le _⟩
def VsOk (n : Nat) (vs : List Vote) : Prop := ∀ v ∈ vs, v.ok n
theorem VsOk.app {n : Nat} {vs : List Vote} {v : Vote} (h : VsOk n vs) (hv : v.ok n) : VsOk n (vs ++ [v]) := fun x hx => by
  rcases List.mem_append.1 hx with hx | hx
  · exact h x hx
  · simp at hx; rw [hx]; exact hv
theorem VsOk.set {n k : Nat} {vs : List Vote} {v : Vote} (h : VsOk n vs) (hv : v.ok n) : VsOk n (vs.set k v) := fun x hx => by
  rcases List.mem_or_eq_of_mem_set hx with hx | hx
  · exact h x hx
  · rw [hx]; exact hv
theorem VsOk.get {n : Nat} {vs : List Vote} (h : VsOk n vs) (i : Nat) : (vs.getD i default).ok n := by
  by_cases hi : i < vs.length
  · exact h _ (getD_mem hi)
  · have : vs.getD i default = default := by simp [List.getD_eq_getElem?_getD, List.getElem?_eq_none (Nat.le_of_not_lt hi)]
    rw [this]; exact ⟨Nat.zero_le _, Nat.zero_le _⟩
theorem VsOk.lim {vs : List Vote} (h : VsOk 30 vs) : VsOk lim vs := fun v hv => ⟨Nat.le_trans (h v hv).1 (by decide), Nat.le_trans (h v hv).2 (by decide)⟩
theorem inr_iff {n lo hi : Int} : inr n lo hi = true ↔ lo ≤ n ∧ n ≤ hi := by simp [inr]
theorem inr_no {n lo hi : Int} (h : inr n lo hi = false) : ¬ (lo ≤ n ∧ n ≤ hi) := fun g => by rw [inr_iff.2 g] at h; cases h
theorem getD_none {a : List Vote} {i : Nat} (h : ¬ i < a.length) : a.getD i default = default := by simp [List.getD_eq_getElem?_getD, List.getElem?_eq_none (Nat.le_of_not_lt h)]
end Mg

/- The reader of draws. No condition. -/
namespace Mg
open Go Go.RowKit
set_option maxRecDepth 100000
set_option linter.unusedVariables false
set_option linter.unusedSimpArgs false
attribute [local irreducible] W Pure Con
@[reducible] def u8 (b : Int) : List MC := [.sc (.int .u8 b)]
@[reducible] def rdO (bs : List Int) (p : Int) : Ob := .box [.fz (bs.map u8), i6 p]
structure BsOk (bs : List Int) : Prop where
  len : bs.length ≤ 2000
  rng : ∀ b ∈ bs, 0 ≤ b ∧ b ≤ 255
theorem BsOk.at_ {bs : List Int} (h : BsOk bs) (i : Nat) : 0 ≤ bs.getD i 0 ∧ bs.getD i 0 ≤ 255 := by
  by_cases hi : i < bs.length
  · have : bs.getD i 0 = bs[i] := by simp [hi]
    rw [this]; exact h.rng _ (List.getElem_mem hi)
  · have : bs.getD i 0 = 0 := by simp [Nat.le_of_not_lt hi]
    rw [this]; decide
theorem u8_at {bs : List Int} {k : Int} (h0 : 0 ≤ k) (h : k < bs.length) : (bs.map u8)[k.toNat]? = some (u8 (bs.getD k.toNat 0)) := by
  have hi : k.toNat < bs.length := by omega
  rw [List.getElem?_map, List.getElem?_eq_getElem hi]
  simp [hi]
theorem xor_nonneg {a b : Int} (ha : 0 ≤ a) (ha' : a < 4611686018427387904) (hb : 0 ≤ b) (hb' : b < 4611686018427387904) : 0 ≤ IntKind.i64.wrap ((BitVec.ofInt 64 a ^^^ BitVec.ofInt 64 b).toNat) := by
  obtain ⟨m, rfl⟩ := Int.eq_ofNat_of_zero_le ha
  obtain ⟨n, rfl⟩ := Int.eq_ofNat_of_zero_le hb
  have hm : m < 2 ^ 62 := by omega
  have hn : n < 2 ^ 62 := by omega
  have e : (BitVec.ofInt 64 (m : Int) ^^^ BitVec.ofInt 64 (n : Int)).toNat = m ^^^ n := by
    have h1 : m % 2 ^ 64 = m := Nat.mod_eq_of_lt (by omega)
    have h2 : n % 2 ^ 64 = n := Nat.mod_eq_of_lt (by omega)
    simp only [BitVec.toNat_xor, BitVec.ofInt_natCast, BitVec.toNat_ofNat, h1, h2]
  have hx : m ^^^ n < 2 ^ 62 := Nat.xor_lt_two_pow hm hn
  rw [e, wrapi] <;> omega
theorem mix {x y q p : Int} (hx : 0 ≤ x ∧ x ≤ 255) (hy : 0 ≤ y ∧ y ≤ 255) (hq : 0 ≤ q ∧ q ≤ p) (hp : p ≤ 1000000000000) :
    IntKind.i64.wrap (IntKind.i64.wrap (IntKind.i64.wrap (IntKind.i64.wrap (IntKind.i64.wrap x * 131) + IntKind.i64.wrap (IntKind.i64.wrap y * 1117)) + IntKind.i64.wrap (p * 29)) + IntKind.i64.wrap (IntKind.i64.wrap q * 53)) = x * 131 + y * 1117 + p * 29 + q * 53 := by
  rw [wrapi (n := x), wrapi (n := x * 131), wrapi (n := y), wrapi (n := y * 1117), wrapi (n := x * 131 + y * 1117), wrapi (n := p * 29), wrapi (n := x * 131 + y * 1117 + p * 29), wrapi (n := q), wrapi (n := q * 53), wrapi] <;> omega
/-- What pick and num do, as a caller sees it. -/
def sPick (ds : List MV) (os : List Ob) : ConT := match ds, os with
  | [_, .one (.sc (.int _ n))], [.box [b, .sc (.int _ p)]] => ⟨Int, fun x => 0 ≤ x ∧ (x < n ∨ x = 0), fun x => oi x, fun _ => [.box [b, i6 (p + 1)]]⟩
  | _, _ => noT
@[reducible] def i1 (n : Int) : List MC := [i6 n]
def sNum (ds : List MV) (os : List Ob) : ConT := match ds, os with
  | [_, .one (.fz rows)], [.box [b, .sc (.int _ p)]] => ⟨Int, fun x => i1 x ∈ rows, fun x => oi x, fun _ => [.box [b, i6 (p + 1)]]⟩
  | _, _ => noT
end Mg

/- Draws of programs. No condition. -/
namespace Mg
open Go Go.RowKit
set_option maxRecDepth 100000
set_option linter.unusedVariables false
set_option linter.unusedSimpArgs false
attribute [local irreducible] W Pure Con
theorem exIns {Q : Ins × Int → Prop} (k a b n q : Int) (h : Q (⟨k, a, b, n⟩, q)) : ∃ d, Q d := ⟨_, h⟩
end Mg

/- Draws of programs, whole. No condition. -/
namespace Mg
open Go Go.RowKit
set_option maxRecDepth 100000
set_option linter.unusedVariables false
set_option linter.unusedSimpArgs false
attribute [local irreducible] W Pure Con
def sAny (ds : List MV) (os : List Ob) : ConT := match os with
  | [.box [b, .sc (.int _ p)]] => ⟨Ins × Int, fun d => p ≤ d.2 ∧ d.2 ≤ p + 6, fun d => .agg d.1.cells, fun d => [.box [b, i6 d.2]]⟩
  | _ => noT
theorem exProg {Q : List Ins × Int → Prop} (xs : List Ins) (q : Int) (h : Q (xs, q)) : ∃ d, Q d := ⟨_, h⟩
end Mg

/- Boxes; what a run looks into and puts. No condition. -/
namespace Mg
open Go Go.RowKit
set_option maxRecDepth 100000
set_option linter.unusedVariables false
set_option linter.unusedSimpArgs false
attribute [local irreducible] W Pure Con
theorem c_BoxOpen : Pure PP false 149 [] (.one (.fz ((List.replicate 4 (⟨0, 0⟩ : Two)).map Two.cells))) := by
  refine Pure.vc [] TTok hmo Go.Proofs.Tryz.func149 (by kernel_rfl) rfl (by kernel_rfl) ?_
  repeat' (first | refine And.intro ?_ ?_ | exact tf | exact ft | refine tt ?_ | refine ff ?_ | exact ⟨trivial⟩ | exact sAll rfl | exact sF1 rfl | exact sBld (by repeat' (first | exact trivial | rfl | exact Nat.le_of_ble_eq_true rfl | refine And.intro ?_ ?_)) rfl | exact sBS (by repeat' (first | exact trivial | rfl | exact Nat.le_of_ble_eq_true rfl | refine And.intro ?_ ?_)) rfl rfl rfl rfl | exact sBSF (by repeat' (first | exact trivial | rfl | exact Nat.le_of_ble_eq_true rfl | refine And.intro ?_ ?_)) rfl rfl rfl rfl | exact sLe rfl | exact Chk.mk (by kernel_rfl) | exact ⟨Chk.mk (by kernel_rfl)⟩ | exact sLeEq rfl rfl | refine fun h => ?_)
  · exact ⟨by decide⟩
  · exact ⟨⟨trivial, trivial⟩, ⟨rfl, map_frz (xs := List.replicate 4 (⟨0, 0⟩ : Two)) Two.frz⟩, trivial⟩
def boxEl (x : Two) : Bool := inr x.a 0 1000000 && inr x.b (-1000000) 1000000
def boxOk (xs : List Two) : Bool := decide ((xs.length : Int) = 4) && xs.all boxEl
theorem c_spec_BoxOk (xs : List Two) (hx : xs.length ≤ maxLen) : Pure PP false 175 [.one (.fz (xs.map Two.cells))] (ob (boxOk xs)) := by
  have hx' : xs.length ≤ 9223372036854775807 := hx
  refine Pure.vc [] TTok hmo Go.Proofs.Tryz.func175 (by kernel_rfl) rfl (by kernel_rfl) ?_
  repeat' (first | refine And.intro ?_ ?_ | exact tf | exact ft | refine tt ?_ | refine ff ?_ | exact ⟨trivial⟩ | exact sAll rfl | exact sF1 rfl | exact sBld (by repeat' (first | exact trivial | rfl | exact Nat.le_of_ble_eq_true rfl | refine And.intro ?_ ?_)) rfl | exact sBS (by repeat' (first | exact trivial | rfl | exact Nat.le_of_ble_eq_true rfl | refine And.intro ?_ ?_)) rfl rfl rfl rfl | exact sBSF (by repeat' (first | exact trivial | rfl | exact Nat.le_of_ble_eq_true rfl | refine And.intro ?_ ?_)) rfl rfl rfl rfl | exact sLe rfl | exact Chk.mk (by kernel_rfl) | exact ⟨Chk.mk (by kernel_rfl)⟩ | exact sLeEq rfl rfl | refine fun h => ?_)
  · refine ⟨?_⟩; simp_all [boxOk]
  refine W.loopC (D := Nat) (fun i => [(15, .row (xs.getD i default).cells), (22, .row (xs.getD i default).cells), (30, .row (xs.getD i default).cells), (33, .res (ob (inr (xs.getD i default).b (-1000000) 1000000)))]) TTok hmo
    (fun i => ⟨36, 0, [(0, .one (.ag (xs.map Two.cells))), (2, ob false), (3, oi i)], []⟩) (fun i => xs.length - i) (fun i => i ≤ xs.length ∧ (xs.take i).all boxEl = true) 0 [] ⟨by omega, by simp⟩ ?_ ?_
  · show subC _ _ _ _
    repeat' (first | exact trivial | exact Side.mk rfl | exact Chk.mk (by kernel_rfl) | exact ⟨Chk.mk (by kernel_rfl)⟩ | refine And.intro ?_ ?_ | rfl)
  · intro i ⟨hi, hp⟩
    repeat' (first | refine And.intro ?_ ?_ | exact tf | exact ft | refine tt ?_ | refine ff ?_ | exact ⟨trivial⟩ | exact sAll rfl | exact sF1 rfl | exact sBld (by repeat' (first | exact trivial | rfl | exact Nat.le_of_ble_eq_true rfl | refine And.intro ?_ ?_)) rfl | exact sBS (by repeat' (first | exact trivial | rfl | exact Nat.le_of_ble_eq_true rfl | refine And.intro ?_ ?_)) rfl rfl rfl rfl | exact sBSF (by repeat' (first | exact trivial | rfl | exact Nat.le_of_ble_eq_true rfl | refine And.intro ?_ ?_)) rfl rfl rfl rfl | exact sLe rfl | exact Chk.mk (by kernel_rfl) | exact ⟨Chk.mk (by kernel_rfl)⟩ | exact sLeEq rfl rfl | exact sAnd (by repeat' constructor) (c_l1Num _) | refine fun h => ?_)
    all_goals simp only [decide_eq_true_eq, decide_eq_false_iff_not, List.length_map, Bool.not_eq_true', Bool.not_eq_false', Bool.not_eq_eq_eq_not, Bool.not_true, Bool.not_false, bne_iff_ne, ne_eq, bne_eq_false_iff_eq, beq_iff_eq, beq_eq_false_iff_ne] at *
    all_goals try (exact sRow (by omega) (row_at xs _ (by omega)) rfl)
    · refine ⟨?_⟩; have := all_bad (f := boxEl) (xs := xs) (i := i) (by omega) (by simp_all [boxEl]); simp [boxOk, this]
    · refine ⟨i + 1, [], by omega, ⟨by omega, all_step (by omega) hp (by simp only [boxEl]; rw [h, Bool.and_true]; simp only [inr]; rw [decide_eq_true (by omega), decide_eq_true (by omega)]; rfl)⟩, ?_⟩
      repeat' (first | exact trivial | exact Side.mk rfl | exact Chk.mk (by kernel_rfl) | exact ⟨Chk.mk (by kernel_rfl)⟩ | exact ⟨wrap_succ (n := xs.length) (by omega) (by omega)⟩ | refine And.intro ?_ ?_ | rfl)
    · refine ⟨?_⟩; have := all_bad (f := boxEl) (xs := xs) (i := i) (by omega) (by simp only [boxEl, inr]; first | rw [decide_eq_false (p := 0 ≤ _) (by omega)]; rfl | rw [decide_eq_false (p := _ ≤ 1000000) (by omega)]; simp); simp [boxOk, this]
    · refine ⟨?_⟩; have := all_bad (f := boxEl) (xs := xs) (i := i) (by omega) (by simp only [boxEl, inr]; first | rw [decide_eq_false (p := 0 ≤ _) (by omega)]; rfl | rw [decide_eq_false (p := _ ≤ 1000000) (by omega)]; simp); simp [boxOk, this]
    · refine ⟨?_⟩; have := all_end (by omega) hp; simp [boxOk, this]; omega
theorem atI_lt {b : Int} : ∀ {xs : List Two}, atI xs b < xs.length
  | [] => by simp [atI]
  | x :: xs => by
    have := atI_lt (b := b) (xs := xs)
    simp only [atI, List.length_cons]
    split
    · omega
    · split <;> omega
theorem exLook {Q : Int × List Two → Prop} (n : Int) (xs : List Two) (h : Q (n, xs)) : ∃ d, Q d := ⟨_, h⟩
end Mg

/- Copies in the program's own way. No condition. -/
namespace Mg
open Go Go.RowKit
set_option maxRecDepth 100000
set_option linter.unusedVariables false
set_option linter.unusedSimpArgs false
attribute [local irreducible] W Pure Con
theorem sCp {α : Type} {c : α → List MC} {xs : List α} {z : List MC} {n k m : Nat} {rows2 : List (List MC)} (e : rows2 = xs.map c) (hn : n = xs.length) (hk : k = xs.length) (h0 : 0 < xs.length) (hz : z.length = m) (hc : ∀ x, (c x).length = m) :
    Side (n = (List.replicate k z).length ∧ rows2.length = (List.replicate k z).length ∧ 0 < (List.replicate k z).length ∧ (∀ r ∈ List.replicate k z, r.length = m) ∧ (∀ r ∈ rows2, r.length = m)) := by
  subst e
  refine ⟨by simp [hn, hk], by simp [hk], by simp [hk, h0], fun r hr => by rw [List.eq_of_mem_replicate hr, hz], fun r hr => by obtain ⟨x, _, rfl⟩ := List.mem_map.1 hr; exact hc x⟩
theorem sMk {α : Type} {c : α → List MC} {xs : List α} {b : Nat} (hx : xs.length ≤ 1048576) (hb : Nat.ble b 1000000 = true) :
    Side ((0 : Int) ≤ ((xs.map c).length : Int) ∧ ((xs.map c).length : Int) ≤ 281474976710656 ∧ (b : Int) * ((xs.map c).length : Int) ≤ 281474976710656) := by
  have hb' := Nat.le_of_ble_eq_true hb
  rw [List.length_map]
  refine ⟨by omega, by omega, ?_⟩
  have : b * xs.length ≤ 1000000 * 1048576 := Nat.mul_le_mul hb' hx
  have h2 : ((b * xs.length : Nat) : Int) ≤ 1000000 * 1048576 := by omega
  rw [← Int.natCast_mul]; omega
theorem c_copied_Read (xs : List Two) (hx : xs.length ≤ lim) : Pure PP false 171 [.one (.fz (xs.map Two.cells))] (.one (.fz (xs.map Two.cells))) := by
  have hx0 : xs.length ≤ 1048576 := hx
  refine Pure.vc [] TTok hmo Go.Proofs.Tryz.func171 (by kernel_rfl) rfl (by kernel_rfl) ?_
  repeat' (first | refine And.intro ?_ ?_ | exact tf | exact ft | refine tt ?_ | refine ff ?_ | exact ⟨trivial⟩ | exact sAll rfl | exact sF1 rfl | exact sBld (by repeat' (first | exact trivial | rfl | exact Nat.le_of_ble_eq_true rfl | refine And.intro ?_ ?_)) rfl | exact sBS (by repeat' (first | exact trivial | rfl | exact Nat.le_of_ble_eq_true rfl | refine And.intro ?_ ?_)) rfl rfl rfl rfl | exact sBSF (by repeat' (first | exact trivial | rfl | exact Nat.le_of_ble_eq_true rfl | refine And.intro ?_ ?_)) rfl rfl rfl rfl | exact sLe rfl | exact Chk.mk (by kernel_rfl) | exact ⟨Chk.mk (by kernel_rfl)⟩ | exact sLeEq rfl rfl | refine fun h => ?_)
  · have h0 : xs = [] := by simp at h; exact h
    subst h0
    exact ⟨⟨trivial, trivial⟩, rfl, trivial⟩
  · exact sMk hx0 rfl
  · have h0 : 0 < xs.length := Nat.pos_of_ne_zero (fun e => by rw [List.length_map, e] at h; revert h; decide)
    exact sCp (toA_map fun _ => rfl) (by simp) (by simp) h0 rfl (fun _ => rfl)
  · have e := toA_map (c := Two.cells) (xs := xs) fun _ => rfl
    refine ⟨⟨trivial, trivial⟩, ⟨?_, ?_⟩, trivial⟩
    · rw [e]; exact l_all (by simp)
    · rw [e]; exact allF Two.frz
theorem c_copied_Put (xs : List Two) (hx : xs.length ≤ lim) : Pure PP false 172 [.one (.fz (xs.map Two.cells))] (.one (.fz (xs.map Two.cells))) := by
  have hx0 : xs.length ≤ 1048576 := hx
  refine Pure.vc [] TTok hmo Go.Proofs.Tryz.func172 (by kernel_rfl) rfl (by kernel_rfl) ?_
  repeat' (first | refine And.intro ?_ ?_ | exact tf | exact ft | refine tt ?_ | refine ff ?_ | exact ⟨trivial⟩ | exact sAll rfl | exact sF1 rfl | exact sBld (by repeat' (first | exact trivial | rfl | exact Nat.le_of_ble_eq_true rfl | refine And.intro ?_ ?_)) rfl | exact sBS (by repeat' (first | exact trivial | rfl | exact Nat.le_of_ble_eq_true rfl | refine And.intro ?_ ?_)) rfl rfl rfl rfl | exact sBSF (by repeat' (first | exact trivial | rfl | exact Nat.le_of_ble_eq_true rfl | refine And.intro ?_ ?_)) rfl rfl rfl rfl | exact sLe rfl | exact Chk.mk (by kernel_rfl) | exact ⟨Chk.mk (by kernel_rfl)⟩ | exact sLeEq rfl rfl | refine fun h => ?_)
  · have h0 : xs = [] := by simp at h; exact h
    subst h0
    exact ⟨⟨trivial, trivial⟩, rfl, trivial⟩
  · exact sMk hx0 rfl
  · have h0 : 0 < xs.length := Nat.pos_of_ne_zero (fun e => by rw [List.length_map, e] at h; revert h; decide)
    exact sCp (toA_map fun _ => rfl) (by simp) (by simp) h0 rfl (fun _ => rfl)
  · have e := toA_map (c := Two.cells) (xs := xs) fun _ => rfl
    refine ⟨⟨trivial, trivial⟩, ⟨?_, ?_⟩, trivial⟩
    · rw [e]; exact l_all (by simp)
    · rw [e]; exact allF Two.frz
theorem c_runCopy (x : Run) (hx : x.ok lim) : Pure PP false 146 [.agg x.cells] (.agg x.cells) := by
  refine Pure.vc [(5, .res (.one (.fz (x.reads.map Two.cells)))), (8, .res (.one (.fz (x.puts.map Two.cells))))] TTok hmo Go.Proofs.Tryz.func146 (by kernel_rfl) rfl (by kernel_rfl) ?_
  repeat' (first | refine And.intro ?_ ?_ | exact tf | exact ft | refine tt ?_ | refine ff ?_ | exact ⟨trivial⟩ | exact sAll rfl | exact sF1 rfl | exact sBld (by repeat' (first | exact trivial | rfl | exact Nat.le_of_ble_eq_true rfl | refine And.intro ?_ ?_)) rfl | exact sBS (by repeat' (first | exact trivial | rfl | exact Nat.le_of_ble_eq_true rfl | refine And.intro ?_ ?_)) rfl rfl rfl rfl | exact sBSF (by repeat' (first | exact trivial | rfl | exact Nat.le_of_ble_eq_true rfl | refine And.intro ?_ ?_)) rfl rfl rfl rfl | exact sLe rfl | exact Chk.mk (by kernel_rfl) | exact ⟨Chk.mk (by kernel_rfl)⟩ | exact sLeEq rfl rfl | exact sAnd (by repeat' constructor) (c_copied_Read _ hx.1) | exact sAnd (by repeat' constructor) (c_copied_Put _ hx.2) | refine fun h => ?_)
  all_goals exact ⟨⟨Nat.le_of_ble_eq_true rfl, trivial⟩, rfl, rfl, rfl, rfl, trivial⟩
theorem c_entryCopy (e : Entry) (he : e.ok lim) : Pure PP false 107 [.agg e.cells] (.agg e.cells) := by
  refine Pure.vc [(9, .res (.agg e.run.cells))] TTok hmo Go.Proofs.Tryz.func107 (by kernel_rfl) rfl (by kernel_rfl) ?_
  repeat' (first | refine And.intro ?_ ?_ | exact tf | exact ft | refine tt ?_ | refine ff ?_ | exact ⟨trivial⟩ | exact sAll rfl | exact sF1 rfl | exact sBld (by repeat' (first | exact trivial | rfl | exact Nat.le_of_ble_eq_true rfl | refine And.intro ?_ ?_)) rfl | exact sBS (by repeat' (first | exact trivial | rfl | exact Nat.le_of_ble_eq_true rfl | refine And.intro ?_ ?_)) rfl rfl rfl rfl | exact sBSF (by repeat' (first | exact trivial | rfl | exact Nat.le_of_ble_eq_true rfl | refine And.intro ?_ ?_)) rfl rfl rfl rfl | exact sLe rfl | exact Chk.mk (by kernel_rfl) | exact ⟨Chk.mk (by kernel_rfl)⟩ | exact sLeEq rfl rfl | exact sAnd (by repeat' constructor) (c_runCopy _ he) | refine fun h => ?_)
  all_goals exact ⟨⟨Nat.le_of_ble_eq_true rfl, trivial⟩, rfl, rfl, rfl, rfl, rfl, rfl, rfl, trivial⟩
theorem exU' {Q : Unit → Prop} (h : Q ()) : ∃ d, Q d := ⟨_, h⟩
theorem c_copied_nil : Con PP 145 [.one (.fz [])] [] 0 (fun _ : Unit => True) (fun _ => .one (.fz [])) (fun _ => []) := by
  refine Con.vc [] TTok hmo Go.Proofs.Tryz.func145 rfl (by kernel_rfl) rfl (by kernel_rfl) ?_
  repeat' (first | refine And.intro ?_ ?_ | exact tf | exact ft | refine tt ?_ | refine ff ?_ | exact ⟨trivial⟩ | exact sAll rfl | exact sF1 rfl | exact sBld (by repeat' (first | exact trivial | rfl | exact Nat.le_of_ble_eq_true rfl | refine And.intro ?_ ?_)) rfl | exact sBS (by repeat' (first | exact trivial | rfl | exact Nat.le_of_ble_eq_true rfl | refine And.intro ?_ ?_)) rfl rfl rfl rfl | exact sBSF (by repeat' (first | exact trivial | rfl | exact Nat.le_of_ble_eq_true rfl | refine And.intro ?_ ?_)) rfl rfl rfl rfl | exact sLe rfl | exact Chk.mk (by kernel_rfl) | exact ⟨Chk.mk (by kernel_rfl)⟩ | exact sLeEq rfl rfl | refine fun h => ?_)
  all_goals try (first | exact ⟨trivial, trivial⟩ | exact ⟨Nat.le_of_ble_eq_true rfl, trivial⟩ | exact ⟨trivial, Nat.le_of_ble_eq_true rfl, trivial⟩ | exact ⟨Nat.le_of_ble_eq_true rfl, trivial, trivial⟩)
  · apply exU'; refine ⟨[], [], trivial, ?_⟩
    repeat' (first | exact trivial | exact ⟨trivial⟩ | exact Side.mk rfl | exact sF1 rfl | exact Chk.mk (by kernel_rfl) | exact ⟨Chk.mk (by kernel_rfl)⟩ | refine And.intro ?_ ?_ | rfl)
  all_goals (exfalso; revert h; decide)
theorem c_copied_Vote (vs : List Vote) (hx : vs.length ≤ lim) (h0 : 0 < vs.length) : Con PP 145 [.one (.fz (vs.map Vote.cells))] [] 0 (fun _ : Unit => True) (fun _ => .one (.ref 0 0 vs.length)) (fun _ => [.arr (vs.map Vote.cells)]) := by
  have hx0 : vs.length ≤ 1048576 := hx
  refine Con.vc [] TTok hmo Go.Proofs.Tryz.func145 rfl (by kernel_rfl) rfl (by kernel_rfl) ?_
  repeat' (first | refine And.intro ?_ ?_ | exact tf | exact ft | refine tt ?_ | refine ff ?_ | exact ⟨trivial⟩ | exact sAll rfl | exact sF1 rfl | exact sBld (by repeat' (first | exact trivial | rfl | exact Nat.le_of_ble_eq_true rfl | refine And.intro ?_ ?_)) rfl | exact sBS (by repeat' (first | exact trivial | rfl | exact Nat.le_of_ble_eq_true rfl | refine And.intro ?_ ?_)) rfl rfl rfl rfl | exact sBSF (by repeat' (first | exact trivial | rfl | exact Nat.le_of_ble_eq_true rfl | refine And.intro ?_ ?_)) rfl rfl rfl rfl | exact sLe rfl | exact Chk.mk (by kernel_rfl) | exact ⟨Chk.mk (by kernel_rfl)⟩ | exact sLeEq rfl rfl | refine fun h => ?_)
  all_goals try (first | exact ⟨trivial, trivial⟩ | exact ⟨Nat.le_of_ble_eq_true rfl, trivial⟩ | exact ⟨trivial, Nat.le_of_ble_eq_true rfl, trivial⟩ | exact ⟨Nat.le_of_ble_eq_true rfl, trivial, trivial⟩)
  · exfalso; simp at h; rw [h] at h0; exact Nat.lt_irrefl _ h0
  · exact sMk hx0 rfl
  · exact sCp rfl (by simp) (by simp) h0 rfl (fun _ => rfl)
  · apply exU'; refine ⟨[], [], trivial, ?_⟩
    repeat' (first | exact trivial | exact ⟨trivial⟩ | exact Side.mk rfl | exact sF1 rfl | exact Chk.mk (by kernel_rfl) | exact ⟨Chk.mk (by kernel_rfl)⟩ | exact sMapF Vote.flat | refine And.intro ?_ ?_ | rfl)
    all_goals exact ⟨by simp⟩
theorem set_same {α : Type} [Inhabited α] {xs : List α} {k : Nat} (h : k < xs.length) : xs.set k (xs.getD k default) = xs := by
  rw [List.getD_eq_getElem?_getD, List.getElem?_eq_getElem h]
  exact List.set_getElem_self h
theorem sSame {α : Type} [Inhabited α] {c : α → List MC} {xs : List α} {k : Nat} {r : List MC} (hk : k < xs.length) (h : c (xs.getD k default) = r) : Side (xs.map c = (xs.map c).set (0 + k) r) :=
  ⟨by rw [← setMap (y := xs.getD k default) h, set_same hk]⟩
theorem sLdA {α : Type} [Inhabited α] {c : α → List MC} {xs : List α} {k off n : Nat} {cs : List MC} (h : k < xs.length) (hc : n ≤ ((c (xs.getD k default)).drop off).length) (he : ((c (xs.getD k default)).drop off).take n = cs) :
    Side (n ≤ (List.drop off ((xs.map c).getD (0 + k) [])).length ∧ MV.agg (List.take n (List.drop off ((xs.map c).getD (0 + k) []))) = MV.agg cs) := by
  rw [mapGet h, he]; exact ⟨⟨hc, rfl⟩⟩
def sCpV (n : Nat) (ds : List MV) (os : List Ob) : ConT := match ds with
  | [.one (.fz rows)] => ⟨Unit, fun _ => True, fun _ => .one (.ref 0 0 n), fun _ => [.arr rows]⟩
  | _ => noT
def sFz (ds : List MV) (os : List Ob) : ConT := match ds with
  | [.one (.fz rows)] => ⟨Unit, fun _ => True, fun _ => .one (.fz rows), fun _ => []⟩
  | _ => noT
theorem c_votesCopy (vs : List Vote) (hx : vs.length ≤ lim) (hv : VsOk lim vs) : Con PP 106 [.one (.fz (vs.map Vote.cells))] [] 0 (fun _ : Unit => True) (fun _ => .one (.fz (vs.map Vote.cells))) (fun _ => []) := by
  have hx0 : vs.length ≤ 1048576 := hx
  rcases Nat.eq_zero_or_pos vs.length with hz | hz
  · have h0 : vs = [] := List.eq_nil_of_length_eq_zero hz
    subst h0
    refine Con.vc [(6, .con false [] [] [] sFz)] TTok hmo Go.Proofs.Tryz.func106 rfl (by kernel_rfl) rfl (by kernel_rfl) ?_
    repeat' (first | refine And.intro ?_ ?_ | exact tf | exact ft | refine tt ?_ | refine ff ?_ | exact ⟨trivial⟩ | exact sAll rfl | exact sF1 rfl | exact sBld (by repeat' (first | exact trivial | rfl | exact Nat.le_of_ble_eq_true rfl | refine And.intro ?_ ?_)) rfl | exact sBS (by repeat' (first | exact trivial | rfl | exact Nat.le_of_ble_eq_true rfl | refine And.intro ?_ ?_)) rfl rfl rfl rfl | exact sBSF (by repeat' (first | exact trivial | rfl | exact Nat.le_of_ble_eq_true rfl | refine And.intro ?_ ?_)) rfl rfl rfl rfl | exact sLe rfl | exact Chk.mk (by kernel_rfl) | exact ⟨Chk.mk (by kernel_rfl)⟩ | exact sLeEq rfl rfl | refine fun h => ?_)
    · exact ⟨c_copied_nil⟩
    · exact ⟨fun _ _ => trivial⟩
    · exact ⟨fun _ _ => trivial⟩
    · refine W.loopC (D := Nat) (fun _ => []) TTok hmo (fun _ => ⟨24, 0, [(3, .one (.fz [])), (8, oi 0), (9, oi 0)], []⟩) (fun _ => 0) (fun _ => True) 0 [] trivial ?_ ?_
      · repeat' (first | exact trivial | exact ⟨trivial⟩ | exact Side.mk rfl | exact sF1 rfl | exact Chk.mk (by kernel_rfl) | exact ⟨Chk.mk (by kernel_rfl)⟩ | refine And.intro ?_ ?_ | rfl)
      · intro i _
        repeat' (first | refine And.intro ?_ ?_ | exact tf | exact ft | refine tt ?_ | refine ff ?_ | exact ⟨trivial⟩ | exact sAll rfl | exact sF1 rfl | exact sBld (by repeat' (first | exact trivial | rfl | exact Nat.le_of_ble_eq_true rfl | refine And.intro ?_ ?_)) rfl | exact sBS (by repeat' (first | exact trivial | rfl | exact Nat.le_of_ble_eq_true rfl | refine And.intro ?_ ?_)) rfl rfl rfl rfl | exact sBSF (by repeat' (first | exact trivial | rfl | exact Nat.le_of_ble_eq_true rfl | refine And.intro ?_ ?_)) rfl rfl rfl rfl | exact sLe rfl | exact Chk.mk (by kernel_rfl) | exact ⟨Chk.mk (by kernel_rfl)⟩ | exact sLeEq rfl rfl | refine fun h => ?_)
        all_goals try (exfalso; have hf := of_decide_eq_true ‹decide ((0 : Int) < 0) = true›; omega)
        all_goals try (first | exact ⟨trivial, trivial⟩ | exact ⟨Nat.le_of_ble_eq_true rfl, trivial⟩ | exact ⟨trivial, Nat.le_of_ble_eq_true rfl, trivial⟩ | exact ⟨Nat.le_of_ble_eq_true rfl, trivial, trivial⟩)
        · apply exU'; refine ⟨[], [], trivial, ?_⟩
          repeat' (first | exact trivial | exact ⟨trivial⟩ | exact Side.mk rfl | exact sF1 rfl | exact Chk.mk (by kernel_rfl) | exact ⟨Chk.mk (by kernel_rfl)⟩ | refine And.intro ?_ ?_ | rfl)
  · refine Con.vc [(6, .con false [] [] [] (sCpV vs.length))] TTok hmo Go.Proofs.Tryz.func106 rfl (by kernel_rfl) rfl (by kernel_rfl) ?_
    repeat' (first | refine And.intro ?_ ?_ | exact tf | exact ft | refine tt ?_ | refine ff ?_ | exact ⟨trivial⟩ | exact sAll rfl | exact sF1 rfl | exact sBld (by repeat' (first | exact trivial | rfl | exact Nat.le_of_ble_eq_true rfl | refine And.intro ?_ ?_)) rfl | exact sBS (by repeat' (first | exact trivial | rfl | exact Nat.le_of_ble_eq_true rfl | refine And.intro ?_ ?_)) rfl rfl rfl rfl | exact sBSF (by repeat' (first | exact trivial | rfl | exact Nat.le_of_ble_eq_true rfl | refine And.intro ?_ ?_)) rfl rfl rfl rfl | exact sLe rfl | exact Chk.mk (by kernel_rfl) | exact ⟨Chk.mk (by kernel_rfl)⟩ | exact sLeEq rfl rfl | refine fun h => ?_)
    · exact ⟨c_copied_Vote vs hx hz⟩
    · exact ⟨fun _ _ => trivial⟩
    · exact ⟨fun _ _ => ⟨allF Vote.frz, trivial⟩⟩
    · refine W.loopC (D := Nat) (fun i => [(18, .res (.agg (vs.getD i default).e.cells)), (19, .res (.agg (vs.getD i default).e.cells))]) TTok hmo (fun i => ⟨24, 1, [(3, .one (.ref 0 0 vs.length)), (8, oi vs.length), (9, oi i)], [(0, .arr (vs.map Vote.cells))]⟩) (fun i => vs.length - i) (fun i => i ≤ vs.length) 0 [] (Nat.zero_le _) ?_ ?_
      · repeat' (first | exact trivial | exact ⟨trivial⟩ | exact Side.mk rfl | exact sF1 rfl | exact Chk.mk (by kernel_rfl) | exact ⟨Chk.mk (by kernel_rfl)⟩ | exact sMapF Vote.flat | refine And.intro ?_ ?_ | rfl)
      · intro i hi
        repeat' (first | refine And.intro ?_ ?_ | exact tf | exact ft | refine tt ?_ | refine ff ?_ | exact ⟨trivial⟩ | exact sAll rfl | exact sF1 rfl | exact sBld (by repeat' (first | exact trivial | rfl | exact Nat.le_of_ble_eq_true rfl | refine And.intro ?_ ?_)) rfl | exact sBS (by repeat' (first | exact trivial | rfl | exact Nat.le_of_ble_eq_true rfl | refine And.intro ?_ ?_)) rfl rfl rfl rfl | exact sBSF (by repeat' (first | exact trivial | rfl | exact Nat.le_of_ble_eq_true rfl | refine And.intro ?_ ?_)) rfl rfl rfl rfl | exact sLe rfl | exact Chk.mk (by kernel_rfl) | exact ⟨Chk.mk (by kernel_rfl)⟩ | exact sLeEq rfl rfl | exact sAnd (by repeat' constructor) (c_entryCopy _ (hv _ (getD_mem (by have := of_decide_eq_true h; omega)))) | refine fun h => ?_)
        all_goals try (have hl := of_decide_eq_true h)
        all_goals try (exact sIxO (c := Vote.cells) (k := (i : Int)) (by omega) (by omega) rfl (fun _ => rfl))
        all_goals try (exact sLdA (c := Vote.cells) (xs := vs) (k := i) (by omega) (Nat.le_of_ble_eq_true rfl) rfl)
        all_goals try (exact sSt (c := Vote.cells) (m := 8) (k := i) (xs := vs) (by omega) (fun _ => rfl) rfl rfl)
        all_goals try (first | exact ⟨trivial, trivial⟩ | exact ⟨Nat.le_of_ble_eq_true rfl, trivial⟩ | exact ⟨trivial, Nat.le_of_ble_eq_true rfl, trivial⟩ | exact ⟨Nat.le_of_ble_eq_true rfl, trivial, trivial⟩)
        · refine ⟨i + 1, [], by omega, by omega, ?_⟩
          repeat' (first | exact trivial | exact ⟨trivial⟩ | exact Side.mk rfl | exact sF1 rfl | exact Chk.mk (by kernel_rfl) | exact ⟨Chk.mk (by kernel_rfl)⟩ | exact sMapF Vote.flat | exact sSame (k := i) (by omega) (by rw [mapGet (by omega)]; rfl) | exact ⟨by rw [wrapi] <;> omega⟩ | exact ⟨by simp⟩ | refine And.intro ?_ ?_ | rfl)
        · apply exU'; refine ⟨[], [0], trivial, ?_⟩
          repeat' (first | exact trivial | exact ⟨trivial⟩ | exact Side.mk rfl | exact sF1 rfl | exact Chk.mk (by kernel_rfl) | exact ⟨Chk.mk (by kernel_rfl)⟩ | exact sMapZ Vote.frz | exact sFzE rfl | refine And.intro ?_ ?_ | rfl)
end Mg

/- The best of votes. No condition. -/
namespace Mg
open Go Go.RowKit
set_option maxRecDepth 100000
set_option linter.unusedVariables false
set_option linter.unusedSimpArgs false
attribute [local irreducible] W Pure Con
def bestAt (a b : List Vote) (i : Nat) : Vote :=
  if i < b.length ∧ (b.getD i default).bal > (if i < a.length then a.getD i default else default).bal then b.getD i default else if i < a.length then a.getD i default else default
def bestN (a b : List Vote) : List Vote := (List.range (max a.length b.length)).map (bestAt a b)
def accBest (a b : List Vote) : List Vote := if votesOk a && votesOk b then bestN a b else []
def implAt (a b : List Vote) (i : Nat) : Vote := if a.length ≤ i then b.getD i default else if b.length ≤ i ∨ (a.getD i default).bal ≥ (b.getD i default).bal then a.getD i default else b.getD i default
def upTo (f : Nat → Vote) (i : Nat) : List Vote := (List.range i).map f
theorem upTo_len (f : Nat → Vote) (i : Nat) : (upTo f i).length = i := by simp [upTo]
theorem upTo_succ (f : Nat → Vote) (i : Nat) : upTo f (i + 1) = upTo f i ++ [f i] := by simp [upTo, List.range_succ]
theorem sUp {f : Nat → Vote} {i : Nat} {v : Vote} {rows2 : List (List MC)} (h : f i = v) (e : rows2 = [v.cells]) : Side ((upTo f (i + 1)).map Vote.cells = (upTo f i).map Vote.cells ++ rows2) := ⟨by rw [upTo_succ, h, e]; simp⟩
theorem sUpL {f : Nat → Vote} {i m n : Nat} (hm : m = (upTo f i).length) (hn : n = 1) : Side (m + n = (upTo f (i + 1)).length) := ⟨by rw [hm, hn, upTo_len, upTo_len]⟩
theorem sUpL2 {f : Nat → Vote} {i m n : Nat} (hm : m = (upTo f i).length) (hn : n = 1) : Side ((upTo f (i + 1)).length = m + n) := ⟨by rw [hm, hn, upTo_len, upTo_len]⟩
theorem best_b1 {a b : List Vote} {i : Nat} (ha : ¬ i < a.length) (hb : i < b.length) (h : (b.getD i default).bal > 0) : bestAt a b i = b.getD i default := by
  unfold bestAt; rw [if_neg ha]; exact if_pos ⟨hb, h⟩
theorem best_b2 {a b : List Vote} {i : Nat} (ha : i < a.length) (hb : i < b.length) (h : (b.getD i default).bal > (a.getD i default).bal) : bestAt a b i = b.getD i default := by
  unfold bestAt; rw [if_pos ha]; exact if_pos ⟨hb, h⟩
theorem best_a1 {a b : List Vote} {i : Nat} (ha : i < a.length) (hb : ¬ i < b.length) : bestAt a b i = a.getD i default := by
  unfold bestAt; rw [if_pos ha]; exact if_neg fun h => hb h.1
theorem best_a2 {a b : List Vote} {i : Nat} (ha : i < a.length) (h : ¬ (b.getD i default).bal > (a.getD i default).bal) : bestAt a b i = a.getD i default := by
  unfold bestAt; rw [if_pos ha]; exact if_neg fun g => h g.2
theorem best_d {a b : List Vote} {i : Nat} (ha : ¬ i < a.length) (h : ¬ (b.getD i default).bal > 0) : bestAt a b i = default := by
  unfold bestAt; rw [if_neg ha]; exact if_neg fun g => h g.2
theorem implAt_ok {n : Nat} {a b : List Vote} (ha : VsOk n a) (hb : VsOk n b) (i : Nat) : (implAt a b i).ok n := by
  unfold implAt; split
  · exact hb.get i
  · split
    · exact ha.get i
    · exact hb.get i
theorem upTo_ok {n : Nat} {f : Nat → Vote} (h : ∀ i, (f i).ok n) (k : Nat) : VsOk n (upTo f k) := fun v hv => by
  obtain ⟨i, _, rfl⟩ := List.mem_map.1 hv; exact h i
end Mg

/- The best of votes, in plain terms. No condition. -/
namespace Mg
open Go Go.RowKit
set_option maxRecDepth 100000
set_option linter.unusedVariables false
set_option linter.unusedSimpArgs false
theorem voteOk_zero {v : Vote} (h : voteOk v = true) (hb : ¬ v.bal > 0) : v = default := by
  unfold voteOk at h
  split at h
  · rename_i h0
    have he := of_decide_eq_true h
    obtain ⟨bal, e⟩ := v
    simp only at h0 he
    subst h0; subst he; rfl
  · simp [inr] at h; omega
theorem votesOk_at {vs : List Vote} (h : votesOk vs = true) {i : Nat} (hi : i < vs.length) : voteOk (vs.getD i default) = true := by
  simp only [votesOk, Bool.and_eq_true, List.all_eq_true] at h
  exact h.2 _ (getD_mem hi)
theorem votesOk_len {vs : List Vote} (h : votesOk vs = true) : vs.length ≤ 40 := by
  simp only [votesOk, Bool.and_eq_true, decide_eq_true_eq] at h; exact h.1
theorem impl_best (a b : List Vote) (hb : votesOk b = true) : upTo (implAt a b) (max a.length b.length) = bestN a b := by
  unfold upTo bestN
  refine List.map_congr_left fun i hi => ?_
  have hi := List.mem_range.1 hi
  have d0 : (default : Vote).bal = 0 := rfl
  unfold implAt
  split
  · rename_i h1
    by_cases hp : (b.getD i default).bal > 0
    · rw [best_b1 (by omega) (by omega) hp]
    · rw [best_d (by omega) hp]
      exact voteOk_zero (votesOk_at hb (by omega)) hp
  · rename_i h1
    split
    · rename_i h2
      by_cases h3 : i < b.length
      · rw [best_a2 (by omega) (by omega)]
      · rw [best_a1 (by omega) h3]
    · rename_i h2
      rw [best_b2 (by omega) (by omega) (by omega)]
theorem impl_accBest (a b : List Vote) : (if votesOk a && votesOk b then upTo (implAt a b) (max a.length b.length) else []) = accBest a b := by
  unfold accBest
  split
  · rename_i h
    simp only [Bool.and_eq_true] at h
    exact impl_best a b h.2
  · rfl
theorem best_all {a b : List Vote} {i : Nat} {Q : Vote → Prop} (h1 : i < b.length → (i < a.length → (b.getD i default).bal > (a.getD i default).bal) → (¬ i < a.length → (b.getD i default).bal > 0) → Q (b.getD i default))
    (h2 : i < a.length → (i < b.length → ¬ (b.getD i default).bal > (a.getD i default).bal) → Q (a.getD i default)) (h3 : ¬ i < a.length → (¬ (b.getD i default).bal > 0 ∨ ¬ i < b.length) → Q default) : Q (bestAt a b i) := by
  by_cases ha : i < a.length
  · by_cases hb : i < b.length
    · by_cases hc : (b.getD i default).bal > (a.getD i default).bal
      · rw [best_b2 ha hb hc]; exact h1 hb (fun _ => hc) fun h => absurd ha h
      · rw [best_a2 ha hc]; exact h2 ha fun _ => hc
    · rw [best_a1 ha hb]; exact h2 ha fun h => absurd h hb
  · by_cases hb : i < b.length
    · by_cases hc : (b.getD i default).bal > 0
      · rw [best_b1 ha hb hc]; exact h1 hb (fun h => absurd h ha) fun _ => hc
      · rw [best_d ha hc]; exact h3 ha (.inl hc)
    · have e : b.getD i default = default := by simp [List.getD_eq_getElem?_getD, List.getElem?_eq_none (Nat.le_of_not_lt hb)]
      rw [best_d ha (by rw [e]; exact (by decide : ¬ (0 : Int) > 0))]; exact h3 ha (.inr hb)
theorem best_ge_a {a b : List Vote} {i : Nat} (hi : i < a.length) : (a.getD i default).bal ≤ (bestAt a b i).bal :=
  best_all (Q := fun v => (a.getD i default).bal ≤ v.bal) (fun _ h _ => by have := h hi; omega) (fun _ _ => Int.le_refl _) (fun h => absurd hi h)
theorem best_ge_b {a b : List Vote} {i : Nat} (hi : i < b.length) : (b.getD i default).bal ≤ (bestAt a b i).bal :=
  best_all (Q := fun v => (b.getD i default).bal ≤ v.bal) (fun _ _ _ => Int.le_refl _) (fun _ h => by have := h hi; omega) (fun _ h => by have d0 : (default : Vote).bal = 0 := rfl; have := h.resolve_right fun g => g hi; omega)
theorem bestN_len (a b : List Vote) : (bestN a b).length = max a.length b.length := by simp [bestN]
theorem bestN_at {a b : List Vote} {i : Nat} (hi : i < (bestN a b).length) : (bestN a b).getD i default = bestAt a b i := by
  rw [bestN_len] at hi
  simp [bestN, List.getD_eq_getElem?_getD, hi]
theorem bestAt_ok {n : Nat} {a b : List Vote} (ha : VsOk n a) (hb : VsOk n b) (i : Nat) : (bestAt a b i).ok n :=
  best_all (Q := fun v => v.ok n) (fun _ _ _ => hb.get i) (fun _ _ => ha.get i) (fun _ _ => ⟨Nat.zero_le _, Nat.zero_le _⟩)
theorem accBest_ok {n : Nat} {a b : List Vote} (ha : VsOk n a) (hb : VsOk n b) : VsOk n (accBest a b) := by
  unfold accBest
  split
  · exact upTo_ok (bestAt_ok ha hb) _
  · intro v hv; cases hv
theorem accBest_len {a b : List Vote} : (accBest a b).length ≤ max a.length b.length := by
  unfold accBest
  split
  · rw [bestN_len]; exact Nat.le_refl _
  · exact Nat.zero_le _
/-- What the best of votes holds at a place. -/
theorem accBest_ge {a b : List Vote} {i : Nat} (hi : i < (accBest a b).length) : (i < a.length → (a.getD i default).bal ≤ ((accBest a b).getD i default).bal) ∧ (i < b.length → (b.getD i default).bal ≤ ((accBest a b).getD i default).bal) := by
  unfold accBest at hi ⊢
  split at hi
  · rename_i h
    rw [if_pos h, bestN_at hi]
    exact ⟨best_ge_a, best_ge_b⟩
  · simp at hi
end Mg

/- The best of votes, with a list of its own. No condition. -/
namespace Mg
open Go Go.RowKit
set_option maxRecDepth 100000
set_option linter.unusedVariables false
set_option linter.unusedSimpArgs false
attribute [local irreducible] W Pure Con
theorem c_votesCopyO (vs : List Vote) (hx : vs.length ≤ lim) (hz : 0 < vs.length) (hv : VsOk lim vs) : Con PP 106 [.one (.fz (vs.map Vote.cells))] [] 0 (fun _ : Unit => True) (fun _ => .one (.ref 0 0 vs.length)) (fun _ => [.arr (vs.map Vote.cells)]) := by
  have hx0 : vs.length ≤ 1048576 := hx
  refine Con.vc [(6, .con false [] [] [] (sCpV vs.length))] TTok hmo Go.Proofs.Tryz.func106 rfl (by kernel_rfl) rfl (by kernel_rfl) ?_
  repeat' (first | refine And.intro ?_ ?_ | exact tf | exact ft | refine tt ?_ | refine ff ?_ | exact ⟨trivial⟩ | exact sAll rfl | exact sF1 rfl | exact sBld (by repeat' (first | exact trivial | rfl | exact Nat.le_of_ble_eq_true rfl | refine And.intro ?_ ?_)) rfl | exact sBS (by repeat' (first | exact trivial | rfl | exact Nat.le_of_ble_eq_true rfl | refine And.intro ?_ ?_)) rfl rfl rfl rfl | exact sBSF (by repeat' (first | exact trivial | rfl | exact Nat.le_of_ble_eq_true rfl | refine And.intro ?_ ?_)) rfl rfl rfl rfl | exact sLe rfl | exact Chk.mk (by kernel_rfl) | exact ⟨Chk.mk (by kernel_rfl)⟩ | exact sLeEq rfl rfl | refine fun h => ?_)
  · exact ⟨c_copied_Vote vs hx hz⟩
  · exact ⟨fun _ _ => trivial⟩
  · exact ⟨fun _ _ => ⟨allF Vote.frz, trivial⟩⟩
  · refine W.loopC (D := Nat) (fun i => [(18, .res (.agg (vs.getD i default).e.cells)), (19, .res (.agg (vs.getD i default).e.cells))]) TTok hmo (fun i => ⟨24, 1, [(3, .one (.ref 0 0 vs.length)), (8, oi vs.length), (9, oi i)], [(0, .arr (vs.map Vote.cells))]⟩) (fun i => vs.length - i) (fun i => i ≤ vs.length) 0 [] (Nat.zero_le _) ?_ ?_
    · repeat' (first | exact trivial | exact ⟨trivial⟩ | exact Side.mk rfl | exact sF1 rfl | exact Chk.mk (by kernel_rfl) | exact ⟨Chk.mk (by kernel_rfl)⟩ | exact sMapF Vote.flat | refine And.intro ?_ ?_ | rfl)
    · intro i hi
      repeat' (first | refine And.intro ?_ ?_ | exact tf | exact ft | refine tt ?_ | refine ff ?_ | exact ⟨trivial⟩ | exact sAll rfl | exact sF1 rfl | exact sBld (by repeat' (first | exact trivial | rfl | exact Nat.le_of_ble_eq_true rfl | refine And.intro ?_ ?_)) rfl | exact sBS (by repeat' (first | exact trivial | rfl | exact Nat.le_of_ble_eq_true rfl | refine And.intro ?_ ?_)) rfl rfl rfl rfl | exact sBSF (by repeat' (first | exact trivial | rfl | exact Nat.le_of_ble_eq_true rfl | refine And.intro ?_ ?_)) rfl rfl rfl rfl | exact sLe rfl | exact Chk.mk (by kernel_rfl) | exact ⟨Chk.mk (by kernel_rfl)⟩ | exact sLeEq rfl rfl | exact sAnd (by repeat' constructor) (c_entryCopy _ (hv _ (getD_mem (by have := of_decide_eq_true h; omega)))) | refine fun h => ?_)
      all_goals try (have hl := of_decide_eq_true h)
      all_goals try (exact sIxO (c := Vote.cells) (k := (i : Int)) (by omega) (by omega) rfl (fun _ => rfl))
      all_goals try (exact sLdA (c := Vote.cells) (xs := vs) (k := i) (by omega) (Nat.le_of_ble_eq_true rfl) rfl)
      all_goals try (exact sSt (c := Vote.cells) (m := 8) (k := i) (xs := vs) (by omega) (fun _ => rfl) rfl rfl)
      all_goals try (first | exact ⟨trivial, trivial⟩ | exact ⟨Nat.le_of_ble_eq_true rfl, trivial⟩ | exact ⟨trivial, Nat.le_of_ble_eq_true rfl, trivial⟩ | exact ⟨Nat.le_of_ble_eq_true rfl, trivial, trivial⟩)
      · refine ⟨i + 1, [], by omega, by omega, ?_⟩
        repeat' (first | exact trivial | exact ⟨trivial⟩ | exact Side.mk rfl | exact sF1 rfl | exact Chk.mk (by kernel_rfl) | exact ⟨Chk.mk (by kernel_rfl)⟩ | exact sMapF Vote.flat | exact sSame (k := i) (by omega) (by rw [mapGet (by omega)]; rfl) | exact ⟨by rw [wrapi] <;> omega⟩ | exact ⟨by simp⟩ | refine And.intro ?_ ?_ | rfl)
      · apply exU'; refine ⟨[], [], trivial, ?_⟩
        repeat' (first | exact trivial | exact ⟨trivial⟩ | exact Side.mk rfl | exact sF1 rfl | exact Chk.mk (by kernel_rfl) | exact ⟨Chk.mk (by kernel_rfl)⟩ | exact sMapF Vote.flat | refine And.intro ?_ ?_ | rfl)
def sOwnV (ds : List MV) (os : List Ob) : ConT := match ds with
  | [.one (.fz rows)] => ⟨Unit, fun _ => True, fun _ => .one (.ref 0 0 rows.length), fun _ => [.arr rows]⟩
  | _ => noT
end Mg
