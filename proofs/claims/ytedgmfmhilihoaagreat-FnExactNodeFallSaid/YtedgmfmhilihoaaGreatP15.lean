/- Parts of the abstract state logic and of the walks, one behind the other: E0, E5, R1N, R1O, R1P. No condition. -/
import Derived.Test.YtedgmfmhilihoaaGreatP14
import Derived.Test.YtedgmfmhilihoaaGreatP12
import Derived.Test.YtedgmfmhilihoaaGreatP13
/- What it is to number all that hangs on a value. No condition. -/
namespace Mg
open Go Go.RowKit
set_option linter.unusedVariables false
set_option linter.unusedSectionVars false
def mkB (k : Int) : Bool := (k.tmod 3 == 0)
section
variable {α : Type} [Inhabited α]
def mkL (f : α → Int → α) (ct : α → Int) : List α → Int → List α
  | [], _ => []
  | x :: xs, k => f x k :: mkL f ct xs (k + ct x)
def ctL (ct : α → Int) : List α → Int
  | [] => 0
  | x :: xs => ct x + ctL ct xs
def mkUp (f : α → Int → α) (ct : α → Int) (xs : List α) (k : Int) (i : Nat) : List α := mkL f ct (xs.take i) k ++ xs.drop i
variable {f : α → Int → α} {ct : α → Int}
theorem mkL_len : ∀ (xs : List α) (k : Int), (mkL f ct xs k).length = xs.length
  | [], _ => rfl
  | x :: xs, k => by simp [mkL, mkL_len xs]
theorem ctL_app : ∀ (xs ys : List α), ctL ct (xs ++ ys) = ctL ct xs + ctL ct ys
  | [], ys => by simp [ctL]
  | x :: xs, ys => by simp [ctL, ctL_app xs ys]; omega
theorem mkL_app : ∀ (xs ys : List α) (k : Int), mkL f ct (xs ++ ys) k = mkL f ct xs k ++ mkL f ct ys (k + ctL ct xs)
  | [], ys, k => by simp [mkL, ctL]
  | x :: xs, ys, k => by
    simp only [List.cons_append, mkL, ctL, mkL_app xs ys]
    rw [show k + ct x + ctL ct xs = k + (ct x + ctL ct xs) by omega]
theorem take1 {xs : List α} {i : Nat} (h : i < xs.length) : xs.take (i + 1) = xs.take i ++ [xs.getD i default] := by
  rw [List.take_succ_eq_append_getElem h, getD_get h]
theorem ctL_take {xs : List α} {i : Nat} (h : i < xs.length) : ctL ct (xs.take (i + 1)) = ctL ct (xs.take i) + ct (xs.getD i default) := by
  rw [take1 h, ctL_app]; simp [ctL]
theorem mkUp_len {xs : List α} {k : Int} {i : Nat} : (mkUp f ct xs k i).length = xs.length := by
  simp [mkUp, mkL_len]; omega
theorem mkUp_zero {xs : List α} {k : Int} : mkUp f ct xs k 0 = xs := by simp [mkUp, mkL]
theorem mkUp_all {xs : List α} {k : Int} {i : Nat} (h : xs.length ≤ i) : mkUp f ct xs k i = mkL f ct xs k := by
  simp [mkUp, List.take_of_length_le h, List.drop_eq_nil_of_le h]
theorem mkUp_get {xs : List α} {k : Int} {i : Nat} (h : i < xs.length) : (mkUp f ct xs k i)[i]? = some (xs.getD i default) := by
  have hl : (mkL f ct (xs.take i) k).length = i := by rw [mkL_len]; simp; omega
  rw [mkUp, List.getElem?_append_right (by omega), hl, Nat.sub_self, List.getElem?_drop, Nat.add_zero, List.getElem?_eq_getElem h, getD_get h]
theorem mkUp_set {xs : List α} {k : Int} {i : Nat} (h : i < xs.length) : (mkUp f ct xs k i).set i (f (xs.getD i default) (k + ctL ct (xs.take i))) = mkUp f ct xs k (i + 1) := by
  have hl : (mkL f ct (xs.take i) k).length = i := by rw [mkL_len]; simp; omega
  rw [mkUp, List.set_append, if_neg (by omega), hl, Nat.sub_self, List.drop_eq_getElem_cons h, List.set_cons_zero, mkUp, take1 h, mkL_app]
  simp [mkL]
theorem ctL_bd {M : Int} : ∀ {xs : List α}, (∀ x ∈ xs, 0 ≤ ct x ∧ ct x ≤ M) → 0 ≤ ctL ct xs ∧ ctL ct xs ≤ xs.length * M
  | [], _ => by simp [ctL]
  | x :: xs, h => by
    obtain ⟨h1, h2⟩ := h x (by simp)
    obtain ⟨h3, h4⟩ := ctL_bd (M := M) fun y hy => h y (List.mem_cons_of_mem _ hy)
    simp only [ctL, List.length_cons]
    push_cast
    rw [Int.add_mul]
    omega
theorem ctL_bdt {M : Int} {xs : List α} (hM : 0 ≤ M) (h : ∀ x ∈ xs, 0 ≤ ct x ∧ ct x ≤ M) (i : Nat) : 0 ≤ ctL ct (xs.take i) ∧ ctL ct (xs.take i) ≤ xs.length * M := by
  obtain ⟨h1, h2⟩ := ctL_bd (xs := xs.take i) fun x hx => h x (List.mem_of_mem_take hx)
  refine ⟨h1, Int.le_trans h2 (Int.mul_le_mul_of_nonneg_right ?_ hM)⟩
  simp; omega
theorem mkL_get {xs : List α} {k : Int} {i : Nat} (h : i < xs.length) : (mkL f ct xs k)[i]? = some (f (xs.getD i default) (k + ctL ct (xs.take i))) := by
  have := congrArg (fun l => l[i]?) (mkUp_set (f := f) (ct := ct) (k := k) h)
  have hl : i < (mkUp f ct xs k i).length := by rw [mkUp_len]; exact h
  rw [List.getElem?_set_self hl] at this
  rw [this]
  have e : mkL f ct xs k = mkL f ct (xs.take (i + 1)) k ++ mkL f ct (xs.drop (i + 1)) (k + ctL ct (xs.take (i + 1))) := by rw [← mkL_app, List.take_append_drop]
  have hl2 : i < (mkL f ct (xs.take (i + 1)) k).length := by rw [mkL_len]; simp; omega
  rw [e, mkUp, List.getElem?_append_left hl2, List.getElem?_append_left hl2]
def ctK (n : Int) (_ : α) : Int := n
theorem ctL_const {n : Int} : ∀ xs : List α, ctL (ctK n) xs = n * xs.length
  | [] => by simp [ctL]
  | x :: xs => by
    simp only [ctL, ctL_const xs, List.length_cons, ctK]
    push_cast
    rw [Int.mul_add]; omega
end
def likeLs : List MC → List MC → Prop
  | [], [] => True
  | c :: cs, d :: ds => like c d ∧ likeLs cs ds
  | _, _ => False
theorem likeLs_get : ∀ {cs ds : List MC}, likeLs cs ds → cs.length = ds.length ∧ ∀ (j : Nat) (c d : MC), cs[j]? = some c → ds[j]? = some d → like c d
  | [], [], _ => ⟨rfl, fun j c d hj => by simp at hj⟩
  | c :: cs, d :: ds, h => by
    obtain ⟨h1, h2⟩ := likeLs_get h.2
    refine ⟨by simp [h1], fun j x y hx hy => ?_⟩
    cases j with
    | zero => obtain rfl := Option.some.inj hx; obtain rfl := Option.some.inj hy; exact h.1
    | succ j => exact h2 j x y hx hy
  | [], _ :: _, h => h.elim
  | _ :: _, [], h => h.elim
theorem likeR_map {α : Type} {c : α → List MC} {xs ys : List α} (hl : xs.length = ys.length) (hc : ∀ x y, likeLs (c x) (c y)) : likeR (xs.map c) (ys.map c) := by
  refine ⟨by simp [hl], fun i r r' h1 h2 => ?_⟩
  rw [List.getElem?_map] at h1 h2
  obtain ⟨x, _, rfl⟩ := Option.map_eq_some_iff.1 h1
  obtain ⟨y, _, rfl⟩ := Option.map_eq_some_iff.1 h2
  exact likeLs_get (hc x y)
theorem lab_map_get {α : Type} [Inhabited α] {c : α → List MC} {B : Nat → Nat → Tk} {xs : List α} {i : Nat} {x : α} (h : xs[i]? = some x) : (labR true B 0 (xs.map c))[i]? = some (labRow true (B i) 0 (c x)) := by
  rw [labR_get, List.getElem?_map, h, Nat.zero_add]; rfl
theorem lab_map_set {α : Type} {c : α → List MC} {B : Nat → Nat → Tk} {xs : List α} {i : Nat} {x : α} : (labR true B 0 (xs.map c)).set i (labRow true (B i) 0 (c x)) = labR true B 0 ((xs.set i x).map c) := by
  have := labR_set (o := true) (B := B) (xs.map c) 0 i (c x)
  rw [Nat.zero_add] at this
  rw [this, List.map_set]
section
variable {α : Type} [Inhabited α] {f : α → Int → α} {ct : α → Int} {c : α → List MC} {xs : List α} {k : Int} {B : Nat → Nat → Tk} {i : Nat}
theorem sUp0 : Side (labR true B 0 ((mkUp f ct xs k 0).map c) = labR true B 0 (xs.map c)) := ⟨by rw [mkUp_zero]⟩
theorem sUpE (h : xs.length ≤ i) : Side (labR true B 0 ((mkUp f ct xs k i).map c) = labR true B 0 ((mkL f ct xs k).map c)) := ⟨by rw [mkUp_all h]⟩
theorem sK0 : Side (k + ctL ct (xs.take 0) = k) := ⟨by simp [ctL]⟩
theorem sKE (h : xs.length ≤ i) : Side (k + ctL ct (xs.take i) = k + ctL ct xs) := ⟨by rw [List.take_of_length_le h]⟩
theorem sLenM : Side (xs.length = (xs.map c).length) := ⟨by rw [List.length_map]⟩
theorem sWrap {a b : Int} (h : a = b + 1) (h1 : -9223372036854775808 ≤ b + 1) (h2 : b + 1 ≤ 9223372036854775807) : Side (a = IntKind.i64.wrap (b + 1)) := ⟨by rw [wrapi h1 h2, h]⟩
theorem sFlatL {rows : List (List MC)} (h : AllF rows) : Side (∀ r ∈ labR true B 0 rows, ∀ c ∈ r, c.flat = true) := ⟨lab_flat h⟩
end
theorem apart_row {B : Nat → Tk} (hB : ∀ j j' x, (B j).B x → (B j').B x → j = j') {o : Nat} {cs0 : List MC} (hp : cs0.all plainC = true := by rfl) : Apart (tokOf (.agg (labRow true B o cs0))) := fun i j i' j' x h1 h2 => by
  have key : ∀ i j, (tokOf (.agg (labRow true B o cs0)) i j).B x → i = 0 ∧ (B (o + j)).B x := fun i j h => by
    cases i with
    | succ i => exact h.elim
    | zero =>
      refine ⟨rfl, ?_⟩
      have h : (tokC ((labRow true B o cs0).getD j .dead)).B x := h
      rw [List.getD_eq_getElem?_getD, labRow_get] at h
      cases hj : cs0[j]? with
      | none => rw [hj] at h; exact h.elim
      | some c =>
        rw [hj] at h
        have hc := List.all_eq_true.1 hp c (List.mem_of_getElem? hj)
        cases c <;> first | exact h.elim | exact h | cases hc
  have h3 := key i j h1; have h4 := key i' j' h2
  exact ⟨h3.1.trans h4.1.symm, by have := hB _ _ x h3.2 h4.2; omega⟩
theorem nin_row {B : Nat → Tk} (hB : ∀ j j' x, (B j).B x → (B j').B x → j = j') {o j x : Nat} (hx : (B j).B x) {cs0 : List MC} (hj : (j < o || o + cs0.length ≤ j) = true) (h : in1 x (.agg (labRow true B o cs0))) (hp : cs0.all plainC = true := by rfl) : False := by
  obtain ⟨c, hc, h2⟩ := h
  obtain ⟨i, hi⟩ := List.getElem?_of_mem hc
  have hlt := (List.getElem?_eq_some_iff.1 hi).1
  rw [labRow_len] at hlt
  rw [labRow_get] at hi
  obtain ⟨d, hd, rfl⟩ := Option.map_eq_some_iff.1 hi
  have hpc := List.all_eq_true.1 hp d (List.mem_of_getElem? hd)
  have h3 : (B (o + i)).B x := by cases d <;> first | exact h2.elim | exact h2 | cases hpc
  have := hB _ _ x hx h3
  simp at hj
  omega
theorem pure_eq {f : Nat} {args : List MV} {k1 k2 : Int} (h : Pure PP false f args (oi k1)) (e : k2 = k1) : Pure PP false f args (oi k2) := e ▸ h
theorem sKEo {α : Type} {ct : α → Int} {xs : List α} {k : Int} {i : Nat} {p : Prop} (hp : p) (h : xs.length ≤ i) : Side (p ∧ Value.int .i64 (k + ctL ct (xs.take i)) = Value.int .i64 (k + ctL ct xs) ∧ True) := ⟨hp, by rw [List.take_of_length_le h], trivial⟩
theorem tmark_eq {f : Nat} {x x' : MV} {k k1 k2 : Int} (h : TMark PP f x k x' k1) (e : k2 = k1) : TMark PP f x k x' k2 := e ▸ h
theorem sLd1 {X : List (List MC)} {i k off : Nat} {r : List MC} {c : MC} (h : i < X.length) (hk : k = i) (hr : r.drop off = c :: r.drop (off + 1)) : Side (1 ≤ (List.drop off ((X.set i r).getD (0 + k) [])).length) := ⟨by
  subst hk; rw [setGet h, hr]; simp⟩
/- ------------------------------------------------ the kinds -/
def mkTwo (_ : Two) (k : Int) : Two := ⟨k, k + 1⟩
def mkTwos (xs : List Two) (k : Int) : List Two := mkL mkTwo (ctK 2) xs k
def mkBool (_ : Bool) (k : Int) : Bool := mkB k
def mkBools (xs : List Bool) (k : Int) : List Bool := mkL mkBool (ctK 1) xs k
def mkIns (_ : Ins) (k : Int) : Ins := ⟨k, k + 1, k + 2, k + 3⟩
def mkInss (xs : List Ins) (k : Int) : List Ins := mkL mkIns (ctK 4) xs k
def mkTold (_ : Told) (k : Int) : Told := ⟨k, ⟨k + 1, k + 2⟩, k + 3, k + 4⟩
def mkTolds (xs : List Told) (k : Int) : List Told := mkL mkTold (ctK 5) xs k
def ctEntry (e : Entry) : Int := 5 + 2 * e.run.reads.length + 2 * e.run.puts.length
def mkEntry (e : Entry) (k : Int) : Entry := ⟨mkB k, ⟨k + 1, k + 2⟩, ⟨mkTwos e.run.reads (k + 3), mkTwos e.run.puts (k + 3 + 2 * e.run.reads.length), k + 3 + 2 * e.run.reads.length + 2 * e.run.puts.length, k + 4 + 2 * e.run.reads.length + 2 * e.run.puts.length⟩⟩
def mkRun (r : Run) (k : Int) : Run := ⟨mkTwos r.reads k, mkTwos r.puts (k + 2 * r.reads.length), r.c, r.d⟩
def mkRunE (e : Entry) (k : Int) : Entry := ⟨e.none, e.q, mkRun e.run k⟩
def mkEntries (xs : List Entry) (k : Int) : List Entry := mkL mkEntry ctEntry xs k
def ctEntries (xs : List Entry) : Int := ctL ctEntry xs
def ctVote (v : Vote) : Int := 6 + 2 * v.e.run.reads.length + 2 * v.e.run.puts.length
def mkVote (v : Vote) (k : Int) : Vote := ⟨k, ⟨mkB (k + 1), ⟨k + 2, k + 3⟩, ⟨mkTwos v.e.run.reads (k + 4), mkTwos v.e.run.puts (k + 4 + 2 * v.e.run.reads.length), k + 4 + 2 * v.e.run.reads.length + 2 * v.e.run.puts.length, k + 5 + 2 * v.e.run.reads.length + 2 * v.e.run.puts.length⟩⟩⟩
def mkVotes (xs : List Vote) (k : Int) : List Vote := mkL mkVote ctVote xs k
def ctVotes (xs : List Vote) : Int := ctL ctVote xs
def mkAcc (a : Acc) (k : Int) : Acc := ⟨a.p, mkVotes a.votes k⟩
theorem ctTwos (xs : List Two) : ctL (ctK 2) xs = 2 * xs.length := ctL_const xs
theorem ctEntry_bd {e : Entry} (h : e.ok lim) : 0 ≤ ctEntry e ∧ ctEntry e ≤ 5000000 := by
  have h1 : e.run.reads.length ≤ 1048576 := h.1
  have h2 : e.run.puts.length ≤ 1048576 := h.2
  unfold ctEntry; omega
theorem ctVote_bd {e : Vote} (h : e.ok lim) : 0 ≤ ctVote e ∧ ctVote e ≤ 5000001 := by
  have h1 : e.e.run.reads.length ≤ 1048576 := h.1
  have h2 : e.e.run.puts.length ≤ 1048576 := h.2
  unfold ctVote; omega
end Mg

/- Lists of trees that fill up. No condition. -/
namespace Mg
open Go Go.RowKit
set_option linter.unusedVariables false
set_option linter.unusedSectionVars false
set_option linter.unusedSectionVars false
/-- A list of which the first ones are trees already. -/
def rowsT {α : Type} (Bf : Nat → Nat → Tk) (c : α → List MC) (xs : List α) (tl : List (List MC)) (i : Nat) : List (List MC) := labR true Bf 0 ((xs.take i).map c) ++ tl.drop i
def noTk : Tk := ⟨fun _ => False, undef⟩
def tkAt : Option MC → Tk → Tk
  | some (.fz _), t => t
  | _, t => noTk
/-- The blocks of the trees so far, with those of one more. -/
def updT (Bf : Nat → Nat → Tk) (i : Nat) (r : List MC) (B : Nat → Tk) : Nat → Nat → Tk := fun i' j => if i' = i then tkAt r[j]? (B j) else Bf i' j
structure FillInv {α : Type} (Bf : Nat → Nat → Tk) (c : α → List MC) (xs : List α) (i : Nat) : Prop where
  ap : Apart Bf
  inn : ∀ i' j x, (Bf i' j).B x → ∃ r d, ((xs.take i).map c)[i']? = some r ∧ r[j]? = some d ∧ inC x (labc true (Bf i' j) d)
section
variable {α : Type} {Bf : Nat → Nat → Tk} {c : α → List MC} {xs : List α} {tl : List (List MC)} {i m : Nat}
theorem FillInv.zero : FillInv (fun _ _ => noTk) c xs 0 := ⟨fun _ _ _ _ _ h => h.elim, fun _ _ _ h => h.elim⟩
theorem rowsT_zero : rowsT Bf c xs tl 0 = tl := by simp [rowsT, labR]
theorem rowsT_len (hl : tl.length = xs.length) : (rowsT Bf c xs tl i).length = xs.length := by simp [rowsT, labR_len, hl]; omega
theorem rowsT_all (hl : tl.length = xs.length) (h : xs.length ≤ i) : rowsT Bf c xs tl i = labR true Bf 0 (xs.map c) := by
  rw [rowsT, List.take_of_length_le h, List.drop_eq_nil_of_le (by omega), List.append_nil]
theorem labRow_flat (hc : ∀ x, (c x).all MC.frz = true) {o : Bool} {B : Nat → Tk} {x : α} : ∀ d ∈ labRow o B 0 (c x), d.flat = true := fun d hd => by
  obtain ⟨j, hj⟩ := List.getElem?_of_mem hd
  rw [labRow_get] at hj
  obtain ⟨d0, h0, rfl⟩ := Option.map_eq_some_iff.1 hj
  have := List.all_eq_true.1 (hc x) d0 (List.mem_of_getElem? h0)
  cases d0 <;> first | (cases this; done) | rfl
theorem sFlatT (hc : ∀ x, (c x).all MC.frz = true) (ht : ∀ r ∈ tl, ∀ d ∈ r, d.flat = true) : Side (∀ r ∈ rowsT Bf c xs tl i, ∀ d ∈ r, d.flat = true) := ⟨fun r hr d hd => by
  rcases List.mem_append.1 hr with hr | hr
  · obtain ⟨k, hk⟩ := List.getElem?_of_mem hr
    rw [labR_get] at hk
    obtain ⟨r0, h0, rfl⟩ := Option.map_eq_some_iff.1 hk
    rw [List.getElem?_map] at h0
    obtain ⟨x, _, rfl⟩ := Option.map_eq_some_iff.1 h0
    exact labRow_flat hc d hd
  · exact ht r (List.mem_of_mem_drop hr) d hd⟩
end
section
variable {α : Type} [Inhabited α] {Bf : Nat → Nat → Tk} {c : α → List MC} {xs : List α} {tl : List (List MC)} {i m : Nat}
theorem rowsT_getD {r : List MC} (hl : tl.length = xs.length) (h : i < xs.length) (hr : tl[i]? = some r) : (rowsT Bf c xs tl i).getD (0 + i) [] = r := by
  have hll : (labR true Bf 0 ((xs.take i).map c)).length = i := by rw [labR_len]; simp; omega
  rw [Nat.zero_add, List.getD_eq_getElem?_getD, rowsT, List.getElem?_append_right (by omega), hll, Nat.sub_self, List.getElem?_drop, Nat.add_zero, hr]; rfl
theorem labR_app (o : Bool) (B : Nat → Nat → Tk) : ∀ (a b : List (List MC)) (k : Nat), labR o B k (a ++ b) = labR o B k a ++ labR o B (k + a.length) b
  | [], b, k => by simp [labR]
  | r :: a, b, k => by
    simp only [List.cons_append, labR, labR_app o B a b (k + 1), List.length_cons]
    rw [show k + 1 + a.length = k + (a.length + 1) by omega]
theorem labR_congr {o : Bool} {B B' : Nat → Nat → Tk} : ∀ (rows : List (List MC)) (k : Nat), (∀ i, k ≤ i → i < k + rows.length → B i = B' i) → labR o B k rows = labR o B' k rows
  | [], k, _ => rfl
  | r :: rows, k, h => by
    simp only [labR]
    rw [h k (Nat.le_refl _) (by simp), labR_congr rows (k + 1) fun i h1 h2 => h i (by omega) (by simp; omega)]
theorem labRow_upd {r : List MC} {B : Nat → Tk} : labRow true (updT Bf i r B i) 0 r = labRow true B 0 r := by
  apply List.ext_getElem?
  intro j
  rw [labRow_get, labRow_get]
  cases hj : r[j]? with
  | none => rfl
  | some d =>
    simp only [Option.map_some, Nat.zero_add, updT, if_true]
    rw [hj]
    cases d <;> rfl
theorem FillInv.stepB (h : FillInv Bf c xs i) (hi : i < xs.length) {B : Nat → Tk} {N : Bk} (hB : ∀ j j' x rows rows', (c (xs.getD i default))[j]? = some (.fz rows) → (c (xs.getD i default))[j']? = some (.fz rows') → (B j).B x → (B j').B x → j = j') (hN : ∀ j x, (B j).B x → N x)
    (hd : ∀ r ∈ rowsT Bf c xs tl i, ∀ d ∈ r, disC N d) : FillInv (updT Bf i (c (xs.getD i default)) B) c xs (i + 1) := by
  have hin : ∀ i' j x, (Bf i' j).B x → i' < i ∧ ¬ N x := fun i' j x hx => by
    obtain ⟨r, d, h1, h2, h3⟩ := h.inn i' j x hx
    have hlt := (List.getElem?_eq_some_iff.1 h1).1
    refine ⟨by simp at hlt; omega, ?_⟩
    have h4 : labRow true (Bf i') 0 r ∈ rowsT Bf c xs tl i := List.mem_append_left _ (List.mem_of_getElem? (by rw [labR_get, h1, Nat.zero_add]; rfl))
    have h5 : labc true (Bf i' j) d ∈ labRow true (Bf i') 0 r := List.mem_of_getElem? (by rw [labRow_get, h2, Nat.zero_add]; rfl)
    have h6 := hd _ h4 _ h5
    intro h7
    generalize labc true (Bf i' j) d = dd at h3 h6
    cases dd <;> first | exact h3.elim | exact h6 x h3 h7
  have hnew : ∀ j x, (tkAt (c (xs.getD i default))[j]? (B j)).B x → (B j).B x ∧ ∃ rows, (c (xs.getD i default))[j]? = some (.fz rows) := fun j x hx => by
    unfold tkAt at hx
    split at hx
    · rename_i rows hr; exact ⟨hx, rows, hr⟩
    · exact hx.elim
  refine ⟨fun i1 j1 i2 j2 x h1 h2 => ?_, fun i' j x hx => ?_⟩
  · simp only [updT] at h1 h2
    split at h1 <;> split at h2
    · rename_i e1 e2
      obtain ⟨g1, r1, g2⟩ := hnew _ _ h1
      obtain ⟨g3, r2, g4⟩ := hnew _ _ h2
      exact ⟨e1.trans e2.symm, hB j1 j2 x _ _ g2 g4 g1 g3⟩
    · exact absurd (hN _ _ (hnew _ _ h1).1) (hin i2 j2 x h2).2
    · exact absurd (hN _ _ (hnew _ _ h2).1) (hin i1 j1 x h1).2
    · exact h.ap i1 j1 i2 j2 x h1 h2
  · have htk : (xs.take (i + 1)).map c = (xs.take i).map c ++ [c (xs.getD i default)] := by rw [take1 hi]; simp
    have hll : ((xs.take i).map c).length = i := by simp; omega
    simp only [updT] at hx ⊢
    by_cases e : i' = i
    · subst e
      rw [if_pos rfl] at hx ⊢
      obtain ⟨h1, rows, h2⟩ := hnew j x hx
      refine ⟨_, _, by rw [htk, List.getElem?_append_right (by omega), hll, Nat.sub_self]; rfl, h2, ?_⟩
      rw [h2] at hx ⊢
      exact hx
    · rw [if_neg e] at hx ⊢
      obtain ⟨r, d, h1, h2, h3⟩ := h.inn i' j x hx
      exact ⟨r, d, by rw [htk, List.getElem?_append_left (List.getElem?_eq_some_iff.1 h1).1]; exact h1, h2, h3⟩
theorem FillInv.step (h : FillInv Bf c xs i) (hi : i < xs.length) {B : Nat → Nat → Tk} (hB : Apart B) (hd : ∀ r ∈ rowsT Bf c xs tl i, ∀ d ∈ r, disC (Any B) d) :
    FillInv (updT Bf i (c (xs.getD i default)) (B 0)) c xs (i + 1) :=
  h.stepB hi (N := Any B) (fun j j' x _ _ _ _ h1 h2 => (hB 0 j 0 j' x h1 h2).2) (fun j x hx => ⟨0, j, hx⟩) hd
theorem rowsT_set (hl : tl.length = xs.length) (hi : i < xs.length) {B : Nat → Tk} : (rowsT Bf c xs tl i).set (0 + i) (labRow true B 0 (c (xs.getD i default))) = rowsT (updT Bf i (c (xs.getD i default)) B) c xs tl (i + 1) := by
  have hll : (labR true Bf 0 ((xs.take i).map c)).length = i := by rw [labR_len]; simp; omega
  have hl2 : ((xs.take i).map c).length = i := by simp; omega
  rw [rowsT, Nat.zero_add, List.set_append, if_neg (by omega), hll, Nat.sub_self, List.drop_eq_getElem_cons (by omega), List.set_cons_zero, rowsT, take1 hi, List.map_append, labR_app, hl2, Nat.zero_add]
  rw [List.append_assoc]
  congr 1
  · exact labR_congr _ 0 fun k h1 h2 => by
      rw [hl2] at h2
      funext j
      simp only [updT]
      rw [if_neg (by omega)]
  · simp only [List.map_cons, List.map_nil, labR, List.cons_append, List.nil_append]
    rw [labRow_upd]
theorem sIxT {k : Int} {n : Nat} {r : List MC} (hl : tl.length = xs.length) (h0 : k = i) (h : i < xs.length) (hn : n = xs.length) (hr : tl[i]? = some r) (hm : r.length = m) :
    Side ((0 ≤ k ∧ k < n) ∧ 0 + k.toNat < (rowsT Bf c xs tl i).length ∧ ((rowsT Bf c xs tl i).getD (0 + k.toNat) []).length = m) := by
  subst h0
  rw [Int.toNat_natCast, rowsT_len hl, rowsT_getD hl h hr, hn]
  exact ⟨⟨by omega, by omega⟩, by omega, hm⟩
theorem sStT {off n z : Nat} {k : Nat} {r : List MC} (hl : tl.length = xs.length) (hk : k = i) (h : i < xs.length) (hr : tl[i]? = some r) (hb : Nat.ble (off + n) r.length = true) (hz : n = z) :
    Side ((0 + k < (rowsT Bf c xs tl i).length ∧ off + n ≤ ((rowsT Bf c xs tl i).getD (0 + k) []).length) ∧ n = z) := by
  subst hk
  rw [rowsT_len hl, rowsT_getD hl h hr]
  exact ⟨⟨by omega, Nat.le_of_ble_eq_true hb⟩, hz⟩
theorem sSetT {k off : Nat} {r cs : List MC} {B : Nat → Tk} (hl : tl.length = xs.length) (hk : k = i) (h : i < xs.length) (hr : tl[i]? = some r) (he : putAt r off cs = labRow true B 0 (c (xs.getD i default))) :
    Side (rowsT (updT Bf i (c (xs.getD i default)) B) c xs tl (i + 1) = (rowsT Bf c xs tl i).set (0 + k) (putAt ((rowsT Bf c xs tl i).getD (0 + k) []) off cs)) := by
  subst hk
  rw [rowsT_getD hl h hr, he, rowsT_set hl h]; exact ⟨rfl⟩
theorem sLdT {k off n : Nat} {r cs : List MC} (hl : tl.length = xs.length) (hk : k = i) (h : i < xs.length) (hr : tl[i]? = some r) (hb : Nat.ble n (r.drop off).length = true) (he : (r.drop off).take n = cs) :
    Side (n ≤ (List.drop off ((rowsT Bf c xs tl i).getD (0 + k) [])).length ∧ MV.agg (List.take n (List.drop off ((rowsT Bf c xs tl i).getD (0 + k) []))) = MV.agg cs) := by
  subst hk
  rw [rowsT_getD hl h hr, he]; exact ⟨⟨Nat.le_of_ble_eq_true hb, rfl⟩⟩
end
theorem sZ0 {α : Type} {Bf : Nat → Nat → Tk} {c : α → List MC} {xs : List α} {z : List MC} {n : Nat} (h : n = xs.length) : Side (rowsT Bf c xs (List.replicate xs.length z) 0 = List.replicate n z) := ⟨by rw [rowsT_zero, h]⟩
theorem rep_get {z : List MC} {n i : Nat} (h : i < n) : (List.replicate n z)[i]? = some z := by simp [h]
theorem rep_flat {z : List MC} {n : Nat} (hz : z.all MC.flat = true) : ∀ r ∈ List.replicate n z, ∀ d ∈ r, d.flat = true := fun r hr d hd => by
  rw [List.eq_of_mem_replicate hr] at hd; exact List.all_eq_true.1 hz d hd
theorem labRow_sc {B : Nat → Tk} : ∀ {cs : List MC} {k : Nat}, (∀ c ∈ cs, ∃ v, c = .sc v) → labRow true B k cs = cs
  | [], _, _ => rfl
  | c :: cs, k, h => by
    obtain ⟨v, rfl⟩ := h c (by simp)
    simp only [labRow, labRow_sc (cs := cs) fun c hc => h c (List.mem_cons_of_mem _ hc)]; rfl
theorem labR_sc {B : Nat → Nat → Tk} : ∀ {rows : List (List MC)} {k : Nat}, (∀ r ∈ rows, ∀ c ∈ r, ∃ v, c = .sc v) → labR true B k rows = rows
  | [], _, _ => rfl
  | r :: rows, k, h => by simp only [labR, labRow_sc (h r (by simp)), labR_sc (rows := rows) fun r hr => h r (List.mem_cons_of_mem _ hr)]
def scB : MC → Bool
  | .sc _ => true
  | _ => false
/-- A flat list at the end. -/
theorem endFlat {α : Type} [Inhabited α] {c : α → List MC} {xs : List α} {len : Nat} {rows : List (List MC)} (hr : rows = xs.map c) (hl : len = xs.length) (hf : ∀ x, (c x).all MC.frz = true) (hc : ∀ x, (c x).all scB = true) :
    ∃ B : Nat → Nat → Tk, Side (len = (xs.map c).length ∧ rows = labR true B 0 (xs.map c)) ∧ Side (Apart B) ∧ Side (AllF (xs.map c)) :=
  ⟨fun _ _ => noTk, ⟨by rw [hl, List.length_map], by rw [hr, labR_sc fun r hr => by obtain ⟨x, _, rfl⟩ := List.mem_map.1 hr; exact fun d hd => (by have := List.all_eq_true.1 (hc x) d hd; cases d <;> first | exact ⟨_, rfl⟩ | (cases this; done))]⟩, ⟨fun _ _ _ _ _ h => h.elim⟩, ⟨map_frz hf⟩⟩
theorem endTree {α : Type} [Inhabited α] {c : α → List MC} {xs : List α} {tl : List (List MC)} {len i : Nat} {Bf : Nat → Nat → Tk} (hi : FillInv Bf c xs i) (ht : tl.length = xs.length) (h : xs.length ≤ i) (hl : len = xs.length) (hf : ∀ x, (c x).all MC.frz = true) :
    ∃ B : Nat → Nat → Tk, Side (len = (xs.map c).length ∧ rowsT Bf c xs tl i = labR true B 0 (xs.map c)) ∧ Side (Apart B) ∧ Side (AllF (xs.map c)) :=
  ⟨Bf, ⟨by rw [hl, List.length_map], rowsT_all ht h⟩, ⟨hi.ap⟩, ⟨map_frz hf⟩⟩
/-- Trees of a struct, apart, reckoned. -/
def disAll (B : Bk) : List MC → Prop
  | [] => True
  | .tr _ B' _ _ :: cs => (∀ x, B x → ¬ B' x) ∧ disAll B cs
  | _ :: cs => disAll B cs
def apartL : List MC → Prop
  | [] => True
  | .tr _ B _ _ :: cs => disAll B cs ∧ apartL cs
  | _ :: cs => apartL cs
theorem disAll_ok {B : Bk} : ∀ {cs : List MC}, disAll B cs → ∀ c ∈ cs, ∀ x, B x → ¬ inC x c
  | [], _, c, hc => by cases hc
  | d :: cs, h, c, hc => fun x hx hi => by
    rcases List.mem_cons.1 hc with rfl | hc
    · cases c <;> first | exact hi.elim | exact h.1 x hx hi
    · have h' : disAll B cs := by cases d <;> first | exact h | exact h.2
      exact disAll_ok h' c hc x hx hi
theorem apartL_ok : ∀ {cs : List MC}, apartL cs → ∀ (j j' : Nat) (c d : MC), cs[j]? = some c → cs[j']? = some d → ∀ x, inC x c → inC x d → j = j'
  | [], _, j, j', c, d, h1, _ => by simp at h1
  | e :: cs, h, j, j', c, d, h1, h2 => fun x hx hy => by
    have ht : apartL cs := by cases e <;> first | exact h | exact h.2
    have hd : ∀ c ∈ cs, inC x e → ¬ inC x c := fun c hc he => by
      cases e <;> first | exact he.elim | exact disAll_ok h.1 c hc x he
    cases j with
    | zero =>
      cases j' with
      | zero => rfl
      | succ j' =>
        obtain rfl := Option.some.inj h1
        exact absurd hy (hd d (List.mem_of_getElem? (by simpa using h2)) hx)
    | succ j =>
      cases j' with
      | zero =>
        obtain rfl := Option.some.inj h2
        exact absurd hx (hd c (List.mem_of_getElem? (by simpa using h1)) hy)
      | succ j' => rw [apartL_ok ht j j' c d (by simpa using h1) (by simpa using h2) x hx hy]
theorem apart_agg {cs : List MC} (h : apartL cs) : Apart fun i j => ⟨setAt [.agg cs] i j, undef⟩ := fun i j i' j' x h1 h2 => by
  have key : ∀ i j, setAt [.agg cs] i j x → i = 0 ∧ ∃ c, cs[j]? = some c ∧ inC x c := fun i j h => by
    cases i with
    | succ i => exact (by simp [setAt, cellsV, inC] at h : False).elim
    | zero =>
      have h : inC x (cs.getD j .dead) := h
      rw [List.getD_eq_getElem?_getD] at h
      cases hj : cs[j]? with
      | none => rw [hj] at h; exact h.elim
      | some c => rw [hj] at h; exact ⟨rfl, c, rfl, h⟩
  obtain ⟨e1, c, hc, h3⟩ := key i j h1
  obtain ⟨e2, d, hd, h4⟩ := key i' j' h2
  exact ⟨e1.trans e2.symm, apartL_ok h j j' c d hc hd x h3 h4⟩
theorem disAll_app {B : Bk} : ∀ {a b : List MC}, disAll B (a ++ b) → disAll B a ∧ disAll B b
  | [], b, h => ⟨trivial, h⟩
  | c :: a, b, h => by
    have h' : disAll B (a ++ b) := by cases c <;> first | exact h | exact h.2
    obtain ⟨h1, h2⟩ := disAll_app h'
    refine ⟨?_, h2⟩
    cases c <;> first | exact h1 | exact ⟨h.1, h1⟩
theorem apartL_app : ∀ {a b : List MC}, apartL (a ++ b) → apartL a ∧ apartL b ∧ ∀ c ∈ a, ∀ d ∈ b, ∀ x, inC x c → ¬ inC x d
  | [], b, h => ⟨trivial, h, fun c hc => by cases hc⟩
  | c :: a, b, h => by
    have ht : apartL (a ++ b) := by cases c <;> first | exact h | exact h.2
    obtain ⟨h1, h2, h3⟩ := apartL_app ht
    refine ⟨?_, h2, fun e he d hd x hx => ?_⟩
    · cases c <;> first | exact h1 | exact ⟨(disAll_app h.1).1, h1⟩
    · rcases List.mem_cons.1 he with rfl | he
      · cases e <;> first | exact hx.elim | exact disAll_ok (disAll_app h.1).2 d hd x hx
      · exact h3 e he d hd x hx
theorem setAt_in {vs : List MV} {i j x : Nat} (h : setAt vs i j x) : ∃ v c, vs[i]? = some v ∧ (cellsV v)[j]? = some c ∧ inC x c := by
  unfold setAt at h
  rw [List.getD_eq_getElem?_getD, List.getD_eq_getElem?_getD] at h
  cases hv : vs[i]? with
  | none => rw [hv] at h; exact (by simp [cellsV, inC] at h : False).elim
  | some v =>
    rw [hv] at h
    cases hc : (cellsV v)[j]? with
    | none => simp only [Option.getD_some, hc] at h; exact h.elim
    | some c => simp only [Option.getD_some, hc] at h; exact ⟨v, c, rfl, hc, h⟩
theorem apart_vs' : ∀ {vs : List MV}, apartL (vs.flatMap cellsV) → ∀ (i j i' j' x : Nat), setAt vs i j x → setAt vs i' j' x → i = i' ∧ j = j'
  | [], _, i, j, _, _, x, h1, _ => by obtain ⟨v, c, hv, _⟩ := setAt_in h1; simp at hv
  | v :: vs, h, i, j, i', j', x, h1, h2 => by
    rw [List.flatMap_cons] at h
    obtain ⟨h3, h4, h5⟩ := apartL_app h
    obtain ⟨a, c, ha, hc, hx⟩ := setAt_in h1
    obtain ⟨b, d, hb, hd, hy⟩ := setAt_in h2
    have hin : ∀ {k : Nat} {e : MV} {g : MC} {l : Nat}, vs[k]? = some e → (cellsV e)[l]? = some g → g ∈ vs.flatMap cellsV := fun h6 h7 => List.mem_flatMap.2 ⟨_, List.mem_of_getElem? h6, List.mem_of_getElem? h7⟩
    cases i with
    | zero =>
      obtain rfl := Option.some.inj ha
      cases i' with
      | zero =>
        obtain rfl := Option.some.inj hb
        exact ⟨rfl, apartL_ok h3 j j' c d hc hd x hx hy⟩
      | succ i' => exact absurd hy (h5 c (List.mem_of_getElem? hc) d (hin (by simpa using hb) hd) x hx)
    | succ i =>
      cases i' with
      | zero =>
        obtain rfl := Option.some.inj hb
        exact absurd hx (h5 d (List.mem_of_getElem? hd) c (hin (by simpa using ha) hc) x hy)
      | succ i' =>
        have := apart_vs' h4 i j i' j' x h1 h2
        exact ⟨by rw [this.1], this.2⟩
theorem apart_vs {vs : List MV} (h : apartL (vs.flatMap cellsV)) : Apart fun i j => ⟨setAt vs i j, undef⟩ := fun i j i' j' x h1 h2 => apart_vs' h i j i' j' x h1 h2
/-- Trees of a struct, apart. -/
theorem apart_none {vs : List MV} (h : ∀ i j, ∀ x, ¬ setAt vs i j x) : Apart fun i j => ⟨setAt vs i j, undef⟩ := fun i j _ _ x h1 => absurd h1 (h i j x)
end Mg

/- Ranges. No condition. -/
namespace Mg
open Go Go.RowKit
set_option maxRecDepth 100000
set_option linter.unusedVariables false
set_option linter.unusedSimpArgs false
attribute [local irreducible] W Pure

def inr (n lo hi : Int) : Bool := decide (lo ≤ n) && decide (n ≤ hi)
theorem c_impl_in (n lo hi : Int) : Pure PP false 96 [oi n, oi lo, oi hi] (ob (inr n lo hi)) := by
  refine Pure.vc [] TTok hmo Go.Proofs.Tryz.func96 (by kernel_rfl) rfl (by kernel_rfl) ?_
  repeat' (first | refine And.intro ?_ ?_ | exact tf | exact ft | refine tt ?_ | refine ff ?_ | exact ⟨trivial⟩ | exact sAll rfl | exact sF1 rfl | exact sBld (by repeat' (first | exact trivial | rfl | exact Nat.le_of_ble_eq_true rfl | refine And.intro ?_ ?_)) rfl | exact sBS (by repeat' (first | exact trivial | rfl | exact Nat.le_of_ble_eq_true rfl | refine And.intro ?_ ?_)) rfl rfl rfl rfl | exact sBSF (by repeat' (first | exact trivial | rfl | exact Nat.le_of_ble_eq_true rfl | refine And.intro ?_ ?_)) rfl rfl rfl rfl | exact sLe rfl | exact Chk.mk (by kernel_rfl) | exact ⟨Chk.mk (by kernel_rfl)⟩ | exact sLeEq rfl rfl | refine fun h => ?_)
  all_goals (refine ⟨?_⟩; simp_all [inr])
  all_goals omega
theorem c_l6Bal (n : Int) : Pure PP false 120 [oi n] (ob (inr n 1 3000)) := by
  refine Pure.vc [] TTok hmo Go.Proofs.Tryz.func120 (by kernel_rfl) rfl (by kernel_rfl) ?_
  repeat' (first | refine And.intro ?_ ?_ | exact tf | exact ft | refine tt ?_ | refine ff ?_ | exact ⟨trivial⟩ | exact sAll rfl | exact sF1 rfl | exact sBld (by repeat' (first | exact trivial | rfl | exact Nat.le_of_ble_eq_true rfl | refine And.intro ?_ ?_)) rfl | exact sBS (by repeat' (first | exact trivial | rfl | exact Nat.le_of_ble_eq_true rfl | refine And.intro ?_ ?_)) rfl rfl rfl rfl | exact sBSF (by repeat' (first | exact trivial | rfl | exact Nat.le_of_ble_eq_true rfl | refine And.intro ?_ ?_)) rfl rfl rfl rfl | exact sLe rfl | exact Chk.mk (by kernel_rfl) | exact ⟨Chk.mk (by kernel_rfl)⟩ | exact sLeEq rfl rfl | refine fun h => ?_)
  all_goals (refine ⟨?_⟩; simp_all [inr])
  all_goals omega
theorem c_l1Num (n : Int) : Pure PP false 160 [oi n] (ob (inr n (-1000000) 1000000)) := by
  refine Pure.vc [] TTok hmo Go.Proofs.Tryz.func160 (by kernel_rfl) rfl (by kernel_rfl) ?_
  repeat' (first | refine And.intro ?_ ?_ | exact tf | exact ft | refine tt ?_ | refine ff ?_ | exact ⟨trivial⟩ | exact sAll rfl | exact sF1 rfl | exact sBld (by repeat' (first | exact trivial | rfl | exact Nat.le_of_ble_eq_true rfl | refine And.intro ?_ ?_)) rfl | exact sBS (by repeat' (first | exact trivial | rfl | exact Nat.le_of_ble_eq_true rfl | refine And.intro ?_ ?_)) rfl rfl rfl rfl | exact sBSF (by repeat' (first | exact trivial | rfl | exact Nat.le_of_ble_eq_true rfl | refine And.intro ?_ ?_)) rfl rfl rfl rfl | exact sLe rfl | exact Chk.mk (by kernel_rfl) | exact ⟨Chk.mk (by kernel_rfl)⟩ | exact sLeEq rfl rfl | refine fun h => ?_)
  all_goals (refine ⟨?_⟩; simp_all [inr])
  all_goals omega
theorem c_l2Box (n : Int) : Pure PP false 161 [oi n] (ob (inr n 0 3)) := by
  refine Pure.vc [] TTok hmo Go.Proofs.Tryz.func161 (by kernel_rfl) rfl (by kernel_rfl) ?_
  repeat' (first | refine And.intro ?_ ?_ | exact tf | exact ft | refine tt ?_ | refine ff ?_ | exact ⟨trivial⟩ | exact sAll rfl | exact sF1 rfl | exact sBld (by repeat' (first | exact trivial | rfl | exact Nat.le_of_ble_eq_true rfl | refine And.intro ?_ ?_)) rfl | exact sBS (by repeat' (first | exact trivial | rfl | exact Nat.le_of_ble_eq_true rfl | refine And.intro ?_ ?_)) rfl rfl rfl rfl | exact sBSF (by repeat' (first | exact trivial | rfl | exact Nat.le_of_ble_eq_true rfl | refine And.intro ?_ ?_)) rfl rfl rfl rfl | exact sLe rfl | exact Chk.mk (by kernel_rfl) | exact ⟨Chk.mk (by kernel_rfl)⟩ | exact sLeEq rfl rfl | refine fun h => ?_)
  all_goals (refine ⟨?_⟩; simp_all [inr])
  all_goals omega
def reqOk (q : Two) : Bool := inr q.a 0 2 && inr q.b 1 1000
theorem c_reqOk (q : Two) : Pure PP false 139 [.agg q.cells] (ob (reqOk q)) := by
  refine Pure.vc [(5, .res (ob (inr q.a 0 2))), (9, .res (ob (inr q.b 1 1000)))] TTok hmo Go.Proofs.Tryz.func139 (by kernel_rfl) rfl (by kernel_rfl) ?_
  repeat' (first | refine And.intro ?_ ?_ | exact tf | exact ft | refine tt ?_ | refine ff ?_ | exact ⟨trivial⟩ | exact sAll rfl | exact sF1 rfl | exact sBld (by repeat' (first | exact trivial | rfl | exact Nat.le_of_ble_eq_true rfl | refine And.intro ?_ ?_)) rfl | exact sBS (by repeat' (first | exact trivial | rfl | exact Nat.le_of_ble_eq_true rfl | refine And.intro ?_ ?_)) rfl rfl rfl rfl | exact sBSF (by repeat' (first | exact trivial | rfl | exact Nat.le_of_ble_eq_true rfl | refine And.intro ?_ ?_)) rfl rfl rfl rfl | exact sLe rfl | exact Chk.mk (by kernel_rfl) | exact ⟨Chk.mk (by kernel_rfl)⟩ | exact sLeEq rfl rfl | exact sAnd (by repeat' constructor) (c_impl_in _ _ _) | refine fun h => ?_)
  all_goals (refine ⟨?_⟩; simp_all [reqOk])
theorem c_l5Req (q : Two) : Pure PP false 133 [.agg q.cells] (ob (reqOk q)) := by
  refine Pure.vc [] TTok hmo Go.Proofs.Tryz.func133 (by kernel_rfl) rfl (by kernel_rfl) ?_
  repeat' (first | refine And.intro ?_ ?_ | exact tf | exact ft | refine tt ?_ | refine ff ?_ | exact ⟨trivial⟩ | exact sAll rfl | exact sF1 rfl | exact sBld (by repeat' (first | exact trivial | rfl | exact Nat.le_of_ble_eq_true rfl | refine And.intro ?_ ?_)) rfl | exact sBS (by repeat' (first | exact trivial | rfl | exact Nat.le_of_ble_eq_true rfl | refine And.intro ?_ ?_)) rfl rfl rfl rfl | exact sBSF (by repeat' (first | exact trivial | rfl | exact Nat.le_of_ble_eq_true rfl | refine And.intro ?_ ?_)) rfl rfl rfl rfl | exact sLe rfl | exact Chk.mk (by kernel_rfl) | exact ⟨Chk.mk (by kernel_rfl)⟩ | exact sLeEq rfl rfl | refine fun h => ?_)
  all_goals (refine ⟨?_⟩; simp_all [reqOk, inr])
  all_goals omega

def saw (xs : List Two) (b : Int) : Bool := xs.any fun x => x.a == b
theorem saw_step {xs : List Two} {b : Int} {i : Nat} (h : i < xs.length) : saw (xs.take (i + 1)) b = (saw (xs.take i) b || (xs.getD i default).a == b) := by
  unfold saw
  rw [getD_get h, List.take_succ_eq_append_getElem h, List.any_append]
  simp only [List.any_cons, List.any_nil, Bool.or_false]
theorem saw_mem {xs : List Two} {b : Int} {i : Nat} (h : i < xs.length) (he : (xs.getD i default).a = b) : saw xs b = true := by
  simp only [saw, List.any_eq_true, beq_iff_eq]
  exact ⟨_, getD_mem h, he⟩
theorem c_l3Saw (xs : List Two) (b : Int) (hx : xs.length ≤ maxLen) : Pure PP false 162 [.one (.fz (xs.map Two.cells)), oi b] (ob (saw xs b)) := by
  have hx' : xs.length ≤ 9223372036854775807 := hx
  refine Pure.vc [] TTok hmo Go.Proofs.Tryz.func162 (by kernel_rfl) rfl (by kernel_rfl) ?_
  repeat' (first | refine And.intro ?_ ?_ | exact tf | exact ft | refine tt ?_ | refine ff ?_ | exact ⟨trivial⟩ | exact sAll rfl | exact sF1 rfl | exact sBld (by repeat' (first | exact trivial | rfl | exact Nat.le_of_ble_eq_true rfl | refine And.intro ?_ ?_)) rfl | exact sBS (by repeat' (first | exact trivial | rfl | exact Nat.le_of_ble_eq_true rfl | refine And.intro ?_ ?_)) rfl rfl rfl rfl | exact sBSF (by repeat' (first | exact trivial | rfl | exact Nat.le_of_ble_eq_true rfl | refine And.intro ?_ ?_)) rfl rfl rfl rfl | exact sLe rfl | exact Chk.mk (by kernel_rfl) | exact ⟨Chk.mk (by kernel_rfl)⟩ | exact sLeEq rfl rfl | refine fun h => ?_)
  refine W.loopC (D := Nat) (fun i => [(14, .row (xs.getD i default).cells)]) TTok hmo
    (fun i => ⟨19, 0, [(0, .one (.ag (xs.map Two.cells))), (1, oi b), (4, ob false), (5, oi i)], []⟩) (fun i => xs.length - i) (fun i => i ≤ xs.length ∧ saw (xs.take i) b = false) 0 [] ⟨by omega, by simp [saw]⟩ ?_ ?_
  · repeat' (first | exact trivial | exact Side.mk rfl | exact Chk.mk (by kernel_rfl) | exact ⟨Chk.mk (by kernel_rfl)⟩ | refine And.intro ?_ ?_ | rfl)
  · intro i ⟨hi, hp⟩
    repeat' (first | refine And.intro ?_ ?_ | exact tf | exact ft | refine tt ?_ | refine ff ?_ | exact ⟨trivial⟩ | exact sAll rfl | exact sF1 rfl | exact sBld (by repeat' (first | exact trivial | rfl | exact Nat.le_of_ble_eq_true rfl | refine And.intro ?_ ?_)) rfl | exact sBS (by repeat' (first | exact trivial | rfl | exact Nat.le_of_ble_eq_true rfl | refine And.intro ?_ ?_)) rfl rfl rfl rfl | exact sBSF (by repeat' (first | exact trivial | rfl | exact Nat.le_of_ble_eq_true rfl | refine And.intro ?_ ?_)) rfl rfl rfl rfl | exact sLe rfl | exact Chk.mk (by kernel_rfl) | exact ⟨Chk.mk (by kernel_rfl)⟩ | exact sLeEq rfl rfl | refine fun h => ?_)
    all_goals simp only [decide_eq_true_eq, decide_eq_false_iff_not, List.length_map, beq_iff_eq, beq_eq_false_iff_ne, ne_eq] at *
    · exact sRow (by omega) (row_at xs _ (by omega)) rfl
    · refine ⟨?_⟩
      have := saw_mem (b := b) (by omega) h
      simp [this]
    · refine ⟨i + 1, [], by omega, ⟨by omega, ?_⟩, ?_⟩
      · rw [saw_step (by omega), hp]; simpa using h
      · repeat' (first | exact trivial | exact Side.mk rfl | exact Chk.mk (by kernel_rfl) | exact ⟨Chk.mk (by kernel_rfl)⟩ | exact ⟨wrap_succ (n := xs.length) (by omega) (by omega)⟩ | refine And.intro ?_ ?_ | rfl)
    · rw [List.take_of_length_le (by omega)] at hp
      refine ⟨?_⟩
      simp [hp]

def atI (xs : List Two) (b : Int) : Int := match xs with
  | [] => -1
  | x :: xs => if x.a = b then 0 else if atI xs b < 0 then -1 else atI xs b + 1
theorem atI_get {b : Int} : ∀ {xs : List Two} {i : Nat}, i < xs.length → saw (xs.take i) b = false → (xs.getD i default).a = b → atI xs b = i
  | [], i, h, _, _ => by simp at h
  | x :: xs, 0, h, _, he => by
    have : x.a = b := he
    simp [atI, this]
  | x :: xs, i + 1, h, hp, he => by
    have h1 : ¬ x.a = b ∧ saw (xs.take i) b = false := by
      simp only [saw, List.take_succ_cons, List.any_cons, Bool.or_eq_false_iff, beq_eq_false_iff_ne, ne_eq] at hp
      exact hp
    have := atI_get (xs := xs) (i := i) (by simpa using h) h1.2 he
    simp only [atI, if_neg h1.1, this]
    rw [if_neg (by omega)]; omega
theorem atI_none {b : Int} : ∀ {xs : List Two}, saw xs b = false → atI xs b = -1
  | [], _ => rfl
  | x :: xs, hp => by
    simp only [saw, List.any_cons, Bool.or_eq_false_iff, beq_eq_false_iff_ne, ne_eq] at hp
    simp only [atI, if_neg hp.1, atI_none (xs := xs) hp.2]
    rfl
theorem atI_neg {b : Int} {xs : List Two} : decide (0 ≤ atI xs b) = saw xs b := by
  induction xs with
  | nil => rfl
  | cons x xs ih =>
    simp only [atI, saw, List.any_cons]
    by_cases h : x.a = b
    · simp [h]
    · simp only [if_neg h]
      have h' : (x.a == b) = false := by simpa using h
      rw [h', Bool.false_or, ← saw, ← ih]
      by_cases g : atI xs b < 0
      · simp [g]
      · rw [if_neg g]; simp; omega
theorem c_l3At (xs : List Two) (b : Int) (hx : xs.length ≤ maxLen) : Pure PP false 163 [.one (.fz (xs.map Two.cells)), oi b] (oi (atI xs b)) := by
  have hx' : xs.length ≤ 9223372036854775807 := hx
  refine Pure.vc [] TTok hmo Go.Proofs.Tryz.func163 (by kernel_rfl) rfl (by kernel_rfl) ?_
  repeat' (first | refine And.intro ?_ ?_ | exact tf | exact ft | refine tt ?_ | refine ff ?_ | exact ⟨trivial⟩ | exact sAll rfl | exact sF1 rfl | exact sBld (by repeat' (first | exact trivial | rfl | exact Nat.le_of_ble_eq_true rfl | refine And.intro ?_ ?_)) rfl | exact sBS (by repeat' (first | exact trivial | rfl | exact Nat.le_of_ble_eq_true rfl | refine And.intro ?_ ?_)) rfl rfl rfl rfl | exact sBSF (by repeat' (first | exact trivial | rfl | exact Nat.le_of_ble_eq_true rfl | refine And.intro ?_ ?_)) rfl rfl rfl rfl | exact sLe rfl | exact Chk.mk (by kernel_rfl) | exact ⟨Chk.mk (by kernel_rfl)⟩ | exact sLeEq rfl rfl | refine fun h => ?_)
  refine W.loopC (D := Nat) (fun i => [(14, .row (xs.getD i default).cells)]) TTok hmo
    (fun i => ⟨20, 0, [(0, .one (.ag (xs.map Two.cells))), (1, oi b), (4, oi 0), (5, oi i)], []⟩) (fun i => xs.length - i) (fun i => i ≤ xs.length ∧ saw (xs.take i) b = false) 0 [] ⟨by omega, by simp [saw]⟩ ?_ ?_
  · repeat' (first | exact trivial | exact Side.mk rfl | exact Chk.mk (by kernel_rfl) | exact ⟨Chk.mk (by kernel_rfl)⟩ | refine And.intro ?_ ?_ | rfl)
  · intro i ⟨hi, hp⟩
    repeat' (first | refine And.intro ?_ ?_ | exact tf | exact ft | refine tt ?_ | refine ff ?_ | exact ⟨trivial⟩ | exact sAll rfl | exact sF1 rfl | exact sBld (by repeat' (first | exact trivial | rfl | exact Nat.le_of_ble_eq_true rfl | refine And.intro ?_ ?_)) rfl | exact sBS (by repeat' (first | exact trivial | rfl | exact Nat.le_of_ble_eq_true rfl | refine And.intro ?_ ?_)) rfl rfl rfl rfl | exact sBSF (by repeat' (first | exact trivial | rfl | exact Nat.le_of_ble_eq_true rfl | refine And.intro ?_ ?_)) rfl rfl rfl rfl | exact sLe rfl | exact Chk.mk (by kernel_rfl) | exact ⟨Chk.mk (by kernel_rfl)⟩ | exact sLeEq rfl rfl | refine fun h => ?_)
    all_goals simp only [decide_eq_true_eq, decide_eq_false_iff_not, List.length_map, beq_iff_eq, beq_eq_false_iff_ne, ne_eq] at *
    · exact sRow (by omega) (row_at xs _ (by omega)) rfl
    · refine ⟨?_⟩
      have := atI_get (b := b) (by omega) hp h
      simp [this]
    · refine ⟨i + 1, [], by omega, ⟨by omega, ?_⟩, ?_⟩
      · rw [saw_step (by omega), hp]; simpa using h
      · repeat' (first | exact trivial | exact Side.mk rfl | exact Chk.mk (by kernel_rfl) | exact ⟨Chk.mk (by kernel_rfl)⟩ | exact ⟨wrap_succ (n := xs.length) (by omega) (by omega)⟩ | refine And.intro ?_ ?_ | rfl)
    · rw [List.take_of_length_le (by omega)] at hp
      refine ⟨?_⟩
      simp [atI_none hp]
end Mg

/- Runs that are right. No condition. -/
namespace Mg
open Go Go.RowKit
set_option maxRecDepth 100000
set_option linter.unusedVariables false
set_option linter.unusedSimpArgs false
attribute [local irreducible] W Pure

def elemOk (lo : Int) (xs : List Two) (i : Nat) : Bool := inr (xs.getD i default).a 0 3 && inr (xs.getD i default).b lo 1000000 && !saw (xs.take i) (xs.getD i default).a
def listOk (lo : Int) (xs : List Two) : Bool := (List.range xs.length).all (elemOk lo xs)
def headOk (r : Run) : Bool := inr r.d 0 3 && inr r.c (-1000000) 1000000 && !(r.d != 0 && (r.c != 0 || decide (0 < r.puts.length))) && !(r.d == 3 && decide (0 < r.reads.length))
def execOk (r : Run) : Bool := headOk r && listOk 0 r.reads && listOk (-1000000) r.puts
theorem listOk_bad {lo : Int} {xs : List Two} {i : Nat} (h : i < xs.length) (he : elemOk lo xs i = false) : listOk lo xs = false := by
  unfold listOk
  rw [List.all_eq_false]
  exact ⟨i, List.mem_range.2 h, by rw [he]; simp⟩
theorem listOk_all {lo : Int} {xs : List Two} {i : Nat} (h : xs.length ≤ i) (he : ∀ j, j < i → j < xs.length → elemOk lo xs j = true) : listOk lo xs = true := by
  unfold listOk
  rw [List.all_eq_true]
  exact fun j hj => he j (by have := List.mem_range.1 hj; omega) (List.mem_range.1 hj)
theorem c_l3Saw' {rows : List (List MC)} {xs : List Two} {b : Int} (e : rows = xs.map Two.cells) (hx : xs.length ≤ maxLen) : Pure PP false 162 [.one (.fz rows), oi b] (ob (saw xs b)) := e ▸ c_l3Saw xs b hx
theorem c_l3At' {rows : List (List MC)} {xs : List Two} {b : Int} (e : rows = xs.map Two.cells) (hx : xs.length ≤ maxLen) : Pure PP false 163 [.one (.fz rows), oi b] (oi (atI xs b)) := e ▸ c_l3At xs b hx
end Mg

/- Runs that are right: spec's walk. No condition. -/
namespace Mg
open Go Go.RowKit
set_option maxRecDepth 100000
set_option linter.unusedVariables false
set_option linter.unusedSimpArgs false
attribute [local irreducible] W Pure
theorem atI_saw {xs : List Two} {b : Int} : atI xs b ≥ 0 ↔ saw xs b = true := by
  rw [← atI_neg, decide_eq_true_eq]
theorem atI_nsaw {xs : List Two} {b : Int} : ¬ atI xs b ≥ 0 ↔ saw xs b = false := by
  rw [← atI_neg, decide_eq_false_iff_not]
set_option maxHeartbeats 2000000 in
theorem c_spec_ExecOk (x : Run) (hx : x.ok lim) : Pure PP false 134 [.agg x.cells] (ob (execOk x)) := by
  obtain ⟨rs, ps, c, d⟩ := x
  have hxr : rs.length ≤ 1048576 := hx.1
  have hxp : ps.length ≤ 1048576 := hx.2
  by_cases hh : headOk ⟨rs, ps, c, d⟩ = true
  · refine Pure.vc [(16, .res (ob (inr c (-1000000) 1000000)))] TTok hmo Go.Proofs.Tryz.func134 (by kernel_rfl) rfl (by kernel_rfl) ?_
    repeat' (first | refine And.intro ?_ ?_ | exact tf | exact ft | refine tt ?_ | refine ff ?_ | exact ⟨trivial⟩ | exact sAll rfl | exact sF1 rfl | exact sBld (by repeat' (first | exact trivial | rfl | exact Nat.le_of_ble_eq_true rfl | refine And.intro ?_ ?_)) rfl | exact sBS (by repeat' (first | exact trivial | rfl | exact Nat.le_of_ble_eq_true rfl | refine And.intro ?_ ?_)) rfl rfl rfl rfl | exact sBSF (by repeat' (first | exact trivial | rfl | exact Nat.le_of_ble_eq_true rfl | refine And.intro ?_ ?_)) rfl rfl rfl rfl | exact sLe rfl | exact Chk.mk (by kernel_rfl) | exact ⟨Chk.mk (by kernel_rfl)⟩ | exact sLeEq rfl rfl | exact sAnd (by repeat' constructor) (c_l1Num _) | refine fun h => ?_)
    all_goals try (exfalso; simp_all [headOk, inr]; done)
    all_goals try (exfalso; simp_all [headOk, inr]; omega)
    all_goals repeat (first | clear h | (rename_i hz; clear hz))
    all_goals (
     refine W.loopC (D := Nat) (fun i => [(56, .row (rs.getD i default).cells), (59, .res (ob (inr (rs.getD i default).a 0 3))), (65, .row (rs.getD i default).cells), (74, .row (rs.getD i default).cells), (87, .row (rs.getD i default).cells), (90, .res (ob (saw (rs.take i) (rs.getD i default).a)))]) TTok hmo
      (fun i => ⟨131, 1, [(1, .one (.ptr 0 0 0)), (2, ob false), (3, oi i)], [(0, .box [.ag (rs.map Two.cells), .ag (ps.map Two.cells), i6 c, i6 d])]⟩) (fun i => rs.length - i) (fun i => i ≤ rs.length ∧ ∀ j, j < i → elemOk 0 rs j = true) 0 [] ⟨by omega, fun j hj => by omega⟩ ?_ ?body)
    case body =>
      intro i ⟨hi, hp⟩
      repeat' (first | refine And.intro ?_ ?_ | exact tf | exact ft | refine tt ?_ | refine ff ?_ | exact ⟨trivial⟩ | exact sAll rfl | exact sF1 rfl | exact sBld (by repeat' (first | exact trivial | rfl | exact Nat.le_of_ble_eq_true rfl | refine And.intro ?_ ?_)) rfl | exact sBS (by repeat' (first | exact trivial | rfl | exact Nat.le_of_ble_eq_true rfl | refine And.intro ?_ ?_)) rfl rfl rfl rfl | exact sBSF (by repeat' (first | exact trivial | rfl | exact Nat.le_of_ble_eq_true rfl | refine And.intro ?_ ?_)) rfl rfl rfl rfl | exact sLe rfl | exact Chk.mk (by kernel_rfl) | exact ⟨Chk.mk (by kernel_rfl)⟩ | exact sLeEq rfl rfl | exact sAnd (by repeat' constructor) (c_l2Box _) | refine fun h => ?_)
      all_goals try (exact sRow (by simp_all) (row_at rs _ (by simp_all)) rfl)
      all_goals simp only [decide_eq_true_eq, decide_eq_false_iff_not, List.length_map, Bool.not_false, Bool.not_true, Bool.not_eq_true', Bool.not_eq_false'] at *
      · refine ⟨⟨by omega, by omega, by omega⟩, fun r hr => ?_⟩
        obtain ⟨y, _, rfl⟩ := List.mem_map.1 hr; rfl
      · exact sAnd (by repeat' constructor) (c_l3Saw' (by simp [List.map_take]) (by unfold maxLen; simp; omega))
      · refine ⟨?_⟩
        have := listOk_bad (lo := 0) (xs := rs) (i := i) (by omega) (by simp_all [elemOk])
        simp [execOk, this]
      · refine ⟨i + 1, [], by omega, ⟨by omega, fun j hj => ?_⟩, ?_⟩
        · by_cases e : j = i
          · subst e
            simp_all [elemOk, inr]
            try omega
          · exact hp j (by omega)
        · repeat' (first | exact trivial | exact Side.mk rfl | exact Chk.mk (by kernel_rfl) | exact ⟨Chk.mk (by kernel_rfl)⟩ | exact ⟨wrap_succ (n := rs.length) (by omega) (by omega)⟩ | refine And.intro ?_ ?_ | rfl)
      · refine ⟨?_⟩
        have := listOk_bad (lo := 0) (xs := rs) (i := i) (by omega) (by simp_all [elemOk, inr]; try omega)
        simp [execOk, this]
      · refine ⟨?_⟩
        have := listOk_bad (lo := 0) (xs := rs) (i := i) (by omega) (by simp_all [elemOk, inr]; try omega)
        simp [execOk, this]
      · refine ⟨?_⟩
        have := listOk_bad (lo := 0) (xs := rs) (i := i) (by omega) (by simp_all [elemOk])
        simp [execOk, this]
      · have hr : listOk 0 rs = true := listOk_all (i := i) (by omega) (fun j hj _ => hp j hj)
        clear hp
        refine W.loopC (D := Nat) (fun i => [(102, .row (ps.getD i default).cells), (105, .res (ob (inr (ps.getD i default).a 0 3))), (111, .row (ps.getD i default).cells), (114, .res (ob (inr (ps.getD i default).b (-1000000) 1000000))), (125, .row (ps.getD i default).cells), (128, .res (oi (atI (ps.take i) (ps.getD i default).a)))]) TTok hmo
          (fun i => ⟨131, 1, [(1, .one (.ptr 0 0 0)), (2, ob false), (4, oi i)], [(0, .box [.ag (rs.map Two.cells), .ag (ps.map Two.cells), i6 c, i6 d])]⟩) (fun i => ps.length - i) (fun i => i ≤ ps.length ∧ ∀ j, j < i → elemOk (-1000000) ps j = true) 0 [] ⟨by omega, fun j hj => by omega⟩ ?_ ?_
        · show subC _ _ _ _
          repeat' (first | exact trivial | exact Side.mk rfl | exact Chk.mk (by kernel_rfl) | exact ⟨Chk.mk (by kernel_rfl)⟩ | refine And.intro ?_ ?_ | rfl)
        intro i ⟨hi, hp⟩
        repeat' (first | refine And.intro ?_ ?_ | exact tf | exact ft | refine tt ?_ | refine ff ?_ | exact ⟨trivial⟩ | exact sAll rfl | exact sF1 rfl | exact sBld (by repeat' (first | exact trivial | rfl | exact Nat.le_of_ble_eq_true rfl | refine And.intro ?_ ?_)) rfl | exact sBS (by repeat' (first | exact trivial | rfl | exact Nat.le_of_ble_eq_true rfl | refine And.intro ?_ ?_)) rfl rfl rfl rfl | exact sBSF (by repeat' (first | exact trivial | rfl | exact Nat.le_of_ble_eq_true rfl | refine And.intro ?_ ?_)) rfl rfl rfl rfl | exact sLe rfl | exact Chk.mk (by kernel_rfl) | exact ⟨Chk.mk (by kernel_rfl)⟩ | exact sLeEq rfl rfl | exact sAnd (by repeat' constructor) (c_l2Box _) | exact sAnd (by repeat' constructor) (c_l1Num _) | refine fun h => ?_)
        all_goals try (exact sRow (by simp_all) (row_at ps _ (by simp_all)) rfl)
        all_goals simp only [decide_eq_true_eq, decide_eq_false_iff_not, List.length_map, Bool.not_false, Bool.not_true, Bool.not_eq_true', Bool.not_eq_false'] at *
        · refine ⟨⟨by omega, by omega, by omega⟩, fun r hr => ?_⟩
          obtain ⟨y, _, rfl⟩ := List.mem_map.1 hr; rfl
        · exact sAnd (by repeat' constructor) (c_l3At' (by simp [List.map_take]) (by unfold maxLen; simp; omega))
        · refine ⟨?_⟩
          have hs := atI_saw.1 h
          have := listOk_bad (lo := -1000000) (xs := ps) (i := i) (by omega) (by simp_all [elemOk])
          simp [execOk, this]
        · have hs := atI_nsaw.1 h
          refine ⟨i + 1, [], by omega, ⟨by omega, fun j hj => ?_⟩, ?_⟩
          · by_cases e : j = i
            · subst e
              simp_all [elemOk, inr]
              try omega
            · exact hp j (by omega)
          · repeat' (first | exact trivial | exact Side.mk rfl | exact Chk.mk (by kernel_rfl) | exact ⟨Chk.mk (by kernel_rfl)⟩ | exact ⟨wrap_succ (n := ps.length) (by omega) (by omega)⟩ | refine And.intro ?_ ?_ | rfl)
        · refine ⟨?_⟩
          have := listOk_bad (lo := -1000000) (xs := ps) (i := i) (by omega) (by simp_all [elemOk])
          simp [execOk, this]
        · refine ⟨?_⟩
          have := listOk_bad (lo := -1000000) (xs := ps) (i := i) (by omega) (by simp_all [elemOk])
          simp [execOk, this]
        · have hq : listOk (-1000000) ps = true := listOk_all (i := i) (by omega) (fun j hj _ => hp j hj)
          refine ⟨?_⟩
          simp [execOk, hh, hr, hq]
    all_goals (show subC _ _ _ _; repeat' (first | exact trivial | exact Side.mk rfl | exact Chk.mk (by kernel_rfl) | exact ⟨Chk.mk (by kernel_rfl)⟩ | refine And.intro ?_ ?_ | rfl))
  · refine Pure.vc [(16, .res (ob (inr c (-1000000) 1000000)))] TTok hmo Go.Proofs.Tryz.func134 (by kernel_rfl) rfl (by kernel_rfl) ?_
    repeat' (first | refine And.intro ?_ ?_ | exact tf | exact ft | refine tt ?_ | refine ff ?_ | exact ⟨trivial⟩ | exact sAll rfl | exact sF1 rfl | exact sBld (by repeat' (first | exact trivial | rfl | exact Nat.le_of_ble_eq_true rfl | refine And.intro ?_ ?_)) rfl | exact sBS (by repeat' (first | exact trivial | rfl | exact Nat.le_of_ble_eq_true rfl | refine And.intro ?_ ?_)) rfl rfl rfl rfl | exact sBSF (by repeat' (first | exact trivial | rfl | exact Nat.le_of_ble_eq_true rfl | refine And.intro ?_ ?_)) rfl rfl rfl rfl | exact sLe rfl | exact Chk.mk (by kernel_rfl) | exact ⟨Chk.mk (by kernel_rfl)⟩ | exact sLeEq rfl rfl | exact sAnd (by repeat' constructor) (c_l1Num _) | refine fun h => ?_)
    all_goals try (exfalso; apply hh; simp_all [headOk, inr]; done)
    all_goals (refine Side.mk ?_; simp_all [execOk])
end Mg
