/- Parts of the abstract state logic and of the walks, one behind the other: E5, BD, E8, NS7. No condition. -/
import Derived.Test.YtedgmfmhilihoaaGreatP23
import Derived.Test.YtedgmfmhilihoaaGreatP15
import Derived.Test.YtedgmfmhilihoaaGreatP21
/- Lists of trees that fill up. No condition. -/
namespace Mg
open Go Go.RowKit
set_option linter.unusedVariables false
set_option linter.unusedSectionVars false
set_option linter.unusedSectionVars false
/-- A list of which the first ones are trees already. -/
def rowsT {α : Type} (Bf : Nat → Nat → Tk) (c : α → List MC) (xs : List α) (tl : List (List MC)) (i : Nat) : List (List MC) := labR true Bf 0 ((xs.take i).map c) ++ tl.drop i
def noTk : Tk := ⟨fun _ => False, undef⟩
def tkAt : Option MC → Tk → Tk
  | some (.fz _), t => t
  | _, t => noTk
/-- The blocks of the trees so far, with those of one more. -/
def updT (Bf : Nat → Nat → Tk) (i : Nat) (r : List MC) (B : Nat → Tk) : Nat → Nat → Tk := fun i' j => if i' = i then tkAt r[j]? (B j) else Bf i' j
structure FillInv {α : Type} (Bf : Nat → Nat → Tk) (c : α → List MC) (xs : List α) (i : Nat) : Prop where
  ap : Apart Bf
  inn : ∀ i' j x, (Bf i' j).B x → ∃ r d, ((xs.take i).map c)[i']? = some r ∧ r[j]? = some d ∧ inC x (labc true (Bf i' j) d)
section
variable {α : Type} {Bf : Nat → Nat → Tk} {c : α → List MC} {xs : List α} {tl : List (List MC)} {i m : Nat}
theorem FillInv.zero : FillInv (fun _ _ => noTk) c xs 0 := ⟨fun _ _ _ _ _ h => h.elim, fun _ _ _ h => h.elim⟩
theorem rowsT_zero : rowsT Bf c xs tl 0 = tl := by simp [rowsT, labR]
theorem rowsT_len (hl : tl.length = xs.length) : (rowsT Bf c xs tl i).length = xs.length := by simp [rowsT, labR_len, hl]; omega
theorem rowsT_all (hl : tl.length = xs.length) (h : xs.length ≤ i) : rowsT Bf c xs tl i = labR true Bf 0 (xs.map c) := by
  rw [rowsT, List.take_of_length_le h, List.drop_eq_nil_of_le (by omega), List.append_nil]
theorem labRow_flat (hc : ∀ x, (c x).all MC.frz = true) {o : Bool} {B : Nat → Tk} {x : α} : ∀ d ∈ labRow o B 0 (c x), d.flat = true := fun d hd => by
  obtain ⟨j, hj⟩ := List.getElem?_of_mem hd
  rw [labRow_get] at hj
  obtain ⟨d0, h0, rfl⟩ := Option.map_eq_some_iff.1 hj
  have := List.all_eq_true.1 (hc x) d0 (List.mem_of_getElem? h0)
  cases d0 <;> first | (cases this; done) | rfl
theorem sFlatT (hc : ∀ x, (c x).all MC.frz = true) (ht : ∀ r ∈ tl, ∀ d ∈ r, d.flat = true) : Side (∀ r ∈ rowsT Bf c xs tl i, ∀ d ∈ r, d.flat = true) := ⟨fun r hr d hd => by
  rcases List.mem_append.1 hr with hr | hr
  · obtain ⟨k, hk⟩ := List.getElem?_of_mem hr
    rw [labR_get] at hk
    obtain ⟨r0, h0, rfl⟩ := Option.map_eq_some_iff.1 hk
    rw [List.getElem?_map] at h0
    obtain ⟨x, _, rfl⟩ := Option.map_eq_some_iff.1 h0
    exact labRow_flat hc d hd
  · exact ht r (List.mem_of_mem_drop hr) d hd⟩
end
section
variable {α : Type} [Inhabited α] {Bf : Nat → Nat → Tk} {c : α → List MC} {xs : List α} {tl : List (List MC)} {i m : Nat}
theorem rowsT_getD {r : List MC} (hl : tl.length = xs.length) (h : i < xs.length) (hr : tl[i]? = some r) : (rowsT Bf c xs tl i).getD (0 + i) [] = r := by
  have hll : (labR true Bf 0 ((xs.take i).map c)).length = i := by rw [labR_len]; simp; omega
  rw [Nat.zero_add, List.getD_eq_getElem?_getD, rowsT, List.getElem?_append_right (by omega), hll, Nat.sub_self, List.getElem?_drop, Nat.add_zero, hr]; rfl
theorem labR_app (o : Bool) (B : Nat → Nat → Tk) : ∀ (a b : List (List MC)) (k : Nat), labR o B k (a ++ b) = labR o B k a ++ labR o B (k + a.length) b
  | [], b, k => by simp [labR]
  | r :: a, b, k => by
    simp only [List.cons_append, labR, labR_app o B a b (k + 1), List.length_cons]
    rw [show k + 1 + a.length = k + (a.length + 1) by omega]
theorem labR_congr {o : Bool} {B B' : Nat → Nat → Tk} : ∀ (rows : List (List MC)) (k : Nat), (∀ i, k ≤ i → i < k + rows.length → B i = B' i) → labR o B k rows = labR o B' k rows
  | [], k, _ => rfl
  | r :: rows, k, h => by
    simp only [labR]
    rw [h k (Nat.le_refl _) (by simp), labR_congr rows (k + 1) fun i h1 h2 => h i (by omega) (by simp; omega)]
theorem labRow_upd {r : List MC} {B : Nat → Tk} : labRow true (updT Bf i r B i) 0 r = labRow true B 0 r := by
  apply List.ext_getElem?
  intro j
  rw [labRow_get, labRow_get]
  cases hj : r[j]? with
  | none => rfl
  | some d =>
    simp only [Option.map_some, Nat.zero_add, updT, if_true]
    rw [hj]
    cases d <;> rfl
theorem FillInv.stepB (h : FillInv Bf c xs i) (hi : i < xs.length) {B : Nat → Tk} {N : Bk} (hB : ∀ j j' x rows rows', (c (xs.getD i default))[j]? = some (.fz rows) → (c (xs.getD i default))[j']? = some (.fz rows') → (B j).B x → (B j').B x → j = j') (hN : ∀ j x, (B j).B x → N x)
    (hd : ∀ r ∈ rowsT Bf c xs tl i, ∀ d ∈ r, disC N d) : FillInv (updT Bf i (c (xs.getD i default)) B) c xs (i + 1) := by
  have hin : ∀ i' j x, (Bf i' j).B x → i' < i ∧ ¬ N x := fun i' j x hx => by
    obtain ⟨r, d, h1, h2, h3⟩ := h.inn i' j x hx
    have hlt := (List.getElem?_eq_some_iff.1 h1).1
    refine ⟨by simp at hlt; omega, ?_⟩
    have h4 : labRow true (Bf i') 0 r ∈ rowsT Bf c xs tl i := List.mem_append_left _ (List.mem_of_getElem? (by rw [labR_get, h1, Nat.zero_add]; rfl))
    have h5 : labc true (Bf i' j) d ∈ labRow true (Bf i') 0 r := List.mem_of_getElem? (by rw [labRow_get, h2, Nat.zero_add]; rfl)
    have h6 := hd _ h4 _ h5
    intro h7
    generalize labc true (Bf i' j) d = dd at h3 h6
    cases dd <;> first | exact h3.elim | exact h6 x h3 h7
  have hnew : ∀ j x, (tkAt (c (xs.getD i default))[j]? (B j)).B x → (B j).B x ∧ ∃ rows, (c (xs.getD i default))[j]? = some (.fz rows) := fun j x hx => by
    unfold tkAt at hx
    split at hx
    · rename_i rows hr; exact ⟨hx, rows, hr⟩
    · exact hx.elim
  refine ⟨fun i1 j1 i2 j2 x h1 h2 => ?_, fun i' j x hx => ?_⟩
  · simp only [updT] at h1 h2
    split at h1 <;> split at h2
    · rename_i e1 e2
      obtain ⟨g1, r1, g2⟩ := hnew _ _ h1
      obtain ⟨g3, r2, g4⟩ := hnew _ _ h2
      exact ⟨e1.trans e2.symm, hB j1 j2 x _ _ g2 g4 g1 g3⟩
    · exact absurd (hN _ _ (hnew _ _ h1).1) (hin i2 j2 x h2).2
    · exact absurd (hN _ _ (hnew _ _ h2).1) (hin i1 j1 x h1).2
    · exact h.ap i1 j1 i2 j2 x h1 h2
  · have htk : (xs.take (i + 1)).map c = (xs.take i).map c ++ [c (xs.getD i default)] := by rw [take1 hi]; simp
    have hll : ((xs.take i).map c).length = i := by simp; omega
    simp only [updT] at hx ⊢
    by_cases e : i' = i
    · subst e
      rw [if_pos rfl] at hx ⊢
      obtain ⟨h1, rows, h2⟩ := hnew j x hx
      refine ⟨_, _, by rw [htk, List.getElem?_append_right (by omega), hll, Nat.sub_self]; rfl, h2, ?_⟩
      rw [h2] at hx ⊢
      exact hx
    · rw [if_neg e] at hx ⊢
      obtain ⟨r, d, h1, h2, h3⟩ := h.inn i' j x hx
      exact ⟨r, d, by rw [htk, List.getElem?_append_left (List.getElem?_eq_some_iff.1 h1).1]; exact h1, h2, h3⟩
theorem FillInv.step (h : FillInv Bf c xs i) (hi : i < xs.length) {B : Nat → Nat → Tk} (hB : Apart B) (hd : ∀ r ∈ rowsT Bf c xs tl i, ∀ d ∈ r, disC (Any B) d) :
    FillInv (updT Bf i (c (xs.getD i default)) (B 0)) c xs (i + 1) :=
  h.stepB hi (N := Any B) (fun j j' x _ _ _ _ h1 h2 => (hB 0 j 0 j' x h1 h2).2) (fun j x hx => ⟨0, j, hx⟩) hd
theorem rowsT_set (hl : tl.length = xs.length) (hi : i < xs.length) {B : Nat → Tk} : (rowsT Bf c xs tl i).set (0 + i) (labRow true B 0 (c (xs.getD i default))) = rowsT (updT Bf i (c (xs.getD i default)) B) c xs tl (i + 1) := by
  have hll : (labR true Bf 0 ((xs.take i).map c)).length = i := by rw [labR_len]; simp; omega
  have hl2 : ((xs.take i).map c).length = i := by simp; omega
  rw [rowsT, Nat.zero_add, List.set_append, if_neg (by omega), hll, Nat.sub_self, List.drop_eq_getElem_cons (by omega), List.set_cons_zero, rowsT, take1 hi, List.map_append, labR_app, hl2, Nat.zero_add]
  rw [List.append_assoc]
  congr 1
  · exact labR_congr _ 0 fun k h1 h2 => by
      rw [hl2] at h2
      funext j
      simp only [updT]
      rw [if_neg (by omega)]
  · simp only [List.map_cons, List.map_nil, labR, List.cons_append, List.nil_append]
    rw [labRow_upd]
theorem sIxT {k : Int} {n : Nat} {r : List MC} (hl : tl.length = xs.length) (h0 : k = i) (h : i < xs.length) (hn : n = xs.length) (hr : tl[i]? = some r) (hm : r.length = m) :
    Side ((0 ≤ k ∧ k < n) ∧ 0 + k.toNat < (rowsT Bf c xs tl i).length ∧ ((rowsT Bf c xs tl i).getD (0 + k.toNat) []).length = m) := by
  subst h0
  rw [Int.toNat_natCast, rowsT_len hl, rowsT_getD hl h hr, hn]
  exact ⟨⟨by omega, by omega⟩, by omega, hm⟩
theorem sStT {off n z : Nat} {k : Nat} {r : List MC} (hl : tl.length = xs.length) (hk : k = i) (h : i < xs.length) (hr : tl[i]? = some r) (hb : Nat.ble (off + n) r.length = true) (hz : n = z) :
    Side ((0 + k < (rowsT Bf c xs tl i).length ∧ off + n ≤ ((rowsT Bf c xs tl i).getD (0 + k) []).length) ∧ n = z) := by
  subst hk
  rw [rowsT_len hl, rowsT_getD hl h hr]
  exact ⟨⟨by omega, Nat.le_of_ble_eq_true hb⟩, hz⟩
theorem sSetT {k off : Nat} {r cs : List MC} {B : Nat → Tk} (hl : tl.length = xs.length) (hk : k = i) (h : i < xs.length) (hr : tl[i]? = some r) (he : putAt r off cs = labRow true B 0 (c (xs.getD i default))) :
    Side (rowsT (updT Bf i (c (xs.getD i default)) B) c xs tl (i + 1) = (rowsT Bf c xs tl i).set (0 + k) (putAt ((rowsT Bf c xs tl i).getD (0 + k) []) off cs)) := by
  subst hk
  rw [rowsT_getD hl h hr, he, rowsT_set hl h]; exact ⟨rfl⟩
theorem sLdT {k off n : Nat} {r cs : List MC} (hl : tl.length = xs.length) (hk : k = i) (h : i < xs.length) (hr : tl[i]? = some r) (hb : Nat.ble n (r.drop off).length = true) (he : (r.drop off).take n = cs) :
    Side (n ≤ (List.drop off ((rowsT Bf c xs tl i).getD (0 + k) [])).length ∧ MV.agg (List.take n (List.drop off ((rowsT Bf c xs tl i).getD (0 + k) []))) = MV.agg cs) := by
  subst hk
  rw [rowsT_getD hl h hr, he]; exact ⟨⟨Nat.le_of_ble_eq_true hb, rfl⟩⟩
end
theorem sZ0 {α : Type} {Bf : Nat → Nat → Tk} {c : α → List MC} {xs : List α} {z : List MC} {n : Nat} (h : n = xs.length) : Side (rowsT Bf c xs (List.replicate xs.length z) 0 = List.replicate n z) := ⟨by rw [rowsT_zero, h]⟩
theorem rep_get {z : List MC} {n i : Nat} (h : i < n) : (List.replicate n z)[i]? = some z := by simp [h]
theorem rep_flat {z : List MC} {n : Nat} (hz : z.all MC.flat = true) : ∀ r ∈ List.replicate n z, ∀ d ∈ r, d.flat = true := fun r hr d hd => by
  rw [List.eq_of_mem_replicate hr] at hd; exact List.all_eq_true.1 hz d hd
theorem labRow_sc {B : Nat → Tk} : ∀ {cs : List MC} {k : Nat}, (∀ c ∈ cs, ∃ v, c = .sc v) → labRow true B k cs = cs
  | [], _, _ => rfl
  | c :: cs, k, h => by
    obtain ⟨v, rfl⟩ := h c (by simp)
    simp only [labRow, labRow_sc (cs := cs) fun c hc => h c (List.mem_cons_of_mem _ hc)]; rfl
theorem labR_sc {B : Nat → Nat → Tk} : ∀ {rows : List (List MC)} {k : Nat}, (∀ r ∈ rows, ∀ c ∈ r, ∃ v, c = .sc v) → labR true B k rows = rows
  | [], _, _ => rfl
  | r :: rows, k, h => by simp only [labR, labRow_sc (h r (by simp)), labR_sc (rows := rows) fun r hr => h r (List.mem_cons_of_mem _ hr)]
def scB : MC → Bool
  | .sc _ => true
  | _ => false
/-- A flat list at the end. -/
theorem endFlat {α : Type} [Inhabited α] {c : α → List MC} {xs : List α} {len : Nat} {rows : List (List MC)} (hr : rows = xs.map c) (hl : len = xs.length) (hf : ∀ x, (c x).all MC.frz = true) (hc : ∀ x, (c x).all scB = true) :
    ∃ B : Nat → Nat → Tk, Side (len = (xs.map c).length ∧ rows = labR true B 0 (xs.map c)) ∧ Side (Apart B) ∧ Side (AllF (xs.map c)) :=
  ⟨fun _ _ => noTk, ⟨by rw [hl, List.length_map], by rw [hr, labR_sc fun r hr => by obtain ⟨x, _, rfl⟩ := List.mem_map.1 hr; exact fun d hd => (by have := List.all_eq_true.1 (hc x) d hd; cases d <;> first | exact ⟨_, rfl⟩ | (cases this; done))]⟩, ⟨fun _ _ _ _ _ h => h.elim⟩, ⟨map_frz hf⟩⟩
theorem endTree {α : Type} [Inhabited α] {c : α → List MC} {xs : List α} {tl : List (List MC)} {len i : Nat} {Bf : Nat → Nat → Tk} (hi : FillInv Bf c xs i) (ht : tl.length = xs.length) (h : xs.length ≤ i) (hl : len = xs.length) (hf : ∀ x, (c x).all MC.frz = true) :
    ∃ B : Nat → Nat → Tk, Side (len = (xs.map c).length ∧ rowsT Bf c xs tl i = labR true B 0 (xs.map c)) ∧ Side (Apart B) ∧ Side (AllF (xs.map c)) :=
  ⟨Bf, ⟨by rw [hl, List.length_map], rowsT_all ht h⟩, ⟨hi.ap⟩, ⟨map_frz hf⟩⟩
/-- Trees of a struct, apart, reckoned. -/
def disAll (B : Bk) : List MC → Prop
  | [] => True
  | .tr _ B' _ _ :: cs => (∀ x, B x → ¬ B' x) ∧ disAll B cs
  | _ :: cs => disAll B cs
def apartL : List MC → Prop
  | [] => True
  | .tr _ B _ _ :: cs => disAll B cs ∧ apartL cs
  | _ :: cs => apartL cs
theorem disAll_ok {B : Bk} : ∀ {cs : List MC}, disAll B cs → ∀ c ∈ cs, ∀ x, B x → ¬ inC x c
  | [], _, c, hc => by cases hc
  | d :: cs, h, c, hc => fun x hx hi => by
    rcases List.mem_cons.1 hc with rfl | hc
    · cases c <;> first | exact hi.elim | exact h.1 x hx hi
    · have h' : disAll B cs := by cases d <;> first | exact h | exact h.2
      exact disAll_ok h' c hc x hx hi
theorem apartL_ok : ∀ {cs : List MC}, apartL cs → ∀ (j j' : Nat) (c d : MC), cs[j]? = some c → cs[j']? = some d → ∀ x, inC x c → inC x d → j = j'
  | [], _, j, j', c, d, h1, _ => by simp at h1
  | e :: cs, h, j, j', c, d, h1, h2 => fun x hx hy => by
    have ht : apartL cs := by cases e <;> first | exact h | exact h.2
    have hd : ∀ c ∈ cs, inC x e → ¬ inC x c := fun c hc he => by
      cases e <;> first | exact he.elim | exact disAll_ok h.1 c hc x he
    cases j with
    | zero =>
      cases j' with
      | zero => rfl
      | succ j' =>
        obtain rfl := Option.some.inj h1
        exact absurd hy (hd d (List.mem_of_getElem? (by simpa using h2)) hx)
    | succ j =>
      cases j' with
      | zero =>
        obtain rfl := Option.some.inj h2
        exact absurd hx (hd c (List.mem_of_getElem? (by simpa using h1)) hy)
      | succ j' => rw [apartL_ok ht j j' c d (by simpa using h1) (by simpa using h2) x hx hy]
theorem apart_agg {cs : List MC} (h : apartL cs) : Apart fun i j => ⟨setAt [.agg cs] i j, undef⟩ := fun i j i' j' x h1 h2 => by
  have key : ∀ i j, setAt [.agg cs] i j x → i = 0 ∧ ∃ c, cs[j]? = some c ∧ inC x c := fun i j h => by
    cases i with
    | succ i => exact (by simp [setAt, cellsV, inC] at h : False).elim
    | zero =>
      have h : inC x (cs.getD j .dead) := h
      rw [List.getD_eq_getElem?_getD] at h
      cases hj : cs[j]? with
      | none => rw [hj] at h; exact h.elim
      | some c => rw [hj] at h; exact ⟨rfl, c, rfl, h⟩
  obtain ⟨e1, c, hc, h3⟩ := key i j h1
  obtain ⟨e2, d, hd, h4⟩ := key i' j' h2
  exact ⟨e1.trans e2.symm, apartL_ok h j j' c d hc hd x h3 h4⟩
theorem disAll_app {B : Bk} : ∀ {a b : List MC}, disAll B (a ++ b) → disAll B a ∧ disAll B b
  | [], b, h => ⟨trivial, h⟩
  | c :: a, b, h => by
    have h' : disAll B (a ++ b) := by cases c <;> first | exact h | exact h.2
    obtain ⟨h1, h2⟩ := disAll_app h'
    refine ⟨?_, h2⟩
    cases c <;> first | exact h1 | exact ⟨h.1, h1⟩
theorem apartL_app : ∀ {a b : List MC}, apartL (a ++ b) → apartL a ∧ apartL b ∧ ∀ c ∈ a, ∀ d ∈ b, ∀ x, inC x c → ¬ inC x d
  | [], b, h => ⟨trivial, h, fun c hc => by cases hc⟩
  | c :: a, b, h => by
    have ht : apartL (a ++ b) := by cases c <;> first | exact h | exact h.2
    obtain ⟨h1, h2, h3⟩ := apartL_app ht
    refine ⟨?_, h2, fun e he d hd x hx => ?_⟩
    · cases c <;> first | exact h1 | exact ⟨(disAll_app h.1).1, h1⟩
    · rcases List.mem_cons.1 he with rfl | he
      · cases e <;> first | exact hx.elim | exact disAll_ok (disAll_app h.1).2 d hd x hx
      · exact h3 e he d hd x hx
theorem setAt_in {vs : List MV} {i j x : Nat} (h : setAt vs i j x) : ∃ v c, vs[i]? = some v ∧ (cellsV v)[j]? = some c ∧ inC x c := by
  unfold setAt at h
  rw [List.getD_eq_getElem?_getD, List.getD_eq_getElem?_getD] at h
  cases hv : vs[i]? with
  | none => rw [hv] at h; exact (by simp [cellsV, inC] at h : False).elim
  | some v =>
    rw [hv] at h
    cases hc : (cellsV v)[j]? with
    | none => simp only [Option.getD_some, hc] at h; exact h.elim
    | some c => simp only [Option.getD_some, hc] at h; exact ⟨v, c, rfl, hc, h⟩
theorem apart_vs' : ∀ {vs : List MV}, apartL (vs.flatMap cellsV) → ∀ (i j i' j' x : Nat), setAt vs i j x → setAt vs i' j' x → i = i' ∧ j = j'
  | [], _, i, j, _, _, x, h1, _ => by obtain ⟨v, c, hv, _⟩ := setAt_in h1; simp at hv
  | v :: vs, h, i, j, i', j', x, h1, h2 => by
    rw [List.flatMap_cons] at h
    obtain ⟨h3, h4, h5⟩ := apartL_app h
    obtain ⟨a, c, ha, hc, hx⟩ := setAt_in h1
    obtain ⟨b, d, hb, hd, hy⟩ := setAt_in h2
    have hin : ∀ {k : Nat} {e : MV} {g : MC} {l : Nat}, vs[k]? = some e → (cellsV e)[l]? = some g → g ∈ vs.flatMap cellsV := fun h6 h7 => List.mem_flatMap.2 ⟨_, List.mem_of_getElem? h6, List.mem_of_getElem? h7⟩
    cases i with
    | zero =>
      obtain rfl := Option.some.inj ha
      cases i' with
      | zero =>
        obtain rfl := Option.some.inj hb
        exact ⟨rfl, apartL_ok h3 j j' c d hc hd x hx hy⟩
      | succ i' => exact absurd hy (h5 c (List.mem_of_getElem? hc) d (hin (by simpa using hb) hd) x hx)
    | succ i =>
      cases i' with
      | zero =>
        obtain rfl := Option.some.inj hb
        exact absurd hx (h5 d (List.mem_of_getElem? hd) c (hin (by simpa using ha) hc) x hy)
      | succ i' =>
        have := apart_vs' h4 i j i' j' x h1 h2
        exact ⟨by rw [this.1], this.2⟩
theorem apart_vs {vs : List MV} (h : apartL (vs.flatMap cellsV)) : Apart fun i j => ⟨setAt vs i j, undef⟩ := fun i j i' j' x h1 h2 => apart_vs' h i j i' j' x h1 h2
/-- Trees of a struct, apart. -/
theorem apart_none {vs : List MV} (h : ∀ i j, ∀ x, ¬ setAt vs i j x) : Apart fun i j => ⟨setAt vs i j, undef⟩ := fun i j _ _ x h1 => absurd h1 (h i j x)
end Mg

/- Promises and votes of the other side, by what they come to. No condition. -/
namespace Mg
open Go Go.RowKit
set_option maxRecDepth 100000
set_option linter.unusedVariables false
set_option linter.unusedSimpArgs false
attribute [local irreducible] W Pure Con
theorem take_step {vs : List Vote} {i : Nat} (h : i < vs.length) : vs.take (i + 1) = vs.take i ++ [vs.getD i default] := by
  rw [List.take_succ_eq_append_getElem h, getD_get h]
theorem sTkR {α : Type} [Inhabited α] {c : α → List MC} {xs : List α} {i : Nat} {rows2 : List (List MC)} (h : i < xs.length) (hr : rows2 = [c (xs.getD i default)]) : Side ((xs.take (i + 1)).map c = (xs.take i).map c ++ rows2) :=
  ⟨by rw [List.take_succ_eq_append_getElem h, List.map_append, hr, getD_get h]; rfl⟩
theorem sTkL {α : Type} {xs : List α} {i m n : Nat} (h : i < xs.length) (hm : m = (xs.take i).length) (hn : n = 1) : Side ((xs.take (i + 1)).length = m + n) := ⟨by subst hm hn; simp; omega⟩
theorem sTkL2 {α : Type} {xs : List α} {i m n : Nat} (h : i < xs.length) (hm : m = (xs.take i).length) (hn : n = 1) : Side (m + n = (xs.take (i + 1)).length) := ⟨by subst hm hn; simp; omega⟩
set_option maxHeartbeats 4000000 in
theorem c_l6ListP (vs : List Vote) (hx : vs.length ≤ 1000000) (hv : VsOk lim vs) : Pure PP false 68 [.one (.fz (vs.map Vote.cells))] (.one (.own (vs.map Vote.cells))) := by
  refine Pure.vc [] TTok hmo Go.Proofs.Tryz.func68 (by kernel_rfl) rfl (by kernel_rfl) ?_
  repeat' (first | refine And.intro ?_ ?_ | exact tf | exact ft | refine tt ?_ | refine ff ?_ | exact ⟨trivial⟩ | exact sAll rfl | exact sF1 rfl | exact sBld (by repeat' (first | exact trivial | rfl | exact Nat.le_of_ble_eq_true rfl | refine And.intro ?_ ?_)) rfl | exact sBS (by repeat' (first | exact trivial | rfl | exact Nat.le_of_ble_eq_true rfl | refine And.intro ?_ ?_)) rfl rfl rfl rfl | exact sBSF (by repeat' (first | exact trivial | rfl | exact Nat.le_of_ble_eq_true rfl | refine And.intro ?_ ?_)) rfl rfl rfl rfl | exact sLe rfl | exact Chk.mk (by kernel_rfl) | exact ⟨Chk.mk (by kernel_rfl)⟩ | exact sLeEq rfl rfl | refine fun h => ?_)
  · refine W.vslot 3 rfl ?_
    refine W.loopC (D := Nat) (fun i => [(15, .row (vs.getD i default).cells), (20, .row (vs.getD i default).cells), (23, .res (.agg (vs.getD i default).e.cells)), (25, .row [])]) TTok hmo
      (fun i => ⟨28, 1, [(0, .one (.ag (vs.map Vote.cells))), (3, .one (.ref 0 0 (vs.take i).length)), (4, oi i)], [(0, .arr ((vs.take i).map Vote.cells))]⟩) (fun i => vs.length - i) (fun i => i ≤ vs.length) 0 [] (Nat.zero_le _) ?_ ?_
    · repeat' (first | exact trivial | exact ⟨trivial⟩ | exact Side.mk rfl | exact sF1 rfl | exact Chk.mk (by kernel_rfl) | exact ⟨Chk.mk (by kernel_rfl)⟩ | exact sMapF Vote.flat | refine And.intro ?_ ?_ | rfl)
    · intro i hi
      repeat' (first | refine And.intro ?_ ?_ | exact tf | exact ft | refine tt ?_ | refine ff ?_ | exact ⟨trivial⟩ | exact sAll rfl | exact sF1 rfl | exact sBld (by repeat' (first | exact trivial | rfl | exact Nat.le_of_ble_eq_true rfl | refine And.intro ?_ ?_)) rfl | exact sBS (by repeat' (first | exact trivial | rfl | exact Nat.le_of_ble_eq_true rfl | refine And.intro ?_ ?_)) rfl rfl rfl rfl | exact sBSF (by repeat' (first | exact trivial | rfl | exact Nat.le_of_ble_eq_true rfl | refine And.intro ?_ ?_)) rfl rfl rfl rfl | exact sLe rfl | exact Chk.mk (by kernel_rfl) | exact ⟨Chk.mk (by kernel_rfl)⟩ | exact sLeEq rfl rfl | refine fun h => ?_)
      all_goals try (exact ⟨rfl⟩)
      all_goals try (exact trivial)
      all_goals try (exact ⟨⟨⟨trivial, trivial, trivial, trivial, trivial, trivial, trivial, trivial⟩, trivial⟩, c_l5Entry (vs.getD i default).e (hv.get i)⟩)
      all_goals try (exact sApp (xs := vs.take i) (c := Vote.cells) (by simp) (fun _ => rfl) rfl (by simp; omega) rfl rfl)
      all_goals simp only [decide_eq_true_eq, decide_eq_false_iff_not, List.length_map, Bool.not_eq_true', Bool.not_eq_false', Bool.not_eq_eq_eq_not, Bool.not_true, Bool.not_false, bne_iff_ne, ne_eq, bne_eq_false_iff_eq, beq_iff_eq, beq_eq_false_iff_ne] at *
      all_goals try (exact sRow (by omega) (by rw [Int.toNat_natCast, List.getElem?_map, List.getD_eq_getElem?_getD, List.getElem?_eq_getElem (by omega)]; rfl) rfl)
      all_goals try (first | exact ⟨trivial, trivial⟩ | exact ⟨Nat.le_of_ble_eq_true rfl, trivial⟩ | exact ⟨trivial, Nat.le_of_ble_eq_true rfl, trivial⟩ | exact ⟨Nat.le_of_ble_eq_true rfl, trivial, trivial⟩)
      · refine ⟨i + 1, [(0, 1)], by omega, by omega, ?_⟩
        repeat' (first | exact trivial | exact ⟨trivial⟩ | exact Side.mk rfl | exact sF1 rfl | exact Chk.mk (by kernel_rfl) | exact ⟨Chk.mk (by kernel_rfl)⟩ | exact sTkR (by omega) rfl | exact sTkL (by omega) rfl rfl | exact sTkL2 (by omega) rfl rfl | exact sMapF Vote.flat | exact ⟨by rw [wrapi] <;> omega⟩ | refine And.intro ?_ ?_ | rfl)
      · exact ⟨⟨trivial, trivial⟩, ⟨trivial, trivial, by rw [List.take_of_length_le (by omega)], allF Vote.frz⟩, trivial⟩
theorem c_l6CopyP (a : Acc) (ha : a.ok 1000000) : Pure PP false 89 [.agg a.cells] (.agg [i6 a.p, .own (a.votes.map Vote.cells)]) := by
  have hv : VsOk lim a.votes := fun v hv => ⟨Nat.le_trans (ha.2 v hv).1 (by decide), Nat.le_trans (ha.2 v hv).2 (by decide)⟩
  refine Pure.vc [(7, .res (.one (.own (a.votes.map Vote.cells)))), (900001, .row [i6 0, i6 1, i6 2, i6 3, i6 4, i6 5, i6 6])] TTok hmo Go.Proofs.Tryz.func89 (by kernel_rfl) rfl (by kernel_rfl) ?_
  repeat' (first | refine And.intro ?_ ?_ | exact tf | exact ft | refine tt ?_ | refine ff ?_ | exact ⟨trivial⟩ | exact sAll rfl | exact sF1 rfl | exact sBld (by repeat' (first | exact trivial | rfl | exact Nat.le_of_ble_eq_true rfl | refine And.intro ?_ ?_)) rfl | exact sBS (by repeat' (first | exact trivial | rfl | exact Nat.le_of_ble_eq_true rfl | refine And.intro ?_ ?_)) rfl rfl rfl rfl | exact sBSF (by repeat' (first | exact trivial | rfl | exact Nat.le_of_ble_eq_true rfl | refine And.intro ?_ ?_)) rfl rfl rfl rfl | exact sLe rfl | exact Chk.mk (by kernel_rfl) | exact ⟨Chk.mk (by kernel_rfl)⟩ | exact sLeEq rfl rfl | exact sAnd (by repeat' constructor) (c_l6ListP _ ha.1 hv) | refine fun h => ?_)
  all_goals try (exact ⟨rfl⟩)
  all_goals try (exact trivial)
  exact ⟨⟨Nat.le_of_ble_eq_true rfl, trivial⟩, rfl, ⟨rfl, by simp, rfl, allF Vote.frz⟩, trivial⟩
def promP (p b : Int) : Int × Bool := if inr b 1 3000 = true ∧ ¬ b < p then (b, true) else (p, false)
def tProX (vs : List Vote) (q : Int × Bool) : ConT := ⟨Unit, fun _ => True, fun _ => .tup [.agg [i6 q.1, .ref 0 0 vs.length], ob q.2], fun _ => [.arr (vs.map Vote.cells)]⟩
theorem c_l6PromiseX (vs : List Vote) (p b : Int) : Con PP 67 [.agg [i6 p, .ref 0 0 vs.length], oi b] [.arr (vs.map Vote.cells)] 1
    (tProX vs (promP p b)).p (tProX vs (promP p b)).r (tProX vs (promP p b)).os := by
  generalize hq : promP p b = q
  unfold promP at hq
  refine Con.vc [(7, .res (ob (inr b 1 3000)))] TTok hmo Go.Proofs.Tryz.func67 rfl (by kernel_rfl) rfl (by kernel_rfl) ?_
  repeat' (first | refine And.intro ?_ ?_ | exact tf | exact ft | refine tt ?_ | refine ff ?_ | exact ⟨trivial⟩ | exact sAll rfl | exact sF1 rfl | exact sBld (by repeat' (first | exact trivial | rfl | exact Nat.le_of_ble_eq_true rfl | refine And.intro ?_ ?_)) rfl | exact sBS (by repeat' (first | exact trivial | rfl | exact Nat.le_of_ble_eq_true rfl | refine And.intro ?_ ?_)) rfl rfl rfl rfl | exact sBSF (by repeat' (first | exact trivial | rfl | exact Nat.le_of_ble_eq_true rfl | refine And.intro ?_ ?_)) rfl rfl rfl rfl | exact sLe rfl | exact Chk.mk (by kernel_rfl) | exact ⟨Chk.mk (by kernel_rfl)⟩ | exact sLeEq rfl rfl | exact sAnd (by repeat' constructor) (c_l6Bal _) | refine fun h => ?_)
  all_goals try (first | exact ⟨trivial, trivial⟩ | exact ⟨Nat.le_of_ble_eq_true rfl, trivial⟩ | exact ⟨trivial, Nat.le_of_ble_eq_true rfl, trivial⟩ | exact ⟨Nat.le_of_ble_eq_true rfl, trivial, trivial⟩)
  · obtain rfl : (p, false) = q := by rw [← hq, if_neg (by simp_all)]
    apply exU'; refine ⟨[], [], trivial, ?_⟩
    repeat' (first | exact trivial | exact ⟨trivial⟩ | exact Side.mk rfl | exact sF1 rfl | exact Chk.mk (by kernel_rfl) | exact ⟨Chk.mk (by kernel_rfl)⟩ | exact sMapF Vote.flat | refine And.intro ?_ ?_ | rfl)
  · obtain rfl : (b, true) = q := by rw [← hq, if_pos (by simp_all)]
    apply exU'; refine ⟨[], [], trivial, ?_⟩
    repeat' (first | exact trivial | exact ⟨trivial⟩ | exact Side.mk rfl | exact sF1 rfl | exact Chk.mk (by kernel_rfl) | exact ⟨Chk.mk (by kernel_rfl)⟩ | exact sMapF Vote.flat | refine And.intro ?_ ?_ | rfl)
  · obtain rfl : (p, false) = q := by rw [← hq, if_neg (by simp_all)]
    apply exU'; refine ⟨[], [], trivial, ?_⟩
    repeat' (first | exact trivial | exact ⟨trivial⟩ | exact Side.mk rfl | exact sF1 rfl | exact Chk.mk (by kernel_rfl) | exact ⟨Chk.mk (by kernel_rfl)⟩ | exact sMapF Vote.flat | refine And.intro ?_ ?_ | rfl)
/-- What is cast, of what is right. -/
def castA (a : Acc) (b slot : Int) (e : Entry) : Acc × Bool :=
  if (inr slot 0 39 = true ∧ entryOk e = true) ∧ (promP a.p b).2 = true then (⟨b, (padV a.votes (slot.toNat + 1)).set slot.toNat ⟨b, e⟩⟩, true) else (a, false)
def tCaX (q : Acc × Bool) : ConT := ⟨Unit, fun _ => True, fun _ => .tup [.agg [i6 q.1.p, .ref 0 0 q.1.votes.length], ob q.2], fun _ => [.arr (q.1.votes.map Vote.cells)]⟩
end Mg

/- Copies of the program's own way, as trees. No condition. -/
namespace Mg
open Go Go.RowKit
set_option maxRecDepth 100000
set_option linter.unusedVariables false
set_option linter.unusedSimpArgs false
attribute [local irreducible] W Pure Con TPure
theorem p_copied_Read (xs : List Two) (hx : xs.length ≤ lim) : Pure PP false 171 [.one (.fz (xs.map Two.cells))] (.one (.own (xs.map Two.cells))) := by
  have hx0 : xs.length ≤ 1048576 := hx
  refine Pure.vc [] TTok hmo Go.Proofs.Tryz.func171 (by kernel_rfl) rfl (by kernel_rfl) ?_
  repeat' (first | refine And.intro ?_ ?_ | exact tf | exact ft | refine tt ?_ | refine ff ?_ | exact ⟨trivial⟩ | exact sAll rfl | exact sF1 rfl | exact sBld (by repeat' (first | exact trivial | rfl | exact Nat.le_of_ble_eq_true rfl | refine And.intro ?_ ?_)) rfl | exact sBS (by repeat' (first | exact trivial | rfl | exact Nat.le_of_ble_eq_true rfl | refine And.intro ?_ ?_)) rfl rfl rfl rfl | exact sBSF (by repeat' (first | exact trivial | rfl | exact Nat.le_of_ble_eq_true rfl | refine And.intro ?_ ?_)) rfl rfl rfl rfl | exact sLe rfl | exact Chk.mk (by kernel_rfl) | exact ⟨Chk.mk (by kernel_rfl)⟩ | exact sLeEq rfl rfl | refine fun h => ?_)
  · have h0 : xs = [] := by simp at h; exact h
    subst h0
    exact ⟨⟨trivial, trivial⟩, rfl, trivial⟩
  · exact sMk hx0 rfl
  · have h0 : 0 < xs.length := Nat.pos_of_ne_zero (fun e => by rw [List.length_map, e] at h; revert h; decide)
    exact sCp (toA_map fun _ => rfl) (by simp) (by simp) h0 rfl (fun _ => rfl)
  · have e := toA_map (c := Two.cells) (xs := xs) fun _ => rfl
    exact ⟨⟨trivial, trivial⟩, ⟨rfl, by rw [e]; exact Int.toNat_natCast _, e, by rw [e]; exact allF Two.frz⟩, trivial⟩
theorem p_copied_Put (xs : List Two) (hx : xs.length ≤ lim) : Pure PP false 172 [.one (.fz (xs.map Two.cells))] (.one (.own (xs.map Two.cells))) := by
  have hx0 : xs.length ≤ 1048576 := hx
  refine Pure.vc [] TTok hmo Go.Proofs.Tryz.func172 (by kernel_rfl) rfl (by kernel_rfl) ?_
  repeat' (first | refine And.intro ?_ ?_ | exact tf | exact ft | refine tt ?_ | refine ff ?_ | exact ⟨trivial⟩ | exact sAll rfl | exact sF1 rfl | exact sBld (by repeat' (first | exact trivial | rfl | exact Nat.le_of_ble_eq_true rfl | refine And.intro ?_ ?_)) rfl | exact sBS (by repeat' (first | exact trivial | rfl | exact Nat.le_of_ble_eq_true rfl | refine And.intro ?_ ?_)) rfl rfl rfl rfl | exact sBSF (by repeat' (first | exact trivial | rfl | exact Nat.le_of_ble_eq_true rfl | refine And.intro ?_ ?_)) rfl rfl rfl rfl | exact sLe rfl | exact Chk.mk (by kernel_rfl) | exact ⟨Chk.mk (by kernel_rfl)⟩ | exact sLeEq rfl rfl | refine fun h => ?_)
  · have h0 : xs = [] := by simp at h; exact h
    subst h0
    exact ⟨⟨trivial, trivial⟩, rfl, trivial⟩
  · exact sMk hx0 rfl
  · have h0 : 0 < xs.length := Nat.pos_of_ne_zero (fun e => by rw [List.length_map, e] at h; revert h; decide)
    exact sCp (toA_map fun _ => rfl) (by simp) (by simp) h0 rfl (fun _ => rfl)
  · have e := toA_map (c := Two.cells) (xs := xs) fun _ => rfl
    exact ⟨⟨trivial, trivial⟩, ⟨rfl, by rw [e]; exact Int.toNat_natCast _, e, by rw [e]; exact allF Two.frz⟩, trivial⟩
set_option maxHeartbeats 2000000 in
theorem p_runCopy (x : Run) (hx : x.ok lim) : Pure PP false 146 [.agg x.cells] (.agg [.own (x.reads.map Two.cells), .own (x.puts.map Two.cells), i6 x.c, i6 x.d]) := by
  refine Pure.vc [(5, .res (.one (.own (x.reads.map Two.cells)))), (8, .res (.one (.own (x.puts.map Two.cells)))), (900001, .row [i6 0, i6 1, i6 3, i6 4, i6 6, i6 7, i6 8, i6 9, i6 2, i6 5, i6 10, i6 11])] TTok hmo Go.Proofs.Tryz.func146 (by kernel_rfl) rfl (by kernel_rfl) ?_
  repeat' (first | refine And.intro ?_ ?_ | exact tf | exact ft | refine tt ?_ | refine ff ?_ | exact ⟨trivial⟩ | exact sAll rfl | exact sF1 rfl | exact sBld (by repeat' (first | exact trivial | rfl | exact Nat.le_of_ble_eq_true rfl | refine And.intro ?_ ?_)) rfl | exact sBS (by repeat' (first | exact trivial | rfl | exact Nat.le_of_ble_eq_true rfl | refine And.intro ?_ ?_)) rfl rfl rfl rfl | exact sBSF (by repeat' (first | exact trivial | rfl | exact Nat.le_of_ble_eq_true rfl | refine And.intro ?_ ?_)) rfl rfl rfl rfl | exact sLe rfl | exact Chk.mk (by kernel_rfl) | exact ⟨Chk.mk (by kernel_rfl)⟩ | exact sLeEq rfl rfl | refine fun h => ?_)
  all_goals try (exact sAnd (by repeat' constructor) (p_copied_Read _ hx.1))
  all_goals try (exact sAnd (by repeat' constructor) (p_copied_Put _ hx.2))
  all_goals try (exact ⟨rfl⟩)
  all_goals try (exact trivial)
  exact ⟨⟨Nat.le_of_ble_eq_true rfl, trivial⟩, ⟨rfl, by simp, rfl, allF Two.frz⟩, ⟨rfl, by simp, rfl, allF Two.frz⟩, rfl, rfl, trivial⟩
theorem p_entryCopy (e : Entry) (he : e.ok lim) : Pure PP false 107 [.agg e.cells] (.agg [bo e.none, i6 e.q.a, i6 e.q.b, .own (e.run.reads.map Two.cells), .own (e.run.puts.map Two.cells), i6 e.run.c, i6 e.run.d]) := by
  refine Pure.vc [(9, .res (.agg [.own (e.run.reads.map Two.cells), .own (e.run.puts.map Two.cells), i6 e.run.c, i6 e.run.d])), (900001, .row [i6 0, i6 1, i6 2, i6 3, i6 4, i6 5, i6 6, i6 7, i6 8])] TTok hmo Go.Proofs.Tryz.func107 (by kernel_rfl) rfl (by kernel_rfl) ?_
  repeat' (first | refine And.intro ?_ ?_ | exact tf | exact ft | refine tt ?_ | refine ff ?_ | exact ⟨trivial⟩ | exact sAll rfl | exact sF1 rfl | exact sBld (by repeat' (first | exact trivial | rfl | exact Nat.le_of_ble_eq_true rfl | refine And.intro ?_ ?_)) rfl | exact sBS (by repeat' (first | exact trivial | rfl | exact Nat.le_of_ble_eq_true rfl | refine And.intro ?_ ?_)) rfl rfl rfl rfl | exact sBSF (by repeat' (first | exact trivial | rfl | exact Nat.le_of_ble_eq_true rfl | refine And.intro ?_ ?_)) rfl rfl rfl rfl | exact sLe rfl | exact Chk.mk (by kernel_rfl) | exact ⟨Chk.mk (by kernel_rfl)⟩ | exact sLeEq rfl rfl | exact sAnd (by repeat' constructor) (p_runCopy _ he) | refine fun h => ?_)
  all_goals try (exact ⟨rfl⟩)
  all_goals try (exact trivial)
  exact ⟨⟨Nat.le_of_ble_eq_true rfl, trivial⟩, rfl, rfl, rfl, ⟨rfl, by simp, rfl, allF Two.frz⟩, ⟨rfl, by simp, rfl, allF Two.frz⟩, rfl, rfl, trivial⟩
theorem scMap {α : Type} {c : α → List MC} {xs : List α} (h : ∀ x, (c x).all scB = true) : ∀ r ∈ xs.map c, ∀ d ∈ r, ∃ v, d = .sc v := fun r hr d hd => by
  obtain ⟨x, _, rfl⟩ := List.mem_map.1 hr
  have := List.all_eq_true.1 (h x) d hd
  cases d <;> first | exact ⟨_, rfl⟩ | (cases this; done)
theorem t_entryCopy (e : Entry) (he : e.ok lim) : TPure PP 107 [.agg e.cells] (.agg e.cells) :=
  (p_entryCopy e he).toT (by
    intro c hc
    simp only [List.mem_cons, List.not_mem_nil, or_false] at hc
    rcases hc with rfl | rfl | rfl | rfl | rfl | rfl | rfl
    all_goals first | exact .inl ⟨_, rfl⟩ | exact .inr ⟨_, rfl, scMap fun _ => rfl⟩) rfl
theorem t_votesCopy (vs : List Vote) (hx : vs.length ≤ lim) (hv : VsOk lim vs) : TPure PP 106 [.one (.fz (vs.map Vote.cells))] (.one (.fz (vs.map Vote.cells))) := by
  have hx0 : vs.length ≤ 1048576 := hx
  have hlen : (vs.map Vote.cellsA).length = vs.length := List.length_map ..
  have hAf : ∀ r ∈ vs.map Vote.cellsA, ∀ d ∈ r, d.flat = true := fun r hr d hd => by
    obtain ⟨x, _, rfl⟩ := List.mem_map.1 hr
    exact List.all_eq_true.1 (show x.cellsA.all MC.flat = true from rfl) d hd
  refine TPure.vc [(6, .con true [] [] [] (sCpV vs.length))] TTok hmo Go.Proofs.Tryz.func106 (by kernel_rfl) rfl (by kernel_rfl) ?_
  repeat' (first | refine And.intro ?_ ?_ | exact tf | exact ft | refine tt ?_ | refine ff ?_ | exact ⟨trivial⟩ | exact sAll rfl | exact sF1 rfl | exact sBld (by repeat' (first | exact trivial | rfl | exact Nat.le_of_ble_eq_true rfl | refine And.intro ?_ ?_)) rfl | exact sBS (by repeat' (first | exact trivial | rfl | exact Nat.le_of_ble_eq_true rfl | refine And.intro ?_ ?_)) rfl rfl rfl rfl | exact sBSF (by repeat' (first | exact trivial | rfl | exact Nat.le_of_ble_eq_true rfl | refine And.intro ?_ ?_)) rfl rfl rfl rfl | exact sLe rfl | exact Chk.mk (by kernel_rfl) | exact ⟨Chk.mk (by kernel_rfl)⟩ | exact sLeEq rfl rfl | refine fun h => ?_)
  · exact ⟨c_copied_VoteU vs hx⟩
  · exact ⟨fun _ _ => trivial⟩
  · exact ⟨fun _ _ => ⟨trivial, trivial⟩⟩
  · refine W.loopC (D := Nat × (Nat → Nat → Tk)) (fun d => [(18, .res (.agg (vs.getD d.1 default).e.cellsA)), (19, .tre true (fun _ => .agg (vs.getD d.1 default).e.cells))]) TTok hmo (fun d => ⟨24, 1, [(3, .one (.ref 0 0 vs.length)), (8, oi vs.length), (9, oi d.1)], [(0, .arr (rowsT d.2 Vote.cells vs (vs.map Vote.cellsA) d.1))]⟩) (fun d => vs.length - d.1) (fun d => d.1 ≤ vs.length ∧ FillInv d.2 Vote.cells vs d.1) (0, fun _ _ => noTk) [] ⟨Nat.zero_le _, .zero⟩ ?_ ?_
    · repeat' (first | exact trivial | exact ⟨trivial⟩ | exact Side.mk rfl | exact sF1 rfl | exact Chk.mk (by kernel_rfl) | exact ⟨Chk.mk (by kernel_rfl)⟩ | exact sFlatT Vote.frz hAf | refine And.intro ?_ ?_ | rfl)
      exact ⟨by rw [rowsT_zero, List.map_map]; rfl⟩
    · intro ⟨i, Bf⟩ ⟨hi, hinv⟩
      dsimp only at hi hinv
      repeat' (first | refine And.intro ?_ ?_ | exact tf | exact ft | refine tt ?_ | refine ff ?_ | exact ⟨trivial⟩ | exact sAll rfl | exact sF1 rfl | exact sBld (by repeat' (first | exact trivial | rfl | exact Nat.le_of_ble_eq_true rfl | refine And.intro ?_ ?_)) rfl | exact sBS (by repeat' (first | exact trivial | rfl | exact Nat.le_of_ble_eq_true rfl | refine And.intro ?_ ?_)) rfl rfl rfl rfl | exact sBSF (by repeat' (first | exact trivial | rfl | exact Nat.le_of_ble_eq_true rfl | refine And.intro ?_ ?_)) rfl rfl rfl rfl | exact sLe rfl | exact Chk.mk (by kernel_rfl) | exact ⟨Chk.mk (by kernel_rfl)⟩ | exact sLeEq rfl rfl | refine fun h => ?_)
      all_goals try (exact endTree hinv hlen (by have h3 := of_decide_eq_false h; dsimp only at h3; omega) rfl Vote.frz)
      all_goals try (exact ⟨⟨trivial, trivial⟩⟩)
      all_goals try (have hl : i < vs.length := by (have h3 := of_decide_eq_true ‹decide ((i : Int) < (vs.length : Int)) = true›; omega))
      all_goals try (have hgA : (vs.map Vote.cellsA)[i]? = some (vs.getD i default).cellsA := by rw [List.getElem?_map, List.getElem?_eq_getElem hl, getD_get hl]; rfl)
      all_goals try (exact Side.mk (t_entryCopy _ (hv _ (getD_mem hl))))
      all_goals try (exact sIxT (i := i) hlen rfl hl rfl hgA rfl)
      all_goals try (exact sLdT (i := i) hlen (by simp) hl hgA rfl rfl)
      all_goals try (exact sStT (i := i) hlen (by simp) hl hgA rfl rfl)
      all_goals try (exact Side.mk (by repeat' constructor))
      · rename_i B hA
        refine ⟨(i + 1, updT Bf i (Vote.cells (vs.getD i default)) (fun j => B 0 (j - 1))), [], by dsimp only; omega, ⟨by dsimp only; omega, ?_⟩, ?_⟩
        · refine hinv.stepB hl (B := fun j => B 0 (j - 1)) (fun j j' x r1 r2 g1 g2 h1 h2 => ?_) (fun j x hx => ⟨0, j - 1, hx⟩) (h.st 0 _ rfl)
          have h3 := (hA 0 _ 0 _ x h1 h2).2
          have h4 : j ≠ 0 := fun e => by subst e; cases g1
          have h5 : j' ≠ 0 := fun e => by subst e; cases g2
          omega
        · repeat' (first | exact trivial | exact ⟨trivial⟩ | exact Side.mk rfl | exact sF1 rfl | exact Chk.mk (by kernel_rfl) | exact ⟨Chk.mk (by kernel_rfl)⟩ | exact sSetT hlen (by simp) hl hgA rfl | exact sFlatT Vote.frz hAf | exact ⟨by rw [wrapi] <;> omega⟩ | refine And.intro ?_ ?_ | rfl)
end Mg

/- What there is behind what a node knows, on the other side. No condition. -/
namespace Mg
open Go Go.RowKit
set_option maxRecDepth 100000
set_option linter.unusedVariables false
set_option linter.unusedSimpArgs false
attribute [local irreducible] W Pure Con
def tSt (q : St) : ConT := ⟨Unit, fun _ => True, fun _ => .agg q.cells, fun _ => []⟩
set_option maxHeartbeats 16000000 in
theorem c_spec_CertFold (l : List Entry) (hl : l.length ≤ lim) (ho : ∀ e ∈ l, e.ok lim) : Con PP 57 [.one (.fz (l.map Entry.cells))] [] 0 (tSt (foldC l)).p (tSt (foldC l)).r (tSt (foldC l)).os := by
  obtain ⟨q, hq⟩ : ∃ q, foldC l = q := ⟨_, rfl⟩
  rw [hq]
  refine Con.vc [(7, .res (.agg [i6 0, .own (stOpen.boxes.map Two.cells), .fz []]))] TTok hmo Go.Proofs.Tryz.func57 rfl (by kernel_rfl) rfl (by kernel_rfl) ?_
  repeat' (first | refine And.intro ?_ ?_ | exact tf | exact ft | refine tt ?_ | refine ff ?_ | exact ⟨trivial⟩ | exact sAll rfl | exact sF1 rfl | exact sBld (by repeat' (first | exact trivial | rfl | exact Nat.le_of_ble_eq_true rfl | refine And.intro ?_ ?_)) rfl | exact sBS (by repeat' (first | exact trivial | rfl | exact Nat.le_of_ble_eq_true rfl | refine And.intro ?_ ?_)) rfl rfl rfl rfl | exact sBSF (by repeat' (first | exact trivial | rfl | exact Nat.le_of_ble_eq_true rfl | refine And.intro ?_ ?_)) rfl rfl rfl rfl | exact sLe rfl | exact Chk.mk (by kernel_rfl) | exact ⟨Chk.mk (by kernel_rfl)⟩ | exact sLeEq rfl rfl | exact sAnd (by repeat' constructor) (p_spec_CertOpen) | refine fun h => ?_)
  all_goals try (exact ⟨Nat.le_of_ble_eq_true rfl, trivial⟩)
  · have h4 : 40 < l.length := by (have h3 := of_decide_eq_true h; rw [List.length_map] at h3; omega)
    obtain rfl : stNone = q := by
      rw [← hq]; unfold foldC; rw [if_neg]
      intro h5; simp only [entsOk, Bool.and_eq_true, decide_eq_true_eq] at h5; omega
    apply exU'; refine ⟨[], [], trivial, ?_⟩
    repeat' (first | exact trivial | exact ⟨trivial⟩ | exact Side.mk rfl | exact sF1 rfl | exact Chk.mk (by kernel_rfl) | exact ⟨Chk.mk (by kernel_rfl)⟩ | refine And.intro ?_ ?_ | rfl)
  · have h4 : l.length ≤ 40 := by (have h3 := of_decide_eq_false h; rw [List.length_map] at h3; omega)
    have inv : ∀ i, i ≤ l.length → (l.take i).all entryOk = true → StOk (foldS stOpen (l.take i)) ∧ (foldS stOpen (l.take i)).at_ = i := fun i hi ha => by
      have := foldS_ok (l := l.take i) stOpen_ok (List.all_eq_true.1 ha) (by simp [stOpen]; omega)
      refine ⟨this.1, ?_⟩
      rw [this.2]; simp [stOpen]; omega
    refine W.loopC (D := Nat) (fun i => [(20, .row (l.getD i default).cells), (22, .res (ob (entryOk (l.getD i default)))), (800009, .row [])]) TTok hmo
      (fun i => ⟨36, 3, [(0, .one (.fz (l.map Entry.cells))), (2, .one (.ptr 0 0 0)), (3, .one (.ptr 2 0 0)), (4, oi i)],
        [(0, .box [i6 0, .nil, .nil]), (1, .arr ((foldS stOpen (l.take i)).boxes.map Two.cells)), (2, .box [i6 (foldS stOpen (l.take i)).at_, .ref 1 0 4, .fz ((foldS stOpen (l.take i)).dones.map Done.cells)])]⟩) (fun i => l.length - i) (fun i => i ≤ l.length ∧ (l.take i).all entryOk = true) 0 [] ⟨Nat.zero_le _, rfl⟩ ?_ ?_
    · repeat' (first | exact trivial | exact ⟨trivial⟩ | exact Side.mk rfl | exact sF1 rfl | exact Chk.mk (by kernel_rfl) | exact ⟨Chk.mk (by kernel_rfl)⟩ | exact sMapF Two.flat | refine And.intro ?_ ?_ | rfl)
      all_goals skip
    · rintro i ⟨hi, hp⟩
      repeat' (first | refine And.intro ?_ ?_ | exact tf | exact ft | refine tt ?_ | refine ff ?_ | exact ⟨trivial⟩ | exact sAll rfl | exact sF1 rfl | exact sBld (by repeat' (first | exact trivial | rfl | exact Nat.le_of_ble_eq_true rfl | refine And.intro ?_ ?_)) rfl | exact sBS (by repeat' (first | exact trivial | rfl | exact Nat.le_of_ble_eq_true rfl | refine And.intro ?_ ?_)) rfl rfl rfl rfl | exact sBSF (by repeat' (first | exact trivial | rfl | exact Nat.le_of_ble_eq_true rfl | refine And.intro ?_ ?_)) rfl rfl rfl rfl | exact sLe rfl | exact Chk.mk (by kernel_rfl) | exact ⟨Chk.mk (by kernel_rfl)⟩ | exact sLeEq rfl rfl | refine fun h => ?_)
      all_goals try (exact ⟨Nat.le_of_ble_eq_true rfl, trivial⟩)
      all_goals try (have hli : i < l.length := by (have h3 := of_decide_eq_true ‹decide ((i : Int) < ((l.map Entry.cells).length : Int)) = true›; rw [List.length_map] at h3; omega))
      all_goals try (exact sRow (by omega) (row_at l _ hli) rfl)
      all_goals try (exact sAnd (by repeat' constructor) (c_spec_CertEntry _ (ho _ (getD_mem hli))))
      · obtain rfl : stNone = q := by
          rw [← hq]; unfold foldC; rw [if_neg]
          intro h5; simp only [entsOk, Bool.and_eq_true] at h5
          have := List.all_eq_true.1 h5.2 _ (getD_mem hli)
          rw [this] at h; cases h
        apply exU'; refine ⟨[], [], trivial, ?_⟩
        repeat' (first | exact trivial | exact ⟨trivial⟩ | exact Side.mk rfl | exact sF1 rfl | exact Chk.mk (by kernel_rfl) | exact ⟨Chk.mk (by kernel_rfl)⟩ | refine And.intro ?_ ?_ | rfl)
      · have hv := inv i hi hp
        have hei : entryOk (l.getD i default) = true := by simpa using h
        have hp' : (l.take (i + 1)).all entryOk = true := all_step hli hp hei
        have cA := c_l5Apply (foldS stOpen (l.take i)) hv.1 (l.getD i default) hei (ho _ (getD_mem hli)) (by rw [hv.2]; omega)
        have hst := foldS_step (s := stOpen) hli
        have hb4 := boxOk_len' hv.1.box
        have hb4' := boxOk_len' (inv (i + 1) hli hp').1.box
        rw [hst] at hb4'
        refine W.seqT [(29, .row (l.getD i default).cells), (31, .con false [1] [] [] (fun _ _ => tAp (apply1 (foldS stOpen (l.take i)) (l.getD i default))))] [0, 1, 2, 3, 4, 5, 6, 7, 8, 9, 10, 11] TTok hmo (Chk.mk (by kernel_rfl)) ?_
        repeat' (first | refine And.intro ?_ ?_ | exact tf | exact ft | refine tt ?_ | refine ff ?_ | exact ⟨trivial⟩ | exact sAll rfl | exact sF1 rfl | exact sBld (by repeat' (first | exact trivial | rfl | exact Nat.le_of_ble_eq_true rfl | refine And.intro ?_ ?_)) rfl | exact sBS (by repeat' (first | exact trivial | rfl | exact Nat.le_of_ble_eq_true rfl | refine And.intro ?_ ?_)) rfl rfl rfl rfl | exact sBSF (by repeat' (first | exact trivial | rfl | exact Nat.le_of_ble_eq_true rfl | refine And.intro ?_ ?_)) rfl rfl rfl rfl | exact sLe rfl | exact Chk.mk (by kernel_rfl) | exact ⟨Chk.mk (by kernel_rfl)⟩ | exact sLeEq rfl rfl | refine fun h => ?_)
        all_goals try dsimp only [tAp] at *
        all_goals try (exact ⟨rfl⟩)
        all_goals try (exact trivial)
        all_goals try (exact sRow (by omega) (row_at l _ hli) rfl)
        all_goals try (exact ⟨allF Two.frz, trivial⟩)
        all_goals try (exact ⟨cA⟩)
        all_goals try (exact ⟨fun _ _ => ⟨allF Two.frz, trivial⟩⟩)
        all_goals try (exact ⟨fun _ _ => ⟨by rw [List.length_map, List.length_map, hb4, hb4']; exact Nat.le_refl _, trivial⟩⟩)
        all_goals (refine W.go [] TTok hmo ?_)
        all_goals repeat' (first | refine And.intro ?_ ?_ | exact tf | exact ft | refine tt ?_ | refine ff ?_ | exact ⟨trivial⟩ | exact sAll rfl | exact sF1 rfl | exact sBld (by repeat' (first | exact trivial | rfl | exact Nat.le_of_ble_eq_true rfl | refine And.intro ?_ ?_)) rfl | exact sBS (by repeat' (first | exact trivial | rfl | exact Nat.le_of_ble_eq_true rfl | refine And.intro ?_ ?_)) rfl rfl rfl rfl | exact sBSF (by repeat' (first | exact trivial | rfl | exact Nat.le_of_ble_eq_true rfl | refine And.intro ?_ ?_)) rfl rfl rfl rfl | exact sLe rfl | exact Chk.mk (by kernel_rfl) | exact ⟨Chk.mk (by kernel_rfl)⟩ | exact sLeEq rfl rfl | refine fun h => ?_)
        all_goals (refine ⟨i + 1, [], by omega, ⟨by omega, hp'⟩, ?_⟩; rw [hst]; (focus (repeat' (first | exact trivial | exact ⟨trivial⟩ | exact Side.mk rfl | exact sF1 rfl | exact Chk.mk (by kernel_rfl) | exact ⟨Chk.mk (by kernel_rfl)⟩ | exact sMapF Two.flat | exact ⟨by rw [wrapi] <;> omega⟩ | refine And.intro ?_ ?_ | rfl))))
      · have hil : i = l.length := by (have h3 := of_decide_eq_false h; rw [List.length_map] at h3; omega)
        subst hil
        have hv := inv _ hi hp
        rw [List.take_length] at hp hv ⊢
        have hb4 := boxOk_len' hv.1.box
        obtain rfl : foldS stOpen l = q := by rw [← hq]; unfold foldC; rw [if_pos]; simp only [entsOk, Bool.and_eq_true, decide_eq_true_eq]; exact ⟨h4, hp⟩
        apply exU'; refine ⟨[], [1], trivial, ?_⟩
        repeat' (first | exact trivial | exact ⟨trivial⟩ | exact Side.mk rfl | exact sF1 rfl | exact Chk.mk (by kernel_rfl) | exact ⟨Chk.mk (by kernel_rfl)⟩ | exact sMapZ Two.frz | exact sFzE hb4.symm | refine And.intro ?_ ?_ | rfl)
theorem c_spec_NodeState (n : Node) (hn : n.ok lim) : Con PP 13 [.agg n.cells] [] 0 (tSt (stateOf n)).p (tSt (stateOf n)).r (tSt (stateOf n)).os := by
  unfold stateOf
  by_cases h0 : nodeOk n = true
  · rw [if_pos h0]
    have hk : entsOk n.known = true := by simp only [nodeOk, Bool.and_eq_true] at h0; exact h0.1.1.1.1.1.2
    have cF := c_spec_CertFold n.known hn.known.1 hn.known.2
    unfold foldC at cF
    rw [if_pos hk] at cF
    refine Con.vc [(4, .res (ob (nodeOk n))), (9, .con false [] [] [] (fun _ _ => tSt (foldS stOpen n.known)))] TTok hmo Go.Proofs.Tryz.func13 rfl (by kernel_rfl) rfl (by kernel_rfl) ?_
    repeat' (first | refine And.intro ?_ ?_ | exact tf | exact ft | refine tt ?_ | refine ff ?_ | exact ⟨trivial⟩ | exact sAll rfl | exact sF1 rfl | exact sBld (by repeat' (first | exact trivial | rfl | exact Nat.le_of_ble_eq_true rfl | refine And.intro ?_ ?_)) rfl | exact sBS (by repeat' (first | exact trivial | rfl | exact Nat.le_of_ble_eq_true rfl | refine And.intro ?_ ?_)) rfl rfl rfl rfl | exact sBSF (by repeat' (first | exact trivial | rfl | exact Nat.le_of_ble_eq_true rfl | refine And.intro ?_ ?_)) rfl rfl rfl rfl | exact sLe rfl | exact Chk.mk (by kernel_rfl) | exact ⟨Chk.mk (by kernel_rfl)⟩ | exact sLeEq rfl rfl | exact sAnd (by repeat' constructor) (c_spec_NodeOk n hn) | refine fun h => ?_)
    all_goals try (exfalso; simp_all; done)
    all_goals try dsimp only [tSt] at *
    all_goals try (exact ⟨fun _ _ => trivial⟩)
    all_goals try (exact ⟨cF⟩)
    all_goals try (first | exact ⟨trivial, trivial⟩ | exact ⟨Nat.le_of_ble_eq_true rfl, trivial⟩ | exact ⟨trivial, Nat.le_of_ble_eq_true rfl, trivial⟩ | exact ⟨Nat.le_of_ble_eq_true rfl, trivial, trivial⟩)
    all_goals (apply exU'; refine ⟨[], [], trivial, ?_⟩; (focus (repeat' (first | exact trivial | exact ⟨trivial⟩ | exact Side.mk rfl | exact sF1 rfl | exact Chk.mk (by kernel_rfl) | exact ⟨Chk.mk (by kernel_rfl)⟩ | refine And.intro ?_ ?_ | rfl))))
  · rw [if_neg h0]
    refine Con.vc [(4, .res (ob (nodeOk n)))] TTok hmo Go.Proofs.Tryz.func13 rfl (by kernel_rfl) rfl (by kernel_rfl) ?_
    repeat' (first | refine And.intro ?_ ?_ | exact tf | exact ft | refine tt ?_ | refine ff ?_ | exact ⟨trivial⟩ | exact sAll rfl | exact sF1 rfl | exact sBld (by repeat' (first | exact trivial | rfl | exact Nat.le_of_ble_eq_true rfl | refine And.intro ?_ ?_)) rfl | exact sBS (by repeat' (first | exact trivial | rfl | exact Nat.le_of_ble_eq_true rfl | refine And.intro ?_ ?_)) rfl rfl rfl rfl | exact sBSF (by repeat' (first | exact trivial | rfl | exact Nat.le_of_ble_eq_true rfl | refine And.intro ?_ ?_)) rfl rfl rfl rfl | exact sLe rfl | exact Chk.mk (by kernel_rfl) | exact ⟨Chk.mk (by kernel_rfl)⟩ | exact sLeEq rfl rfl | exact sAnd (by repeat' constructor) (c_spec_NodeOk n hn) | refine fun h => ?_)
    all_goals try (exfalso; simp_all; done)
    all_goals try (first | exact ⟨trivial, trivial⟩ | exact ⟨Nat.le_of_ble_eq_true rfl, trivial⟩ | exact ⟨trivial, Nat.le_of_ble_eq_true rfl, trivial⟩ | exact ⟨Nat.le_of_ble_eq_true rfl, trivial, trivial⟩)
    all_goals (apply exU'; refine ⟨[], [], trivial, ?_⟩; (focus (repeat' (first | exact trivial | exact ⟨trivial⟩ | exact Side.mk rfl | exact sF1 rfl | exact Chk.mk (by kernel_rfl) | exact ⟨Chk.mk (by kernel_rfl)⟩ | refine And.intro ?_ ?_ | rfl))))
theorem t_NodeState (n : Node) (hn : n.ok lim) : TPure PP 14 [.agg n.cells] (.agg (stateOf n).cells) :=
  (p_impl_NodeState n hn).toT (by
    intro c hc
    simp only [List.mem_cons, List.not_mem_nil, or_false] at hc
    rcases hc with rfl | rfl | rfl
    all_goals first | exact .inl ⟨_, rfl⟩ | exact .inr ⟨_, rfl, scMap fun _ => rfl⟩) rfl
end Mg
