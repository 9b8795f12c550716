/- Parts of the abstract state logic and of the walks, one behind the other: Mg42, Mg43, Mg23, R1T, R1D, R1C, R1E, R1F, R1H, R1M. No condition. -/
import Derived.Test.YtedgmfmhilihoaaP13
import Derived.Test.YtedgmfmhilihoaaP11
import Derived.Test.YtedgmfmhilihoaaRows
/- The abstract state logic, part 42: a list of read cells in a slot is frozen. No condition. -/
namespace Mg
open Go Go.RowKit
set_option linter.unusedVariables false
variable {P : Program} {T : Tab}

theorem Rl.slot {w0 : World} {wr : Wr} {A : Nat → Prop} {L : Lay} {F : FF} {s : S} {a : Act} {w : World} (h : Rl w0 wr A L F s a w) {t : Nat} {v : MV} (hv : RV (look s.st) L w F v (a.tmps.getD t undef)) (hb : v.bd s.n) : Rl w0 wr A L F { s with env := (t, v) :: s.env } a w := by
  refine ⟨h.os, h.tape, h.output, h.size, h.keep, h.kc, h.pin, h.fa, h.fn, h.fsz, h.ob, h.own, h.inj, h.sz, fun t' v' hv' => ?_, h.bst, fun t' v' hv' => ?_, h.df⟩
  · rw [show look ({ s with env := (t, v) :: s.env } : S).env t' = look ((t, v) :: s.env) t' from rfl, look_cons] at hv'
    by_cases e : t = t'
    · subst e; rw [if_pos rfl] at hv'; obtain rfl := Option.some.inj hv'; exact hv
    · rw [if_neg (fun hh => e hh.symm)] at hv'; exact h.env t' v' hv'
  · rw [show look ({ s with env := (t, v) :: s.env } : S).env t' = look ((t, v) :: s.env) t' from rfl, look_cons] at hv'
    by_cases e : t = t'
    · subst e; rw [if_pos rfl] at hv'; obtain rfl := Option.some.inj hv'; exact hb
    · rw [if_neg (fun hh => e hh.symm)] at hv'; exact h.ben t' v' hv'
def S.frzE (s : S) (t : Nat) : Option (Nat × List (List MC) × S) := match look s.env t with
  | some (.one (.ref id off len)) => match look s.st id with
    | some (.arr rows) => some (id, rows, { s with env := (t, .one (.ag (((rows.drop off).take len).map fun r => r.map MC.unA))) :: s.env, st := del s.st id })
    | _ => none
  | _ => none
theorem W.frzE {k : Nat} {c : Code} {s s' : S} {Q : Exit → S → Prop} (j : Nat) {id : Nat} {rows : List (List MC)} (hs : s.frzE j = some (id, rows, s')) (hall : AllA rows) (h : fS s' fun s' => W k P c s' Q) : W k P c s Q := fun w0 wr A a w hk ⟨L, F, hr⟩ => by
  rw [fS_eq] at h
  unfold S.frzE at hs
  split at hs
  case h_2 => cases hs
  rename_i id0 off len hj
  split at hs
  case h_2 => cases hs
  rename_i rows0 hid
  have hs1 := Prod.mk.inj (Option.some.inj hs)
  have hs2 := Prod.mk.inj hs1.2
  obtain rfl := hs1.1
  obtain rfl := hs2.1
  obtain rfl := hs2.2
  generalize hu0 : a.tmps.getD j undef = u0
  have hru0 : RC (look s.st) L w F (.ref id0 off len) u0 := hu0 ▸ hr.env j _ hj
  obtain ⟨bb, cap, hv, hle, _⟩ := hru0.2 rows0 hid
  have hlen : ((((rows0.drop off).take len).map fun r => r.map MC.unA)).length = len := by simp; omega
  -- freeze, then read the cell otherwise
  have key : ∀ F2 : FF, (∀ x, F.all x → F2.all x) → (∀ bk t, L id0 = some (bk, t) → F2.all bk) → RF w F2.all (.fz (((rows0.drop off).take len).map fun r => r.map MC.unA)) u0 := fun F2 hF hbk => by
    by_cases hn : len = 0
    · subst hn; rw [hv]; simp; exact .nilz _ _
    · obtain ⟨bk, st, cap', hL, hv', _, hcap, _, _, hsz, hw⟩ := ref_row hr hru0 hid hn
      rw [hv']
      have := RF.mk (w := w) (F := F2.all) (rows := ((rows0.drop off).take len).map fun r => r.map MC.unA) (a := some ⟨bk, off * st, none⟩) (cap := cap') (by omega) (fun _ => ⟨bk, off * st, st, rfl, hbk bk st hL, fun r hr' => by
          obtain ⟨r0, hr0, rfl⟩ := List.mem_map.1 hr'
          rw [List.length_map]
          exact hsz r0 (List.mem_of_mem_drop (List.mem_of_mem_take hr0)), fun i j' r c hi hj' => by
        rw [List.getElem?_map] at hi
        obtain ⟨r0, hi0, rfl⟩ := Option.map_eq_some_iff.1 hi
        rw [List.getElem?_map] at hj'
        obtain ⟨c0, hc0, rfl⟩ := Option.map_eq_some_iff.1 hj'
        have hf := hall.h r0 (List.mem_of_mem_drop (List.mem_of_mem_take (List.mem_of_getElem? hi0))) c0 (List.mem_of_getElem? hc0)
        rw [List.getElem?_take] at hi0
        split at hi0
        · rw [List.getElem?_drop] at hi0
          obtain ⟨u, hu, hru⟩ := hw _ r0 hi0 j' c0 hc0
          refine ⟨u, ?_, RF.mono (fun _ _ => rfl) hF (hru.unA hf)⟩
          rw [← hu]; congr 2; rw [Nat.add_mul]; omega
        · cases hi0⟩)
      rwa [hlen] at this
  cases hL : L id0 with
  | some q =>
    obtain ⟨bk, t⟩ := q
    have hR2 := hr.freeze hid hL
    refine h w0 wr A a w hk ⟨L, _, hR2.slot (t := j) (v := .one (.ag (((rows0.drop off).take len).map fun r => r.map MC.unA))) ?_ trivial⟩
    rw [hu0]
    refine key _ (fun x hx => hx.imp Or.inl id) (fun bk2 t3 h3 => ?_)
    rw [hL] at h3
    obtain ⟨rfl, rfl⟩ := Prod.mk.inj (Option.some.inj h3)
    exact .inl (.inr rfl)
  | none =>
    have hsub : Sub { s with st := del s.st id0 } s := by
      refine ⟨rfl, fun t v hv => ⟨hv, hr.ben t v hv⟩, fun i o ho => ?_⟩
      simp only [look_del] at ho
      split at ho
      · cases ho
      · exact ⟨ho, hr.bst i o ho⟩
    · have hR2 := hr.weaken hsub (fun i hi => (hr.pin i hi).2)
      refine h w0 wr A a w hk ⟨L, _, hR2.slot (t := j) (v := .one (.ag (((rows0.drop off).take len).map fun r => r.map MC.unA))) ?_ trivial⟩
      rw [hu0]
      exact key _ (fun x hx => hx) (fun bk2 t3 h3 => by rw [hL] at h3; cases h3)
end Mg

/- The abstract state logic, part 43: a frozen reading is told with its blocks. No condition. -/
namespace Mg
open Go Go.RowKit
set_option linter.unusedVariables false
variable {P : Program} {T : Tab}

theorem RC.tell {st : Sto} {L : Lay} {w : World} {F : FF} {rows : List (List MC)} {v : Value} (h : RC st L w F (.fz rows) v) : RC st L w F (.tr false F.n v rows) v := by
  have h1 : RF w F.n (.fz rows) v := h
  have h2 := RF.rt h1
  exact ⟨rfl, fun b hb => ⟨.inl hb, fun e => nomatch e⟩, h2.2⟩
def S.tellB (s : S) (b j : Nat) : Option (List (List MC) × (Bk → Value → S)) := match look s.st b with
  | some (.box cs) => match cs[j]? with
    | some (.fz rows) => some (rows, fun B u => s.set b (.box (cs.set j (.tr false B u rows))))
    | _ => none
  | _ => none
theorem W.tellB {k : Nat} {c : Code} {s : S} {Q : Exit → S → Prop} (b j : Nat) {rows : List (List MC)} {g : Bk → Value → S} (hs : s.tellB b j = some (rows, g)) (h : ∀ B u, fS (g B u) fun s' => W k P c s' Q) : W k P c s Q := fun w0 wr A a w hk ⟨L, F, hr⟩ => by
  unfold S.tellB at hs
  split at hs
  case h_2 => cases hs
  rename_i cs hb
  split at hs
  case h_2 => cases hs
  rename_i rows0 hj
  obtain ⟨rfl, rfl⟩ := Prod.mk.inj (Option.some.inj hs)
  obtain ⟨kb, tb, hLb, _, hcb⟩ := hr.ob b _ hb
  obtain ⟨u0, hu0, hru0⟩ := hcb j _ hj
  have h := h F.n u0
  rw [fS_eq] at h
  refine h w0 wr A a w hk ⟨L, F, hr.cell (j := j) (c := .tr false F.n u0 rows0) hb trivial (fun k t2 hk2 u hu => ?_)⟩
  rw [hLb] at hk2
  obtain ⟨rfl, rfl⟩ := Prod.mk.inj (Option.some.inj hk2)
  rw [hu0] at hu
  obtain rfl := Option.some.inj hu
  exact hru0.tell
def S.tellE (s : S) (t : Nat) : Option (List (List MC) × (Bk → Value → S)) := match look s.env t with
  | some (.one (.fz rows)) => some (rows, fun B u => { s with env := (t, .one (.tr false B u rows)) :: s.env })
  | _ => none
theorem W.tellE {k : Nat} {c : Code} {s : S} {Q : Exit → S → Prop} (t : Nat) {rows : List (List MC)} {g : Bk → Value → S} (hs : s.tellE t = some (rows, g)) (h : ∀ B u, fS (g B u) fun s' => W k P c s' Q) : W k P c s Q := fun w0 wr A a w hk ⟨L, F, hr⟩ => by
  unfold S.tellE at hs
  split at hs
  case h_2 => cases hs
  rename_i rows0 hj
  obtain ⟨rfl, rfl⟩ := Prod.mk.inj (Option.some.inj hs)
  have hru0 : RC (look s.st) L w F (.fz rows0) (a.tmps.getD t undef) := hr.env t _ hj
  have h := h F.n (a.tmps.getD t undef)
  rw [fS_eq] at h
  exact h w0 wr A a w hk ⟨L, F, hr.slot (t := t) (v := .one (.tr false F.n (a.tmps.getD t undef) rows0)) hru0.tell trivial⟩
end Mg

/- The abstract state logic, part 23: data out of what was read. No condition. -/
namespace Mg
open Go Go.RowKit
set_option linter.unusedVariables false

variable {T : Tab} {n t : Nat} {cs : List MC} {i : TI}

theorem fit_int {k : IntKind} (h : fit T n t cs) (ht : T t = some i) (hk : i.k = .int k) : ∃ m, cs = [.sc (.int k m)] ∧ k.min ≤ m ∧ m ≤ k.max := by
  cases n with
  | zero => exact h.elim
  | succ n => simpa only [fit, ht, hk] using h
theorem fit_bool (h : fit T n t cs) (ht : T t = some i) (hk : i.k = .bool) : ∃ b, cs = [.sc (.bool b)] := by
  cases n with
  | zero => exact h.elim
  | succ n => simpa only [fit, ht, hk] using h
theorem fit_str (h : fit T n t cs) (ht : T t = some i) (hk : i.k = .str) : ∃ s : ByteArray, cs = [.sc (.string s)] ∧ s.size ≤ maxLen := by
  cases n with
  | zero => exact h.elim
  | succ n => simpa only [fit, ht, hk] using h
theorem fit_slice {e : Nat} (h : fit T n t cs) (ht : T t = some i) (hk : i.k = .slice e) : ∃ rows, cs = [.fz rows] ∧ rows.length ≤ maxLen ∧ ∀ r ∈ rows, ∃ n, fit T n e r := by
  cases n with
  | zero => exact h.elim
  | succ n =>
    simp only [fit, ht, hk] at h
    obtain ⟨rows, h1, h2, h3⟩ := h
    exact ⟨rows, h1, h2, fun r hr => ⟨n, h3 r hr⟩⟩
theorem fit_struct {l : List (Nat × Nat)} (h : fit T n t cs) (ht : T t = some i) (hk : i.k = .struct l) : ∃ n, fitL (fit T n) (l.map (·.2)) cs := by
  cases n with
  | zero => exact h.elim
  | succ n => exact ⟨n, by simpa only [fit, ht, hk] using h⟩
theorem fit_arr {m e : Nat} (h : fit T n t cs) (ht : T t = some i) (hk : i.k = .arr m e) : ∃ n, fitL (fit T n) (List.replicate m e) cs := by
  cases n with
  | zero => exact h.elim
  | succ n => exact ⟨n, by simpa only [fit, ht, hk] using h⟩
theorem rows_data {α : Type} {c : α → List MC} {p : α → Prop} : ∀ {rows : List (List MC)}, (∀ r ∈ rows, ∃ x, r = c x ∧ p x) → ∃ xs : List α, rows = xs.map c ∧ ∀ x ∈ xs, p x
  | [], _ => ⟨[], rfl, fun x hx => by cases hx⟩
  | r :: rs, h => by
    obtain ⟨x, hx, hp⟩ := h r List.mem_cons_self
    obtain ⟨xs, hxs, hps⟩ := rows_data fun r hr => h r (List.mem_cons_of_mem _ hr)
    exact ⟨x :: xs, by simp [hx, hxs], fun y hy => by
      rcases List.mem_cons.1 hy with rfl | hy
      · exact hp
      · exact hps y hy⟩

/-- A result that is one scalar. -/
theorem OV_sc {w : World} {F : Nat → Prop} {u v : Value} {bs : List Nat} (h : OV w F (.one (.sc u)) v bs) : v = u := by
  have h : OC w F [.sc u] [v] bs := h
  cases h with
  | fz h _ => cases h; rfl

end Mg

/- The seat's types. No condition. -/
namespace Mg
open Go Go.RowKit

def tyL : List (Nat × TI) := [
  (3, ⟨1, 8, .int .i64, [.int .i64]⟩),
  (4, ⟨1, 1, .bool, [.bool]⟩),
  (5, ⟨1, 1, .int .u8, [.int .u8]⟩),
  (9, ⟨1, 16, .str, [.str]⟩),
  (12, ⟨1, 8, .int .u64, [.int .u64]⟩),
  (22, ⟨1, 24, .slice 59, [.nil]⟩),
  (23, ⟨1, 24, .slice 98, [.nil]⟩),
  (24, ⟨1, 24, .slice 87, [.nil]⟩),
  (25, ⟨1, 24, .slice 90, [.nil]⟩),
  (26, ⟨4, 96, .struct [(0, 22), (1, 23), (2, 24), (3, 25)], [.nil, .nil, .nil, .nil]⟩),
  (27, ⟨4, 96, .struct [(0, 22), (1, 23), (2, 24), (3, 25)], [.nil, .nil, .nil, .nil]⟩),
  (32, ⟨1, 24, .slice 118, [.nil]⟩),
  (33, ⟨1, 24, .slice 121, [.nil]⟩),
  (34, ⟨1, 24, .slice 124, [.nil]⟩),
  (35, ⟨1, 24, .slice 131, [.nil]⟩),
  (36, ⟨4, 96, .struct [(0, 32), (1, 33), (2, 34), (3, 35)], [.nil, .nil, .nil, .nil]⟩),
  (37, ⟨4, 96, .struct [(0, 32), (1, 33), (2, 34), (3, 35)], [.nil, .nil, .nil, .nil]⟩),
  (39, ⟨1, 24, .slice 56, [.nil]⟩),
  (45, ⟨1, 24, .slice 147, [.nil]⟩),
  (46, ⟨2, 32, .struct [(0, 3), (1, 45)], [.int .i64, .nil]⟩),
  (47, ⟨2, 32, .struct [(0, 3), (1, 45)], [.int .i64, .nil]⟩),
  (48, ⟨1, 24, .slice 4, [.nil]⟩),
  (49, ⟨2, 16, .struct [(0, 3), (1, 3)], [.int .i64, .int .i64]⟩),
  (50, ⟨2, 16, .struct [(0, 3), (1, 3)], [.int .i64, .int .i64]⟩),
  (51, ⟨1, 24, .slice 135, [.nil]⟩),
  (52, ⟨1, 24, .slice 137, [.nil]⟩),
  (53, ⟨4, 64, .struct [(0, 51), (1, 52), (2, 3), (3, 3)], [.nil, .nil, .int .i64, .int .i64]⟩),
  (54, ⟨4, 64, .struct [(0, 51), (1, 52), (2, 3), (3, 3)], [.nil, .nil, .int .i64, .int .i64]⟩),
  (55, ⟨7, 88, .struct [(0, 4), (1, 50), (3, 54)], [.bool, .int .i64, .int .i64, .nil, .nil, .int .i64, .int .i64]⟩),
  (56, ⟨7, 88, .struct [(0, 4), (1, 50), (3, 54)], [.bool, .int .i64, .int .i64, .nil, .nil, .int .i64, .int .i64]⟩),
  (57, ⟨1, 24, .slice 94, [.nil]⟩),
  (58, ⟨27, 392, .struct [(0, 3), (1, 47), (3, 39), (4, 3), (5, 3), (6, 3), (7, 48), (8, 45), (9, 56), (16, 48), (17, 4), (18, 57), (19, 56), (26, 39)], [.int .i64, .int .i64, .nil, .nil, .int .i64, .int .i64, .int .i64, .nil, .nil, .bool, .int .i64, .int .i64, .nil, .nil, .int .i64, .int .i64, .nil, .bool, .nil, .bool, .int .i64, .int .i64, .nil, .nil, .int .i64, .int .i64, .nil]⟩),
  (59, ⟨27, 392, .struct [(0, 3), (1, 47), (3, 39), (4, 3), (5, 3), (6, 3), (7, 48), (8, 45), (9, 56), (16, 48), (17, 4), (18, 57), (19, 56), (26, 39)], [.int .i64, .int .i64, .nil, .nil, .int .i64, .int .i64, .int .i64, .nil, .nil, .bool, .int .i64, .int .i64, .nil, .nil, .int .i64, .int .i64, .nil, .bool, .nil, .bool, .int .i64, .int .i64, .nil, .nil, .int .i64, .int .i64, .nil]⟩),
  (86, ⟨3, 40, .struct [(0, 50), (2, 57)], [.int .i64, .int .i64, .nil]⟩),
  (87, ⟨3, 40, .struct [(0, 50), (2, 57)], [.int .i64, .int .i64, .nil]⟩),
  (89, ⟨5, 40, .struct [(0, 3), (1, 50), (3, 3), (4, 3)], [.int .i64, .int .i64, .int .i64, .int .i64, .int .i64]⟩),
  (90, ⟨5, 40, .struct [(0, 3), (1, 50), (3, 3), (4, 3)], [.int .i64, .int .i64, .int .i64, .int .i64, .int .i64]⟩),
  (94, ⟨4, 32, .struct [(0, 3), (1, 3), (2, 3), (3, 3)], [.int .i64, .int .i64, .int .i64, .int .i64]⟩),
  (98, ⟨13, 152, .struct [(0, 3), (1, 3), (2, 3), (3, 3), (4, 3), (5, 56), (12, 45)], [.int .i64, .int .i64, .int .i64, .int .i64, .int .i64, .bool, .int .i64, .int .i64, .nil, .nil, .int .i64, .int .i64, .nil]⟩),
  (105, ⟨1, 24, .slice 166, [.nil]⟩),
  (106, ⟨2, 32, .struct [(0, 3), (1, 105)], [.int .i64, .nil]⟩),
  (107, ⟨2, 32, .struct [(0, 3), (1, 105)], [.int .i64, .nil]⟩),
  (108, ⟨1, 24, .slice 115, [.nil]⟩),
  (109, ⟨2, 16, .struct [(0, 3), (1, 3)], [.int .i64, .int .i64]⟩),
  (110, ⟨1, 24, .slice 181, [.nil]⟩),
  (111, ⟨1, 24, .slice 183, [.nil]⟩),
  (112, ⟨4, 64, .struct [(0, 110), (1, 111), (2, 3), (3, 3)], [.nil, .nil, .int .i64, .int .i64]⟩),
  (113, ⟨4, 64, .struct [(0, 110), (1, 111), (2, 3), (3, 3)], [.nil, .nil, .int .i64, .int .i64]⟩),
  (114, ⟨7, 88, .struct [(0, 4), (1, 109), (3, 113)], [.bool, .int .i64, .int .i64, .nil, .nil, .int .i64, .int .i64]⟩),
  (115, ⟨7, 88, .struct [(0, 4), (1, 109), (3, 113)], [.bool, .int .i64, .int .i64, .nil, .nil, .int .i64, .int .i64]⟩),
  (116, ⟨1, 24, .slice 171, [.nil]⟩),
  (117, ⟨27, 392, .struct [(0, 3), (1, 107), (3, 108), (4, 3), (5, 3), (6, 3), (7, 48), (8, 105), (9, 115), (16, 48), (17, 4), (18, 116), (19, 115), (26, 108)], [.int .i64, .int .i64, .nil, .nil, .int .i64, .int .i64, .int .i64, .nil, .nil, .bool, .int .i64, .int .i64, .nil, .nil, .int .i64, .int .i64, .nil, .bool, .nil, .bool, .int .i64, .int .i64, .nil, .nil, .int .i64, .int .i64, .nil]⟩),
  (118, ⟨27, 392, .struct [(0, 3), (1, 107), (3, 108), (4, 3), (5, 3), (6, 3), (7, 48), (8, 105), (9, 115), (16, 48), (17, 4), (18, 116), (19, 115), (26, 108)], [.int .i64, .int .i64, .nil, .nil, .int .i64, .int .i64, .int .i64, .nil, .nil, .bool, .int .i64, .int .i64, .nil, .nil, .int .i64, .int .i64, .nil, .bool, .nil, .bool, .int .i64, .int .i64, .nil, .nil, .int .i64, .int .i64, .nil]⟩),
  (121, ⟨13, 152, .struct [(0, 3), (1, 3), (2, 3), (3, 3), (4, 3), (5, 115), (12, 105)], [.int .i64, .int .i64, .int .i64, .int .i64, .int .i64, .bool, .int .i64, .int .i64, .nil, .nil, .int .i64, .int .i64, .nil]⟩),
  (123, ⟨3, 40, .struct [(0, 109), (2, 116)], [.int .i64, .int .i64, .nil]⟩),
  (124, ⟨3, 40, .struct [(0, 109), (2, 116)], [.int .i64, .int .i64, .nil]⟩),
  (130, ⟨5, 40, .struct [(0, 3), (1, 109), (3, 3), (4, 3)], [.int .i64, .int .i64, .int .i64, .int .i64, .int .i64]⟩),
  (131, ⟨5, 40, .struct [(0, 3), (1, 109), (3, 3), (4, 3)], [.int .i64, .int .i64, .int .i64, .int .i64, .int .i64]⟩),
  (134, ⟨2, 16, .struct [(0, 3), (1, 3)], [.int .i64, .int .i64]⟩),
  (135, ⟨2, 16, .struct [(0, 3), (1, 3)], [.int .i64, .int .i64]⟩),
  (136, ⟨2, 16, .struct [(0, 3), (1, 3)], [.int .i64, .int .i64]⟩),
  (137, ⟨2, 16, .struct [(0, 3), (1, 3)], [.int .i64, .int .i64]⟩),
  (146, ⟨8, 96, .struct [(0, 3), (1, 56)], [.int .i64, .bool, .int .i64, .int .i64, .nil, .nil, .int .i64, .int .i64]⟩),
  (147, ⟨8, 96, .struct [(0, 3), (1, 56)], [.int .i64, .bool, .int .i64, .int .i64, .nil, .nil, .int .i64, .int .i64]⟩),
  (165, ⟨8, 96, .struct [(0, 3), (1, 115)], [.int .i64, .bool, .int .i64, .int .i64, .nil, .nil, .int .i64, .int .i64]⟩),
  (166, ⟨8, 96, .struct [(0, 3), (1, 115)], [.int .i64, .bool, .int .i64, .int .i64, .nil, .nil, .int .i64, .int .i64]⟩),
  (171, ⟨4, 32, .struct [(0, 3), (1, 3), (2, 3), (3, 3)], [.int .i64, .int .i64, .int .i64, .int .i64]⟩),
  (181, ⟨2, 16, .struct [(0, 3), (1, 3)], [.int .i64, .int .i64]⟩),
  (183, ⟨2, 16, .struct [(0, 3), (1, 3)], [.int .i64, .int .i64]⟩)]
def TT : Tab := fun t => look tyL t
noncomputable abbrev PP : Program := Go.Proofs.Try.prog
theorem look_mem {α : Type} : ∀ {l : List (Nat × α)} {t : Nat} {i : α}, look l t = some i → (t, i) ∈ l
  | (k, v) :: l, t, i, h => by
    rw [look_cons] at h
    split at h
    · rename_i e; subst e; cases h; exact List.mem_cons_self
    · exact List.mem_cons_of_mem _ (look_mem h)
set_option maxRecDepth 100000 in
theorem TTok : TOk PP TT := fun t i h => by
  have h1 : (tyL.all fun q => q.2.ok PP q.1) = true := by kernel_rfl
  have h2 : (t, i) ∈ tyL := look_mem h
  exact List.all_eq_true.1 h1 _ h2
end Mg

/- The data of boxes, runs, entries, votes. No condition. -/
namespace Mg
open Go Go.RowKit

@[reducible] def i6 (n : Int) : MC := .sc (.int .i64 n)
@[reducible] def bo (b : Bool) : MC := .sc (.bool b)
@[reducible] def oi (n : Int) : MV := .one (.sc (.int .i64 n))
@[reducible] def ob (b : Bool) : MV := .one (.sc (.bool b))

structure Two where
  a : Int
  b : Int
  deriving DecidableEq, Inhabited
structure Run where
  reads : List Two
  puts : List Two
  c : Int
  d : Int
  deriving DecidableEq, Inhabited
structure Entry where
  none : Bool
  q : Two
  run : Run
  deriving DecidableEq, Inhabited
structure Vote where
  bal : Int
  e : Entry
  deriving DecidableEq, Inhabited
structure Acc where
  p : Int
  votes : List Vote
  deriving DecidableEq, Inhabited

def Two.cells (x : Two) : List MC := [i6 x.a, i6 x.b]
def Run.cells (x : Run) : List MC := [.fz (x.reads.map Two.cells), .fz (x.puts.map Two.cells), i6 x.c, i6 x.d]
def Entry.cells (x : Entry) : List MC := bo x.none :: (x.q.cells ++ x.run.cells)
def Vote.cells (x : Vote) : List MC := i6 x.bal :: x.e.cells
def Acc.cells (x : Acc) : List MC := [i6 x.p, .fz (x.votes.map Vote.cells)]

/-- What is small enough. -/
def Run.ok (n : Nat) (x : Run) : Prop := x.reads.length ≤ n ∧ x.puts.length ≤ n
def Entry.ok (n : Nat) (x : Entry) : Prop := x.run.ok n
def Vote.ok (n : Nat) (x : Vote) : Prop := x.e.ok n
def VotesOk (n : Nat) (xs : List Vote) : Prop := xs.length ≤ n ∧ ∀ v ∈ xs, v.ok n
def Acc.ok (n : Nat) (x : Acc) : Prop := VotesOk n x.votes
@[reducible] def lim : Nat := 1048576

theorem getD_mem {α : Type} [Inhabited α] {xs : List α} {i : Nat} (h : i < xs.length) : xs.getD i default ∈ xs := by
  rw [getD_get h]; exact List.getElem_mem h

theorem Two.frz (x : Two) : x.cells.all MC.frz = true := rfl
theorem Run.frz (x : Run) : x.cells.all MC.frz = true := rfl
theorem Entry.frz (x : Entry) : x.cells.all MC.frz = true := rfl
theorem Vote.frz (x : Vote) : x.cells.all MC.frz = true := rfl
theorem Two.flat (x : Two) : x.cells.all MC.flat = true := rfl
theorem Vote.flat (x : Vote) : x.cells.all MC.flat = true := rfl
end Mg

/- Contracts of the law's helpers. No condition. -/
namespace Mg
open Go Go.RowKit
set_option maxRecDepth 100000
set_option linter.unusedVariables false
set_option linter.unusedSimpArgs false
attribute [local irreducible] W Pure
theorem hmo : PP.follows .mixedOrders = true := by kernel_rfl
theorem c_toRead (x : Two) :
    Pure PP false 118 [.agg x.cells] (.agg x.cells) := by
  refine Pure.vc [] TTok hmo Go.Proofs.Try.func118 (by kernel_rfl) rfl (by kernel_rfl) ?_
  repeat' (first | refine And.intro ?_ ?_ | exact tf | exact ft | refine tt ?_ | refine ff ?_ | exact ⟨trivial⟩ | exact sLe rfl | exact Chk.mk (by kernel_rfl) | exact ⟨Chk.mk (by kernel_rfl)⟩ | exact sLeEq rfl rfl | refine fun h => ?_)
  all_goals (refine ⟨?_⟩; repeat' (first | exact trivial | exact Nat.le_of_ble_eq_true rfl | rfl | refine And.intro ?_ ?_))

theorem c_toPut (x : Two) :
    Pure PP false 119 [.agg x.cells] (.agg x.cells) := by
  refine Pure.vc [] TTok hmo Go.Proofs.Try.func119 (by kernel_rfl) rfl (by kernel_rfl) ?_
  repeat' (first | refine And.intro ?_ ?_ | exact tf | exact ft | refine tt ?_ | refine ff ?_ | exact ⟨trivial⟩ | exact sLe rfl | exact Chk.mk (by kernel_rfl) | exact ⟨Chk.mk (by kernel_rfl)⟩ | exact sLeEq rfl rfl | refine fun h => ?_)
  all_goals (refine ⟨?_⟩; repeat' (first | exact trivial | exact Nat.le_of_ble_eq_true rfl | rfl | refine And.intro ?_ ?_))

theorem c_toReq (x : Two) :
    Pure PP false 98 [.agg x.cells] (.agg x.cells) := by
  refine Pure.vc [] TTok hmo Go.Proofs.Try.func98 (by kernel_rfl) rfl (by kernel_rfl) ?_
  repeat' (first | refine And.intro ?_ ?_ | exact tf | exact ft | refine tt ?_ | refine ff ?_ | exact ⟨trivial⟩ | exact sLe rfl | exact Chk.mk (by kernel_rfl) | exact ⟨Chk.mk (by kernel_rfl)⟩ | exact sLeEq rfl rfl | refine fun h => ?_)
  all_goals (refine ⟨?_⟩; repeat' (first | exact trivial | exact Nat.le_of_ble_eq_true rfl | rfl | refine And.intro ?_ ?_))

theorem c_eqRead (x y : Two)  :
    Pure PP false 112 [.agg x.cells, .agg y.cells] (ob (decide (x = y))) := by
  obtain ⟨a, b⟩ := x
  obtain ⟨a', b'⟩ := y
  refine Pure.vc [] TTok hmo Go.Proofs.Try.func112 (by kernel_rfl) rfl (by kernel_rfl) ?_
  repeat' (first | refine And.intro ?_ ?_ | exact tf | exact ft | refine tt ?_ | refine ff ?_ | exact ⟨trivial⟩ | exact sLe rfl | exact Chk.mk (by kernel_rfl) | exact ⟨Chk.mk (by kernel_rfl)⟩ | exact sLeEq rfl rfl | refine fun h => ?_)
  all_goals (refine ⟨?_⟩; simp_all)
  all_goals rfl

theorem c_eqPut (x y : Two)  :
    Pure PP false 113 [.agg x.cells, .agg y.cells] (ob (decide (x = y))) := by
  obtain ⟨a, b⟩ := x
  obtain ⟨a', b'⟩ := y
  refine Pure.vc [] TTok hmo Go.Proofs.Try.func113 (by kernel_rfl) rfl (by kernel_rfl) ?_
  repeat' (first | refine And.intro ?_ ?_ | exact tf | exact ft | refine tt ?_ | refine ff ?_ | exact ⟨trivial⟩ | exact sLe rfl | exact Chk.mk (by kernel_rfl) | exact ⟨Chk.mk (by kernel_rfl)⟩ | exact sLeEq rfl rfl | refine fun h => ?_)
  all_goals (refine ⟨?_⟩; simp_all)
  all_goals rfl

theorem c_eqReq (x y : Two)  :
    Pure PP false 74 [.agg x.cells, .agg y.cells] (ob (decide (x = y))) := by
  obtain ⟨a, b⟩ := x
  obtain ⟨a', b'⟩ := y
  refine Pure.vc [] TTok hmo Go.Proofs.Try.func74 (by kernel_rfl) rfl (by kernel_rfl) ?_
  repeat' (first | refine And.intro ?_ ?_ | exact tf | exact ft | refine tt ?_ | refine ff ?_ | exact ⟨trivial⟩ | exact sLe rfl | exact Chk.mk (by kernel_rfl) | exact ⟨Chk.mk (by kernel_rfl)⟩ | exact sLeEq rfl rfl | refine fun h => ?_)
  all_goals (refine ⟨?_⟩; simp_all)
  all_goals rfl

theorem c_eqReadS (xs ys : List Two) (hx : xs.length ≤ maxLen) (hy : ys.length ≤ maxLen)  :
    Pure PP false 100 [.one (.fz (xs.map Two.cells)), .one (.fz (ys.map Two.cells))] (ob (decide (xs = ys))) := by
  refine Pure.vc [] TTok hmo Go.Proofs.Try.func100 (by kernel_rfl) rfl (by kernel_rfl) ?_
  repeat' (first | refine And.intro ?_ ?_ | exact tf | exact ft | refine tt ?_ | refine ff ?_ | exact ⟨trivial⟩ | exact sLe rfl | exact Chk.mk (by kernel_rfl) | exact ⟨Chk.mk (by kernel_rfl)⟩ | exact sLeEq rfl rfl | refine fun h => ?_)
  · refine ⟨?_⟩
    simp at *
    intro e; subst e; simp at h
  · have hl : xs.length = ys.length := by simp at h; omega
    unfold maxLen at hx hy
    refine W.loopC (D := Nat) (fun i => [(19, .row (xs.getD i default).cells), (23, .row (ys.getD i default).cells), (25, .res (ob (decide (xs.getD i default = ys.getD i default))))]) TTok hmo
      (fun i => ⟨27, 0, [(0, .one (.ag (xs.map Two.cells))), (1, .one (.ag (ys.map Two.cells))), (4, ob false), (5, oi i)], []⟩) (fun i => xs.length - i) (fun i => i ≤ xs.length ∧ xs.take i = ys.take i) 0 [] ⟨by omega, by simp⟩ ?_ ?_
    · repeat' (first | exact trivial | exact ⟨rfl⟩ | exact Chk.mk (by kernel_rfl) | refine And.intro ?_ ?_ | rfl)
    · intro i ⟨hi, hp⟩
      repeat' (first | refine And.intro ?_ ?_ | exact tf | exact ft | refine tt ?_ | refine ff ?_ | exact ⟨trivial⟩ | exact sLe rfl | exact Chk.mk (by kernel_rfl) | exact ⟨Chk.mk (by kernel_rfl)⟩ | exact sLeEq rfl rfl | exact sAnd (by repeat' constructor) (c_eqRead _ _) | refine fun h => ?_)
      all_goals simp only [decide_eq_true_eq, decide_eq_false_iff_not, List.length_map, Bool.not_eq_true', Bool.not_eq_false', Bool.not_eq_eq_eq_not, Bool.not_true, Bool.not_false] at *
      · exact sRow (by omega) (row_at xs _ (by omega)) rfl
      · exact sRow (by omega) (row_at ys _ (by omega)) rfl
      · refine ⟨?_⟩
        simp
        intro e; subst e; contradiction
      · refine ⟨i + 1, [], by omega, ⟨by omega, eq_upto hl (by omega) hp (by assumption)⟩, ?_⟩
        repeat' (first | exact trivial | exact ⟨rfl⟩ | exact Chk.mk (by kernel_rfl) | refine And.intro ?_ ?_ | rfl)
        exact ⟨by rw [wrapi] <;> omega⟩
      · refine ⟨?_⟩
        simp
        exact eq_all hl (by omega) hp

theorem c_eqPutS (xs ys : List Two) (hx : xs.length ≤ maxLen) (hy : ys.length ≤ maxLen)  :
    Pure PP false 101 [.one (.fz (xs.map Two.cells)), .one (.fz (ys.map Two.cells))] (ob (decide (xs = ys))) := by
  refine Pure.vc [] TTok hmo Go.Proofs.Try.func101 (by kernel_rfl) rfl (by kernel_rfl) ?_
  repeat' (first | refine And.intro ?_ ?_ | exact tf | exact ft | refine tt ?_ | refine ff ?_ | exact ⟨trivial⟩ | exact sLe rfl | exact Chk.mk (by kernel_rfl) | exact ⟨Chk.mk (by kernel_rfl)⟩ | exact sLeEq rfl rfl | refine fun h => ?_)
  · refine ⟨?_⟩
    simp at *
    intro e; subst e; simp at h
  · have hl : xs.length = ys.length := by simp at h; omega
    unfold maxLen at hx hy
    refine W.loopC (D := Nat) (fun i => [(19, .row (xs.getD i default).cells), (23, .row (ys.getD i default).cells), (25, .res (ob (decide (xs.getD i default = ys.getD i default))))]) TTok hmo
      (fun i => ⟨27, 0, [(0, .one (.ag (xs.map Two.cells))), (1, .one (.ag (ys.map Two.cells))), (4, ob false), (5, oi i)], []⟩) (fun i => xs.length - i) (fun i => i ≤ xs.length ∧ xs.take i = ys.take i) 0 [] ⟨by omega, by simp⟩ ?_ ?_
    · repeat' (first | exact trivial | exact ⟨rfl⟩ | exact Chk.mk (by kernel_rfl) | refine And.intro ?_ ?_ | rfl)
    · intro i ⟨hi, hp⟩
      repeat' (first | refine And.intro ?_ ?_ | exact tf | exact ft | refine tt ?_ | refine ff ?_ | exact ⟨trivial⟩ | exact sLe rfl | exact Chk.mk (by kernel_rfl) | exact ⟨Chk.mk (by kernel_rfl)⟩ | exact sLeEq rfl rfl | exact sAnd (by repeat' constructor) (c_eqPut _ _) | refine fun h => ?_)
      all_goals simp only [decide_eq_true_eq, decide_eq_false_iff_not, List.length_map, Bool.not_eq_true', Bool.not_eq_false', Bool.not_eq_eq_eq_not, Bool.not_true, Bool.not_false] at *
      · exact sRow (by omega) (row_at xs _ (by omega)) rfl
      · exact sRow (by omega) (row_at ys _ (by omega)) rfl
      · refine ⟨?_⟩
        simp
        intro e; subst e; contradiction
      · refine ⟨i + 1, [], by omega, ⟨by omega, eq_upto hl (by omega) hp (by assumption)⟩, ?_⟩
        repeat' (first | exact trivial | exact ⟨rfl⟩ | exact Chk.mk (by kernel_rfl) | refine And.intro ?_ ?_ | rfl)
        exact ⟨by rw [wrapi] <;> omega⟩
      · refine ⟨?_⟩
        simp
        exact eq_all hl (by omega) hp

theorem c_toReadS (xs : List Two) (hx : xs.length ≤ lim)  :
    Pure PP false 116 [.one (.fz (xs.map Two.cells))] (.one (.fz (xs.map Two.cells))) := by
  have hx0 : xs.length ≤ 1048576 := hx
  refine Pure.vc [] TTok hmo Go.Proofs.Try.func116 (by kernel_rfl) rfl (by kernel_rfl) ?_
  repeat' (first | refine And.intro ?_ ?_ | exact tf | exact ft | refine tt ?_ | refine ff ?_ | exact ⟨trivial⟩ | exact sLe rfl | exact Chk.mk (by kernel_rfl) | exact ⟨Chk.mk (by kernel_rfl)⟩ | exact sLeEq rfl rfl | refine fun h => ?_)
  · refine ⟨?_⟩
    simp at *
    omega
  · refine W.loopC (D := Nat) (fun i => [(18, .row (xs.getD i default).cells), (20, .res (.agg (xs.getD i default).cells))]) TTok hmo
      (fun i => ⟨23, 1, [(0, .one (.ag (xs.map Two.cells))), (2, .one .nil), (3, .one (.ref 0 0 xs.length)), (4, oi i)], [(0, .arr (part Two.cells [i6 0, i6 0] xs i))]⟩) (fun i => xs.length - i) (fun i => i ≤ xs.length) 0 [] (by omega) ?_ ?_
    · repeat' (first | exact trivial | exact ⟨rfl⟩ | exact Chk.mk (by kernel_rfl) | exact sPart0 (by simp) | exact sFlat Two.flat rfl | refine And.intro ?_ ?_ | rfl)
      all_goals exact ⟨by simp⟩
    · intro i hi
      repeat' (first | refine And.intro ?_ ?_ | exact tf | exact ft | refine tt ?_ | refine ff ?_ | exact ⟨trivial⟩ | exact sLe rfl | exact Chk.mk (by kernel_rfl) | exact ⟨Chk.mk (by kernel_rfl)⟩ | exact sLeEq rfl rfl | exact sAnd (by repeat' constructor) (c_toRead _) | refine fun h => ?_)
      all_goals simp only [decide_eq_true_eq, decide_eq_false_iff_not, List.length_map] at *
      · exact sRow (by omega) (row_at xs _ (by omega)) rfl
      · exact sIdx (by omega) rfl rfl
      · exact sPut (by omega) rfl rfl
      · refine ⟨i + 1, [], by omega, by omega, ?_⟩
        repeat' (first | exact trivial | exact ⟨rfl⟩ | exact Chk.mk (by kernel_rfl) | exact ⟨wrap_succ (n := xs.length) (by omega) (by omega)⟩ | exact sPartS (by omega) rfl | exact sFlat Two.flat rfl | refine And.intro ?_ ?_ | rfl)
      · refine ⟨⟨trivial, trivial⟩, ⟨part_end (by omega) rfl, ?_⟩, trivial⟩
        show AllF _
        rw [part_all (by omega)]
        exact map_frz Two.frz

theorem c_toPutS (xs : List Two) (hx : xs.length ≤ lim)  :
    Pure PP false 117 [.one (.fz (xs.map Two.cells))] (.one (.fz (xs.map Two.cells))) := by
  have hx0 : xs.length ≤ 1048576 := hx
  refine Pure.vc [] TTok hmo Go.Proofs.Try.func117 (by kernel_rfl) rfl (by kernel_rfl) ?_
  repeat' (first | refine And.intro ?_ ?_ | exact tf | exact ft | refine tt ?_ | refine ff ?_ | exact ⟨trivial⟩ | exact sLe rfl | exact Chk.mk (by kernel_rfl) | exact ⟨Chk.mk (by kernel_rfl)⟩ | exact sLeEq rfl rfl | refine fun h => ?_)
  · refine ⟨?_⟩
    simp at *
    omega
  · refine W.loopC (D := Nat) (fun i => [(18, .row (xs.getD i default).cells), (20, .res (.agg (xs.getD i default).cells))]) TTok hmo
      (fun i => ⟨23, 1, [(0, .one (.ag (xs.map Two.cells))), (2, .one .nil), (3, .one (.ref 0 0 xs.length)), (4, oi i)], [(0, .arr (part Two.cells [i6 0, i6 0] xs i))]⟩) (fun i => xs.length - i) (fun i => i ≤ xs.length) 0 [] (by omega) ?_ ?_
    · repeat' (first | exact trivial | exact ⟨rfl⟩ | exact Chk.mk (by kernel_rfl) | exact sPart0 (by simp) | exact sFlat Two.flat rfl | refine And.intro ?_ ?_ | rfl)
      all_goals exact ⟨by simp⟩
    · intro i hi
      repeat' (first | refine And.intro ?_ ?_ | exact tf | exact ft | refine tt ?_ | refine ff ?_ | exact ⟨trivial⟩ | exact sLe rfl | exact Chk.mk (by kernel_rfl) | exact ⟨Chk.mk (by kernel_rfl)⟩ | exact sLeEq rfl rfl | exact sAnd (by repeat' constructor) (c_toPut _) | refine fun h => ?_)
      all_goals simp only [decide_eq_true_eq, decide_eq_false_iff_not, List.length_map] at *
      · exact sRow (by omega) (row_at xs _ (by omega)) rfl
      · exact sIdx (by omega) rfl rfl
      · exact sPut (by omega) rfl rfl
      · refine ⟨i + 1, [], by omega, by omega, ?_⟩
        repeat' (first | exact trivial | exact ⟨rfl⟩ | exact Chk.mk (by kernel_rfl) | exact ⟨wrap_succ (n := xs.length) (by omega) (by omega)⟩ | exact sPartS (by omega) rfl | exact sFlat Two.flat rfl | refine And.intro ?_ ?_ | rfl)
      · refine ⟨⟨trivial, trivial⟩, ⟨part_end (by omega) rfl, ?_⟩, trivial⟩
        show AllF _
        rw [part_all (by omega)]
        exact map_frz Two.frz

theorem c_eqRun (x y : Run) (hx : x.ok lim) (hy : y.ok lim) :
    Pure PP false 75 [.agg x.cells, .agg y.cells] (ob (decide (x = y))) := by
  obtain ⟨rs, ps, c, d⟩ := x
  obtain ⟨rs', ps', c', d'⟩ := y
  refine Pure.vc [(9, .res (ob (decide (rs = rs')))), (15, .res (ob (decide (ps = ps'))))] TTok hmo Go.Proofs.Try.func75 (by kernel_rfl) rfl (by kernel_rfl) ?_
  repeat' (first | refine And.intro ?_ ?_ | exact tf | exact ft | refine tt ?_ | refine ff ?_ | exact ⟨trivial⟩ | exact sLe rfl | exact Chk.mk (by kernel_rfl) | exact ⟨Chk.mk (by kernel_rfl)⟩ | exact sLeEq rfl rfl | exact sAnd (by repeat' constructor) (c_eqReadS _ _ (Nat.le_trans hx.1 (by decide)) (Nat.le_trans hy.1 (by decide))) | exact sAnd (by repeat' constructor) (c_eqPutS _ _ (Nat.le_trans hx.2 (by decide)) (Nat.le_trans hy.2 (by decide))) | refine fun h => ?_)
  all_goals (refine ⟨?_⟩; simp_all)
  all_goals rfl

theorem c_eqEntry (x y : Entry) (hx : x.ok lim) (hy : y.ok lim) :
    Pure PP false 42 [.agg x.cells, .agg y.cells] (ob (decide (x = y))) := by
  obtain ⟨n, q, r⟩ := x
  obtain ⟨n', q', r'⟩ := y
  refine Pure.vc [(14, .res (ob (decide (q = q')))), (20, .res (ob (decide (r = r'))))] TTok hmo Go.Proofs.Try.func42 (by kernel_rfl) rfl (by kernel_rfl) ?_
  repeat' (first | refine And.intro ?_ ?_ | exact tf | exact ft | refine tt ?_ | refine ff ?_ | exact ⟨trivial⟩ | exact sLe rfl | exact Chk.mk (by kernel_rfl) | exact ⟨Chk.mk (by kernel_rfl)⟩ | exact sLeEq rfl rfl | exact sAnd (by repeat' constructor) (c_eqReq _ _) | exact sAnd (by repeat' constructor) (c_eqRun _ _ hx hy) | refine fun h => ?_)
  all_goals (refine ⟨?_⟩; simp_all)
  all_goals rfl

theorem c_eqVote (x y : Vote) (hx : x.ok lim) (hy : y.ok lim) :
    Pure PP false 103 [.agg x.cells, .agg y.cells] (ob (decide (x = y))) := by
  obtain ⟨b, e⟩ := x
  obtain ⟨b', e'⟩ := y
  refine Pure.vc [(14, .res (ob (decide (e = e'))))] TTok hmo Go.Proofs.Try.func103 (by kernel_rfl) rfl (by kernel_rfl) ?_
  repeat' (first | refine And.intro ?_ ?_ | exact tf | exact ft | refine tt ?_ | refine ff ?_ | exact ⟨trivial⟩ | exact sLe rfl | exact Chk.mk (by kernel_rfl) | exact ⟨Chk.mk (by kernel_rfl)⟩ | exact sLeEq rfl rfl | exact sAnd (by repeat' constructor) (c_eqEntry _ _ hx hy) | refine fun h => ?_)
  all_goals (refine ⟨?_⟩; simp_all)
  all_goals rfl

theorem c_eqVoteS (xs ys : List Vote) (hx : xs.length ≤ maxLen) (hy : ys.length ≤ maxLen) (hvx : ∀ v ∈ xs, v.ok lim) (hvy : ∀ v ∈ ys, v.ok lim) :
    Pure PP false 83 [.one (.fz (xs.map Vote.cells)), .one (.fz (ys.map Vote.cells))] (ob (decide (xs = ys))) := by
  refine Pure.vc [] TTok hmo Go.Proofs.Try.func83 (by kernel_rfl) rfl (by kernel_rfl) ?_
  repeat' (first | refine And.intro ?_ ?_ | exact tf | exact ft | refine tt ?_ | refine ff ?_ | exact ⟨trivial⟩ | exact sLe rfl | exact Chk.mk (by kernel_rfl) | exact ⟨Chk.mk (by kernel_rfl)⟩ | exact sLeEq rfl rfl | refine fun h => ?_)
  · refine ⟨?_⟩
    simp at *
    intro e; subst e; simp at h
  · have hl : xs.length = ys.length := by simp at h; omega
    unfold maxLen at hx hy
    refine W.loopC (D := Nat) (fun i => [(19, .row (xs.getD i default).cells), (23, .row (ys.getD i default).cells), (25, .res (ob (decide (xs.getD i default = ys.getD i default))))]) TTok hmo
      (fun i => ⟨27, 0, [(0, .one (.ag (xs.map Vote.cells))), (1, .one (.ag (ys.map Vote.cells))), (4, ob false), (5, oi i)], []⟩) (fun i => xs.length - i) (fun i => i ≤ xs.length ∧ xs.take i = ys.take i) 0 [] ⟨by omega, by simp⟩ ?_ ?_
    · repeat' (first | exact trivial | exact ⟨rfl⟩ | exact Chk.mk (by kernel_rfl) | refine And.intro ?_ ?_ | rfl)
    · intro i ⟨hi, hp⟩
      repeat' (first | refine And.intro ?_ ?_ | exact tf | exact ft | refine tt ?_ | refine ff ?_ | exact ⟨trivial⟩ | exact sLe rfl | exact Chk.mk (by kernel_rfl) | exact ⟨Chk.mk (by kernel_rfl)⟩ | exact sLeEq rfl rfl | refine fun h => ?_)
      all_goals simp only [decide_eq_true_eq, decide_eq_false_iff_not, List.length_map, Bool.not_eq_true', Bool.not_eq_false', Bool.not_eq_eq_eq_not, Bool.not_true, Bool.not_false] at *
      · exact sRow (by omega) (row_at xs _ (by omega)) rfl
      · exact sRow (by omega) (row_at ys _ (by omega)) rfl
      · exact sAnd (by repeat' constructor) (c_eqVote _ _ (hvx _ (getD_mem (by omega))) (hvy _ (getD_mem (by omega))))
      · refine ⟨?_⟩
        simp
        intro e; subst e; contradiction
      · refine ⟨i + 1, [], by omega, ⟨by omega, eq_upto hl (by omega) hp (by assumption)⟩, ?_⟩
        repeat' (first | exact trivial | exact ⟨rfl⟩ | exact Chk.mk (by kernel_rfl) | refine And.intro ?_ ?_ | rfl)
        exact ⟨by rw [wrapi] <;> omega⟩
      · refine ⟨?_⟩
        simp
        exact eq_all hl (by omega) hp

theorem c_eqAcc (x y : Acc) (hx : x.ok lim) (hy : y.ok lim) :
    Pure PP false 81 [.agg x.cells, .agg y.cells] (ob (decide (x = y))) := by
  obtain ⟨p, vs⟩ := x
  obtain ⟨p', vs'⟩ := y
  refine Pure.vc [(14, .res (ob (decide (vs = vs'))))] TTok hmo Go.Proofs.Try.func81 (by kernel_rfl) rfl (by kernel_rfl) ?_
  repeat' (first | refine And.intro ?_ ?_ | exact tf | exact ft | refine tt ?_ | refine ff ?_ | exact ⟨trivial⟩ | exact sLe rfl | exact Chk.mk (by kernel_rfl) | exact ⟨Chk.mk (by kernel_rfl)⟩ | exact sLeEq rfl rfl | exact sAnd (by repeat' constructor) (c_eqVoteS _ _ (Nat.le_trans hx.1 (by decide)) (Nat.le_trans hy.1 (by decide)) hx.2 hy.2) | refine fun h => ?_)
  all_goals (refine ⟨?_⟩; simp_all)
  all_goals rfl

theorem c_toRun (x : Run) (hx : x.ok lim) :
    Pure PP false 108 [.agg x.cells] (.agg x.cells) := by
  refine Pure.vc [(6, .res (.one (.fz (x.reads.map Two.cells)))), (10, .res (.one (.fz (x.puts.map Two.cells))))] TTok hmo Go.Proofs.Try.func108 (by kernel_rfl) rfl (by kernel_rfl) ?_
  repeat' (first | refine And.intro ?_ ?_ | exact tf | exact ft | refine tt ?_ | refine ff ?_ | exact ⟨trivial⟩ | exact sLe rfl | exact Chk.mk (by kernel_rfl) | exact ⟨Chk.mk (by kernel_rfl)⟩ | exact sLeEq rfl rfl | exact sAnd (by repeat' constructor) (c_toReadS _ hx.1) | exact sAnd (by repeat' constructor) (c_toPutS _ hx.2) | refine fun h => ?_)
  all_goals (refine ⟨?_⟩; repeat' (first | exact trivial | exact Nat.le_of_ble_eq_true rfl | rfl | refine And.intro ?_ ?_))

theorem c_toEntry (x : Entry) (hx : x.ok lim) :
    Pure PP false 96 [.agg x.cells] (.agg x.cells) := by
  refine Pure.vc [(9, .res (.agg x.q.cells)), (13, .res (.agg x.run.cells))] TTok hmo Go.Proofs.Try.func96 (by kernel_rfl) rfl (by kernel_rfl) ?_
  repeat' (first | refine And.intro ?_ ?_ | exact tf | exact ft | refine tt ?_ | refine ff ?_ | exact ⟨trivial⟩ | exact sLe rfl | exact Chk.mk (by kernel_rfl) | exact ⟨Chk.mk (by kernel_rfl)⟩ | exact sLeEq rfl rfl | exact sAnd (by repeat' constructor) (c_toReq _) | exact sAnd (by repeat' constructor) (c_toRun _ hx) | refine fun h => ?_)
  all_goals (refine ⟨?_⟩; repeat' (first | exact trivial | exact Nat.le_of_ble_eq_true rfl | rfl | refine And.intro ?_ ?_))

theorem c_toVote (x : Vote) (hx : x.ok lim) :
    Pure PP false 107 [.agg x.cells] (.agg x.cells) := by
  refine Pure.vc [(9, .res (.agg x.e.cells))] TTok hmo Go.Proofs.Try.func107 (by kernel_rfl) rfl (by kernel_rfl) ?_
  repeat' (first | refine And.intro ?_ ?_ | exact tf | exact ft | refine tt ?_ | refine ff ?_ | exact ⟨trivial⟩ | exact sLe rfl | exact Chk.mk (by kernel_rfl) | exact ⟨Chk.mk (by kernel_rfl)⟩ | exact sLeEq rfl rfl | exact sAnd (by repeat' constructor) (c_toEntry _ hx) | refine fun h => ?_)
  all_goals (refine ⟨?_⟩; repeat' (first | exact trivial | exact Nat.le_of_ble_eq_true rfl | rfl | refine And.intro ?_ ?_))

theorem c_toVoteS (xs : List Vote) (hx : xs.length ≤ lim) (hv : ∀ v ∈ xs, v.ok lim) :
    Pure PP false 95 [.one (.fz (xs.map Vote.cells))] (.one (.fz (xs.map Vote.cells))) := by
  have hx0 : xs.length ≤ 1048576 := hx
  refine Pure.vc [] TTok hmo Go.Proofs.Try.func95 (by kernel_rfl) rfl (by kernel_rfl) ?_
  repeat' (first | refine And.intro ?_ ?_ | exact tf | exact ft | refine tt ?_ | refine ff ?_ | exact ⟨trivial⟩ | exact sLe rfl | exact Chk.mk (by kernel_rfl) | exact ⟨Chk.mk (by kernel_rfl)⟩ | exact sLeEq rfl rfl | refine fun h => ?_)
  · refine ⟨?_⟩
    simp at *
    omega
  · refine W.loopC (D := Nat) (fun i => [(18, .row (xs.getD i default).cells), (20, .res (.agg (xs.getD i default).cells))]) TTok hmo
      (fun i => ⟨23, 1, [(0, .one (.ag (xs.map Vote.cells))), (2, .one .nil), (3, .one (.ref 0 0 xs.length)), (4, oi i)], [(0, .arr (part Vote.cells [i6 0, bo false, i6 0, i6 0, .nil, .nil, i6 0, i6 0] xs i))]⟩) (fun i => xs.length - i) (fun i => i ≤ xs.length) 0 [] (by omega) ?_ ?_
    · repeat' (first | exact trivial | exact ⟨rfl⟩ | exact Chk.mk (by kernel_rfl) | exact sPart0 (by simp) | exact sFlat Vote.flat rfl | refine And.intro ?_ ?_ | rfl)
      all_goals exact ⟨by simp⟩
    · intro i hi
      repeat' (first | refine And.intro ?_ ?_ | exact tf | exact ft | refine tt ?_ | refine ff ?_ | exact ⟨trivial⟩ | exact sLe rfl | exact Chk.mk (by kernel_rfl) | exact ⟨Chk.mk (by kernel_rfl)⟩ | exact sLeEq rfl rfl | refine fun h => ?_)
      all_goals simp only [decide_eq_true_eq, decide_eq_false_iff_not, List.length_map] at *
      · exact sRow (by omega) (row_at xs _ (by omega)) rfl
      · exact sAnd (by repeat' constructor) (c_toVote _ (hv _ (getD_mem (by omega))))
      · exact sIdx (by omega) rfl rfl
      · exact sPut (by omega) rfl rfl
      · refine ⟨i + 1, [], by omega, by omega, ?_⟩
        repeat' (first | exact trivial | exact ⟨rfl⟩ | exact Chk.mk (by kernel_rfl) | exact ⟨wrap_succ (n := xs.length) (by omega) (by omega)⟩ | exact sPartS (by omega) rfl | exact sFlat Vote.flat rfl | refine And.intro ?_ ?_ | rfl)
      · refine ⟨⟨trivial, trivial⟩, ⟨part_end (by omega) rfl, ?_⟩, trivial⟩
        show AllF _
        rw [part_all (by omega)]
        exact map_frz Vote.frz

theorem c_toAcc (x : Acc) (hx : x.ok lim) :
    Pure PP false 92 [.agg x.cells] (.agg x.cells) := by
  refine Pure.vc [(9, .res (.one (.fz (x.votes.map Vote.cells))))] TTok hmo Go.Proofs.Try.func92 (by kernel_rfl) rfl (by kernel_rfl) ?_
  repeat' (first | refine And.intro ?_ ?_ | exact tf | exact ft | refine tt ?_ | refine ff ?_ | exact ⟨trivial⟩ | exact sLe rfl | exact Chk.mk (by kernel_rfl) | exact ⟨Chk.mk (by kernel_rfl)⟩ | exact sLeEq rfl rfl | exact sAnd (by repeat' constructor) (c_toVoteS _ hx.1 hx.2) | refine fun h => ?_)
  all_goals (refine ⟨?_⟩; repeat' (first | exact trivial | exact Nat.le_of_ble_eq_true rfl | rfl | refine And.intro ?_ ?_))
end Mg

/- Sizes. No condition. -/
namespace Mg
open Go Go.RowKit
set_option maxRecDepth 100000
set_option linter.unusedVariables false
set_option linter.unusedSimpArgs false
attribute [local irreducible] W Pure

def sg (a : Int) : Int := if a < 0 then -1 else a
def szT (n : Nat) (l : Int) : Int := sg (l - n)
def thenI (a : Int) (f : Int → Int) : Int := if a < 0 then -1 else f a
def szRun (x : Run) (l : Int) : Int := thenI (szT x.reads.length l) fun a => sg (szT x.puts.length a)
def szEntry (x : Entry) (l : Int) : Int := sg (szRun x.run l)
def szVote (x : Vote) (l : Int) : Int := sg (szEntry x.e l)
def szL {α : Type} (f : α → Int → Int) : List α → Int → Int
  | [], l => l
  | x :: xs, l => thenI (f x l) (szL f xs)
def szVoteS (xs : List Vote) (l : Int) : Int := thenI (l - xs.length) (szL szVote xs)
def szAcc (x : Acc) (l : Int) : Int := sg (szVoteS x.votes l)

theorem sg_le {a b : Int} (h : a ≤ b) (h0 : 0 ≤ b) : sg a ≤ b := by unfold sg; split <;> omega
theorem szT_le (n : Nat) {l : Int} (h : 0 ≤ l) : szT n l ≤ l := sg_le (by omega) h
theorem szRun_le (x : Run) {l : Int} (h : 0 ≤ l) : szRun x l ≤ l := by
  have h1 := szT_le x.reads.length h
  unfold szRun thenI
  split
  · omega
  · have := szT_le x.puts.length (l := szT x.reads.length l) (by omega)
    exact sg_le (by omega) h
theorem szEntry_le (x : Entry) {l : Int} (h : 0 ≤ l) : szEntry x l ≤ l := sg_le (szRun_le _ h) h
theorem szVote_le (x : Vote) {l : Int} (h : 0 ≤ l) : szVote x l ≤ l := sg_le (szEntry_le _ h) h
theorem szL_step {α : Type} [Inhabited α] (f : α → Int → Int) (xs : List α) {i : Nat} (l : Int) (h : i < xs.length) : szL f (xs.drop i) l = thenI (f (xs.getD i default) l) (szL f (xs.drop (i + 1))) := by
  rw [List.drop_eq_getElem_cons h, getD_get h]; rfl
theorem c_szReadS (xs : List Two) (l : Int) (h0 : 0 ≤ l) (h1 : l ≤ lim) (hx : xs.length ≤ maxLen) : Pure PP false 114 [.one (.fz (xs.map Two.cells)), oi l] (oi (szT xs.length l)) := by
  have hw : IntKind.i64.wrap (l - ((xs.map Two.cells).length : Int)) = l - xs.length := by
    unfold maxLen at hx; unfold lim at h1; rw [List.length_map, wrapi] <;> omega
  refine Pure.vc [] TTok hmo Go.Proofs.Try.func114 (by kernel_rfl) rfl (by kernel_rfl) ?_
  repeat' (first | refine And.intro ?_ ?_ | exact tf | exact ft | refine tt ?_ | refine ff ?_ | exact ⟨trivial⟩ | exact sLe rfl | exact Chk.mk (by kernel_rfl) | exact ⟨Chk.mk (by kernel_rfl)⟩ | exact sLeEq rfl rfl | refine fun h => ?_)
  all_goals (rw [hw] at h; refine ⟨?_⟩; simp_all [szT, sg])
  omega

theorem c_szPutS (xs : List Two) (l : Int) (h0 : 0 ≤ l) (h1 : l ≤ lim) (hx : xs.length ≤ maxLen) : Pure PP false 115 [.one (.fz (xs.map Two.cells)), oi l] (oi (szT xs.length l)) := by
  have hw : IntKind.i64.wrap (l - ((xs.map Two.cells).length : Int)) = l - xs.length := by
    unfold maxLen at hx; unfold lim at h1; rw [List.length_map, wrapi] <;> omega
  refine Pure.vc [] TTok hmo Go.Proofs.Try.func115 (by kernel_rfl) rfl (by kernel_rfl) ?_
  repeat' (first | refine And.intro ?_ ?_ | exact tf | exact ft | refine tt ?_ | refine ff ?_ | exact ⟨trivial⟩ | exact sLe rfl | exact Chk.mk (by kernel_rfl) | exact ⟨Chk.mk (by kernel_rfl)⟩ | exact sLeEq rfl rfl | refine fun h => ?_)
  all_goals (rw [hw] at h; refine ⟨?_⟩; simp_all [szT, sg])
  omega

theorem c_szRun (x : Run) (l : Int) (h0 : 0 ≤ l) (h1 : l ≤ lim) (hx : x.ok maxLen) : Pure PP false 106 [.agg x.cells, oi l] (oi (szRun x l)) := by
  have hle := szT_le x.reads.length h0
  refine Pure.vc [(8, .res (oi (szT x.reads.length l))), (14, .res (oi (szT x.puts.length (szT x.reads.length l))))] TTok hmo Go.Proofs.Try.func106 (by kernel_rfl) rfl (by kernel_rfl) ?_
  repeat' (first | refine And.intro ?_ ?_ | exact tf | exact ft | refine tt ?_ | refine ff ?_ | exact ⟨trivial⟩ | exact sLe rfl | exact Chk.mk (by kernel_rfl) | exact ⟨Chk.mk (by kernel_rfl)⟩ | exact sLeEq rfl rfl | refine fun h => ?_)
  · exact sAnd (by repeat' constructor) (c_szReadS _ _ h0 h1 hx.1)
  · refine ⟨?_⟩; simp_all [szRun, thenI]
  · exact sAnd (by repeat' constructor) (c_szPutS _ _ (by simpa using h) (by omega) hx.2)
  all_goals (refine ⟨?_⟩; simp_all [szRun, thenI, sg])
  all_goals omega

theorem c_szEntry (x : Entry) (l : Int) (h0 : 0 ≤ l) (h1 : l ≤ lim) (hx : x.ok maxLen) : Pure PP false 89 [.agg x.cells, oi l] (oi (szEntry x l)) := by
  refine Pure.vc [(8, .res (oi (szRun x.run l)))] TTok hmo Go.Proofs.Try.func89 (by kernel_rfl) rfl (by kernel_rfl) ?_
  repeat' (first | refine And.intro ?_ ?_ | exact tf | exact ft | refine tt ?_ | refine ff ?_ | exact ⟨trivial⟩ | exact sLe rfl | exact Chk.mk (by kernel_rfl) | exact ⟨Chk.mk (by kernel_rfl)⟩ | exact sLeEq rfl rfl | refine fun h => ?_)
  · exact sAnd (by repeat' constructor) (c_szRun _ _ h0 h1 hx)
  all_goals (refine ⟨?_⟩; simp_all [szEntry, sg])
  all_goals omega

theorem c_szVote (x : Vote) (l : Int) (h0 : 0 ≤ l) (h1 : l ≤ lim) (hx : x.ok maxLen) : Pure PP false 105 [.agg x.cells, oi l] (oi (szVote x l)) := by
  refine Pure.vc [(8, .res (oi (szEntry x.e l)))] TTok hmo Go.Proofs.Try.func105 (by kernel_rfl) rfl (by kernel_rfl) ?_
  repeat' (first | refine And.intro ?_ ?_ | exact tf | exact ft | refine tt ?_ | refine ff ?_ | exact ⟨trivial⟩ | exact sLe rfl | exact Chk.mk (by kernel_rfl) | exact ⟨Chk.mk (by kernel_rfl)⟩ | exact sLeEq rfl rfl | refine fun h => ?_)
  · exact sAnd (by repeat' constructor) (c_szEntry _ _ h0 h1 hx)
  all_goals (refine ⟨?_⟩; simp_all [szVote, sg])
  all_goals omega

theorem c_szVoteS (xs : List Vote) (l : Int) (h0 : 0 ≤ l) (h1 : l ≤ lim) (hx : xs.length ≤ maxLen) (hv : ∀ v ∈ xs, v.ok maxLen) : Pure PP false 88 [.one (.fz (xs.map Vote.cells)), oi l] (oi (szVoteS xs l)) := by
  have hw : IntKind.i64.wrap (l - ((xs.map Vote.cells).length : Int)) = l - xs.length := by
    unfold maxLen at hx; unfold lim at h1; rw [List.length_map, wrapi] <;> omega
  have hx' : xs.length ≤ 9223372036854775807 := hx
  refine Pure.vc [] TTok hmo Go.Proofs.Try.func88 (by kernel_rfl) rfl (by kernel_rfl) ?_
  repeat' (first | refine And.intro ?_ ?_ | exact tf | exact ft | refine tt ?_ | refine ff ?_ | exact ⟨trivial⟩ | exact sLe rfl | exact Chk.mk (by kernel_rfl) | exact ⟨Chk.mk (by kernel_rfl)⟩ | exact sLeEq rfl rfl | refine fun h => ?_)
  · rw [hw] at h; refine ⟨?_⟩; simp_all [szVoteS, thenI]
  · rw [hw] at h
    simp only [decide_eq_false_iff_not] at h
    refine W.loopC (D := Nat × Int) (fun d => [(20, .row (xs.getD d.1 default).cells), (23, .res (oi (szVote (xs.getD d.1 default) d.2)))]) TTok hmo
      (fun d => ⟨27, 0, [(0, .one (.ag (xs.map Vote.cells))), (1, oi d.2), (4, oi 0), (5, oi d.1)], []⟩) (fun d => xs.length - d.1) (fun d => d.1 ≤ xs.length ∧ 0 ≤ d.2 ∧ d.2 ≤ lim ∧ szVoteS xs l = szL szVote (xs.drop d.1) d.2) (0, l - xs.length) [] ⟨by simp, by simp only; omega, by simp only; omega, by simp [szVoteS, thenI]; omega⟩ ?_ ?_
    · repeat' (first | exact trivial | exact ⟨rfl⟩ | exact Chk.mk (by kernel_rfl) | refine And.intro ?_ ?_ | rfl)
      exact ⟨hw.symm⟩
    · intro ⟨i, a⟩ ⟨hi, ha0, ha1, hp⟩
      simp only at hi ha0 ha1 hp
      repeat' (first | refine And.intro ?_ ?_ | exact tf | exact ft | refine tt ?_ | refine ff ?_ | exact ⟨trivial⟩ | exact sLe rfl | exact Chk.mk (by kernel_rfl) | exact ⟨Chk.mk (by kernel_rfl)⟩ | exact sLeEq rfl rfl | refine fun h => ?_)
      all_goals simp only [decide_eq_true_eq, decide_eq_false_iff_not, List.length_map] at *
      · exact sRow (by omega) (row_at xs _ (by omega)) rfl
      · exact sAnd (by repeat' constructor) (c_szVote _ _ ha0 ha1 (hv _ (getD_mem (by omega))))
      · rw [szL_step _ _ _ (by omega)] at hp
        refine ⟨?_⟩; simp_all [thenI]
      · rw [szL_step _ _ _ (by omega)] at hp
        have hle := szVote_le (xs.getD i default) ha0
        refine ⟨(i + 1, szVote (xs.getD i default) a), [], by simp only; omega, ⟨by simp only; omega, by simp only; omega, by simp only; omega, by simp only; rw [hp, thenI, if_neg (by assumption)]⟩, ?_⟩
        repeat' (first | exact trivial | exact ⟨rfl⟩ | exact Chk.mk (by kernel_rfl) | exact ⟨wrap_succ (n := xs.length) (by omega) (by omega)⟩ | refine And.intro ?_ ?_ | rfl)
      · rw [List.drop_eq_nil_of_le (by omega)] at hp
        refine ⟨?_⟩; simp_all [szL]

theorem c_szAcc (x : Acc) (l : Int) (h0 : 0 ≤ l) (h1 : l ≤ lim) (hx : x.ok maxLen) : Pure PP false 85 [.agg x.cells, oi l] (oi (szAcc x l)) := by
  refine Pure.vc [(8, .res (oi (szVoteS x.votes l)))] TTok hmo Go.Proofs.Try.func85 (by kernel_rfl) rfl (by kernel_rfl) ?_
  repeat' (first | refine And.intro ?_ ?_ | exact tf | exact ft | refine tt ?_ | refine ff ?_ | exact ⟨trivial⟩ | exact sLe rfl | exact Chk.mk (by kernel_rfl) | exact ⟨Chk.mk (by kernel_rfl)⟩ | exact sLeEq rfl rfl | refine fun h => ?_)
  · exact sAnd (by repeat' constructor) (c_szVoteS _ _ h0 h1 hx.1 hx.2)
  all_goals (refine ⟨?_⟩; simp_all [szAcc, sg])
  all_goals omega
end Mg

/- Sameness. No condition. -/
namespace Mg
open Go Go.RowKit
set_option maxRecDepth 100000
set_option linter.unusedVariables false
set_option linter.unusedSimpArgs false
attribute [local irreducible] W Pure
theorem Two.eq_iff {x y : Two} : x = y ↔ x.a = y.a ∧ x.b = y.b := by
  cases x; cases y; simp
theorem Vote.eq_iff {x y : Vote} : x = y ↔ x.bal = y.bal ∧ x.e = y.e := by
  cases x; cases y; simp
end Mg

/- What is left bounds what is there. No condition. -/
namespace Mg
open Go Go.RowKit
set_option maxRecDepth 100000
set_option linter.unusedVariables false
set_option linter.unusedSimpArgs false
attribute [local irreducible] W Pure

theorem sg_pos {a : Int} (h : 0 ≤ sg a) : 0 ≤ a := by unfold sg at h; split at h <;> omega
theorem sg_eq {a : Int} (h : 0 ≤ a) : sg a = a := by unfold sg; rw [if_neg (by omega)]
theorem thenI_pos {a : Int} {f : Int → Int} (h : 0 ≤ thenI a f) : 0 ≤ a ∧ 0 ≤ f a := by
  unfold thenI at h; split at h
  · omega
  · exact ⟨by omega, h⟩
theorem szT_ok {n : Nat} {l : Int} (h : 0 ≤ szT n l) : (n : Int) ≤ l ∧ szT n l ≤ l := by
  have := sg_pos h
  unfold szT
  rw [sg_eq this]; omega
theorem szRun_ok {x : Run} {l : Int} (h1 : l ≤ lim) (h : 0 ≤ szRun x l) : x.ok lim := by
  obtain ⟨ha, hb⟩ := thenI_pos h
  have h2 := szT_ok ha
  have h3 := szT_ok (sg_pos hb)
  exact ⟨by omega, by omega⟩
theorem szVote_ok {x : Vote} {l : Int} (h1 : l ≤ lim) (h : 0 ≤ szVote x l) : x.ok lim := szRun_ok h1 (sg_pos (sg_pos h))
theorem szL_ok {xs : List Vote} : ∀ {l : Int}, 0 ≤ l → l ≤ lim → 0 ≤ szL szVote xs l → ∀ v ∈ xs, v.ok lim := by
  induction xs with
  | nil => intro l _ _ _ v hv; cases hv
  | cons x xs ih =>
    intro l h0 h1 h v hv
    obtain ⟨ha, hb⟩ := thenI_pos h
    rcases List.mem_cons.1 hv with rfl | hv
    · exact szVote_ok h1 ha
    · have := szVote_le x h0
      exact ih ha (by omega) hb v hv
theorem szAcc_ok {x : Acc} {l : Int} (h1 : l ≤ lim) (h : 0 ≤ szAcc x l) : x.ok lim := by
  obtain ⟨ha, hb⟩ := thenI_pos (sg_pos h)
  exact ⟨by omega, szL_ok ha (by omega) hb⟩
theorem szL_le {xs : List Vote} : ∀ {l : Int}, 0 ≤ l → szL szVote xs l ≤ l := by
  induction xs with
  | nil => intro l h; exact Int.le_refl _
  | cons x xs ih =>
    intro l h
    have := szVote_le x h
    simp only [szL, thenI]
    split
    · omega
    · have := ih (l := szVote x l) (by omega); omega
theorem szAcc_le {x : Acc} {l : Int} (h : 0 ≤ l) : szAcc x l ≤ l := by
  refine sg_le ?_ h
  unfold szVoteS thenI
  split
  · omega
  · have := szL_le (xs := x.votes) (l := l - x.votes.length) (by omega); omega

end Mg

/- Messages. No condition. -/
namespace Mg
open Go Go.RowKit
set_option maxRecDepth 100000
set_option linter.unusedVariables false
set_option linter.unusedSimpArgs false
attribute [local irreducible] W Pure
structure Msg where
  kind : Int
  src : Int
  dst : Int
  bal : Int
  slot : Int
  e : Entry
  votes : List Vote
  deriving DecidableEq, Inhabited
def Msg.cells (x : Msg) : List MC := [i6 x.kind, i6 x.src, i6 x.dst, i6 x.bal, i6 x.slot] ++ x.e.cells ++ [.fz (x.votes.map Vote.cells)]
def Msg.ok (n : Nat) (x : Msg) : Prop := x.e.ok n ∧ VotesOk n x.votes
theorem c_eqMsg (x y : Msg) (hx : x.ok lim) (hy : y.ok lim) :
    Pure PP false 55 [.agg x.cells, .agg y.cells] (ob (decide (x = y))) := by
  obtain ⟨k, f, t, b, s, e, vs⟩ := x
  obtain ⟨k', f', t', b', s', e', vs'⟩ := y
  refine Pure.vc [(34, .res (ob (decide (e = e')))), (40, .res (ob (decide (vs = vs'))))] TTok hmo Go.Proofs.Try.func55 (by kernel_rfl) rfl (by kernel_rfl) ?_
  repeat' (first | refine And.intro ?_ ?_ | exact tf | exact ft | refine tt ?_ | refine ff ?_ | exact ⟨trivial⟩ | exact sLe rfl | exact Chk.mk (by kernel_rfl) | exact ⟨Chk.mk (by kernel_rfl)⟩ | exact sLeEq rfl rfl | exact sAnd (by repeat' constructor) (c_eqEntry _ _ hx.1 hy.1) | exact sAnd (by repeat' constructor) (c_eqVoteS _ _ (Nat.le_trans hx.2.1 (by decide)) (Nat.le_trans hy.2.1 (by decide)) hx.2.2 hy.2.2) | refine fun h => ?_)
  all_goals (refine ⟨?_⟩; simp_all)
  all_goals rfl

theorem c_toMsg (x : Msg) (hx : x.ok lim) :
    Pure PP false 69 [.agg x.cells] (.agg x.cells) := by
  refine Pure.vc [(21, .res (.agg x.e.cells)), (25, .res (.one (.fz (x.votes.map Vote.cells))))] TTok hmo Go.Proofs.Try.func69 (by kernel_rfl) rfl (by kernel_rfl) ?_
  repeat' (first | refine And.intro ?_ ?_ | exact tf | exact ft | refine tt ?_ | refine ff ?_ | exact ⟨trivial⟩ | exact sLe rfl | exact Chk.mk (by kernel_rfl) | exact ⟨Chk.mk (by kernel_rfl)⟩ | exact sLeEq rfl rfl | exact sAnd (by repeat' constructor) (c_toEntry _ hx.1) | exact sAnd (by repeat' constructor) (c_toVoteS _ hx.2.1 hx.2.2) | refine fun h => ?_)
  all_goals (refine ⟨?_⟩; repeat' (first | exact trivial | exact Nat.le_of_ble_eq_true rfl | rfl | refine And.intro ?_ ?_))

def szMsg (x : Msg) (l : Int) : Int := thenI (szEntry x.e l) fun a => sg (szVoteS x.votes a)
theorem c_szMsg (x : Msg) (l : Int) (h0 : 0 ≤ l) (h1 : l ≤ lim) (hx : x.ok maxLen) : Pure PP false 65 [.agg x.cells, oi l] (oi (szMsg x l)) := by
  have hle := szEntry_le x.e h0
  refine Pure.vc [(8, .res (oi (szEntry x.e l))), (14, .res (oi (szVoteS x.votes (szEntry x.e l))))] TTok hmo Go.Proofs.Try.func65 (by kernel_rfl) rfl (by kernel_rfl) ?_
  repeat' (first | refine And.intro ?_ ?_ | exact tf | exact ft | refine tt ?_ | refine ff ?_ | exact ⟨trivial⟩ | exact sLe rfl | exact Chk.mk (by kernel_rfl) | exact ⟨Chk.mk (by kernel_rfl)⟩ | exact sLeEq rfl rfl | refine fun h => ?_)
  · exact sAnd (by repeat' constructor) (c_szEntry _ _ h0 h1 hx.1)
  · refine ⟨?_⟩; simp_all [szMsg, thenI]
  · exact sAnd (by repeat' constructor) (c_szVoteS _ _ (by simpa using h) (by omega) hx.2.1 hx.2.2)
  all_goals (refine ⟨?_⟩; simp_all [szMsg, thenI, sg])
  all_goals omega
theorem szVoteS_le {xs : List Vote} {l : Int} (h : 0 ≤ l) : szVoteS xs l ≤ l := by
  unfold szVoteS thenI
  split
  · omega
  · have := szL_le (xs := xs) (l := l - xs.length) (by omega); omega
theorem szVoteS_ok {xs : List Vote} {l : Int} (h1 : l ≤ lim) (h : 0 ≤ szVoteS xs l) : VotesOk lim xs := by
  obtain ⟨ha, hb⟩ := thenI_pos h
  exact ⟨by omega, szL_ok ha (by omega) hb⟩
theorem szMsg_le {x : Msg} {l : Int} (h : 0 ≤ l) : szMsg x l ≤ l := by
  have h1 := szEntry_le x.e h
  unfold szMsg thenI
  split
  · omega
  · have := szVoteS_le (xs := x.votes) (l := szEntry x.e l) (by omega)
    exact sg_le (by omega) h
theorem szMsg_ok {x : Msg} {l : Int} (h0 : 0 ≤ l) (h1 : l ≤ lim) (h : 0 ≤ szMsg x l) : x.ok lim := by
  obtain ⟨ha, hb⟩ := thenI_pos h
  have h2 := szEntry_le x.e h0
  exact ⟨szRun_ok h1 (sg_pos ha), szVoteS_ok (by omega) (sg_pos hb)⟩
end Mg
