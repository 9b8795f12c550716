/- Parts of the abstract state logic and of the walks, one behind the other: Mg17, Mg18. No condition. -/
import Derived.Test.YtedgmfmhilihoaaP8
import Derived.ChangeArms
import Derived.OpenShut
import Derived.Orders
/- The abstract state logic, part 17: what an argument that can be read reads as. No condition. -/
namespace Mg
open Go Go.RowKit
set_option linter.unusedVariables false

def fitL (F : Nat → List MC → Prop) : List Nat → List MC → Prop
  | [], cs => cs = []
  | t :: ts, cs => ∃ a b, cs = a ++ b ∧ F t a ∧ fitL F ts b

/-- Cells of a type. -/
def fit (T : Tab) : Nat → Nat → List MC → Prop
  | 0, _, _ => False
  | n + 1, t, cs => match T t with
    | none => False
    | some i => match i.k with
      | .bool => ∃ b, cs = [.sc (.bool b)]
      | .int k => ∃ m, cs = [.sc (.int k m)] ∧ k.min ≤ m ∧ m ≤ k.max
      | .str => ∃ s : ByteArray, cs = [.sc (.string s)] ∧ s.size ≤ maxLen
      | .slice e => ∃ rows, cs = [.fz rows] ∧ rows.length ≤ maxLen ∧ ∀ r ∈ rows, fit T n e r
      | .struct l => fitL (fit T n) (l.map (·.2)) cs
      | .arr m e => fitL (fit T n) (List.replicate m e) cs
      | _ => False

def lay (T : Tab) : Nat → List (Nat × Nat) → Nat → Bool
  | off, [], size => off == size
  | off, (o, t) :: l, size => o == off && match T t with
    | some i => lay T (off + i.size) l size
    | none => false
def TI.lay (T : Tab) (i : TI) : Bool := match i.k with
  | .bool => i.size == 1
  | .int _ => i.size == 1
  | .str => i.size == 1
  | .slice e => i.size == 1 && match T e with
    | some ie => Nat.blt 0 ie.size
    | none => false
  | .struct l => Mg.lay T 0 l i.size
  | .arr m e => match T e with
    | some ie => i.size == m * ie.size
    | none => false
  | _ => false
def LOk (T : Tab) : Prop := ∀ t i, T t = some i → i.lay T = true

variable {P : Program} {T : Tab}

/-- What a value's cells read as. -/
def Rd (w : World) (cs : List MC) (vs : List Value) : Prop := cs.length = vs.length ∧ ∀ (j : Nat) (c : MC), cs[j]? = some c → ∃ u : Value, vs[j]? = some u ∧ RF w (fun b => b < w.heap.size) c u

theorem Rd.one {w : World} {c : MC} {v : Value} (h : RF w (fun b => b < w.heap.size) c v) : Rd w [c] [v] := ⟨rfl, fun j x hj => by
  cases j with
  | zero => obtain rfl : c = x := by simpa using hj
            exact ⟨v, rfl, h⟩
  | succ j => simp at hj⟩
theorem Rd.append {w : World} {a b : List MC} {u v : List Value} (h1 : Rd w a u) (h2 : Rd w b v) : Rd w (a ++ b) (u ++ v) := ⟨by simp [h1.1, h2.1], fun j c hj => by
  rw [List.getElem?_append] at hj ⊢
  rw [h1.1] at hj
  by_cases hlt : j < u.length
  · rw [if_pos hlt] at hj ⊢; exact h1.2 j c hj
  · rw [if_neg hlt] at hj ⊢; exact h2.2 _ c hj⟩

theorem exists_list {α : Type} {p : Nat → α → Prop} : ∀ n : Nat, (∀ i, i < n → ∃ r, p i r) → ∃ l : List α, l.length = n ∧ ∀ i r, l[i]? = some r → p i r
  | 0, _ => ⟨[], rfl, fun i r h => by simp at h⟩
  | n + 1, h => by
    obtain ⟨l, hl, hp⟩ := exists_list n fun i hi => h i (Nat.lt_succ_of_lt hi)
    obtain ⟨r, hr⟩ := h n (Nat.lt_succ_self n)
    refine ⟨l ++ [r], by simp [hl], fun i x hx => ?_⟩
    rw [List.getElem?_append] at hx
    by_cases hlt : i < l.length
    · rw [if_pos hlt] at hx; exact hp i x hx
    · rw [if_neg hlt] at hx
      have : i - l.length = 0 := by
        rcases Nat.eq_zero_or_pos (i - l.length) with h0 | h0
        · exact h0
        · obtain ⟨m, hm⟩ : ∃ m, i - l.length = m + 1 := ⟨i - l.length - 1, by omega⟩
          rw [hm] at hx; simp at hx
      rw [this] at hx
      obtain rfl : r = x := by simpa using hx
      obtain rfl : i = n := by omega
      exact hr

section
variable {H : Type} {enc : TypeId × Value → H} {w : World} {sp : Nat → Bool} {held : Bool}

theorem fields_ok (hT : TOk P T) {n : Nat} (ih : ∀ t i vs x, T t = some i → DataW.trod enc P w 0 sp held n t vs = some x → ∃ cs, fit T n t cs ∧ Rd w cs vs) (vs : List Value) :
    ∀ (l : List (Nat × Nat)) (off size : Nat), lay T off l size = true → vs.length = size → off ≤ size →
      (∀ q ∈ l, ∃ x, DataW.trod enc P w 0 sp held n q.2 ((vs.drop q.1).take (P.cellsOf q.2)) = some x) → ∃ cs, fitL (fit T n) (l.map (·.2)) cs ∧ Rd w cs (vs.drop off)
  | [], off, size, hl, hv, ho, h => by
    have : off = size := by simpa [lay] using hl
    refine ⟨[], rfl, ?_, fun j c hj => by simp at hj⟩
    simp; omega
  | (o, t) :: l, off, size, hl, hv, ho, h => by
    simp only [lay, Bool.and_eq_true, beq_iff_eq] at hl
    obtain ⟨rfl, hl⟩ := hl
    cases ht : T t with
    | none => rw [ht] at hl; cases hl
    | some i =>
      rw [ht] at hl
      simp only at hl
      obtain ⟨x, hx⟩ := h (o, t) List.mem_cons_self
      have hc : P.cellsOf t = i.size := by
        obtain ⟨f, hf, h1, _⟩ := hT.info ht
        simp [Program.cellsOf, hf, h1]
      simp only [hc] at hx
      obtain ⟨a, ha, hra⟩ := ih t i _ x ht hx
      have hle : o + i.size ≤ size := by
        clear ih h hx ha hra
        suffices ∀ (l : List (Nat × Nat)) (off : Nat), lay T off l size = true → off ≤ size from this l _ hl
        intro l
        induction l with
        | nil => intro off h; simp [lay] at h; omega
        | cons q l ih =>
          intro off h
          simp only [lay, Bool.and_eq_true, beq_iff_eq] at h
          obtain ⟨rfl, h⟩ := h
          split at h
          · have := ih _ h; omega
          · cases h
      obtain ⟨b, hb, hrb⟩ := fields_ok hT ih vs l (o + i.size) size hl hv hle (fun q hq => h q (List.mem_cons_of_mem _ hq))
      refine ⟨a ++ b, ⟨a, b, rfl, ha, hb⟩, ?_⟩
      have e : vs.drop o = (vs.drop o).take i.size ++ vs.drop (o + i.size) := by
        rw [← List.drop_drop, List.take_append_drop]
      rw [e]
      exact hra.append hrb

theorem elems_ok (hT : TOk P T) {n : Nat} {e : Nat} {ie : TI} (he : T e = some ie) (ih : ∀ t i vs x, T t = some i → DataW.trod enc P w 0 sp held n t vs = some x → ∃ cs, fit T n t cs ∧ Rd w cs vs) (vs : List Value) :
    ∀ (k m : Nat), vs.length = (k + m) * ie.size → (∀ i, i < k + m → ∃ x, DataW.trod enc P w 0 sp held n e ((vs.drop (i * ie.size)).take ie.size) = some x) →
      ∃ cs, fitL (fit T n) (List.replicate m e) cs ∧ Rd w cs (vs.drop (k * ie.size))
  | k, 0, hv, h => ⟨[], rfl, by simp; simp at hv; omega, fun j c hj => by simp at hj⟩
  | k, m + 1, hv, h => by
    obtain ⟨x, hx⟩ := h k (by omega)
    obtain ⟨a, ha, hra⟩ := ih e ie _ x he hx
    obtain ⟨b, hb, hrb⟩ := elems_ok hT he ih vs (k + 1) m (by rw [hv]; congr 1; omega) (fun i hi => h i (by omega))
    refine ⟨a ++ b, ⟨a, b, rfl, ha, hb⟩, ?_⟩
    have e : vs.drop (k * ie.size) = (vs.drop (k * ie.size)).take ie.size ++ vs.drop ((k + 1) * ie.size) := by
      rw [Nat.add_mul, Nat.one_mul, ← List.drop_drop, List.take_append_drop]
    rw [e]
    exact hra.append hrb

theorem und_of {t : Nat} {i : TI} (hT : TOk P T) (ht : T t = some i) : i.k.ok P (P.underlying t) = true := by
  obtain ⟨f, _, _, _, h3, _⟩ := hT.info ht; exact h3

/-- READING: what can be read reads as cells of its type. -/
theorem read_ok (hT : TOk P T) (hL : LOk T) : ∀ (n : Nat) (t : Nat) (i : TI) (vs : List Value) (x : DataW H × List MemPlace), T t = some i → DataW.trod enc P w 0 sp held n t vs = some x → ∃ cs, fit T n t cs ∧ Rd w cs vs
  | 0, t, i, vs, x, ht, h => by simp [DataW.trod] at h
  | n + 1, t, i, vs, x, ht, h => by
    have hu := und_of hT ht
    have hl := hL t i ht
    have hsz : P.cellsOf t = i.size := by
      obtain ⟨f, hf, h1, _⟩ := hT.info ht
      simp [Program.cellsOf, hf, h1]
    unfold fit
    rw [ht]
    simp only
    cases hk : i.k with
    | bool =>
      rw [hk] at hu
      have hu' : P.underlying t = some .bool := by cases hq : P.underlying t with
        | none => rw [hq] at hu; cases hu
        | some d => rw [hq] at hu; cases d <;> simp [TK.ok] at hu; rfl
      obtain ⟨b, rfl, rfl⟩ := DataW.trod_bool hu' h
      exact ⟨[.sc (.bool b)], ⟨b, rfl⟩, .one (.sc _ rfl)⟩
    | int k =>
      rw [hk] at hu
      have hu' : P.underlying t = some (.int k) := by cases hq : P.underlying t with
        | none => rw [hq] at hu; cases hu
        | some d => rw [hq] at hu; cases d <;> simp [TK.ok] at hu; subst hu; rfl
      obtain ⟨m, rfl, rfl, hw⟩ := DataW.trod_int hu' h
      have hw' : k.min ≤ m ∧ m ≤ k.max := by simpa [Lit.wf] using hw
      exact ⟨[.sc (.int k m)], ⟨m, rfl, hw'⟩, .one (.sc _ rfl)⟩
    | str =>
      rw [hk] at hu
      have hu' : P.underlying t = some .string := by cases hq : P.underlying t with
        | none => rw [hq] at hu; cases hu
        | some d => rw [hq] at hu; cases d <;> simp [TK.ok] at hu; rfl
      obtain ⟨s, rfl, rfl, hs⟩ := DataW.trod_string hu' h
      exact ⟨[.sc (.string s)], ⟨s, rfl, hs⟩, .one (.sc _ rfl)⟩
    | slice e =>
      have hu' := hT.und_slice ht hk
      simp only [TI.lay, hk, Bool.and_eq_true, beq_iff_eq] at hl
      cases he : T e with
      | none => rw [he] at hl; cases hl.2
      | some ie =>
        rw [he] at hl
        have hpos : 0 < ie.size := by simpa using hl.2
        have hce : P.cellsOf e = ie.size := by
          obtain ⟨f, hf, h1, _⟩ := hT.info he
          simp [Program.cellsOf, hf, h1]
        rcases DataW.trod_slice hu' h with ⟨rfl, rfl⟩ | ⟨a, len, cap, elems, rest, m, hm, rfl, rfl, _, hlc, hcm, hlen, hel, _⟩
        · exact ⟨[.fz []], ⟨[], rfl, by simp, fun r hr => by simp at hr⟩, .one (.nilz _ _)⟩
        · obtain rfl : n = m := by omega
          rw [hce] at hel
          have hsp : 0 < len → a.block < w.heap.size ∧ a.spot = none := fun h0 => by
            have h1 := hel 0 h0
            rw [List.getElem?_eq_getElem (by omega)] at h1
            obtain ⟨us, hus, _⟩ := Option.bind_eq_some_iff.1 h1
            obtain ⟨_, hlu, hcell⟩ := World.cells?_some hus
            have h2 := hcell 0 hpos
            rw [List.getElem?_eq_getElem (by omega)] at h2
            simp only [Nat.zero_mul, Addr.add, if_true] at h2
            unfold World.cell? at h2
            split at h2
            · rename_i c el fr hh
              refine ⟨?_, ?_⟩
              · rcases Nat.lt_or_ge a.block w.heap.size with g | g
                · exact g
                · rw [Array.getElem?_eq_none g] at hh; cases hh
              · cases hs : a.spot with
                | none => rfl
                | some k => simp [hs] at h2
            · cases h2
          have hrow : ∀ i, i < len → ∃ r, (fit T n e r ∧ r.length = ie.size) ∧ ∀ j c, r[j]? = some c → ∃ u, w.cell? ⟨a.block, a.off + (i * ie.size + j), none⟩ = some u ∧ RF w (fun b => b < w.heap.size) c u := fun i hi => by
            obtain ⟨y, hy⟩ : ∃ y, elems[i]? = some y := ⟨elems[i]'(by omega), List.getElem?_eq_getElem _⟩
            have h1 := hel i hi
            rw [hy] at h1
            obtain ⟨us, hus, hty⟩ := Option.bind_eq_some_iff.1 h1
            obtain ⟨_, hlu, hcell⟩ := World.cells?_some hus
            obtain ⟨r, hf, hr⟩ := read_ok hT hL n e ie us y he hty
            refine ⟨r, ⟨hf, by rw [hr.1, hlu]⟩, fun j c hj => ?_⟩
            obtain ⟨u, hu1, hru⟩ := hr.2 j c hj
            have hjl : j < ie.size := by
              rcases Nat.lt_or_ge j us.length with g | g
              · omega
              · rw [List.getElem?_eq_none (by omega)] at hu1; cases hu1
            refine ⟨u, ?_, hru⟩
            rw [← hu1, ← hcell j hjl]
            congr 1
            obtain ⟨ab, ao, as⟩ := a
            obtain rfl : as = none := (hsp (by omega)).2
            simp only [Addr.add]
            split <;> split <;> simp_all <;> omega
          obtain ⟨rows, hrl, hrows⟩ := exists_list len hrow
          refine ⟨[.fz rows], ⟨rows, rfl, by omega, fun r hr => ?_⟩, .one ?_⟩
          · obtain ⟨i, hi⟩ := List.getElem?_of_mem hr; exact (hrows i r hi).1.1
          · rw [← hrl]
            refine RF.mk (by omega) fun hne => ?_
            have h0 : 0 < len := by rw [← hrl]; exact List.length_pos_iff.2 hne
            obtain ⟨ab, ao, as⟩ := a
            obtain ⟨hb, rfl⟩ : ab < w.heap.size ∧ as = none := hsp h0
            exact ⟨ab, ao, ie.size, rfl, hb, fun r hr => by
              obtain ⟨i, hi⟩ := List.getElem?_of_mem hr; exact (hrows i r hi).1.2, fun i j r c hi hj => (hrows i r hi).2 j c hj⟩
    | arr m e =>
      have hu' := hT.und_arr ht hk
      simp only [TI.lay, hk] at hl
      cases he : T e with
      | none => rw [he] at hl; cases hl
      | some ie =>
        rw [he] at hl
        have hce : P.cellsOf e = ie.size := by
          obtain ⟨f, hf, h1, _⟩ := hT.info he
          simp [Program.cellsOf, hf, h1]
        obtain ⟨xs, m', hm, rfl, hlen, hxl, hel⟩ := DataW.trod_array hu' h
        obtain rfl : n = m' := by omega
        have hsz' : i.size = m * ie.size := by simpa using hl
        obtain ⟨cs, h1, h2⟩ := elems_ok hT he (fun t i vs x h1 h2 => read_ok hT hL n t i vs x h1 h2) vs 0 m (by rw [hlen, hsz, hsz', Nat.zero_add]) (fun i hi => by
          have := hel i (by omega)
          rw [hce, List.getElem?_eq_getElem (by omega)] at this
          exact ⟨_, this⟩)
        exact ⟨cs, h1, by simpa using h2⟩
    | struct l =>
      simp only [TI.lay, hk] at hl
      rw [hk] at hu
      obtain ⟨fs, hu', hfs⟩ : ∃ fs : Array Field, P.underlying t = some (.struct fs) ∧ fs.toList.map (fun f => (f.offset, f.type)) = l := by
        cases hq : P.underlying t with
        | none => rw [hq] at hu; cases hu
        | some d =>
          rw [hq] at hu
          cases d <;> simp [TK.ok] at hu
          exact ⟨_, rfl, hu.1⟩
      obtain ⟨xs, m', hm, rfl, hlen, hxl, hel⟩ := DataW.trod_struct hu' h
      obtain rfl : n = m' := by omega
      obtain ⟨cs, h1, h2⟩ := fields_ok hT (fun t i vs x h1 h2 => read_ok hT hL n t i vs x h1 h2) vs l 0 i.size hl (by rw [hlen, hsz]) (Nat.zero_le _) (fun q hq => by
        rw [← hfs] at hq
        obtain ⟨f, hf, rfl⟩ := List.mem_map.1 hq
        obtain ⟨i', hi'⟩ := List.getElem?_of_mem hf
        have hi2 : fs[i']? = some f := by simpa using hi'
        have := hel i' f hi2
        have hlt : i' < fs.size := by
          rcases Nat.lt_or_ge i' fs.size with g | g
          · exact g
          · rw [Array.getElem?_eq_none g] at hi2; cases hi2
        rw [List.getElem?_eq_getElem (by omega)] at this
        exact ⟨_, this⟩)
      exact ⟨cs, h1, by simpa using h2⟩
    | ptr => simp [TI.lay, hk] at hl
    | other => simp [TI.lay, hk] at hl

/-- An argument of a struct's, array's type. -/
theorem FV_agg (hT : TOk P T) (hL : LOk T) {t : Nat} {i : TI} {arr : Array Value} {d : DataW H} {ps : List MemPlace} (ht : T t = some i) (h : DataW.Trod enc P w 0 sp held t (.agg arr) d ps) :
    ∃ n cs, fit T n t cs ∧ FV w (fun b => b < w.heap.size) (.agg cs) (.agg arr) := by
  obtain ⟨n, hn⟩ := h
  obtain ⟨cs, h1, h2, h3⟩ := read_ok hT hL n t i _ _ ht hn
  exact ⟨n, cs, h1, arr, rfl, by simpa [Value.cells] using h2.symm, fun j c hj => by
    obtain ⟨u, hu, hr⟩ := h3 j c hj; exact ⟨u, by simpa [Value.cells] using hu, hr⟩⟩
/-- An argument of one cell. -/
theorem FV_one (hT : TOk P T) (hL : LOk T) {t : Nat} {i : TI} {v : Value} {d : DataW H} {ps : List MemPlace} (ht : T t = some i) (hs : i.size = 1) (hv : v.cells = #[v]) (h : DataW.Trod enc P w 0 sp held t v d ps) :
    ∃ n c, fit T n t [c] ∧ FV w (fun b => b < w.heap.size) (.one c) v := by
  obtain ⟨n, hn⟩ := h
  rw [hv] at hn
  obtain ⟨cs, h1, h2, h3⟩ := read_ok hT hL n t i _ _ ht hn
  obtain ⟨c, rfl⟩ := List.length_eq_one_iff.1 h2
  obtain ⟨u, hu, hr⟩ := h3 0 c rfl
  obtain rfl : v = u := by simpa using hu
  exact ⟨n, c, h1, hr⟩
end
end Mg

/- The abstract state logic, part 18: drawn regions: a head of operations that only read, in any order, then the rest in its order. No condition. -/
namespace Mg
open Go Go.RowKit
set_option linter.unusedVariables false

variable {P : Program} {T : Tab}

/-- Two states that read alike. -/
def Alike (s s' : S) (l : List Operand) : Prop := s.m = s'.m ∧ s.st = s'.st ∧ ∀ x ∈ l, evO s x = evO s' x

theorem Alike.ptr {s s' : S} {l : List Operand} (h : Alike s s' l) (c : MC) : ptrCells s c = ptrCells s' c := by
  cases c <;> simp [ptrCells, h.2.1]
theorem lendC_alike {s s' : S} (h : s.st = s'.st) (c : MC) : lendC s c = lendC s' c := by
  cases c <;> simp [lendC, h]
theorem lendL_alike {s s' : S} (h : s.st = s'.st) : ∀ cs : List MC, lendL s cs = lendL s' cs
  | [] => rfl
  | c :: cs => by simp only [lendL, lendC_alike h c, lendL_alike h cs]
theorem lendV_alike {s s' : S} (h : s.st = s'.st) (v : MV) : lendV s v = lendV s' v := by
  cases v <;> simp [lendV, lendC_alike h, lendL_alike h]
theorem lend_alike {s s' : S} (h : s.st = s'.st) : ∀ (xs : List Operand), (∀ x ∈ xs, evO s x = evO s' x) → lend s xs = lend s' xs
  | [], _ => rfl
  | x :: xs, hx => by
    simp only [lend]
    rw [hx x List.mem_cons_self, lend_alike h xs (fun y hy => hx y (List.mem_cons_of_mem _ hy))]
    rw [show lendV s = lendV s' from funext (lendV_alike h)]
theorem fillM_alike {s s' : S} {T : Tab} {place : Nat → Option (Nat × Nat)} : ∀ (parts : List (Nat × Operand)) (cells : List MC), (∀ q ∈ parts, evO s q.2 = evO s' q.2) → fillM s T place cells parts = fillM s' T place cells parts
  | [], cells, _ => rfl
  | (i, x) :: rest, cells, hx => by
    simp only [fillM]
    rw [hx (i, x) List.mem_cons_self]
    have ih := fun cells => fillM_alike (T := T) (place := place) rest cells fun q hq => hx q (List.mem_cons_of_mem _ hq)
    simp only [ih]
theorem bnd_alike {s s' : S} {d : Int} {x : Option Operand} (h : ∀ y, x = some y → evO s y = evO s' y) : bnd s d x = bnd s' d x := by
  cases x with
  | none => rfl
  | some y => simp only [bnd, h y rfl]

theorem stepV_alike {s s' : S} {op : Op} (h : Alike s s' op.operands.toList) : stepV T s op = stepV T s' op := by
  have hp := h.ptr
  obtain ⟨hm, hst, he⟩ := h
  cases op <;> try rfl
  case move x => simp only [stepV, he x (by simp [Op.operands])]
  case assign x => simp only [stepV, he x (by simp [Op.operands])]
  case pick c x y => simp only [stepV, he c (by simp [Op.operands]), he x (by simp [Op.operands]), he y (by simp [Op.operands])]
  case binOp op t x y t' => simp only [stepV, he x (by simp [Op.operands]), he y (by simp [Op.operands])]
  case unOp op t x => cases op <;> simp only [stepV, he x (by simp [Op.operands])]
  case convert t t' x => simp only [stepV, he x (by simp [Op.operands])]
  case nilCheck x => simp only [stepV, he x (by simp [Op.operands]), hst]
  case extract x i => simp only [stepV, he x (by simp [Op.operands])]
  case fieldAddr t x f => simp only [stepV, he x (by simp [Op.operands]), hst]
  case field t x f => simp only [stepV, he x (by simp [Op.operands])]
  case load t x => simp only [stepV, he x (by simp [Op.operands]), hp]
  case call c =>
    obtain ⟨cal, args, ats⟩ := c
    cases cal <;> try rfl
    case builtin b =>
      cases b <;> try rfl
      case len =>
        simp only [stepV]
        rcases hargs : args.toList with _ | ⟨x, _ | ⟨y, r⟩⟩ <;> try rfl
        rcases hats : ats.toList with _ | ⟨t, _ | ⟨t2, r⟩⟩ <;> try rfl
        simp only [stepLen]
        have hx : x ∈ (Op.operands (.call { callee := .builtin .len, args := args, argTypes := ats })).toList := by
          simp [Op.operands, Call.operands]
          have : x ∈ args.toList := by rw [hargs]; simp
          simpa using this
        simp only [he x hx, hst]
      case min =>
        simp only [stepV]
        rcases hargs : args.toList with _ | ⟨x, _ | ⟨y, _ | ⟨z, r⟩⟩⟩ <;> try rfl
        have hm : ∀ x ∈ args.toList, x ∈ (Op.operands (.call { callee := .builtin .min, args := args, argTypes := ats })).toList := fun x hx => by
          simp [Op.operands, Call.operands]
          simpa using hx
        simp only [stepMin, he x (hm x (by rw [hargs]; simp)), he y (hm y (by rw [hargs]; simp))]

def frzV1 : MV → Bool
  | .one c => c.frz
  | .agg cs => cs.all MC.frz
  | _ => false
/-- Operations that only read and reckon. -/
def quiet (h : Option Hint) (o : Oper) : Bool := o.dst.isSome && match o.op with
  | .move _ => true
  | .assign _ => true
  | .pick _ _ _ => true
  | .binOp _ _ _ _ _ => true
  | .unOp _ _ _ => true
  | .convert _ _ _ => true
  | .nilCheck _ => true
  | .extract _ _ => true
  | .fieldAddr _ _ _ => true
  | .field _ _ _ => true
  | .load _ _ => true
  | .indexAddr _ _ _ => true
  | .build _ _ => true
  | .buildSlice _ n _ => match n, h with
    | 0, _ => true
    | _ + 1, some (.row _) => true
    | _, _ => false
  | .slice _ _ _ _ none => true
  | .call c => match c.callee with
    | .value (.func _) => match h with
      | some (.res (.one c)) => c.frz
      | some (.res (.agg cs)) => cs.all MC.frz
      | some (.res (.tup vs)) => vs.all frzV1
      | _ => false
    | .builtin .len => true
    | .builtin .min => true
    | .builtin .append => match h with
      | some (.res _) => true
      | _ => false
    | _ => false
  | _ => false

theorem adC_frz (s : S) : ∀ cs : List MC, cs.all MC.frz = true → adC s cs = (cs, s)
  | [], _ => rfl
  | c :: cs, h => by
    simp only [List.all_cons, Bool.and_eq_true] at h
    have ih := adC_frz s cs h.2
    have h1 := h.1
    cases c <;> simp [MC.frz] at h1 <;> simp [adC, ih]
theorem adV_frz1 (s : S) {c : MC} (h : c.frz = true) : adV s (.one c) = (.one c, s) := by
  have := adC_frz s [c] (by simp [h])
  simp [adV, adV1, this]
theorem adV_frzs (s : S) {cs : List MC} (h : cs.all MC.frz = true) : adV s (.agg cs) = (.agg cs, s) := by
  simp [adV, adV1, adC_frz s cs h]

theorem adV_frzt (s : S) : ∀ {vs : List MV}, vs.all frzV1 = true → adV s (.tup vs) = (.tup vs, s) := fun {vs} h => by
  have key : ∀ vs : List MV, vs.all frzV1 = true → adT s vs = (vs, s) := by
    intro vs
    induction vs with
    | nil => intro _; rfl
    | cons x xs ih =>
      intro h
      simp only [List.all_cons, Bool.and_eq_true] at h
      have hx : adV1 s x = (x, s) := by
        have h1 := h.1
        cases x with
        | one c => exact adV_frz1 s h1
        | agg cs => exact adV_frzs s h1
        | _ => cases h1
      simp [adT, hx, ih h.2]
  simp [adV, key vs h]
/-- A quiet step: a value, and the same from every state that reads alike. -/
theorem quiet_step {h : Option Hint} {s s1 : S} {o : Oper} {p : Prop} (hq : quiet h o = true) (hs : stepF P T h s o = some (p, s1)) :
    ∃ v, s1 = s.put o.dst v ∧ ∀ s' : S, Alike s s' o.op.operands.toList → stepF P T h s' o = some (p, s'.put o.dst v) := by
  simp only [quiet, Bool.and_eq_true] at hq
  obtain ⟨hdst, hq⟩ := hq
  -- the plain steps
  have plain : ∀ op, o.op = op → (∀ s : S, Oper.dok o s.m = true → stepF P T h s o = (stepV T s op).map fun q => (q.1, s.put o.dst q.2)) → ∃ v, s1 = s.put o.dst v ∧ ∀ s' : S, Alike s s' op.operands.toList → stepF P T h s' o = some (p, s'.put o.dst v) := fun op ho hst => by
    have hd : Oper.dok o s.m = true := by
      unfold stepF at hs
      split at hs
      · cases hs
      · assumption
    rw [hst s hd] at hs
    obtain ⟨q, hq, he⟩ := Option.map_eq_some_iff.1 hs
    obtain ⟨rfl, rfl⟩ := Prod.mk.inj he
    refine ⟨q.2, rfl, fun s' ha => ?_⟩
    rw [hst s' (by rw [← ha.1]; exact hd), ← stepV_alike ha, hq]
    rfl
  cases ho : o.op <;> rw [ho] at hq <;> try (simp at hq; done)
  case move x => exact plain _ ho fun s hd => by unfold stepF; rw [hd, ho]
  case assign x => exact plain _ ho fun s hd => by unfold stepF; rw [hd, ho]
  case pick => exact plain _ ho fun s hd => by unfold stepF; rw [hd, ho]
  case binOp op t x y yt =>
    have hd : Oper.dok o s.m = true := by
      unfold stepF at hs
      split at hs
      · cases hs
      · assumption
    have hst : ∀ s : S, Oper.dok o s.m = true → stepF P T h s o = (stepB P T s op t x y yt).map fun q => (q.1, s.put o.dst q.2) := fun s hd => by unfold stepF; rw [hd, ho]
    rw [hst s hd] at hs
    obtain ⟨q, hq, he⟩ := Option.map_eq_some_iff.1 hs
    obtain ⟨rfl, rfl⟩ := Prod.mk.inj he
    refine ⟨q.2, rfl, fun s' ha => ?_⟩
    have hsame : stepB P T s' op t x y yt = stepB P T s op t x y yt := by
      unfold stepB
      rw [← ha.2.2 x (by simp [Op.operands]), ← ha.2.2 y (by simp [Op.operands]), ← stepV_alike ha]
    rw [hst s' (by rw [← ha.1]; exact hd), hsame, hq]
    rfl
  case unOp => exact plain _ ho fun s hd => by unfold stepF; rw [hd, ho]
  case convert => exact plain _ ho fun s hd => by unfold stepF; rw [hd, ho]
  case nilCheck => exact plain _ ho fun s hd => by unfold stepF; rw [hd, ho]
  case extract => exact plain _ ho fun s hd => by unfold stepF; rw [hd, ho]
  case fieldAddr => exact plain _ ho fun s hd => by unfold stepF; rw [hd, ho]
  case field => exact plain _ ho fun s hd => by unfold stepF; rw [hd, ho]
  case load t x =>
    have hd : Oper.dok o s.m = true := by
      unfold stepF at hs
      split at hs
      · cases hs
      · assumption
    have hst : ∀ s : S, Oper.dok o s.m = true → stepF P T h s o = (stepV T s (.load t x)).map fun q => ((fixV h q).1, s.put o.dst (fixV h q).2) := fun s hd => by unfold stepF; rw [hd, ho]
    rw [hst s hd] at hs
    obtain ⟨q, hq, he⟩ := Option.map_eq_some_iff.1 hs
    obtain ⟨rfl, rfl⟩ := Prod.mk.inj he
    refine ⟨(fixV h q).2, rfl, fun s' ha => ?_⟩
    rw [hst s' (by rw [← ha.1]; exact hd), ← stepV_alike ha, hq]
    rfl
  case indexAddr t x y =>
    unfold stepF at hs
    split at hs
    · cases hs
    · rename_i hd
      rw [ho] at hs
      simp only at hs
      have key : ∃ v, s1 = s.put o.dst v ∧ ∀ s' : S, Alike s s' [x, y] → stepIx T h s' o t x y = some (p, s'.put o.dst v) := by
        unfold stepIx at hs
        split at hs
        · rename_i i c kk n ht hx hy
          have hal : ∀ s' : S, Alike s s' [x, y] → evO s' x = some (.one c) ∧ evO s' y = some (.one (.sc (.int kk n))) := fun s' ha => ⟨by rw [← ha.2.2 x (by simp)]; exact hx, by rw [← ha.2.2 y (by simp)]; exact hy⟩
          split at hs
          · rename_i e hk
            split at hs
            · rename_i ie he
              split at hs
              · rename_i rows row hc hrow
                obtain ⟨rfl, rfl⟩ := pj hs
                refine ⟨_, rfl, fun s' ha => ?_⟩
                simp only [stepIx, ht, (hal s' ha).1, (hal s' ha).2, hk, he, hc, hrow]
              · cases hs
              · rename_i hc
                split at hs
                · rename_i id off len
                  split at hs
                  · rename_i rows row hlk hrow
                    obtain ⟨rfl, rfl⟩ := pj hs
                    refine ⟨_, rfl, fun s' ha => ?_⟩
                    simp only [stepIx, ht, (hal s' ha).1, (hal s' ha).2, hk, he, hc, ← ha.2.1, hlk, hrow]
                  · rename_i rows hlk hnr
                    obtain ⟨rfl, rfl⟩ := pj hs
                    refine ⟨_, rfl, fun s' ha => ?_⟩
                    simp only [stepIx, ht, (hal s' ha).1, (hal s' ha).2, hk, he, hc, ← ha.2.1, hlk]
                  · cases hs
                · cases hs
            · cases hs
          · rename_i m e hk
            split at hs
            · rename_i ie he hc
              obtain ⟨rfl, rfl⟩ := pj hs
              refine ⟨_, rfl, fun s' ha => ?_⟩
              simp only [stepIx, ht, (hal s' ha).1, (hal s' ha).2, hk, he, ← ha.2.1, hc]
            · cases hs
          · cases hs
        · cases hs
      obtain ⟨v, h1, h2⟩ := key
      refine ⟨v, h1, fun s' ha => ?_⟩
      have hd' : Oper.dok o s'.m = true := by rw [← ha.1]; exact hd
      unfold stepF
      simp only [hd', ho]
      exact h2 s' (by simpa [Op.operands] using ha)
  case build t parts =>
    unfold stepF at hs
    split at hs
    · cases hs
    · rename_i hd
      rw [ho] at hs
      simp only at hs
      split at hs
      · rename_i i ht
        split at hs
        · rename_i l hk
          obtain ⟨q, hq, he⟩ := Option.map_eq_some_iff.1 hs
          obtain ⟨rfl, rfl⟩ := Prod.mk.inj he
          refine ⟨_, rfl, fun s' ha => ?_⟩
          have hd' : Oper.dok o s'.m = true := by rw [← ha.1]; exact hd
          unfold stepF
          simp only [hd', ho, ht, hk]
          rw [← fillM_alike (s := s) parts.toList _ (fun q hq => ha.2.2 q.2 (by simp [Op.operands]; exact ⟨q.1, by simpa using hq⟩)), hq]
          rfl
        · rename_i m e hk
          split at hs
          · rename_i ie hie
            obtain ⟨q, hq, he⟩ := Option.map_eq_some_iff.1 hs
            obtain ⟨rfl, rfl⟩ := Prod.mk.inj he
            refine ⟨_, rfl, fun s' ha => ?_⟩
            have hd' : Oper.dok o s'.m = true := by rw [← ha.1]; exact hd
            unfold stepF
            simp only [hd', ho, ht, hk, hie]
            rw [← fillM_alike (s := s) parts.toList _ (fun q hq => ha.2.2 q.2 (by simp [Op.operands]; exact ⟨q.1, by simpa using hq⟩)), hq]
            rfl
          · cases hs
        · cases hs
      · cases hs
  case buildSlice t len parts =>
    have hq : len = 0 ∨ ∃ n r, len = n + 1 ∧ h = some (.row r) := by
      simp only at hq
      split at hq
      · exact .inl rfl
      · exact .inr ⟨_, _, rfl, rfl⟩
      · cases hq
    obtain ⟨d, hdst⟩ := Option.isSome_iff_exists.1 hdst
    rcases hq with rfl | ⟨n, r0, rfl, rfl⟩
    · unfold stepF at hs
      split at hs
      · cases hs
      · rename_i hd
        rw [ho] at hs
        simp only [hdst] at hs
        split at hs
        · rename_i i ht
          split at hs
          · rename_i e hk
            split at hs
            · rename_i ie hie
              split at hs
              · rename_i hemp
                obtain ⟨rfl, rfl⟩ := pj hs
                refine ⟨_, by rw [hdst], fun s' ha => ?_⟩
                have hd' : Oper.dok o s'.m = true := by rw [← ha.1]; exact hd
                unfold stepF
                simp only [hd', ho, ht, hk, hie, hdst]
                rw [if_pos hemp]
              · cases hs
            · cases hs
          · cases hs
        · cases hs
    unfold stepF at hs
    split at hs
    · cases hs
    · rename_i hd
      rw [ho] at hs
      simp only [hdst] at hs
      split at hs
      · rename_i i ht
        split at hs
        · rename_i e hk
          split at hs
          · rename_i ie hie
            obtain ⟨q, hq, he⟩ := Option.map_eq_some_iff.1 hs
            obtain ⟨rfl, rfl⟩ := Prod.mk.inj he
            refine ⟨_, by rw [hdst], fun s' ha => ?_⟩
            have hd' : Oper.dok o s'.m = true := by rw [← ha.1]; exact hd
            unfold stepF
            simp only [hd', ho, ht, hk, hie, hdst]
            rw [← fillM_alike (s := s) parts.toList _ (fun q hq => ha.2.2 q.2 (by simp [Op.operands]; exact ⟨q.1, by simpa using hq⟩)), hq]
            rfl
          · cases hs
        · cases hs
      · cases hs
  case slice t x lo hi mx =>
    cases mx with
    | some m => simp at hq
    | none =>
      unfold stepF at hs
      split at hs
      · cases hs
      · rename_i hd
        rw [ho] at hs
        simp only at hs
        split at hs
        · rename_i i c ht hx
          have hb : ∀ s' : S, Alike s s' ((Op.slice t x lo hi none).operands.toList) → evO s' x = some (.one c) ∧ (∀ d, bnd s' d lo = bnd s d lo) ∧ ∀ d, bnd s' d hi = bnd s d hi := fun s' ha =>
            ⟨by rw [← ha.2.2 x (by simp [Op.operands])]; exact hx, fun d => (bnd_alike fun y hy => ha.2.2 y (by subst hy; simp [Op.operands])).symm, fun d => (bnd_alike fun y hy => ha.2.2 y (by subst hy; simp [Op.operands])).symm⟩
          split at hs
          · rename_i e hk
            split at hs
            · rename_i ie he
              split at hs
              · rename_i rows hc
                split at hs
                · rename_i l h1 hl hh
                  obtain ⟨rfl, rfl⟩ := pj hs
                  refine ⟨_, rfl, fun s' ha => ?_⟩
                  obtain ⟨h1, h2, h3⟩ := hb s' ha
                  have hd' : Oper.dok o s'.m = true := by rw [← ha.1]; exact hd
                  unfold stepF
                  simp only [hd', ho, ht, h1, hk, he, hc, h2, h3, hl, hh]
                · cases hs
              · rename_i hc
                split at hs
                · rename_i id off len
                  split at hs
                  · rename_i rows l h1 hlk hl hh
                    obtain ⟨rfl, rfl⟩ := pj hs
                    refine ⟨_, rfl, fun s' ha => ?_⟩
                    obtain ⟨h1, h2, h3⟩ := hb s' ha
                    have hd' : Oper.dok o s'.m = true := by rw [← ha.1]; exact hd
                    unfold stepF
                    simp only [hd', ho, ht, h1, hk, he, hc, h2, h3, hl, hh, ← ha.2.1, hlk]
                  · cases hs
                · cases hs
            · cases hs
          · cases hs
        · cases hs
  case call c =>
    obtain ⟨cal, args, ats⟩ := c
    cases cal with
    | invoke r m => simp at hq
    | builtin b =>
      cases b <;> try (simp at hq; done)
      case len => exact plain _ ho fun s hd => by unfold stepF; rw [hd, ho]
      case min => exact plain _ ho fun s hd => by unfold stepF; rw [hd, ho]
      case append =>
        have hq : ∃ r, h = some (.res r) := by
          simp only at hq
          split at hq
          · exact ⟨_, rfl⟩
          · cases hq
        obtain ⟨r, rfl⟩ := hq
        obtain ⟨d, hdst⟩ := Option.isSome_iff_exists.1 hdst
        unfold stepF at hs
        split at hs
        · cases hs
        · rename_i hd
          rw [ho] at hs
          simp only [hdst] at hs
          have hmem : ∀ x ∈ args.toList, x ∈ (Op.operands (.call { callee := .builtin .append, args := args, argTypes := ats })).toList := fun x hx => by
            simp [Op.operands, Call.operands]; simpa using hx
          unfold stepApF at hs
          split at hs
          · rename_i x y t t2 hargs hats
            split at hs
            · rename_i i i2 c ht ht2 hx hy
              split at hs
              · rename_i e e2 hk hk2
                split at hs
                · rename_i ie rows2 he hr
                  split at hs
                  · rename_i hee
                    obtain ⟨rfl, rfl⟩ := pj hs
                    refine ⟨r, by rw [hdst], fun s' ha => ?_⟩
                    have hd' : Oper.dok o s'.m = true := by rw [← ha.1]; exact hd
                    have e1 : evO s' x = some (.one .nil) := by rw [← ha.2.2 x (hmem x (by rw [hargs]; simp))]; exact hx
                    have e2 : evO s' y = some (.one c) := by rw [← ha.2.2 y (hmem y (by rw [hargs]; simp))]; exact hy
                    have e3 : rowsOf s' c = some rows2 := by
                      rw [← hr]
                      cases c <;> simp only [rowsOf, ha.2.1]
                    unfold stepF
                    simp only [hd', ho, hdst, stepApF, hargs, hats, ht, ht2, e1, e2, hk, hk2, he, e3]
                    rw [if_pos hee]
                  · cases hs
                · cases hs
              · cases hs
            · cases hs
          · cases hs
    | value f =>
      cases f <;> try (simp at hq; done)
      rename_i f
      unfold stepF at hs
      split at hs
      · cases hs
      · rename_i hd
        rw [ho] at hs
        simp only at hs
        split at hs
        · rename_i p' ds r hl
          obtain ⟨rfl, rfl⟩ := pj hs
          have had : ∀ s : S, adV s r = (r, s) := fun s => by
            simp only at hq
            split at hq
            · rename_i c hc; obtain rfl := Hint.res.inj (Option.some.inj hc); exact adV_frz1 s hq
            · rename_i cs hc; obtain rfl := Hint.res.inj (Option.some.inj hc); exact adV_frzs s hq
            · rename_i vs hc; obtain rfl := Hint.res.inj (Option.some.inj hc); exact adV_frzt s hq
            · cases hq
          refine ⟨r, by rw [had s], fun s' ha => ?_⟩
          have hd' : Oper.dok o s'.m = true := by rw [← ha.1]; exact hd
          unfold stepF
          simp only [hd', ho]
          rw [← lend_alike ha.2.1 args.toList (fun x hx => ha.2.2 x (by simp [Op.operands, Call.operands]; exact .inr (by simpa using hx))), hl]
          simp only [had s']
        · simp at hq
        · cases hs

end Mg
