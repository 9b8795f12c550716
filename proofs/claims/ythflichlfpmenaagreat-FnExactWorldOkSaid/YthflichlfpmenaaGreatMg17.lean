/- The abstract state logic, part 17: what an argument that can be read reads as. No condition. -/
import Derived.Test.YthflichlfpmenaaGreatMg16
import Derived.ChangeArms
import Derived.OpenShut
namespace Mg
open Go Go.RowKit
set_option linter.unusedVariables false

def fitL (F : Nat → List MC → Prop) : List Nat → List MC → Prop
  | [], cs => cs = []
  | t :: ts, cs => ∃ a b, cs = a ++ b ∧ F t a ∧ fitL F ts b

/-- Cells of a type. -/
def fit (T : Tab) : Nat → Nat → List MC → Prop
  | 0, _, _ => False
  | n + 1, t, cs => match T t with
    | none => False
    | some i => match i.k with
      | .bool => ∃ b, cs = [.sc (.bool b)]
      | .int k => ∃ m, cs = [.sc (.int k m)] ∧ k.min ≤ m ∧ m ≤ k.max
      | .str => ∃ s : ByteArray, cs = [.sc (.string s)] ∧ s.size ≤ maxLen
      | .slice e => ∃ rows, cs = [.fz rows] ∧ rows.length ≤ maxLen ∧ ∀ r ∈ rows, fit T n e r
      | .struct l => fitL (fit T n) (l.map (·.2)) cs
      | .arr m e => fitL (fit T n) (List.replicate m e) cs
      | _ => False

def lay (T : Tab) : Nat → List (Nat × Nat) → Nat → Bool
  | off, [], size => off == size
  | off, (o, t) :: l, size => o == off && match T t with
    | some i => lay T (off + i.size) l size
    | none => false
def TI.lay (T : Tab) (i : TI) : Bool := match i.k with
  | .bool => i.size == 1
  | .int _ => i.size == 1
  | .str => i.size == 1
  | .slice e => i.size == 1 && match T e with
    | some ie => Nat.blt 0 ie.size
    | none => false
  | .struct l => Mg.lay T 0 l i.size
  | .arr m e => match T e with
    | some ie => i.size == m * ie.size
    | none => false
  | _ => false
def LOk (T : Tab) : Prop := ∀ t i, T t = some i → i.lay T = true

variable {P : Program} {T : Tab}

/-- What a value's cells read as. -/
def Rd (w : World) (cs : List MC) (vs : List Value) : Prop := cs.length = vs.length ∧ ∀ (j : Nat) (c : MC), cs[j]? = some c → ∃ u : Value, vs[j]? = some u ∧ RF w (fun b => b < w.heap.size) c u

theorem Rd.one {w : World} {c : MC} {v : Value} (h : RF w (fun b => b < w.heap.size) c v) : Rd w [c] [v] := ⟨rfl, fun j x hj => by
  cases j with
  | zero => obtain rfl : c = x := by simpa using hj
            exact ⟨v, rfl, h⟩
  | succ j => simp at hj⟩
theorem Rd.append {w : World} {a b : List MC} {u v : List Value} (h1 : Rd w a u) (h2 : Rd w b v) : Rd w (a ++ b) (u ++ v) := ⟨by simp [h1.1, h2.1], fun j c hj => by
  rw [List.getElem?_append] at hj ⊢
  rw [h1.1] at hj
  by_cases hlt : j < u.length
  · rw [if_pos hlt] at hj ⊢; exact h1.2 j c hj
  · rw [if_neg hlt] at hj ⊢; exact h2.2 _ c hj⟩

theorem exists_list {α : Type} {p : Nat → α → Prop} : ∀ n : Nat, (∀ i, i < n → ∃ r, p i r) → ∃ l : List α, l.length = n ∧ ∀ i r, l[i]? = some r → p i r
  | 0, _ => ⟨[], rfl, fun i r h => by simp at h⟩
  | n + 1, h => by
    obtain ⟨l, hl, hp⟩ := exists_list n fun i hi => h i (Nat.lt_succ_of_lt hi)
    obtain ⟨r, hr⟩ := h n (Nat.lt_succ_self n)
    refine ⟨l ++ [r], by simp [hl], fun i x hx => ?_⟩
    rw [List.getElem?_append] at hx
    by_cases hlt : i < l.length
    · rw [if_pos hlt] at hx; exact hp i x hx
    · rw [if_neg hlt] at hx
      have : i - l.length = 0 := by
        rcases Nat.eq_zero_or_pos (i - l.length) with h0 | h0
        · exact h0
        · obtain ⟨m, hm⟩ : ∃ m, i - l.length = m + 1 := ⟨i - l.length - 1, by omega⟩
          rw [hm] at hx; simp at hx
      rw [this] at hx
      obtain rfl : r = x := by simpa using hx
      obtain rfl : i = n := by omega
      exact hr

section
variable {H : Type} {enc : TypeId × Value → H} {w : World} {sp : Nat → Bool} {held : Bool}

theorem fields_ok (hT : TOk P T) {n : Nat} (ih : ∀ t i vs x, T t = some i → DataW.trod enc P w 0 sp held n t vs = some x → ∃ cs, fit T n t cs ∧ Rd w cs vs) (vs : List Value) :
    ∀ (l : List (Nat × Nat)) (off size : Nat), lay T off l size = true → vs.length = size → off ≤ size →
      (∀ q ∈ l, ∃ x, DataW.trod enc P w 0 sp held n q.2 ((vs.drop q.1).take (P.cellsOf q.2)) = some x) → ∃ cs, fitL (fit T n) (l.map (·.2)) cs ∧ Rd w cs (vs.drop off)
  | [], off, size, hl, hv, ho, h => by
    have : off = size := by simpa [lay] using hl
    refine ⟨[], rfl, ?_, fun j c hj => by simp at hj⟩
    simp; omega
  | (o, t) :: l, off, size, hl, hv, ho, h => by
    simp only [lay, Bool.and_eq_true, beq_iff_eq] at hl
    obtain ⟨rfl, hl⟩ := hl
    cases ht : T t with
    | none => rw [ht] at hl; cases hl
    | some i =>
      rw [ht] at hl
      simp only at hl
      obtain ⟨x, hx⟩ := h (o, t) List.mem_cons_self
      have hc : P.cellsOf t = i.size := by
        obtain ⟨f, hf, h1, _⟩ := hT.info ht
        simp [Program.cellsOf, hf, h1]
      simp only [hc] at hx
      obtain ⟨a, ha, hra⟩ := ih t i _ x ht hx
      have hle : o + i.size ≤ size := by
        clear ih h hx ha hra
        suffices ∀ (l : List (Nat × Nat)) (off : Nat), lay T off l size = true → off ≤ size from this l _ hl
        intro l
        induction l with
        | nil => intro off h; simp [lay] at h; omega
        | cons q l ih =>
          intro off h
          simp only [lay, Bool.and_eq_true, beq_iff_eq] at h
          obtain ⟨rfl, h⟩ := h
          split at h
          · have := ih _ h; omega
          · cases h
      obtain ⟨b, hb, hrb⟩ := fields_ok hT ih vs l (o + i.size) size hl hv hle (fun q hq => h q (List.mem_cons_of_mem _ hq))
      refine ⟨a ++ b, ⟨a, b, rfl, ha, hb⟩, ?_⟩
      have e : vs.drop o = (vs.drop o).take i.size ++ vs.drop (o + i.size) := by
        rw [← List.drop_drop, List.take_append_drop]
      rw [e]
      exact hra.append hrb

theorem elems_ok (hT : TOk P T) {n : Nat} {e : Nat} {ie : TI} (he : T e = some ie) (ih : ∀ t i vs x, T t = some i → DataW.trod enc P w 0 sp held n t vs = some x → ∃ cs, fit T n t cs ∧ Rd w cs vs) (vs : List Value) :
    ∀ (k m : Nat), vs.length = (k + m) * ie.size → (∀ i, i < k + m → ∃ x, DataW.trod enc P w 0 sp held n e ((vs.drop (i * ie.size)).take ie.size) = some x) →
      ∃ cs, fitL (fit T n) (List.replicate m e) cs ∧ Rd w cs (vs.drop (k * ie.size))
  | k, 0, hv, h => ⟨[], rfl, by simp; simp at hv; omega, fun j c hj => by simp at hj⟩
  | k, m + 1, hv, h => by
    obtain ⟨x, hx⟩ := h k (by omega)
    obtain ⟨a, ha, hra⟩ := ih e ie _ x he hx
    obtain ⟨b, hb, hrb⟩ := elems_ok hT he ih vs (k + 1) m (by rw [hv]; congr 1; omega) (fun i hi => h i (by omega))
    refine ⟨a ++ b, ⟨a, b, rfl, ha, hb⟩, ?_⟩
    have e : vs.drop (k * ie.size) = (vs.drop (k * ie.size)).take ie.size ++ vs.drop ((k + 1) * ie.size) := by
      rw [Nat.add_mul, Nat.one_mul, ← List.drop_drop, List.take_append_drop]
    rw [e]
    exact hra.append hrb

theorem und_of {t : Nat} {i : TI} (hT : TOk P T) (ht : T t = some i) : i.k.ok P (P.underlying t) = true := by
  obtain ⟨f, _, _, _, h3, _⟩ := hT.info ht; exact h3

/-- READING: what can be read reads as cells of its type. -/
theorem read_ok (hT : TOk P T) (hL : LOk T) : ∀ (n : Nat) (t : Nat) (i : TI) (vs : List Value) (x : DataW H × List MemPlace), T t = some i → DataW.trod enc P w 0 sp held n t vs = some x → ∃ cs, fit T n t cs ∧ Rd w cs vs
  | 0, t, i, vs, x, ht, h => by simp [DataW.trod] at h
  | n + 1, t, i, vs, x, ht, h => by
    have hu := und_of hT ht
    have hl := hL t i ht
    have hsz : P.cellsOf t = i.size := by
      obtain ⟨f, hf, h1, _⟩ := hT.info ht
      simp [Program.cellsOf, hf, h1]
    unfold fit
    rw [ht]
    simp only
    cases hk : i.k with
    | bool =>
      rw [hk] at hu
      have hu' : P.underlying t = some .bool := by cases hq : P.underlying t with
        | none => rw [hq] at hu; cases hu
        | some d => rw [hq] at hu; cases d <;> simp [TK.ok] at hu; rfl
      obtain ⟨b, rfl, rfl⟩ := DataW.trod_bool hu' h
      exact ⟨[.sc (.bool b)], ⟨b, rfl⟩, .one (.sc _ rfl)⟩
    | int k =>
      rw [hk] at hu
      have hu' : P.underlying t = some (.int k) := by cases hq : P.underlying t with
        | none => rw [hq] at hu; cases hu
        | some d => rw [hq] at hu; cases d <;> simp [TK.ok] at hu; subst hu; rfl
      obtain ⟨m, rfl, rfl, hw⟩ := DataW.trod_int hu' h
      have hw' : k.min ≤ m ∧ m ≤ k.max := by simpa [Lit.wf] using hw
      exact ⟨[.sc (.int k m)], ⟨m, rfl, hw'⟩, .one (.sc _ rfl)⟩
    | str =>
      rw [hk] at hu
      have hu' : P.underlying t = some .string := by cases hq : P.underlying t with
        | none => rw [hq] at hu; cases hu
        | some d => rw [hq] at hu; cases d <;> simp [TK.ok] at hu; rfl
      obtain ⟨s, rfl, rfl, hs⟩ := DataW.trod_string hu' h
      exact ⟨[.sc (.string s)], ⟨s, rfl, hs⟩, .one (.sc _ rfl)⟩
    | slice e =>
      have hu' := hT.und_slice ht hk
      simp only [TI.lay, hk, Bool.and_eq_true, beq_iff_eq] at hl
      cases he : T e with
      | none => rw [he] at hl; cases hl.2
      | some ie =>
        rw [he] at hl
        have hpos : 0 < ie.size := by simpa using hl.2
        have hce : P.cellsOf e = ie.size := by
          obtain ⟨f, hf, h1, _⟩ := hT.info he
          simp [Program.cellsOf, hf, h1]
        rcases DataW.trod_slice hu' h with ⟨rfl, rfl⟩ | ⟨a, len, cap, elems, rest, m, hm, rfl, rfl, _, hlc, hcm, hlen, hel, _⟩
        · exact ⟨[.fz []], ⟨[], rfl, by simp, fun r hr => by simp at hr⟩, .one (.nilz _ _)⟩
        · obtain rfl : n = m := by omega
          rw [hce] at hel
          have hsp : 0 < len → a.block < w.heap.size ∧ a.spot = none := fun h0 => by
            have h1 := hel 0 h0
            rw [List.getElem?_eq_getElem (by omega)] at h1
            obtain ⟨us, hus, _⟩ := Option.bind_eq_some_iff.1 h1
            obtain ⟨_, hlu, hcell⟩ := World.cells?_some hus
            have h2 := hcell 0 hpos
            rw [List.getElem?_eq_getElem (by omega)] at h2
            simp only [Nat.zero_mul, Addr.add, if_true] at h2
            unfold World.cell? at h2
            split at h2
            · rename_i c el fr hh
              refine ⟨?_, ?_⟩
              · rcases Nat.lt_or_ge a.block w.heap.size with g | g
                · exact g
                · rw [Array.getElem?_eq_none g] at hh; cases hh
              · cases hs : a.spot with
                | none => rfl
                | some k => simp [hs] at h2
            · cases h2
          have hrow : ∀ i, i < len → ∃ r, (fit T n e r ∧ r.length = ie.size) ∧ ∀ j c, r[j]? = some c → ∃ u, w.cell? ⟨a.block, a.off + (i * ie.size + j), none⟩ = some u ∧ RF w (fun b => b < w.heap.size) c u := fun i hi => by
            obtain ⟨y, hy⟩ : ∃ y, elems[i]? = some y := ⟨elems[i]'(by omega), List.getElem?_eq_getElem _⟩
            have h1 := hel i hi
            rw [hy] at h1
            obtain ⟨us, hus, hty⟩ := Option.bind_eq_some_iff.1 h1
            obtain ⟨_, hlu, hcell⟩ := World.cells?_some hus
            obtain ⟨r, hf, hr⟩ := read_ok hT hL n e ie us y he hty
            refine ⟨r, ⟨hf, by rw [hr.1, hlu]⟩, fun j c hj => ?_⟩
            obtain ⟨u, hu1, hru⟩ := hr.2 j c hj
            have hjl : j < ie.size := by
              rcases Nat.lt_or_ge j us.length with g | g
              · omega
              · rw [List.getElem?_eq_none (by omega)] at hu1; cases hu1
            refine ⟨u, ?_, hru⟩
            rw [← hu1, ← hcell j hjl]
            congr 1
            obtain ⟨ab, ao, as⟩ := a
            obtain rfl : as = none := (hsp (by omega)).2
            simp only [Addr.add]
            split <;> split <;> simp_all <;> omega
          obtain ⟨rows, hrl, hrows⟩ := exists_list len hrow
          refine ⟨[.fz rows], ⟨rows, rfl, by omega, fun r hr => ?_⟩, .one ?_⟩
          · obtain ⟨i, hi⟩ := List.getElem?_of_mem hr; exact (hrows i r hi).1.1
          · rw [← hrl]
            refine RF.mk (by omega) fun hne => ?_
            have h0 : 0 < len := by rw [← hrl]; exact List.length_pos_iff.2 hne
            obtain ⟨ab, ao, as⟩ := a
            obtain ⟨hb, rfl⟩ : ab < w.heap.size ∧ as = none := hsp h0
            exact ⟨ab, ao, ie.size, rfl, hb, fun r hr => by
              obtain ⟨i, hi⟩ := List.getElem?_of_mem hr; exact (hrows i r hi).1.2, fun i j r c hi hj => (hrows i r hi).2 j c hj⟩
    | arr m e =>
      have hu' := hT.und_arr ht hk
      simp only [TI.lay, hk] at hl
      cases he : T e with
      | none => rw [he] at hl; cases hl
      | some ie =>
        rw [he] at hl
        have hce : P.cellsOf e = ie.size := by
          obtain ⟨f, hf, h1, _⟩ := hT.info he
          simp [Program.cellsOf, hf, h1]
        obtain ⟨xs, m', hm, rfl, hlen, hxl, hel⟩ := DataW.trod_array hu' h
        obtain rfl : n = m' := by omega
        have hsz' : i.size = m * ie.size := by simpa using hl
        obtain ⟨cs, h1, h2⟩ := elems_ok hT he (fun t i vs x h1 h2 => read_ok hT hL n t i vs x h1 h2) vs 0 m (by rw [hlen, hsz, hsz', Nat.zero_add]) (fun i hi => by
          have := hel i (by omega)
          rw [hce, List.getElem?_eq_getElem (by omega)] at this
          exact ⟨_, this⟩)
        exact ⟨cs, h1, by simpa using h2⟩
    | struct l =>
      simp only [TI.lay, hk] at hl
      rw [hk] at hu
      obtain ⟨fs, hu', hfs⟩ : ∃ fs : Array Field, P.underlying t = some (.struct fs) ∧ fs.toList.map (fun f => (f.offset, f.type)) = l := by
        cases hq : P.underlying t with
        | none => rw [hq] at hu; cases hu
        | some d =>
          rw [hq] at hu
          cases d <;> simp [TK.ok] at hu
          exact ⟨_, rfl, hu.1⟩
      obtain ⟨xs, m', hm, rfl, hlen, hxl, hel⟩ := DataW.trod_struct hu' h
      obtain rfl : n = m' := by omega
      obtain ⟨cs, h1, h2⟩ := fields_ok hT (fun t i vs x h1 h2 => read_ok hT hL n t i vs x h1 h2) vs l 0 i.size hl (by rw [hlen, hsz]) (Nat.zero_le _) (fun q hq => by
        rw [← hfs] at hq
        obtain ⟨f, hf, rfl⟩ := List.mem_map.1 hq
        obtain ⟨i', hi'⟩ := List.getElem?_of_mem hf
        have hi2 : fs[i']? = some f := by simpa using hi'
        have := hel i' f hi2
        have hlt : i' < fs.size := by
          rcases Nat.lt_or_ge i' fs.size with g | g
          · exact g
          · rw [Array.getElem?_eq_none g] at hi2; cases hi2
        rw [List.getElem?_eq_getElem (by omega)] at this
        exact ⟨_, this⟩)
      exact ⟨cs, h1, by simpa using h2⟩
    | ptr => simp [TI.lay, hk] at hl
    | other => simp [TI.lay, hk] at hl

/-- An argument of a struct's, array's type. -/
theorem FV_agg (hT : TOk P T) (hL : LOk T) {t : Nat} {i : TI} {arr : Array Value} {d : DataW H} {ps : List MemPlace} (ht : T t = some i) (h : DataW.Trod enc P w 0 sp held t (.agg arr) d ps) :
    ∃ n cs, fit T n t cs ∧ FV w (fun b => b < w.heap.size) (.agg cs) (.agg arr) := by
  obtain ⟨n, hn⟩ := h
  obtain ⟨cs, h1, h2, h3⟩ := read_ok hT hL n t i _ _ ht hn
  exact ⟨n, cs, h1, arr, rfl, by simpa [Value.cells] using h2.symm, fun j c hj => by
    obtain ⟨u, hu, hr⟩ := h3 j c hj; exact ⟨u, by simpa [Value.cells] using hu, hr⟩⟩
/-- An argument of one cell. -/
theorem FV_one (hT : TOk P T) (hL : LOk T) {t : Nat} {i : TI} {v : Value} {d : DataW H} {ps : List MemPlace} (ht : T t = some i) (hs : i.size = 1) (hv : v.cells = #[v]) (h : DataW.Trod enc P w 0 sp held t v d ps) :
    ∃ n c, fit T n t [c] ∧ FV w (fun b => b < w.heap.size) (.one c) v := by
  obtain ⟨n, hn⟩ := h
  rw [hv] at hn
  obtain ⟨cs, h1, h2, h3⟩ := read_ok hT hL n t i _ _ ht hn
  obtain ⟨c, rfl⟩ := List.length_eq_one_iff.1 h2
  obtain ⟨u, hu, hr⟩ := h3 0 c rfl
  obtain rfl : v = u := by simpa using hu
  exact ⟨n, c, h1, hr⟩
end
end Mg
