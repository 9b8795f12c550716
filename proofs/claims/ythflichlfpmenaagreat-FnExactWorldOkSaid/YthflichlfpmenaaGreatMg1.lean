/- The abstract state logic, part 1: values, the relation to the world, what keeps it. No condition. -/
import Derived.Below
import Derived.Deep.MidRow
import Derived.Orders
import Derived.WalkKit
namespace Mg
open Go Go.RowKit

/-- Abstract cells. -/
inductive MC where
  | dead
  | sc (v : Value)
  | nil
  | fz (rows : List (List MC))
  | own (rows : List (List MC))
  | ref (id off len : Nat)
  | ptr (id row off : Nat)
  | fptr (cells : List MC)
  | ag (rows : List (List MC))
  | aptr (cells : List MC)
  deriving Inhabited

inductive MV where
  | un
  | one (c : MC)
  | agg (cs : List MC)
  | tup (vs : List MV)
  deriving Inhabited

inductive Ob where
  | box (cs : List MC)
  | arr (rows : List (List MC))

def look {α : Type _} : List (Nat × α) → Nat → Option α
  | [], _ => none
  | (k, v) :: l, j => if j = k then some v else look l j

@[simp] theorem look_nil {α : Type _} (j : Nat) : look ([] : List (Nat × α)) j = none := rfl
theorem look_cons {α : Type _} (k : Nat) (v : α) (l : List (Nat × α)) (j : Nat) : look ((k, v) :: l) j = if j = k then some v else look l j := rfl

/-- Frozen: reads in the world, in blocks of F alone. -/
inductive RF (w : World) (F : Nat → Prop) : MC → Value → Prop
  | sc (v : Value) (h : v.oneCell' = true) : RF w F (.sc v) v
  | nilz (a : Option Addr) (cap : Nat) : RF w F (.fz []) (.slice a 0 cap)
  | fz (rows : List (List MC)) (b off cap s : Nat) (f : Nat → Nat → Value) (hb : F b) (hs : ∀ r ∈ rows, r.length = s) (hcap : rows.length ≤ cap)
      (hc : ∀ i j r c, rows[i]? = some r → r[j]? = some c → w.cell? ⟨b, off + (i * s + j), none⟩ = some (f i j))
      (hr : ∀ i j r c, rows[i]? = some r → r[j]? = some c → RF w F c (f i j)) : RF w F (.fz rows) (.slice (some ⟨b, off, none⟩) rows.length cap)

theorem RF.one {w : World} {F : Nat → Prop} {c : MC} {v : Value} (h : RF w F c v) : v.oneCell' = true := by
  cases h with
  | sc v h => exact h
  | nilz => rfl
  | fz => rfl

theorem RF.mono {w w' : World} {F F' : Nat → Prop} (hw : ∀ b, F b → w'.heap[b]? = w.heap[b]?) (hF : ∀ b, F b → F' b) {c : MC} {v : Value}
    (h : RF w F c v) : RF w' F' c v := by
  induction h with
  | sc v h => exact .sc v h
  | nilz a cap => exact .nilz a cap
  | fz rows b off cap s f hb hs hcap hc hr ih =>
    refine .fz rows b off cap s f (hF b hb) hs hcap (fun i j r c h1 h2 => ?_) ih
    rw [World.cell?_of_block (w := w) (hw b hb)]
    exact hc i j r c h1 h2

theorem RF.fz_inv {w : World} {F : Nat → Prop} {rows : List (List MC)} {v : Value} (h : RF w F (.fz rows) v) :
    ∃ a cap, v = .slice a rows.length cap ∧ rows.length ≤ cap ∧ (rows ≠ [] → ∃ b off s, a = some ⟨b, off, none⟩ ∧ F b ∧ (∀ r ∈ rows, r.length = s) ∧
      ∀ i j r c, rows[i]? = some r → r[j]? = some c → ∃ u, w.cell? ⟨b, off + (i * s + j), none⟩ = some u ∧ RF w F c u) := by
  cases h with
  | nilz a cap => exact ⟨a, cap, rfl, Nat.zero_le _, fun h => absurd rfl h⟩
  | fz _ b off cap s f hb hs hcap hc hr =>
    exact ⟨_, cap, rfl, hcap, fun _ => ⟨b, off, s, rfl, hb, hs, fun i j r c h1 h2 => ⟨_, hc i j r c h1 h2, hr i j r c h1 h2⟩⟩⟩

theorem RF.mk {w : World} {F : Nat → Prop} {rows : List (List MC)} {a : Option Addr} {cap : Nat} (hcap : rows.length ≤ cap)
    (h : rows ≠ [] → ∃ b off s, a = some ⟨b, off, none⟩ ∧ F b ∧ (∀ r ∈ rows, r.length = s) ∧
      ∀ i j r c, rows[i]? = some r → r[j]? = some c → ∃ u, w.cell? ⟨b, off + (i * s + j), none⟩ = some u ∧ RF w F c u) : RF w F (.fz rows) (.slice a rows.length cap) := by
  cases hn : rows with
  | nil => exact .nilz a cap
  | cons r0 rs =>
    obtain ⟨b, off, s, rfl, hb, hs, hc⟩ := h (by simp [hn])
    rw [← hn]
    refine .fz rows b off cap s (fun i j => (w.cell? ⟨b, off + (i * s + j), none⟩).getD undef) hb hs hcap (fun i j r c h1 h2 => ?_) (fun i j r c h1 h2 => ?_)
    · obtain ⟨u, hu, _⟩ := hc i j r c h1 h2
      simp [hu]
    · obtain ⟨u, hu, hr⟩ := hc i j r c h1 h2
      simpa [hu] using hr

abbrev Lay := Nat → Option (Nat × Nat)
abbrev Sto := Nat → Option Ob

/-- What is frozen: blocks of the call's own (n), and those that the arguments are read from (a). -/
structure FF where
  n : Nat → Prop
  a : Nat → Prop
def FF.all (F : FF) (b : Nat) : Prop := F.n b ∨ F.a b
structure FF.le (F F' : FF) : Prop where
  n : ∀ b, F.n b → F'.n b
  a : ∀ b, F.a b → F'.a b
theorem FF.le.all {F F' : FF} (h : F.le F') (b : Nat) (hb : F.all b) : F'.all b := hb.imp (h.n b) (h.a b)
theorem FF.le.rfl {F : FF} : F.le F := ⟨fun _ h => h, fun _ h => h⟩

/-- A cell in a state. -/
def RC (st : Sto) (L : Lay) (w : World) (F : FF) : MC → Value → Prop
  | .dead, v => v.oneCell' = true
  | .nil, v => ∃ a, v = .slice a 0 0
  | .own _, _ => False
  | .ref id off len, v => v.oneCell' = true ∧ ∀ rows, st id = some (.arr rows) → ∃ a cap, v = .slice a len cap ∧ off + len ≤ rows.length ∧
      ((∃ b s, L id = some (b, s) ∧ a = some ⟨b, off * s, none⟩ ∧ len ≤ cap ∧ rows ≠ [] ∧ ∀ j, j < (off + cap) * s → (w.cell? ⟨b, j, none⟩).isSome = true) ∨ (len = 0 ∧ cap = 0))
  | .ptr id row off, v => v.oneCell' = true ∧ ((st id).isSome = true → ∃ b s, L id = some (b, s) ∧ v = .pointer (some ⟨b, row * s + off, none⟩))
  | .fptr cells, v => ∃ b o, F.n b ∧ v = .pointer (some ⟨b, o, none⟩) ∧ ∀ j c, cells[j]? = some c → ∃ u, w.cell? ⟨b, o + j, none⟩ = some u ∧ RF w F.n c u
  | .aptr cells, v => ∃ b o, F.all b ∧ v = .pointer (some ⟨b, o, none⟩) ∧ ∀ j c, cells[j]? = some c → ∃ u, w.cell? ⟨b, o + j, none⟩ = some u ∧ RF w F.all c u
  | .sc u, v => v = u ∧ u.oneCell' = true
  | .fz rows, v => RF w F.n (.fz rows) v
  | .ag rows, v => RF w F.all (.fz rows) v

theorem RC.one {st : Sto} {L : Lay} {w : World} {F : FF} {c : MC} {v : Value} (h : RC st L w F c v) : v.oneCell' = true := by
  cases c with
  | dead => exact h
  | sc u => obtain ⟨rfl, h⟩ := h; exact h
  | nil => obtain ⟨a, rfl⟩ := h; rfl
  | fz rows => exact RF.one h
  | own => exact h.elim
  | ref id off len => exact h.1
  | ptr id row off => exact h.1
  | fptr cells => obtain ⟨b, o, _, rfl, _⟩ := h; rfl
  | aptr cells => obtain ⟨b, o, _, rfl, _⟩ := h; rfl
  | ag rows => exact RF.one h

def MC.frz : MC → Bool
  | .sc _ | .fz _ => true
  | _ => false

theorem RC.of_RF {st : Sto} {L : Lay} {w : World} {F : FF} {c : MC} {v : Value} (h : RF w F.n c v) : RC st L w F c v := by
  cases h with
  | sc v h => exact ⟨rfl, h⟩
  | nilz a cap => exact .nilz a cap
  | fz rows b off cap s f hb hs hcap hc hr => exact .fz rows b off cap s f hb hs hcap hc hr

theorem RF.frz {w : World} {F : Nat → Prop} {c : MC} {v : Value} (h : RF w F c v) : c.frz = true := by cases h <;> rfl

theorem RC.to_RF {st : Sto} {L : Lay} {w : World} {F : FF} {c : MC} {v : Value} (h : RC st L w F c v) (hf : c.frz = true) : RF w F.n c v := by
  cases c <;> simp [MC.frz] at hf
  · obtain ⟨rfl, h1⟩ := h; exact .sc _ h1
  · exact h

/-- Live blocks. -/
def Liv (st : Sto) (L : Lay) (b : Nat) : Prop := ∃ id s, (st id).isSome = true ∧ L id = some (b, s)

theorem RC.mono {st st' : Sto} {L L' : Lay} {w w' : World} {F F' : FF} (hw : ∀ b, F.all b → w'.heap[b]? = w.heap[b]?) (hF : F.le F')
    (hst : ∀ id, st' id = st id ∨ st' id = none ∨ (st id = none ∧ False)) (hL : ∀ id, (st' id).isSome = true → L' id = L id)
    (hc : ∀ id b s j, (st' id).isSome = true → L id = some (b, s) → (w.cell? ⟨b, j, none⟩).isSome = true → (w'.cell? ⟨b, j, none⟩).isSome = true)
    {c : MC} {v : Value} (h : RC st L w F c v) : RC st' L' w' F' c v := by
  cases c with
  | dead => exact h
  | sc u => exact h
  | nil => exact h
  | fz rows => exact RF.mono (fun b hb => hw b (.inl hb)) hF.n h
  | ag rows => exact RF.mono hw hF.all h
  | own => exact h
  | ref id off len =>
    refine ⟨h.1, fun rows hr => ?_⟩
    rcases hst id with he | he | he
    · obtain ⟨a, cap, hv, hl, hx⟩ := h.2 rows (he ▸ hr)
      refine ⟨a, cap, hv, hl, ?_⟩
      rcases hx with ⟨b, s, h1, h2, h3, hne, h4⟩ | hx
      · exact .inl ⟨b, s, by rw [hL id (by simp [hr])]; exact h1, h2, h3, hne, fun j hj => hc id b s j (by simp [hr]) h1 (h4 j hj)⟩
      · exact .inr hx
    · rw [he] at hr; cases hr
    · exact he.2.elim
  | ptr id row off =>
    refine ⟨h.1, fun hr => ?_⟩
    rcases hst id with he | he | he
    · obtain ⟨b, s, h1, h2⟩ := h.2 (he ▸ hr)
      exact ⟨b, s, by rw [hL id hr]; exact h1, h2⟩
    · rw [he] at hr; cases hr
    · exact he.2.elim
  | fptr cells =>
    obtain ⟨b, o, hb, hv, hx⟩ := h
    refine ⟨b, o, hF.n b hb, hv, fun j c hj => ?_⟩
    obtain ⟨u, h1, h2⟩ := hx j c hj
    exact ⟨u, by rw [World.cell?_of_block (w := w) (hw b (.inl hb))]; exact h1, h2.mono (fun b hb => hw b (.inl hb)) hF.n⟩
  | aptr cells =>
    obtain ⟨b, o, hb, hv, hx⟩ := h
    refine ⟨b, o, hF.all b hb, hv, fun j c hj => ?_⟩
    obtain ⟨u, h1, h2⟩ := hx j c hj
    exact ⟨u, by rw [World.cell?_of_block (w := w) (hw b hb)]; exact h1, h2.mono hw hF.all⟩

/-- A row of cells reads as a list of abstract cells. -/
def Cells (st : Sto) (L : Lay) (w : World) (F : FF) (cs : List MC) (c : Array Value) : Prop :=
  c.size = cs.length ∧ ∀ (j : Nat) (x : MC), cs[j]? = some x → ∃ u : Value, c[j]? = some u ∧ RC st L w F x u

def Free (w : World) (b : Nat) : Prop := ∀ j, w.frozen? ⟨b, j, none⟩ = false
/-- In block b from o on there are cells that read so. -/
def WC (st : Sto) (L : Lay) (w : World) (F : FF) (b o : Nat) (cs : List MC) : Prop :=
  ∀ (j : Nat) (x : MC), cs[j]? = some x → ∃ u : Value, w.cell? ⟨b, o + j, none⟩ = some u ∧ RC st L w F x u

def ObOK (st : Sto) (L : Lay) (w : World) (F : FF) (id : Nat) : Ob → Prop
  | .box cs => ∃ (b s : Nat), L id = some (b, s) ∧ Free w b ∧ WC st L w F b 0 cs
  | .arr rows => (rows = [] ∧ L id = none) ∨ ∃ (b s : Nat), L id = some (b, s) ∧ Free w b ∧ (∀ r ∈ rows, r.length = s) ∧
      ∀ (i : Nat) (r : List MC), rows[i]? = some r → WC st L w F b (i * s) r

def MC.bd (n : Nat) : MC → Prop
  | .ref id _ _ => id < n
  | .ptr id _ _ => id < n
  | _ => True
def MV.bd1 (n : Nat) : MV → Prop
  | .one c => c.bd n
  | .agg cs => ∀ c ∈ cs, c.bd n
  | _ => True
def MV.bd (n : Nat) : MV → Prop
  | .tup vs => ∀ v ∈ vs, v.bd1 n
  | v => v.bd1 n
def Ob.bd (n : Nat) : Ob → Prop
  | .box cs => ∀ c ∈ cs, c.bd n
  | .arr rows => ∀ r ∈ rows, ∀ c ∈ r, c.bd n

/-- What is read out of an argument. -/
def MC.toA : MC → MC
  | .fz rows => .ag rows
  | c => c
theorem RC.of_RFa {st : Sto} {L : Lay} {w : World} {F : FF} {c : MC} {v : Value} (h : RF w F.all c v) : RC st L w F c.toA v := by
  cases h with
  | sc v h => exact ⟨rfl, h⟩
  | nilz a cap => exact RF.nilz a cap
  | fz rows b off cap s f hb hs hcap hc hr => exact RF.fz rows b off cap s f hb hs hcap hc hr
theorem MC.bd_toA {n : Nat} {c : MC} (h : c.frz = true) : c.toA.bd n := by cases c <;> simp_all [MC.frz, MC.toA, MC.bd]
theorem MC.bd_frz {n : Nat} {c : MC} (h : c.frz = true) : c.bd n := by cases c <;> simp_all [MC.frz, MC.bd]
theorem MC.bd.mono {n m : Nat} (h : n ≤ m) {c : MC} (hc : c.bd n) : c.bd m := by cases c <;> simp_all [MC.bd] <;> omega
theorem MV.bd1.mono {n m : Nat} (h : n ≤ m) {c : MV} (hc : c.bd1 n) : c.bd1 m := by
  cases c <;> simp_all [MV.bd1]
  · exact hc.mono h
  · exact fun c hc' => (hc c hc').mono h
theorem MV.bd.mono {n m : Nat} (h : n ≤ m) {c : MV} (hc : c.bd n) : c.bd m := by
  cases c
  · trivial
  · exact MV.bd1.mono (c := .one _) h hc
  · exact MV.bd1.mono (c := .agg _) h hc
  · exact fun v hv => MV.bd1.mono h (hc v hv)
theorem Ob.bd.mono {n m : Nat} (h : n ≤ m) {c : Ob} (hc : c.bd n) : c.bd m := by
  cases c
  · exact fun c hc' => (hc c hc').mono h
  · exact fun r hr c hc' => (hc r hr c hc').mono h

def RV1 (st : Sto) (L : Lay) (w : World) (F : FF) : MV → Value → Prop
  | .one c, v => RC st L w F c v
  | .agg cs, v => ∃ arr : Array Value, v = .agg arr ∧ Cells st L w F cs arr
  | .un, _ => True
  | .tup _, _ => False
def RV (st : Sto) (L : Lay) (w : World) (F : FF) : MV → Value → Prop
  | .tup vs, v => ∃ arr : Array Value, v = .tuple arr ∧ arr.size = vs.length ∧ ∀ (j : Nat) (x : MV), vs[j]? = some x → ∃ u : Value, arr[j]? = some u ∧ RV1 st L w F x u
  | x, v => RV1 st L w F x v

/-- The state: how many slots, the next free name, slots, objects. -/
structure S where
  m : Nat
  n : Nat
  env : List (Nat × MV)
  st : List (Nat × Ob)

/-- What may be written of what was there: objects handed over, under the names 0, 1, .. -/
structure Wr where
  m : Nat → Prop
  k : Nat
  pin : Lay
  o : Nat → Prop
instance : CoeFun Wr (fun _ => Nat → Prop) := ⟨Wr.m⟩

structure Rl (w0 : World) (wr : Wr) (A : Nat → Prop) (L : Lay) (F : FF) (s : S) (a : Act) (w : World) : Prop where
  os : w.os = w0.os
  tape : w.tape = w0.tape
  output : w.output = w0.output
  size : w0.heap.size ≤ w.heap.size
  keep : ∀ k, k < w0.heap.size → ¬ wr k → w.heap[k]? = w0.heap[k]?
  kc : ∀ b j, b < w0.heap.size → (w0.cell? ⟨b, j, none⟩).isSome = true → (w.cell? ⟨b, j, none⟩).isSome = true
  pin : ∀ i, i < wr.k → L i = wr.pin i ∧ i < s.n
  fa : F.a = A
  fn : ∀ b, F.n b → w0.heap.size ≤ b ∨ wr b ∨ wr.o b
  fsz : ∀ b, F.all b → b < w.heap.size
  ob : ∀ id o, look s.st id = some o → ObOK (look s.st) L w F id o
  own : ∀ id b t, (look s.st id).isSome = true → L id = some (b, t) → ¬ F.all b ∧ b < w.heap.size ∧ (w0.heap.size ≤ b ∨ wr b)
  inj : ∀ i j b t u, (look s.st i).isSome = true → (look s.st j).isSome = true → L i = some (b, t) → L j = some (b, u) → i = j
  sz : a.tmps.size = s.m
  env : ∀ t v, look s.env t = some v → RV (look s.st) L w F v (a.tmps.getD t undef)
  bst : ∀ id o, look s.st id = some o → id < s.n ∧ o.bd s.n
  ben : ∀ t v, look s.env t = some v → v.bd s.n
  df : a.defers = []

def Rel (w0 : World) (wr : Wr) (A : Nat → Prop) (s : S) (a : Act) (w : World) : Prop := ∃ L F, Rl w0 wr A L F s a w

end Mg
