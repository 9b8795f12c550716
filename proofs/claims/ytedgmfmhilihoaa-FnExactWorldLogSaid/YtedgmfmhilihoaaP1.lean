/- Parts of the abstract state logic and of the walks, one behind the other: Mg1, Mg2, Mg3, Mg4. No condition. -/
import Derived.Below
import Derived.Deep.MidRow
import Derived.Orders
import Derived.WalkKit
import Derived.Lib.LaidTab
import Derived.Lib.ItoaNum
/- The abstract state logic, part 1: values, the relation to the world, what keeps it. No condition. -/
namespace Mg
open Go Go.RowKit

/-- Abstract cells. -/
inductive MC where
  | dead
  | sc (v : Value)
  | nil
  | fz (rows : List (List MC))
  | own (rows : List (List MC))
  | ref (id off len : Nat)
  | ptr (id row off : Nat)
  | fptr (cells : List MC)
  | ag (rows : List (List MC))
  | aptr (cells : List MC)
  | tr (o : Bool) (B : Nat → Prop) (u : Value) (rows : List (List MC))
  deriving Inhabited

inductive MV where
  | un
  | one (c : MC)
  | agg (cs : List MC)
  | tup (vs : List MV)
  deriving Inhabited

inductive Ob where
  | box (cs : List MC)
  | arr (rows : List (List MC))

def look {α : Type _} : List (Nat × α) → Nat → Option α
  | [], _ => none
  | (k, v) :: l, j => if j = k then some v else look l j

@[simp] theorem look_nil {α : Type _} (j : Nat) : look ([] : List (Nat × α)) j = none := rfl
theorem look_cons {α : Type _} (k : Nat) (v : α) (l : List (Nat × α)) (j : Nat) : look ((k, v) :: l) j = if j = k then some v else look l j := rfl

/-- Frozen: reads in the world, in blocks of F alone. -/
inductive RF (w : World) (F : Nat → Prop) : MC → Value → Prop
  | sc (v : Value) (h : v.oneCell' = true) : RF w F (.sc v) v
  | nilz (a : Option Addr) (cap : Nat) : RF w F (.fz []) (.slice a 0 cap)
  | fz (rows : List (List MC)) (b off cap s : Nat) (f : Nat → Nat → Value) (hb : F b) (hs : ∀ r ∈ rows, r.length = s) (hcap : rows.length ≤ cap)
      (hc : ∀ i j r c, rows[i]? = some r → r[j]? = some c → w.cell? ⟨b, off + (i * s + j), none⟩ = some (f i j))
      (hr : ∀ i j r c, rows[i]? = some r → r[j]? = some c → RF w F c (f i j)) : RF w F (.fz rows) (.slice (some ⟨b, off, none⟩) rows.length cap)

theorem RF.one {w : World} {F : Nat → Prop} {c : MC} {v : Value} (h : RF w F c v) : v.oneCell' = true := by
  cases h with
  | sc v h => exact h
  | nilz => rfl
  | fz => rfl

theorem RF.mono {w w' : World} {F F' : Nat → Prop} (hw : ∀ b, F b → w'.heap[b]? = w.heap[b]?) (hF : ∀ b, F b → F' b) {c : MC} {v : Value}
    (h : RF w F c v) : RF w' F' c v := by
  induction h with
  | sc v h => exact .sc v h
  | nilz a cap => exact .nilz a cap
  | fz rows b off cap s f hb hs hcap hc hr ih =>
    refine .fz rows b off cap s f (hF b hb) hs hcap (fun i j r c h1 h2 => ?_) ih
    rw [World.cell?_of_block (w := w) (hw b hb)]
    exact hc i j r c h1 h2

theorem RF.fz_inv {w : World} {F : Nat → Prop} {rows : List (List MC)} {v : Value} (h : RF w F (.fz rows) v) :
    ∃ a cap, v = .slice a rows.length cap ∧ rows.length ≤ cap ∧ (rows ≠ [] → ∃ b off s, a = some ⟨b, off, none⟩ ∧ F b ∧ (∀ r ∈ rows, r.length = s) ∧
      ∀ i j r c, rows[i]? = some r → r[j]? = some c → ∃ u, w.cell? ⟨b, off + (i * s + j), none⟩ = some u ∧ RF w F c u) := by
  cases h with
  | nilz a cap => exact ⟨a, cap, rfl, Nat.zero_le _, fun h => absurd rfl h⟩
  | fz _ b off cap s f hb hs hcap hc hr =>
    exact ⟨_, cap, rfl, hcap, fun _ => ⟨b, off, s, rfl, hb, hs, fun i j r c h1 h2 => ⟨_, hc i j r c h1 h2, hr i j r c h1 h2⟩⟩⟩

theorem RF.mk {w : World} {F : Nat → Prop} {rows : List (List MC)} {a : Option Addr} {cap : Nat} (hcap : rows.length ≤ cap)
    (h : rows ≠ [] → ∃ b off s, a = some ⟨b, off, none⟩ ∧ F b ∧ (∀ r ∈ rows, r.length = s) ∧
      ∀ i j r c, rows[i]? = some r → r[j]? = some c → ∃ u, w.cell? ⟨b, off + (i * s + j), none⟩ = some u ∧ RF w F c u) : RF w F (.fz rows) (.slice a rows.length cap) := by
  cases hn : rows with
  | nil => exact .nilz a cap
  | cons r0 rs =>
    obtain ⟨b, off, s, rfl, hb, hs, hc⟩ := h (by simp [hn])
    rw [← hn]
    refine .fz rows b off cap s (fun i j => (w.cell? ⟨b, off + (i * s + j), none⟩).getD undef) hb hs hcap (fun i j r c h1 h2 => ?_) (fun i j r c h1 h2 => ?_)
    · obtain ⟨u, hu, _⟩ := hc i j r c h1 h2
      simp [hu]
    · obtain ⟨u, hu, hr⟩ := hc i j r c h1 h2
      simpa [hu] using hr

def Free (w : World) (b : Nat) : Prop := ∀ j, w.frozen? ⟨b, j, none⟩ = false

/-- A TREE: what hangs on a value lies in the blocks B, each part in blocks of its own, that may be written. -/
inductive TR (w : World) : MC → Value → (Nat → Prop) → Prop
  | sc (v : Value) (B : Nat → Prop) (h : v.oneCell' = true) (hB : ∀ b, ¬ B b) : TR w (.sc v) v B
  | nilz (a : Option Addr) (B : Nat → Prop) (hB : ∀ b, ¬ B b) : TR w (.fz []) (.slice a 0 0) B
  | fz (rows : List (List MC)) (b cap s : Nat) (f : Nat → Nat → Value) (Bs : Nat → Nat → Nat → Prop) (B : Nat → Prop) (h0 : rows ≠ []) (hf : Free w b) (hs : ∀ r ∈ rows, r.length = s) (hcap : rows.length ≤ cap)
      (hx : ∀ j, j < cap * s → (w.cell? ⟨b, j, none⟩).isSome = true) (hsz : b < w.heap.size)
      (hc : ∀ i j r c, rows[i]? = some r → r[j]? = some c → w.cell? ⟨b, i * s + j, none⟩ = some (f i j))
      (hr : ∀ i j r c, rows[i]? = some r → r[j]? = some c → TR w c (f i j) (Bs i j))
      (hd : ∀ i j i' j' x, Bs i j x → Bs i' j' x → i = i' ∧ j = j') (hb : ∀ i j, ¬ Bs i j b) (hB : ∀ x, B x ↔ x = b ∨ ∃ i j, Bs i j x)
      (hin : ∀ i j x, Bs i j x → ∃ r c, rows[i]? = some r ∧ r[j]? = some c) : TR w (.fz rows) (.slice (some ⟨b, 0, none⟩) rows.length cap) B

theorem TR.one {w : World} {c : MC} {v : Value} {B : Nat → Prop} (h : TR w c v B) : v.oneCell' = true := by
  cases h with
  | sc v B h => exact h
  | nilz => rfl
  | fz => rfl
theorem TR.mono {w w' : World} {c : MC} {v : Value} {B : Nat → Prop} (h : TR w c v B) (hw : ∀ b, B b → w'.heap[b]? = w.heap[b]?) : TR w' c v B := by
  induction h with
  | sc v B h hB => exact .sc v B h hB
  | nilz a B hB => exact .nilz a B hB
  | fz rows b cap s f Bs B h0 hf hs hcap hx hsz hc hr hd hb hB hin ih =>
    have hbb := hw b ((hB b).2 (.inl rfl))
    refine .fz rows b cap s f Bs B h0 (fun j => by rw [World.frozen?_of_block (w := w) hbb]; exact hf j) hs hcap (fun j hj => by rw [World.cell?_of_block (w := w) hbb]; exact hx j hj) ?_
      (fun i j r c h1 h2 => by rw [World.cell?_of_block (w := w) hbb]; exact hc i j r c h1 h2) (fun i j r c h1 h2 => ih i j r c h1 h2 fun x hx => hw x ((hB x).2 (.inr ⟨i, j, hx⟩))) hd hb hB hin
    have h1 : w.heap[b]? = some w.heap[b] := Array.getElem?_eq_getElem hsz
    rw [h1] at hbb
    exact (Array.getElem?_eq_some_iff.1 hbb).1
theorem TR.rf {w : World} {c : MC} {v : Value} {B F : Nat → Prop} (h : TR w c v B) (hF : ∀ b, B b → F b) : RF w F c v := by
  induction h with
  | sc v B h hB => exact .sc v h
  | nilz a B hB => exact .nilz a 0
  | fz rows b cap s f Bs B h0 hf hs hcap hx hsz hc hr hd hb hB hin ih =>
    exact .fz rows b 0 cap s f (hF b ((hB b).2 (.inl rfl))) hs hcap (fun i j r c h1 h2 => by rw [Nat.zero_add]; exact hc i j r c h1 h2) (fun i j r c h1 h2 => ih i j r c h1 h2 fun x hx => hF x ((hB x).2 (.inr ⟨i, j, hx⟩)))
theorem TR.lt {w : World} {c : MC} {v : Value} {B : Nat → Prop} (h : TR w c v B) : ∀ b, B b → b < w.heap.size := by
  induction h with
  | sc v B h hB => exact fun b hb => absurd hb (hB b)
  | nilz a B hB => exact fun b hb => absurd hb (hB b)
  | fz rows b cap s f Bs B h0 hf hs hcap hx hsz hc hr hd hb hB hin ih =>
    intro x hx'
    rcases (hB x).1 hx' with rfl | ⟨i, j, hij⟩
    · exact hsz
    · obtain ⟨r, c, h1, h2⟩ := hin i j x hij
      exact ih i j r c h1 h2 x hij

/-- What is read within the blocks B: a tree of one's own, or what is frozen. -/
def TrR (w : World) (o : Bool) (B : Nat → Prop) (rows : List (List MC)) (v : Value) : Prop := match o with
  | true => TR w (.fz rows) v B
  | false => RF w B (.fz rows) v
theorem TrR.rf {w : World} {o : Bool} {B F : Nat → Prop} {rows : List (List MC)} {v : Value} (h : TrR w o B rows v) (hF : ∀ b, B b → F b) : RF w F (.fz rows) v := by
  cases o with
  | true => exact TR.rf h hF
  | false => exact RF.mono (fun _ _ => rfl) hF h
theorem TrR.mono {w w' : World} {o : Bool} {B : Nat → Prop} {rows : List (List MC)} {v : Value} (h : TrR w o B rows v) (hw : ∀ b, B b → w'.heap[b]? = w.heap[b]?) : TrR w' o B rows v := by
  cases o with
  | true => exact TR.mono h hw
  | false => exact RF.mono hw (fun _ h => h) h

abbrev Lay := Nat → Option (Nat × Nat)
abbrev Sto := Nat → Option Ob

/-- What is frozen: blocks of the call's own (n), and those that the arguments are read from (a). -/
structure FF where
  n : Nat → Prop
  a : Nat → Prop
def FF.all (F : FF) (b : Nat) : Prop := F.n b ∨ F.a b
structure FF.le (F F' : FF) : Prop where
  n : ∀ b, F.n b → F'.n b
  a : ∀ b, F.a b → F'.a b
  r : ∀ b, F'.a b → F.a b
theorem FF.le.all {F F' : FF} (h : F.le F') (b : Nat) (hb : F.all b) : F'.all b := hb.imp (h.n b) (h.a b)
theorem FF.le.rfl {F : FF} : F.le F := ⟨fun _ h => h, fun _ h => h, fun _ h => h⟩

/-- A cell in a state. -/
def RC (st : Sto) (L : Lay) (w : World) (F : FF) : MC → Value → Prop
  | .dead, v => v.oneCell' = true
  | .nil, v => ∃ a, v = .slice a 0 0
  | .own _, _ => False
  | .ref id off len, v => v.oneCell' = true ∧ ∀ rows, st id = some (.arr rows) → ∃ a cap, v = .slice a len cap ∧ off + len ≤ rows.length ∧
      ((∃ b s, L id = some (b, s) ∧ a = some ⟨b, off * s, none⟩ ∧ len ≤ cap ∧ rows ≠ [] ∧ ∀ j, j < (off + cap) * s → (w.cell? ⟨b, j, none⟩).isSome = true) ∨ (len = 0 ∧ cap = 0))
  | .ptr id row off, v => v.oneCell' = true ∧ ((st id).isSome = true → ∃ b s, L id = some (b, s) ∧ v = .pointer (some ⟨b, row * s + off, none⟩))
  | .fptr cells, v => ∃ b o, F.n b ∧ v = .pointer (some ⟨b, o, none⟩) ∧ ∀ j c, cells[j]? = some c → ∃ u, w.cell? ⟨b, o + j, none⟩ = some u ∧ RF w F.n c u
  | .aptr cells, v => ∃ b o, F.all b ∧ v = .pointer (some ⟨b, o, none⟩) ∧ ∀ j c, cells[j]? = some c → ∃ u, w.cell? ⟨b, o + j, none⟩ = some u ∧ RF w F.all c u
  | .sc u, v => v = u ∧ u.oneCell' = true
  | .fz rows, v => RF w F.n (.fz rows) v
  | .ag rows, v => RF w F.all (.fz rows) v
  | .tr o B u rows, v => v = u ∧ (∀ b, B b → F.all b ∧ (o = true → F.n b ∧ ¬ F.a b)) ∧ TrR w o B rows v

theorem RC.one {st : Sto} {L : Lay} {w : World} {F : FF} {c : MC} {v : Value} (h : RC st L w F c v) : v.oneCell' = true := by
  cases c with
  | dead => exact h
  | sc u => obtain ⟨rfl, h⟩ := h; exact h
  | nil => obtain ⟨a, rfl⟩ := h; rfl
  | fz rows => exact RF.one h
  | own => exact h.elim
  | ref id off len => exact h.1
  | ptr id row off => exact h.1
  | fptr cells => obtain ⟨b, o, _, rfl, _⟩ := h; rfl
  | aptr cells => obtain ⟨b, o, _, rfl, _⟩ := h; rfl
  | ag rows => exact RF.one h
  | tr o B u rows => exact RF.one (h.2.2.rf (F := B) fun _ h => h)

def MC.frz : MC → Bool
  | .sc _ | .fz _ => true
  | _ => false

theorem RC.of_RF {st : Sto} {L : Lay} {w : World} {F : FF} {c : MC} {v : Value} (h : RF w F.n c v) : RC st L w F c v := by
  cases h with
  | sc v h => exact ⟨rfl, h⟩
  | nilz a cap => exact .nilz a cap
  | fz rows b off cap s f hb hs hcap hc hr => exact .fz rows b off cap s f hb hs hcap hc hr

theorem RF.frz {w : World} {F : Nat → Prop} {c : MC} {v : Value} (h : RF w F c v) : c.frz = true := by cases h <;> rfl

theorem RC.to_RF {st : Sto} {L : Lay} {w : World} {F : FF} {c : MC} {v : Value} (h : RC st L w F c v) (hf : c.frz = true) : RF w F.n c v := by
  cases c <;> simp [MC.frz] at hf
  · obtain ⟨rfl, h1⟩ := h; exact .sc _ h1
  · exact h

/-- Live blocks. -/
def Liv (st : Sto) (L : Lay) (b : Nat) : Prop := ∃ id s, (st id).isSome = true ∧ L id = some (b, s)

theorem RC.mono {st st' : Sto} {L L' : Lay} {w w' : World} {F F' : FF} (hw : ∀ b, F.all b → w'.heap[b]? = w.heap[b]?) (hF : F.le F')
    (hst : ∀ id, st' id = st id ∨ st' id = none ∨ (st id = none ∧ False)) (hL : ∀ id, (st' id).isSome = true → L' id = L id)
    (hc : ∀ id b s j, (st' id).isSome = true → L id = some (b, s) → (w.cell? ⟨b, j, none⟩).isSome = true → (w'.cell? ⟨b, j, none⟩).isSome = true)
    {c : MC} {v : Value} (h : RC st L w F c v) : RC st' L' w' F' c v := by
  cases c with
  | dead => exact h
  | sc u => exact h
  | nil => exact h
  | fz rows => exact RF.mono (fun b hb => hw b (.inl hb)) hF.n h
  | ag rows => exact RF.mono hw hF.all h
  | tr o B u rows => exact ⟨h.1, fun b hb => ⟨hF.all b (h.2.1 b hb).1, fun ho => ⟨hF.n b ((h.2.1 b hb).2 ho).1, fun h' => ((h.2.1 b hb).2 ho).2 (hF.r b h')⟩⟩, h.2.2.mono fun b hb => hw b (h.2.1 b hb).1⟩
  | own => exact h
  | ref id off len =>
    refine ⟨h.1, fun rows hr => ?_⟩
    rcases hst id with he | he | he
    · obtain ⟨a, cap, hv, hl, hx⟩ := h.2 rows (he ▸ hr)
      refine ⟨a, cap, hv, hl, ?_⟩
      rcases hx with ⟨b, s, h1, h2, h3, hne, h4⟩ | hx
      · exact .inl ⟨b, s, by rw [hL id (by simp [hr])]; exact h1, h2, h3, hne, fun j hj => hc id b s j (by simp [hr]) h1 (h4 j hj)⟩
      · exact .inr hx
    · rw [he] at hr; cases hr
    · exact he.2.elim
  | ptr id row off =>
    refine ⟨h.1, fun hr => ?_⟩
    rcases hst id with he | he | he
    · obtain ⟨b, s, h1, h2⟩ := h.2 (he ▸ hr)
      exact ⟨b, s, by rw [hL id hr]; exact h1, h2⟩
    · rw [he] at hr; cases hr
    · exact he.2.elim
  | fptr cells =>
    obtain ⟨b, o, hb, hv, hx⟩ := h
    refine ⟨b, o, hF.n b hb, hv, fun j c hj => ?_⟩
    obtain ⟨u, h1, h2⟩ := hx j c hj
    exact ⟨u, by rw [World.cell?_of_block (w := w) (hw b (.inl hb))]; exact h1, h2.mono (fun b hb => hw b (.inl hb)) hF.n⟩
  | aptr cells =>
    obtain ⟨b, o, hb, hv, hx⟩ := h
    refine ⟨b, o, hF.all b hb, hv, fun j c hj => ?_⟩
    obtain ⟨u, h1, h2⟩ := hx j c hj
    exact ⟨u, by rw [World.cell?_of_block (w := w) (hw b hb)]; exact h1, h2.mono hw hF.all⟩

/-- A row of cells reads as a list of abstract cells. -/
def Cells (st : Sto) (L : Lay) (w : World) (F : FF) (cs : List MC) (c : Array Value) : Prop :=
  c.size = cs.length ∧ ∀ (j : Nat) (x : MC), cs[j]? = some x → ∃ u : Value, c[j]? = some u ∧ RC st L w F x u

/-- In block b from o on there are cells that read so. -/
def WC (st : Sto) (L : Lay) (w : World) (F : FF) (b o : Nat) (cs : List MC) : Prop :=
  ∀ (j : Nat) (x : MC), cs[j]? = some x → ∃ u : Value, w.cell? ⟨b, o + j, none⟩ = some u ∧ RC st L w F x u

def ObOK (st : Sto) (L : Lay) (w : World) (F : FF) (id : Nat) : Ob → Prop
  | .box cs => ∃ (b s : Nat), L id = some (b, s) ∧ Free w b ∧ WC st L w F b 0 cs
  | .arr rows => (rows = [] ∧ L id = none) ∨ ∃ (b s : Nat), L id = some (b, s) ∧ Free w b ∧ (∀ r ∈ rows, r.length = s) ∧
      ∀ (i : Nat) (r : List MC), rows[i]? = some r → WC st L w F b (i * s) r

def MC.bd (n : Nat) : MC → Prop
  | .ref id _ _ => id < n
  | .ptr id _ _ => id < n
  | _ => True
def MV.bd1 (n : Nat) : MV → Prop
  | .one c => c.bd n
  | .agg cs => ∀ c ∈ cs, c.bd n
  | _ => True
def MV.bd (n : Nat) : MV → Prop
  | .tup vs => ∀ v ∈ vs, v.bd1 n
  | v => v.bd1 n
def Ob.bd (n : Nat) : Ob → Prop
  | .box cs => ∀ c ∈ cs, c.bd n
  | .arr rows => ∀ r ∈ rows, ∀ c ∈ r, c.bd n

/-- What is read out of an argument. -/
def MC.toA : MC → MC
  | .fz rows => .ag rows
  | c => c
theorem RC.of_RFa {st : Sto} {L : Lay} {w : World} {F : FF} {c : MC} {v : Value} (h : RF w F.all c v) : RC st L w F c.toA v := by
  cases h with
  | sc v h => exact ⟨rfl, h⟩
  | nilz a cap => exact RF.nilz a cap
  | fz rows b off cap s f hb hs hcap hc hr => exact RF.fz rows b off cap s f hb hs hcap hc hr
theorem MC.bd_toA {n : Nat} {c : MC} (h : c.frz = true) : c.toA.bd n := by cases c <;> simp_all [MC.frz, MC.toA, MC.bd]
theorem MC.bd_frz {n : Nat} {c : MC} (h : c.frz = true) : c.bd n := by cases c <;> simp_all [MC.frz, MC.bd]
theorem MC.bd.mono {n m : Nat} (h : n ≤ m) {c : MC} (hc : c.bd n) : c.bd m := by cases c <;> simp_all [MC.bd] <;> omega
theorem MV.bd1.mono {n m : Nat} (h : n ≤ m) {c : MV} (hc : c.bd1 n) : c.bd1 m := by
  cases c <;> simp_all [MV.bd1]
  · exact hc.mono h
  · exact fun c hc' => (hc c hc').mono h
theorem MV.bd.mono {n m : Nat} (h : n ≤ m) {c : MV} (hc : c.bd n) : c.bd m := by
  cases c
  · trivial
  · exact MV.bd1.mono (c := .one _) h hc
  · exact MV.bd1.mono (c := .agg _) h hc
  · exact fun v hv => MV.bd1.mono h (hc v hv)
theorem Ob.bd.mono {n m : Nat} (h : n ≤ m) {c : Ob} (hc : c.bd n) : c.bd m := by
  cases c
  · exact fun c hc' => (hc c hc').mono h
  · exact fun r hr c hc' => (hc r hr c hc').mono h

def RV1 (st : Sto) (L : Lay) (w : World) (F : FF) : MV → Value → Prop
  | .one c, v => RC st L w F c v
  | .agg cs, v => ∃ arr : Array Value, v = .agg arr ∧ Cells st L w F cs arr
  | .un, _ => True
  | .tup _, _ => False
def RV (st : Sto) (L : Lay) (w : World) (F : FF) : MV → Value → Prop
  | .tup vs, v => ∃ arr : Array Value, v = .tuple arr ∧ arr.size = vs.length ∧ ∀ (j : Nat) (x : MV), vs[j]? = some x → ∃ u : Value, arr[j]? = some u ∧ RV1 st L w F x u
  | x, v => RV1 st L w F x v

/-- The state: how many slots, the next free name, slots, objects. -/
structure S where
  m : Nat
  n : Nat
  env : List (Nat × MV)
  st : List (Nat × Ob)

/-- What may be written of what was there: objects handed over, under the names 0, 1, .. -/
structure Wr where
  m : Nat → Prop
  k : Nat
  pin : Lay
  o : Nat → Prop
instance : CoeFun Wr (fun _ => Nat → Prop) := ⟨Wr.m⟩

structure Rl (w0 : World) (wr : Wr) (A : Nat → Prop) (L : Lay) (F : FF) (s : S) (a : Act) (w : World) : Prop where
  os : w.os = w0.os
  tape : w.tape = w0.tape
  output : w.output = w0.output
  size : w0.heap.size ≤ w.heap.size
  keep : ∀ k, k < w0.heap.size → ¬ wr k → w.heap[k]? = w0.heap[k]?
  kc : ∀ b j, b < w0.heap.size → (w0.cell? ⟨b, j, none⟩).isSome = true → (w.cell? ⟨b, j, none⟩).isSome = true
  pin : ∀ i, i < wr.k → L i = wr.pin i ∧ i < s.n
  fa : F.a = A
  fn : ∀ b, F.n b → w0.heap.size ≤ b ∨ wr b ∨ wr.o b
  fsz : ∀ b, F.all b → b < w.heap.size
  ob : ∀ id o, look s.st id = some o → ObOK (look s.st) L w F id o
  own : ∀ id b t, (look s.st id).isSome = true → L id = some (b, t) → ¬ F.all b ∧ b < w.heap.size ∧ (w0.heap.size ≤ b ∨ wr b)
  inj : ∀ i j b t u, (look s.st i).isSome = true → (look s.st j).isSome = true → L i = some (b, t) → L j = some (b, u) → i = j
  sz : a.tmps.size = s.m
  env : ∀ t v, look s.env t = some v → RV (look s.st) L w F v (a.tmps.getD t undef)
  bst : ∀ id o, look s.st id = some o → id < s.n ∧ o.bd s.n
  ben : ∀ t v, look s.env t = some v → v.bd s.n
  df : a.defers = []

def Rel (w0 : World) (wr : Wr) (A : Nat → Prop) (s : S) (a : Act) (w : World) : Prop := ∃ L F, Rl w0 wr A L F s a w

end Mg

/- The abstract state logic, part 2: what keeps the relation. No condition. -/
namespace Mg
open Go Go.RowKit

def S.put (s : S) (d : Option Nat) (v : MV) : S := match d with
  | some d => { s with env := (d, v) :: s.env }
  | none => s

/-- RC where nothing has turned in F and in the live blocks. -/
theorem RC.same {st : Sto} {L L' : Lay} {w w' : World} {F F' : FF} (hw : ∀ b, F.all b → w'.heap[b]? = w.heap[b]?) (hF : F.le F')
    (hL : ∀ id, (st id).isSome = true → L' id = L id)
    (hc : ∀ id b s j, (st id).isSome = true → L id = some (b, s) → (w.cell? ⟨b, j, none⟩).isSome = true → (w'.cell? ⟨b, j, none⟩).isSome = true)
    {c : MC} {v : Value} (h : RC st L w F c v) : RC st L' w' F' c v :=
  RC.mono hw hF (fun _ => .inl rfl) hL hc h

theorem Cells.imp {st st' : Sto} {L L' : Lay} {w w' : World} {F F' : FF} {cs : List MC} {c : Array Value}
    (hi : ∀ x ∈ cs, ∀ u, RC st L w F x u → RC st' L' w' F' x u) (h : Cells st L w F cs c) : Cells st' L' w' F' cs c :=
  ⟨h.1, fun j x hj => by obtain ⟨u, h1, h2⟩ := h.2 j x hj; exact ⟨u, h1, hi x (List.mem_of_getElem? hj) u h2⟩⟩

theorem RV1.imp {st st' : Sto} {L L' : Lay} {w w' : World} {F F' : FF} {n : Nat} {x : MV} {v : Value} (hb : x.bd1 n)
    (hi : ∀ x : MC, x.bd n → ∀ u, RC st L w F x u → RC st' L' w' F' x u) (h : RV1 st L w F x v) : RV1 st' L' w' F' x v := by
  cases x with
  | un => trivial
  | one c => exact hi c hb v h
  | agg cs => obtain ⟨arr, he, hc⟩ := h; exact ⟨arr, he, hc.imp fun x hx => hi x (hb x hx)⟩
  | tup vs => exact h.elim

theorem RV.imp {st st' : Sto} {L L' : Lay} {w w' : World} {F F' : FF} {n : Nat} {x : MV} {v : Value} (hb : x.bd n)
    (hi : ∀ x : MC, x.bd n → ∀ u, RC st L w F x u → RC st' L' w' F' x u) (h : RV st L w F x v) : RV st' L' w' F' x v := by
  cases x with
  | un => trivial
  | one c => exact RV1.imp (x := .one c) hb hi h
  | agg cs => exact RV1.imp (x := .agg cs) hb hi h
  | tup vs =>
    obtain ⟨arr, he, hz, hc⟩ := h
    refine ⟨arr, he, hz, fun j x hj => ?_⟩
    obtain ⟨u, h1, h2⟩ := hc j x hj
    exact ⟨u, h1, RV1.imp (hb x (List.mem_of_getElem? hj)) hi h2⟩

theorem WC.imp {st st' : Sto} {L L' : Lay} {w w' : World} {F F' : FF} {b o : Nat} {cs : List MC}
    (hw : ∀ j, w'.cell? ⟨b, j, none⟩ = w.cell? ⟨b, j, none⟩)
    (hi : ∀ x ∈ cs, ∀ u, RC st L w F x u → RC st' L' w' F' x u) (h : WC st L w F b o cs) : WC st' L' w' F' b o cs := fun j x hj => by
  obtain ⟨u, h1, h2⟩ := h j x hj
  exact ⟨u, by rw [hw]; exact h1, hi x (List.mem_of_getElem? hj) u h2⟩

theorem ObOK.imp {st st' : Sto} {L L' : Lay} {w w' : World} {F F' : FF} {n id : Nat} {o : Ob} (hb : o.bd n) (hL : L' id = L id)
    (hw : ∀ b s, L id = some (b, s) → w'.heap[b]? = w.heap[b]?)
    (hi : ∀ x : MC, x.bd n → ∀ u, RC st L w F x u → RC st' L' w' F' x u) (h : ObOK st L w F id o) : ObOK st' L' w' F' id o := by
  cases o with
  | box cs =>
    obtain ⟨b, s, h1, h2, h3⟩ := h
    exact ⟨b, s, hL ▸ h1, fun j => by rw [World.frozen?_of_block (w := w) (hw b s h1)]; exact h2 j,
      h3.imp (fun j => World.cell?_of_block (w := w) (hw b s h1)) fun x hx => hi x (hb x hx)⟩
  | arr rows =>
    rcases h with ⟨h1, h2⟩ | ⟨b, s, h1, h2, h3, h4⟩
    · exact .inl ⟨h1, hL ▸ h2⟩
    · exact .inr ⟨b, s, hL ▸ h1, fun j => by rw [World.frozen?_of_block (w := w) (hw b s h1)]; exact h2 j, h3,
        fun i r hi' => (h4 i r hi').imp (fun j => World.cell?_of_block (w := w) (hw b s h1)) fun x hx => hi x (hb r (List.mem_of_getElem? hi') x hx)⟩

section
variable {w0 : World} {wr : Wr} {A : Nat → Prop} {L : Lay} {F : FF} {s : S} {a : Act} {w : World}

/-- A slot is written. -/
theorem Rl.put (h : Rl w0 wr A L F s a w) {d : Option Nat} {v : MV} {u : Value} (hd : ∀ x, d = some x → x < s.m) (hv : RV (look s.st) L w F v u) (hb : v.bd s.n) :
    Rl w0 wr A L F (s.put d v) (a.put d u) w := by
  cases d with
  | none => exact h
  | some d =>
    have hd := hd d rfl
    refine ⟨h.os, h.tape, h.output, h.size, h.keep, h.kc, h.pin, h.fa, h.fn, h.fsz, h.ob, h.own, h.inj, ?_, ?_, h.bst, ?_, h.df⟩
    · simp [S.put, Act.put, h.sz]
    · intro t x hx
      simp only [S.put, look_cons] at hx
      by_cases e : t = d
      · rw [if_pos e] at hx
        obtain rfl := Option.some.inj hx
        subst e
        have : (a.put (some t) u).tmps.getD t undef = u := by simp [Act.put, h.sz, hd]
        rw [this]; exact hv
      · rw [if_neg e] at hx
        have : (a.put (some d) u).tmps.getD t undef = a.tmps.getD t undef := by
          simp [Act.put, Array.getElem?_setIfInBounds_ne (Ne.symm e)]
        rw [this]; exact h.env t x hx
    · intro t x hx
      simp only [S.put, look_cons] at hx
      by_cases e : t = d
      · rw [if_pos e] at hx
        obtain rfl := Option.some.inj hx
        exact hb
      · rw [if_neg e] at hx; exact h.ben t x hx

/-- A world of the same heap. -/
theorem Rl.heap_eq (h : Rl w0 wr A L F s a w) {w' : World} (hh : w'.heap = w.heap) (ho : w'.os = w.os) (ht : w'.tape = w.tape) (hu : w'.output = w.output) :
    Rl w0 wr A L F s a w' := by
  have hi : ∀ x : MC, x.bd s.n → ∀ u, RC (look s.st) L w F x u → RC (look s.st) L w' F x u := fun x _ u hx =>
    hx.same (fun b _ => by rw [hh]) .rfl (fun _ _ => rfl) (fun id b t j _ _ hj => by rw [World.cell?_of_block (w := w) (by rw [hh])]; exact hj)
  exact ⟨ho.trans h.os, ht.trans h.tape, hu.trans h.output, by rw [hh]; exact h.size, fun k hk hn => by rw [hh]; exact h.keep k hk hn, fun b j hb hc => by rw [World.cell?_of_block (w := w) (by rw [hh])]; exact h.kc b j hb hc, h.pin, h.fa, h.fn,
    fun b hb => by rw [hh]; exact h.fsz b hb,
    fun id o ho => (h.ob id o ho).imp (h.bst id o ho).2 rfl (fun b t _ => by rw [hh]) hi,
    fun id b t h1 h2 => by rw [hh]; exact h.own id b t h1 h2, h.inj, h.sz,
    fun t v hv => (h.env t v hv).imp (h.ben t v hv) hi, h.bst, h.ben, h.df⟩

theorem Rl.drew (h : Rl w0 wr A L F s a w) : Rl w0 wr A L F s a { w with drawn := w.drawn + 1 } := h.heap_eq rfl rfl rfl rfl

/-- The state with a new object under the next name. -/
def S.new (s : S) (o : Ob) : S := { s with n := s.n + 1, st := (s.n, o) :: s.st }

theorem fresh_look (h : Rl w0 wr A L F s a w) : look s.st s.n = none := by
  cases hl : look s.st s.n with
  | none => rfl
  | some o => exact absurd (h.bst _ _ hl).1 (Nat.lt_irrefl _)

theorem look_new {id : Nat} (o : Ob) (h : id ≠ s.n) : look (s.new o).st id = look s.st id := by
  simp [S.new, look_cons, h]

/-- RC over a new object: names below n speak as before. -/
theorem RC.new {st : List (Nat × Ob)} {n : Nat} {o : Ob} {L' : Lay} {w' : World} (hn : look st n = none)
    (hw : ∀ b, F.all b → w'.heap[b]? = w.heap[b]?) (hL : ∀ id, id ≠ n → L' id = L id)
    (hc : ∀ id b t j, (look st id).isSome = true → L id = some (b, t) → (w.cell? ⟨b, j, none⟩).isSome = true → (w'.cell? ⟨b, j, none⟩).isSome = true)
    {c : MC} {v : Value} (hb : c.bd n) (h : RC (look st) L w F c v) : RC (look ((n, o) :: st)) L' w' F c v := by
  have h1 : RC (look st) L' w' F c v := h.same hw .rfl (fun id hid => hL id (fun e => by rw [e, hn] at hid; cases hid)) hc
  cases c with
  | ref id off len =>
    have : id ≠ n := Nat.ne_of_lt hb
    exact ⟨h1.1, fun rows hr => h1.2 rows (by simpa [look_cons, this] using hr)⟩
  | ptr id row off =>
    have : id ≠ n := Nat.ne_of_lt hb
    exact ⟨h1.1, fun hr => h1.2 (by simpa [look_cons, this] using hr)⟩
  | _ => exact h1

/-- A new block under a new name: what it holds is to be shown behind. -/
theorem Rl.alloc (h : Rl w0 wr A L F s a w) (c : Array Value) (e : TypeId) (t : Nat) (o : Ob) (hb : o.bd s.n)
    (ho : ∀ L' : Lay, L' s.n = some (w.heap.size, t) → (∀ id, id ≠ s.n → L' id = L id) →
      (∀ x : MC, x.bd s.n → ∀ u, RC (look s.st) L w F x u → RC (look (s.new o).st) L' (w.alloc (.cells c e (0, 0))) F x u) →
      ObOK (look (s.new o).st) L' (w.alloc (.cells c e (0, 0))) F s.n o) :
    ∃ L', Rl w0 wr A L' F (s.new o) a (w.alloc (.cells c e (0, 0))) ∧ L' s.n = some (w.heap.size, t) ∧ (∀ id, id ≠ s.n → L' id = L id) := by
  let L' : Lay := fun id => if id = s.n then some (w.heap.size, t) else L id
  have hLn : L' s.n = some (w.heap.size, t) := if_pos rfl
  have hLo : ∀ id, id ≠ s.n → L' id = L id := fun id hid => if_neg hid
  have hold : ∀ b, b < w.heap.size → (w.alloc (.cells c e (0, 0))).heap[b]? = w.heap[b]? := fun b hb => Below.heap_alloc _ _ _ hb
  have hn := fresh_look h
  have hi : ∀ x : MC, x.bd s.n → ∀ u, RC (look s.st) L w F x u → RC (look (s.new o).st) L' (w.alloc (.cells c e (0, 0))) F x u := fun x hx u hr =>
    RC.new hn (fun b hb => hold b (h.fsz b hb)) hLo (fun id b t' j h1 h2 h3 => by rw [World.cell?_of_block (w := w) (hold b (h.own id b t' h1 h2).2.1)]; exact h3) hx hr
  refine ⟨L', ⟨h.os, h.tape, h.output, ?_, ?_, fun b j hb hc => by rw [World.cell?_of_block (w := w) (hold b (Nat.lt_of_lt_of_le hb h.size))]; exact h.kc b j hb hc, fun i hi => ⟨(hLo i (Nat.ne_of_lt (h.pin i hi).2)).trans (h.pin i hi).1, Nat.lt_succ_of_lt (h.pin i hi).2⟩, h.fa, h.fn, ?_, ?_, ?_, ?_, h.sz, ?_, ?_, ?_, h.df⟩, hLn, hLo⟩
  · show w0.heap.size ≤ (w.heap.push _).size
    have := h.size; simp; omega
  · intro k hk hnw; rw [hold k (Nat.lt_of_lt_of_le hk h.size)]; exact h.keep k hk hnw
  · intro b hb
    show b < (w.heap.push _).size
    have := h.fsz b hb; simp; omega
  · intro id o' hid
    by_cases e : id = s.n
    · subst e
      have : o' = o := by simpa [S.new, look_cons] using hid.symm
      subst this
      exact ho L' hLn hLo hi
    · rw [look_new _ e] at hid
      exact (h.ob id o' hid).imp (h.bst id o' hid).2 (hLo id e) (fun b t' h1 => hold b (h.own id b t' (by simp [hid]) h1).2.1) hi
  · intro id b t' h1 h2
    by_cases e : id = s.n
    · subst e
      rw [hLn] at h2
      obtain ⟨rfl, rfl⟩ := Prod.mk.inj (Option.some.inj h2)
      refine ⟨fun hf => absurd (h.fsz _ hf) (Nat.lt_irrefl _), ?_, .inl h.size⟩
      show w.heap.size < (w.heap.push _).size
      simp
    · rw [look_new _ e] at h1
      rw [hLo id e] at h2
      have := h.own id b t' h1 h2
      refine ⟨this.1, ?_, this.2.2⟩
      show b < (w.heap.push _).size
      have := this.2.1; simp; omega
  · intro i j b t1 t2 h1 h2 h3 h4
    by_cases ei : i = s.n
    · by_cases ej : j = s.n
      · rw [ei, ej]
      · rw [look_new _ ej] at h2
        rw [hLo j ej] at h4
        rw [ei, hLn] at h3
        obtain ⟨rfl, rfl⟩ := Prod.mk.inj (Option.some.inj h3)
        exact absurd (h.own j _ t2 h2 h4).2.1 (Nat.lt_irrefl _)
    · rw [look_new _ ei] at h1
      rw [hLo i ei] at h3
      by_cases ej : j = s.n
      · rw [ej, hLn] at h4
        obtain ⟨rfl, rfl⟩ := Prod.mk.inj (Option.some.inj h4)
        exact absurd (h.own i _ t1 h1 h3).2.1 (Nat.lt_irrefl _)
      · rw [look_new _ ej] at h2
        rw [hLo j ej] at h4
        exact h.inj i j b t1 t2 h1 h2 h3 h4
  · intro t' v hv
    exact (h.env t' v hv).imp (h.ben t' v hv) hi
  · intro id o' hid
    by_cases e : id = s.n
    · subst e
      have : o' = o := by simpa [S.new, look_cons] using hid.symm
      subst this
      exact ⟨Nat.lt_succ_self _, hb.mono (Nat.le_succ _)⟩
    · rw [look_new _ e] at hid
      have := h.bst id o' hid
      exact ⟨Nat.lt_succ_of_lt this.1, this.2.mono (Nat.le_succ _)⟩
  · intro t' v hv
    exact (h.ben t' v hv).mono (Nat.le_succ _)

end
end Mg

/- The abstract state logic, part 3: stores, weakening, freezing. No condition. -/
namespace Mg
open Go Go.RowKit

def upd {α : Type} : List (Nat × α) → Nat → α → List (Nat × α)
  | [], _, _ => []
  | (k, v) :: l, j, x => if j = k then (k, x) :: l else (k, v) :: upd l j x
theorem upd_cons {α : Type} (k : Nat) (v : α) (l : List (Nat × α)) (j : Nat) (x : α) : upd ((k, v) :: l) j x = if j = k then (k, x) :: l else (k, v) :: upd l j x := rfl
theorem look_upd {α : Type} : ∀ (l : List (Nat × α)) (j : Nat) (x : α) (i : Nat), look (upd l j x) i = if i = j ∧ (look l j).isSome = true then some x else look l i
  | [], j, x, i => by simp [upd]
  | (k, v) :: l, j, x, i => by
    by_cases e : j = k
    · subst e
      by_cases ei : i = j
      · subst ei; simp [upd, look_cons]
      · simp [upd, look_cons, ei]
    · by_cases ei : i = k
      · subst ei
        have e' : ¬ i = j := fun h => e h.symm
        simp [upd, look_cons, e, e']
      · simp only [upd_cons, look_cons, e, ei, if_false]
        rw [look_upd l j x i]

def del {α : Type} : List (Nat × α) → Nat → List (Nat × α)
  | [], _ => []
  | (k, v) :: l, j => if j = k then del l j else (k, v) :: del l j
theorem del_cons {α : Type} (k : Nat) (v : α) (l : List (Nat × α)) (j : Nat) : del ((k, v) :: l) j = if j = k then del l j else (k, v) :: del l j := rfl
theorem look_del {α : Type} : ∀ (l : List (Nat × α)) (j : Nat) (i : Nat), look (del l j) i = if i = j then none else look l i
  | [], j, i => by simp [del]
  | (k, v) :: l, j, i => by
    by_cases e : j = k
    · subst e
      simp only [del_cons, if_true, look_del l j i, look_cons]
      by_cases ei : i = j <;> simp [ei]
    · by_cases ei : i = k
      · subst ei
        have e' : ¬ i = j := fun h => e h.symm
        simp [del_cons, look_cons, e, e']
      · simp only [del_cons, look_cons, e, ei, if_false]
        rw [look_del l j i]

theorem heap_setCells (b : Nat) : ∀ (vs : List Value) (o : Nat) (w : World) (k : Nat), k ≠ b → (w.setCells b o vs).heap[k]? = w.heap[k]?
  | [], _, _, _, _ => rfl
  | v :: r, o, w, k, h => by
    rw [World.setCells, heap_setCells b r (o + 1) _ k h]
    exact Below.heap_setCell w ⟨b, o, none⟩ v k h
theorem size_setCells (b : Nat) : ∀ (vs : List Value) (o : Nat) (w : World), (w.setCells b o vs).heap.size = w.heap.size
  | [], _, _ => rfl
  | v :: r, o, w => by
    rw [World.setCells, size_setCells b r (o + 1)]
    simp [World.setCell]
theorem os_setCells (b : Nat) : ∀ (vs : List Value) (o : Nat) (w : World), (w.setCells b o vs).os = w.os ∧ (w.setCells b o vs).tape = w.tape ∧ (w.setCells b o vs).output = w.output
  | [], _, _ => ⟨rfl, rfl, rfl⟩
  | v :: r, o, w => by
    have := os_setCells b r (o + 1) (w.setCell ⟨b, o, none⟩ v)
    exact this
theorem some_setCells (b : Nat) (vs : List Value) (o : Nat) (w : World) (hv : ∀ j, j < vs.length → (w.cell? ⟨b, o + j, none⟩).isSome = true) (x : Addr) (h : (w.cell? x).isSome = true) :
    ((w.setCells b o vs).cell? x).isSome = true := by
  by_cases hx : x.block = b ∧ x.spot = none ∧ o ≤ x.off ∧ x.off < o + vs.length
  · obtain ⟨rfl, h2, h3, h4⟩ := hx
    obtain ⟨bb, off, spot⟩ := x
    simp only at h2 h3 h4 hv ⊢
    subst h2
    have := World.cell?_setCells_in bb vs o w hv (off - o) (by omega)
    rw [show o + (off - o) = off by omega] at this
    rw [this]; rfl
  · rw [World.cell?_setCells_out b vs o w x (fun h1 h2 => by
      by_cases h3 : o ≤ x.off
      · by_cases h4 : x.off < o + vs.length
        · exact absurd ⟨h1, h2, h3, h4⟩ hx
        · exact .inr (by omega)
      · exact .inl (by omega))]
    exact h

def S.set (s : S) (id : Nat) (o : Ob) : S := { s with st := upd s.st id o }

/-- The kind of an object that takes another's place. -/
def Ob.like : Ob → Ob → Prop
  | .box _, .box _ => True
  | .arr r, .arr r' => r.length ≤ r'.length
  | _, _ => False

theorem RC.set {st : List (Nat × Ob)} {id : Nat} {o o' : Ob} {L : Lay} {F : FF} {w w' : World} (hid : look st id = some o) (hk : o.like o')
    (hw : ∀ b, F.all b → w'.heap[b]? = w.heap[b]?)
    (hc : ∀ i b t j, (look st i).isSome = true → L i = some (b, t) → (w.cell? ⟨b, j, none⟩).isSome = true → (w'.cell? ⟨b, j, none⟩).isSome = true)
    {c : MC} {v : Value} (h : RC (look st) L w F c v) : RC (look (upd st id o')) L w' F c v := by
  have h1 : RC (look st) L w' F c v := h.same hw .rfl (fun _ _ => rfl) hc
  cases c with
  | ref i off len =>
    refine ⟨h1.1, fun rows hr => ?_⟩
    rw [look_upd] at hr
    by_cases e : i = id
    · subst e
      rw [if_pos ⟨rfl, by rw [hid]; rfl⟩] at hr
      obtain rfl := Option.some.inj hr
      cases o with
      | box cs => exact hk.elim
      | arr r =>
        obtain ⟨a, cap, hv, hl, hx⟩ := h1.2 r hid
        refine ⟨a, cap, hv, Nat.le_trans hl hk, hx.imp (fun ⟨b, s, h1, h2, h3, h4, h5⟩ => ⟨b, s, h1, h2, h3, fun e => h4 ?_, h5⟩) id⟩
        have hk : r.length ≤ rows.length := hk
        rw [e] at hk
        exact List.eq_nil_of_length_eq_zero (Nat.le_zero.1 hk)
    · rw [if_neg (fun hh => e hh.1)] at hr
      exact h1.2 rows hr
  | ptr i row off =>
    refine ⟨h1.1, fun hr => h1.2 ?_⟩
    rw [look_upd] at hr
    by_cases e : i = id
    · subst e; rw [hid]; rfl
    · rw [if_neg (fun hh => e hh.1)] at hr; exact hr
  | _ => exact h1

section
variable {w0 : World} {wr : Wr} {A : Nat → Prop} {L : Lay} {F : FF} {s : S} {a : Act} {w : World}

theorem look_set_ne {id i : Nat} {o : Ob} (h : i ≠ id) : look (s.set id o).st i = look s.st i := by
  simp [S.set, look_upd, h]
theorem look_set_some {id : Nat} {o o' : Ob} (h : look s.st id = some o) (i : Nat) : (look (s.set id o').st i).isSome = (look s.st i).isSome := by
  by_cases e : i = id
  · subst e; simp [S.set, look_upd, h]
  · rw [look_set_ne e]

/-- A store into a live object. -/
theorem Rl.store (h : Rl w0 wr A L F s a w) {id b t p : Nat} {o o' : Ob} {vs : List Value} (hid : look s.st id = some o) (hL : L id = some (b, t)) (hk : o.like o')
    (hcs : ∀ j, j < vs.length → (w.cell? ⟨b, p + j, none⟩).isSome = true) (hb : o'.bd s.n)
    (ho : (∀ x : MC, ∀ u, RC (look s.st) L w F x u → RC (look (s.set id o').st) L (w.setCells b p vs) F x u) → ObOK (look (s.set id o').st) L (w.setCells b p vs) F id o') :
    Rl w0 wr A L F (s.set id o') a (w.setCells b p vs) := by
  have hlive := h.own id b t (by simp [hid]) hL
  have hold : ∀ k, k ≠ b → (w.setCells b p vs).heap[k]? = w.heap[k]? := fun k hk => heap_setCells b vs p w k hk
  have hFb : ∀ k, F.all k → k ≠ b := fun k hk e => hlive.1 (e ▸ hk)
  have hi : ∀ x : MC, ∀ u, RC (look s.st) L w F x u → RC (look (s.set id o').st) L (w.setCells b p vs) F x u := fun x u hr =>
    RC.set hid hk (fun k hk => hold k (hFb k hk)) (fun i k t' j _ _ hj => some_setCells b vs p w hcs _ hj) hr
  obtain ⟨e1, e2, e3⟩ := os_setCells b vs p w
  refine ⟨e1.trans h.os, e2.trans h.tape, e3.trans h.output, ?_, ?_, fun k j hk hc => some_setCells b vs p w hcs _ (h.kc k j hk hc), h.pin, h.fa, h.fn, ?_, ?_, ?_, ?_, h.sz, ?_, ?_, h.ben, h.df⟩
  · rw [size_setCells]; exact h.size
  · intro k hk hn
    rw [hold k (fun e => ?_)]
    · exact h.keep k hk hn
    · subst e
      rcases hlive.2.2 with h1 | h1
      · omega
      · exact hn h1
  · intro k hk; rw [size_setCells]; exact h.fsz k hk
  · intro i x hx
    by_cases e : i = id
    · subst e
      have : x = o' := by simpa [S.set, look_upd, hid] using hx.symm
      subst this
      exact ho hi
    · rw [look_set_ne e] at hx
      exact (h.ob i x hx).imp (h.bst i x hx).2 rfl (fun k t' hk => hold k (fun ek => e (h.inj i id k t' t (by simp [hx]) (by simp [hid]) hk (ek ▸ hL)))) (fun x _ u hr => hi x u hr)
  · intro i k t' h1 h2
    rw [look_set_some hid] at h1
    rw [size_setCells]
    exact h.own i k t' h1 h2
  · intro i j k t1 t2 h1 h2 h3 h4
    rw [look_set_some hid] at h1 h2
    exact h.inj i j k t1 t2 h1 h2 h3 h4
  · intro t' v hv
    exact (h.env t' v hv).imp (h.ben t' v hv) (fun x _ u hr => hi x u hr)
  · intro i x hx
    by_cases e : i = id
    · subst e
      have : x = o' := by simpa [S.set, look_upd, hid] using hx.symm
      subst this
      exact ⟨(h.bst i o hid).1, hb⟩
    · rw [look_set_ne e] at hx
      exact h.bst i x hx

/-- Less is known. -/
structure Sub (s' s : S) : Prop where
  m : s'.m = s.m
  env : ∀ t v, look s'.env t = some v → look s.env t = some v ∧ v.bd s'.n
  st : ∀ id o, look s'.st id = some o → look s.st id = some o ∧ id < s'.n ∧ o.bd s'.n

theorem Rl.weaken (h : Rl w0 wr A L F s a w) {s' : S} (hs : Sub s' s) (hn : ∀ i, i < wr.k → i < s'.n) : Rl w0 wr A L F s' a w := by
  have hst : ∀ id, look s'.st id = look s.st id ∨ look s'.st id = none ∨ (look s.st id = none ∧ False) := fun id => by
    cases he : look s'.st id with
    | none => exact .inr (.inl rfl)
    | some o => exact .inl (hs.st id o he).1.symm
  have hsome : ∀ id, (look s'.st id).isSome = true → (look s.st id).isSome = true := fun id hid => by
    obtain ⟨o, ho⟩ := Option.isSome_iff_exists.1 hid
    rw [(hs.st id o ho).1]; rfl
  have hi : ∀ x : MC, ∀ u, RC (look s.st) L w F x u → RC (look s'.st) L w F x u := fun x u hr =>
    RC.mono (fun _ _ => rfl) .rfl hst (fun _ _ => rfl) (fun _ _ _ _ _ _ h => h) hr
  refine ⟨h.os, h.tape, h.output, h.size, h.keep, h.kc, fun i hi => ⟨(h.pin i hi).1, hn i hi⟩, h.fa, h.fn, h.fsz, ?_, ?_, ?_, h.sz.trans hs.m.symm, ?_, ?_, ?_, h.df⟩
  · intro id o ho
    exact (h.ob id o (hs.st id o ho).1).imp (hs.st id o ho).2.2 rfl (fun _ _ _ => rfl) (fun x _ u hr => hi x u hr)
  · exact fun id b t h1 h2 => h.own id b t (hsome id h1) h2
  · exact fun i j b t u h1 h2 h3 h4 => h.inj i j b t u (hsome i h1) (hsome j h2) h3 h4
  · exact fun t v hv => (h.env t v (hs.env t v hv).1).imp (hs.env t v hv).2 (fun x _ u hr => hi x u hr)
  · exact fun id o ho => (hs.st id o ho).2
  · exact fun t v hv => (hs.env t v hv).2

/-- More is frozen than before: a live object that nobody writes any more. -/
theorem Rl.freeze (h : Rl w0 wr A L F s a w) {id b t : Nat} {o : Ob} (hid : look s.st id = some o) (hL : L id = some (b, t)) :
    Rl w0 wr A L ⟨fun k => F.n k ∨ k = b, F.a⟩ { s with st := del s.st id } a w := by
  have hst : ∀ i, look (del s.st id) i = look s.st i ∨ look (del s.st id) i = none ∨ (look s.st i = none ∧ False) := fun i => by
    rw [look_del]
    by_cases e : i = id
    · rw [if_pos e]; exact .inr (.inl rfl)
    · rw [if_neg e]; exact .inl rfl
  have hsome : ∀ i, (look (del s.st id) i).isSome = true → i ≠ id ∧ (look s.st i).isSome = true := fun i hi => by
    rw [look_del] at hi
    by_cases e : i = id
    · rw [if_pos e] at hi; cases hi
    · rw [if_neg e] at hi; exact ⟨e, hi⟩
  have hi : ∀ x : MC, ∀ u, RC (look s.st) L w F x u → RC (look (del s.st id)) L w ⟨fun k => F.n k ∨ k = b, F.a⟩ x u := fun x u hr =>
    RC.mono (F' := ⟨fun k => F.n k ∨ k = b, F.a⟩) (fun _ _ => rfl) ⟨fun _ h => Or.inl h, fun _ h => h, fun _ h => h⟩ hst (fun _ _ => rfl) (fun _ _ _ _ _ _ h => h) hr
  have hlive := h.own id b t (by simp [hid]) hL
  refine ⟨h.os, h.tape, h.output, h.size, h.keep, h.kc, h.pin, h.fa, ?_, ?_, ?_, ?_, ?_, h.sz, ?_, ?_, h.ben, h.df⟩
  · rintro k (hk | rfl)
    · exact h.fn k hk
    · exact hlive.2.2.imp (fun h => h) Or.inl
  · rintro k ((hk | rfl) | hk)
    · exact h.fsz k (.inl hk)
    · exact hlive.2.1
    · exact h.fsz k (.inr hk)
  · intro i x hx
    have hx' : look s.st i = some x := by
      have := (hsome i (by simp [hx])).1
      simpa [look_del, this] using hx
    exact (h.ob i x hx').imp (h.bst i x hx').2 rfl (fun _ _ _ => rfl) (fun x _ u hr => hi x u hr)
  · intro i k t' h1 h2
    obtain ⟨hne, h1⟩ := hsome i h1
    have := h.own i k t' h1 h2
    refine ⟨?_, this.2⟩
    rintro ((hf | rfl) | hf)
    · exact this.1 (.inl hf)
    rotate_left
    · exact this.1 (.inr hf)
    · exact hne (h.inj i id k t' t h1 (by simp [hid]) h2 hL)
  · exact fun i j k t1 t2 h1 h2 h3 h4 => h.inj i j k t1 t2 (hsome i h1).2 (hsome j h2).2 h3 h4
  · exact fun t' v hv => (h.env t' v hv).imp (h.ben t' v hv) (fun x _ u hr => hi x u hr)
  · intro i x hx
    have hx' : look s.st i = some x := by
      have := (hsome i (by simp [hx])).1
      simpa [look_del, this] using hx
    exact h.bst i x hx'

end
end Mg

/- The abstract state logic, part 4: operations that only compute and read. No condition. -/
namespace Mg
open Go Go.RowKit

inductive TK where
  | int (k : IntKind) | bool | str | slice (e : Nat) | arr (n e : Nat) | struct (fs : List (Nat × Nat)) | ptr | other
inductive ZC where
  | int (k : IntKind) | bool | str | nil | ptr
/-- A type: cells, bytes, kind, its zero's cells. -/
structure TI where
  size : Nat
  bytes : Nat
  k : TK
  z : List ZC
abbrev Tab := Nat → Option TI

def ZC.mc : ZC → MC
  | .int k => .sc (.int k 0)
  | .bool => .sc (.bool false)
  | .str => .sc (.string ⟨#[]⟩)
  | .nil => .nil
  | .ptr => .sc (.pointer none)
def ZC.ok : ZC → Value → Bool
  | .int k, .int k' n => k == k' && n == 0
  | .bool, .bool b => !b
  | .str, .string s => s.size == 0
  | .nil, .slice _ l c => l == 0 && c == 0
  | .ptr, .pointer none => true
  | _, _ => false
def zcells : List ZC → List Value → Bool
  | [], [] => true
  | z :: zs, v :: vs => z.ok v && zcells zs vs
  | _, _ => false
def TK.ok (P : Program) : TK → Option TypeDesc → Bool
  | .int k, some (.int k') => k == k'
  | .bool, some .bool => true
  | .str, some .string => true
  | .slice e, some (.slice e') => e == e'
  | .arr n e, some (.array n' e') => n == n' && e == e'
  | .struct l, some (.struct fs) => fs.toList.map (fun f => (f.offset, f.type)) == l && fs.toList.all (fun f => P.cellsOf f.type != 0)
  | .ptr, some (.pointer _) => true
  | .other, some _ => true
  | _, _ => false
def TI.ok (P : Program) (t : Nat) (i : TI) : Bool :=
  match P.info? t with
  | some f => f.size == i.size && f.bytes == i.bytes && i.k.ok P (P.underlying t) && i.z.length == i.size && (match f.zero with | some z => zcells i.z z.cells.toList | none => false)
  | none => false
def TOk (P : Program) (T : Tab) : Prop := ∀ t i, T t = some i → i.ok P t = true

theorem TOk.info {P : Program} {T : Tab} (h : TOk P T) {t : Nat} {i : TI} (ht : T t = some i) :
    ∃ f, P.info? t = some f ∧ f.size = i.size ∧ f.bytes = i.bytes ∧ i.k.ok P (P.underlying t) = true ∧ ∃ z, f.zero = some z ∧ zcells i.z z.cells.toList = true ∧ i.z.length = i.size := by
  have h := h t i ht
  unfold TI.ok at h
  split at h
  · rename_i f hf
    simp only [Bool.and_eq_true, beq_iff_eq] at h
    obtain ⟨⟨⟨⟨h1, h2⟩, h3⟩, h5⟩, h4⟩ := h
    refine ⟨f, hf, h1, h2, h3, ?_⟩
    split at h4
    · rename_i z hz; exact ⟨z, hz, h4, h5⟩
    · cases h4
  · cases h

theorem TOk.size {P : Program} {T : Tab} (h : TOk P T) {t : Nat} {i : TI} (ht : T t = some i) (w : World) : (Go.sizeOf t).run P w = Result.ok i.size w := by
  obtain ⟨f, hf, h1, _⟩ := h.info ht
  simp [Go.sizeOf, typeInfo, hf, h1]

theorem TOk.und_slice {P : Program} {T : Tab} (h : TOk P T) {t e : Nat} {i : TI} (ht : T t = some i) (hk : i.k = .slice e) : P.underlying t = some (.slice e) := by
  obtain ⟨f, _, _, _, h3, _⟩ := h.info ht
  rw [hk] at h3
  cases hu : P.underlying t with
  | none => rw [hu] at h3; cases h3
  | some d => rw [hu] at h3; cases d <;> simp [TK.ok] at h3; subst h3; rfl
theorem TOk.und_arr {P : Program} {T : Tab} (h : TOk P T) {t n e : Nat} {i : TI} (ht : T t = some i) (hk : i.k = .arr n e) : P.underlying t = some (.array n e) := by
  obtain ⟨f, _, _, _, h3, _⟩ := h.info ht
  rw [hk] at h3
  cases hu : P.underlying t with
  | none => rw [hu] at h3; cases h3
  | some d => rw [hu] at h3; cases d <;> simp [TK.ok] at h3; obtain ⟨rfl, rfl⟩ := h3; rfl
theorem TOk.und_int {P : Program} {T : Tab} (h : TOk P T) {t : Nat} {k : IntKind} {i : TI} (ht : T t = some i) (hk : i.k = .int k) : P.underlying t = some (.int k) := by
  obtain ⟨f, _, _, _, h3, _⟩ := h.info ht
  rw [hk] at h3
  cases hu : P.underlying t with
  | none => rw [hu] at h3; cases h3
  | some d => rw [hu] at h3; cases d <;> simp [TK.ok] at h3; subst h3; rfl
theorem TOk.und_bool {P : Program} {T : Tab} (h : TOk P T) {t : Nat} {i : TI} (ht : T t = some i) (hk : i.k = .bool) : P.underlying t = some .bool := by
  obtain ⟨f, _, _, _, h3, _⟩ := h.info ht
  rw [hk] at h3
  cases hu : P.underlying t with
  | none => rw [hu] at h3; cases h3
  | some d => rw [hu] at h3; cases d <;> simp [TK.ok] at h3; rfl
theorem TOk.und_str {P : Program} {T : Tab} (h : TOk P T) {t : Nat} {i : TI} (ht : T t = some i) (hk : i.k = .str) : P.underlying t = some .string := by
  obtain ⟨f, _, _, _, h3, _⟩ := h.info ht
  rw [hk] at h3
  cases hu : P.underlying t with
  | none => rw [hu] at h3; cases h3
  | some d => rw [hu] at h3; cases d <;> simp [TK.ok] at h3; rfl
theorem TOk.und_struct {P : Program} {T : Tab} (h : TOk P T) {t : Nat} {l : List (Nat × Nat)} {i : TI} (ht : T t = some i) (hk : i.k = .struct l) :
    ∃ fs, P.underlying t = some (.struct fs) ∧ fs.toList.map (fun f => (f.offset, f.type)) = l ∧ ∀ f ∈ fs.toList, P.cellsOf f.type ≠ 0 := by
  obtain ⟨f, _, _, _, h3, _⟩ := h.info ht
  rw [hk] at h3
  cases hu : P.underlying t with
  | none => rw [hu] at h3; cases h3
  | some d =>
    rw [hu] at h3
    cases d <;> simp only [TK.ok] at h3
    all_goals first
      | (cases h3; done)
      | (rename_i fs
         simp only [Bool.and_eq_true, beq_iff_eq, List.all_eq_true, bne_iff_ne, ne_eq] at h3
         exact ⟨fs, rfl, h3.1, h3.2⟩)

def TK.agg : TK → Bool
  | .arr _ _ | .struct _ => true
  | .other => true
  | _ => false

theorem TOk.isAgg {P : Program} {T : Tab} (h : TOk P T) {t : Nat} {i : TI} (ht : T t = some i) (hk : i.k.agg = false) (w : World) : (isAgg t).run P w = .ok false w := by
  obtain ⟨f, _, _, _, h3, _⟩ := h.info ht
  unfold Go.isAgg
  cases hu : P.underlying t with
  | none => rw [hu] at h3; cases hk' : i.k <;> rw [hk'] at h3 <;> cases h3
  | some d =>
    rw [hu] at h3
    simp only [Sem.run_bind, run_underlying hu w, Result.andThen_ok]
    cases hk' : i.k <;> rw [hk'] at h3 hk <;> simp [TK.agg] at hk <;> cases d <;> simp [TK.ok] at h3 <;> rfl

theorem TOk.isRow {P : Program} {T : Tab} (h : TOk P T) {t : Nat} {i : TI} (ht : T t = some i) (hk : (match i.k with | .arr _ _ | .struct _ => true | _ => false) = true) :
    ∃ d, P.underlying t = some d ∧ d.isRow = true := by
  obtain ⟨f, _, _, _, h3, _⟩ := h.info ht
  cases hu : P.underlying t with
  | none => rw [hu] at h3; cases hk' : i.k <;> rw [hk'] at h3 <;> cases h3
  | some d =>
    rw [hu] at h3
    refine ⟨d, rfl, ?_⟩
    cases hk' : i.k <;> rw [hk'] at h3 hk <;> simp at hk <;> cases d <;> simp [TK.ok] at h3 <;> rfl

/-- A constant. -/
def cmv : Value → Option MV
  | .int k n => some (.one (.sc (.int k n)))
  | .bool b => some (.one (.sc (.bool b)))
  | .string s => some (.one (.sc (.string s)))
  | .slice none 0 0 => some (.one .nil)
  | .pointer none => some (.one .dead)
  | _ => none
def evO (s : S) : Operand → Option MV
  | .tmp t => look s.env t
  | .const v => cmv v
  | .func f => some (.one (.sc (.func (.func f) #[] #[])))
  | .global _ => none

section
variable {w0 : World} {wr : Wr} {A : Nat → Prop} {L : Lay} {F : FF} {s : S} {a : Act} {w : World}

theorem evO_ok (h : Rl w0 wr A L F s a w) {x : Operand} {v : MV} (hv : evO s x = some v) : RV (look s.st) L w F v (a.eval x) ∧ v.bd s.n := by
  cases x with
  | tmp t => exact ⟨h.env t v hv, h.ben t v hv⟩
  | const c =>
    have hv : cmv c = some v := hv
    show RV (look s.st) L w F v c ∧ v.bd s.n
    unfold cmv at hv
    split at hv
    · obtain rfl := Option.some.inj hv; exact ⟨⟨rfl, rfl⟩, trivial⟩
    · obtain rfl := Option.some.inj hv; exact ⟨⟨rfl, rfl⟩, trivial⟩
    · obtain rfl := Option.some.inj hv; exact ⟨⟨rfl, rfl⟩, trivial⟩
    · obtain rfl := Option.some.inj hv; exact ⟨⟨none, rfl⟩, trivial⟩
    · obtain rfl := Option.some.inj hv; exact ⟨rfl, trivial⟩
    · cases hv
  | global g => cases hv
  | func f =>
    obtain rfl := Option.some.inj hv
    exact ⟨⟨rfl, rfl⟩, trivial⟩
end

/-- The library's table of powers of ten, where the program has it: it is there, in a block that is not written. -/
def tabN : String := "internal/strconv.uint64pow10"
structure GT (P : Program) (w : World) (wr : Nat → Prop) : Prop where
  tab : (P.globalNamed tabN).isSome = true → Lib.TabIs P w tabN .u64 Lib.pow10Tab
  blk : ∀ g, P.globalNamed tabN = some g → g < w.heap.size ∧ ¬ wr g
theorem GT.move {P : Program} {w w' : World} {wr wr' : Nat → Prop} (h : GT P w wr) (hs : w.heap.size ≤ w'.heap.size) (hw : ∀ g, g < w.heap.size → ¬ wr g → w'.heap[g]? = w.heap[g]? ∧ ¬ wr' g) : GT P w' wr' := by
  refine ⟨fun hg => ?_, fun g hg => ?_⟩
  · have h1 := h.tab hg
    obtain ⟨g, hgg⟩ := Option.isSome_iff_exists.1 hg
    have h2 := h.blk g hgg
    unfold Lib.TabIs World.var? at h1 ⊢
    rw [hgg] at h1 ⊢
    simp only [Option.bind_some] at h1 ⊢
    rw [(hw g h2.1 h2.2).1]; exact h1
  · have h2 := h.blk g hg
    exact ⟨Nat.lt_of_lt_of_le h2.1 hs, (hw g h2.1 h2.2).2⟩
theorem GT.none {P : Program} {w : World} {wr : Nat → Prop} (h : P.globalNamed tabN = none) : GT P w wr :=
  ⟨fun hg => (by rw [h] at hg; cases hg), fun g hg => (by rw [h] at hg; cases hg)⟩

structure GE (P : Program) (w : World) (wr : Wr) (A : Nat → Prop) : Prop where
  gt : GT P w wr.m
  oa : ∀ b, wr.o b → A b

/-- What an operation does from a state: whatever holds behind it. -/
def OpOK (P : Program) (o : Oper) (s : S) (K : S → Prop) : Prop :=
  ∀ (w0 : World) (wr : Wr) (A : Nat → Prop) (a : Act) (w : World) (Q : Exit → Act → World → Prop) (K' : Act → World → Prop), GE P w0 wr A → Rel w0 wr A s a w →
    (∀ s' a' w', Rel w0 wr A s' a' w' → K s' → K' a' w') → o.wp P a w K' Q

/-- An operation that yields a value and leaves the world's heap alone. -/
theorem OpOK.val {P : Program} {o : Oper} {s : S} {K : S → Prop} {v : MV} (hd : ∀ x, o.dst = some x → x < s.m)
    (h : ∀ w0 wr A L F a w, Rl w0 wr A L F s a w → ∃ u, (execOp a.eval o).run P w = .ok (.value u) w ∧ RV (look s.st) L w F v u ∧ v.bd s.n) (hk : K (s.put o.dst v)) : OpOK P o s K := by
  intro w0 wr A a w Q K' hg ⟨L, F, hr⟩ hK
  obtain ⟨u, he, hu, hb⟩ := h _ _ _ _ _ _ _ hr
  unfold Oper.wp
  rw [he]
  exact hK _ _ _ ⟨L, F, hr.put hd hu hb⟩ hk

def Oper.dok (o : Oper) (m : Nat) : Bool := match o.dst with | some d => decide (d < m) | none => true
theorem Oper.dok_spec {o : Oper} {m : Nat} (h : Oper.dok o m = true) : ∀ x, o.dst = some x → x < m := by
  intro x hx
  simp only [Oper.dok, hx, decide_eq_true_eq] at h
  exact h

end Mg
