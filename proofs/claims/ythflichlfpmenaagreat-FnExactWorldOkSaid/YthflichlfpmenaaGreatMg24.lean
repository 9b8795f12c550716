/- The abstract state logic, part 24: contracts that are handed objects (the callee writes into them) and results of many kinds. No condition. -/
import Derived.Test.YthflichlfpmenaaGreatMg13
namespace Mg
open Go Go.RowKit
set_option linter.unusedVariables false

variable {P : Program} {T : Tab}

def nth (os : List Ob) : Sto := fun i => os[i]?

/-- Objects in a world, under the names 0, 1, .. -/
structure ObsOK (w : World) (F : FF) (L : Lay) (os : List Ob) : Prop where
  ob : ∀ i o, os[i]? = some o → ObOK (nth os) L w F i o
  inj : ∀ i j b t u, i < os.length → j < os.length → L i = some (b, t) → L j = some (b, u) → i = j
  nf : ∀ i b t, i < os.length → L i = some (b, t) → ¬ F.all b ∧ b < w.heap.size
  bd : ∀ o ∈ os, o.bd os.length

structure ConPost (w : World) (A : Nat → Prop) (L : Lay) (m k : Nat) (r : MV) (os' : List Ob) (v : Value) (w' : World) (L' : Lay) (F : Nat → Prop) : Prop where
  os : w'.os = w.os
  tape : w'.tape = w.tape
  output : w'.output = w.output
  size : w.heap.size ≤ w'.heap.size
  keep : ∀ b, b < w.heap.size → (∀ i t, i < m → L i ≠ some (b, t)) → w'.heap[b]? = w.heap[b]?
  kc : ∀ b j, b < w.heap.size → (w.cell? ⟨b, j, none⟩).isSome = true → (w'.cell? ⟨b, j, none⟩).isSome = true
  fr : ∀ b, F b → ¬ A b → (w.heap.size ≤ b ∧ b < w'.heap.size) ∨ ∃ j u, k ≤ j ∧ j < m ∧ L j = some (b, u)
  len : k ≤ os'.length
  lay : ∀ i, i < k → L' i = L i
  new : ∀ i b t, k ≤ i → i < os'.length → L' i = some (b, t) → w.heap.size ≤ b ∨ ∃ j u, k ≤ j ∧ j < m ∧ L j = some (b, u)
  obs : ObsOK w' ⟨F, A⟩ L' os'
  rv : RV (nth os') L' w' ⟨F, A⟩ r v
  bd : r.bd os'.length

/-- A CONTRACT with objects: called with args (.ptr and .ref speak of the objects os), it returns for some d what reads as r d; the first k objects, and new ones behind them, then read as os' d; the other objects are used up. -/
def Con (P : Program) (f : Nat) (args : List MV) (os : List Ob) (k : Nat) {D : Type} (p : D → Prop) (r : D → MV) (os' : D → List Ob) : Prop := Fun P f ∧
  ∀ (w : World) (A : Nat → Prop) (L : Lay) (vals : Array Value), vals.size = args.length → (∀ b, A b → b < w.heap.size) → ObsOK w ⟨A, A⟩ L os →
    (∀ (j : Nat) (x : MV), args[j]? = some x → ∃ v : Value, vals[j]? = some v ∧ RV (nth os) L w ⟨A, A⟩ x v ∧ x.bd os.length) →
    Calls P f vals w fun e w' => ∃ (d : D) (v : Value) (L' : Lay) (F : Nat → Prop), e = .returned v ∧ p d ∧ ConPost w A L os.length k (r d) (os' d) v w' L' F

/- ------------------------------------------------ what comes back -/
def gam (n : Nat) (β : List Nat) (i : Nat) : Nat := match β[i]? with
  | some id => id
  | none => n + (i - β.length)
def backC (md : Bool) (n : Nat) (β : List Nat) : MC → MC
  | .ref i off len => .ref (gam n β i) off len
  | .ptr i row off => .ptr (gam n β i) row off
  | .fz rows => match md with
    | true => .ag rows
    | false => .fz rows
  | .fptr c => match md with
    | true => .aptr c
    | false => .fptr c
  | .ag rows => .dead
  | .aptr c => .dead
  | c => c
def backV1 (md : Bool) (n : Nat) (β : List Nat) : MV → MV
  | .one c => .one (backC md n β c)
  | .agg cs => .agg (cs.map (backC md n β))
  | v => v
def backV (md : Bool) (n : Nat) (β : List Nat) : MV → MV
  | .tup vs => .tup (vs.map (backV1 md n β))
  | v => backV1 md n β v
def backO (md : Bool) (n : Nat) (β : List Nat) : Ob → Ob
  | .box cs => .box (cs.map (backC md n β))
  | .arr rows => .arr rows
/-- An array's cells stay as they are. -/
def fixO (md : Bool) (n : Nat) (β : List Nat) : Ob → Prop
  | .box _ => True
  | .arr rows => ∀ r ∈ rows, ∀ c ∈ r, backC md n β c = c

def newO (md : Bool) (n : Nat) (β : List Nat) : Nat → List Ob → List (Nat × Ob)
  | _, [] => []
  | j, o :: os => (n + j, backO md n β o) :: newO md n β (j + 1) os
def updO (md : Bool) (n : Nat) (β0 : List Nat) : List (Nat × Ob) → List Nat → List Ob → List (Nat × Ob)
  | st, id :: β, o :: os => updO md n β0 (upd st id (backO md n β0 o)) β os
  | st, _, _ => st
def conS (md : Bool) (s : S) (β : List Nat) (os' : List Ob) : S :=
  ⟨s.m, s.n + (os'.length - β.length), s.env, newO md s.n β 0 (os'.drop β.length) ++ updO md s.n β s.st β os'⟩

theorem look_app {α : Type} : ∀ (l1 l2 : List (Nat × α)) (j : Nat), look (l1 ++ l2) j = match look l1 j with
    | some x => some x
    | none => look l2 j
  | [], l2, j => rfl
  | (k, v) :: l1, l2, j => by
    rw [List.cons_append, look_cons, look_cons, look_app l1 l2 j]
    split <;> rfl
theorem look_newO {md : Bool} {n : Nat} {β : List Nat} : ∀ (os : List Ob) (k j : Nat), look (newO md n β k os) j = if n + k ≤ j then (os[j - (n + k)]?).map (backO md n β) else none
  | [], k, j => by simp [newO]
  | o :: os, k, j => by
    rw [newO, look_cons, look_newO os (k + 1) j]
    by_cases e : j = n + k
    · subst e; simp
    · by_cases h : n + k ≤ j
      · rw [if_neg e, if_pos (by omega), if_pos h, show j - (n + k) = (j - (n + (k + 1))) + 1 by omega, List.getElem?_cons_succ]
      · rw [if_neg e, if_neg (by omega), if_neg h]
theorem look_updO {md : Bool} {n : Nat} {β0 : List Nat} : ∀ (β : List Nat) (os : List Ob) (st : List (Nat × Ob)), β.Nodup → β.length ≤ os.length → (∀ id ∈ β, (look st id).isSome = true) →
    (∀ (i : Nat) (id : Nat), β[i]? = some id → look (updO md n β0 st β os) id = (os[i]?).map (backO md n β0)) ∧ (∀ id, id ∉ β → look (updO md n β0 st β os) id = look st id)
  | [], os, st, _, _, _ => ⟨fun i id h => by simp at h, fun id _ => by cases os <;> rfl⟩
  | b :: β, [], st, _, hl, _ => by simp at hl
  | b :: β, o :: os, st, hn, hl, hs => by
    obtain ⟨hb, hn⟩ := List.nodup_cons.1 hn
    have hsome : ∀ id, (look (upd st b (backO md n β0 o)) id).isSome = (look st id).isSome := fun id => by
      rw [look_upd]
      split
      · rename_i h; rw [h.1]; simp [h.2]
      · rfl
    obtain ⟨h1, h2⟩ := look_updO β os (upd st b (backO md n β0 o)) hn (by simpa using hl) (fun id hid => by rw [hsome]; exact hs id (List.mem_cons_of_mem _ hid))
    refine ⟨fun i id hi => ?_, fun id hid => ?_⟩
    · cases i with
      | zero =>
        obtain rfl : b = id := by simpa using hi
        show look (updO md n β0 _ β os) b = _
        rw [h2 b hb, look_upd, if_pos ⟨rfl, hs b (by simp)⟩]; rfl
      | succ i => exact h1 i id (by simpa using hi)
    · show look (updO md n β0 _ β os) id = _
      have : id ≠ b := fun e => hid (by simp [e])
      rw [h2 id (fun h => hid (List.mem_cons_of_mem _ h)), look_upd, if_neg (fun h => this h.1)]

/-- What a caller's state is behind a call that was handed objects. -/
structure ConLook (md : Bool) (s : S) (β : List Nat) (os' : List Ob) : Prop where
  at_ : ∀ i, i < os'.length → look (conS md s β os').st (gam s.n β i) = (os'[i]?).map (backO md s.n β)
  inv : ∀ id o, look (conS md s β os').st id = some o → (∃ i, i < os'.length ∧ id = gam s.n β i) ∨ (id ∉ β ∧ look s.st id = some o)
  old : ∀ id, id ∉ β → id < s.n → look (conS md s β os').st id = look s.st id

theorem gam_lt {n : Nat} {β : List Nat} {i : Nat} (h : i < β.length) : ∃ id, β[i]? = some id ∧ gam n β i = id := by
  obtain ⟨id, hid⟩ : ∃ id, β[i]? = some id := ⟨β[i], List.getElem?_eq_getElem h⟩
  exact ⟨id, hid, by simp [gam, hid]⟩
theorem gam_ge {n : Nat} {β : List Nat} {i : Nat} (h : β.length ≤ i) : gam n β i = n + (i - β.length) := by
  simp [gam, List.getElem?_eq_none h]

theorem conLook {md : Bool} {s : S} {β : List Nat} {os' : List Ob} (hn : β.Nodup) (hl : β.length ≤ os'.length) (hs : ∀ id ∈ β, (look s.st id).isSome = true) (hlt : ∀ id o, look s.st id = some o → id < s.n) : ConLook md s β os' := by
  have hβ : ∀ id ∈ β, id < s.n := fun id hid => by
    obtain ⟨o, ho⟩ := Option.isSome_iff_exists.1 (hs id hid); exact hlt id o ho
  obtain ⟨h1, h2⟩ := look_updO (md := md) (n := s.n) (β0 := β) β os' s.st hn hl hs
  have hlow : ∀ id, id < s.n → look (conS md s β os').st id = look (updO md s.n β s.st β os') id := fun id hid => by
    show look (_ ++ _) id = _
    rw [look_app, look_newO, if_neg (by omega)]
  have hhigh : ∀ id, s.n ≤ id → look (conS md s β os').st id = (os'[β.length + (id - s.n)]?).map (backO md s.n β) := fun id hid => by
    show look (_ ++ _) id = _
    rw [look_app, look_newO, if_pos (by omega), List.getElem?_drop, show id - (s.n + 0) = id - s.n by omega]
    cases e : os'[β.length + (id - s.n)]? with
    | some o => rfl
    | none =>
      show look (updO md s.n β s.st β os') id = none
      rw [h2 id (fun h => by have := hβ id h; omega)]
      cases e2 : look s.st id with
      | none => rfl
      | some o => have := hlt id o e2; omega
  refine ⟨fun i hi => ?_, fun id o ho => ?_, fun id hid hlt' => by rw [hlow id hlt', h2 id hid]⟩
  · by_cases hk : i < β.length
    · obtain ⟨id, hid, hg⟩ := gam_lt (n := s.n) hk
      rw [hg, hlow id (hβ id (List.mem_of_getElem? hid)), h1 i id hid]
    · rw [gam_ge (by omega), hhigh _ (by omega)]
      congr 2; omega
  · by_cases hge : s.n ≤ id
    · rw [hhigh id hge] at ho
      obtain ⟨x, hx, _⟩ := Option.map_eq_some_iff.1 ho
      have hlt' := (List.getElem?_eq_some_iff.1 hx).1
      exact .inl ⟨β.length + (id - s.n), hlt', by rw [gam_ge (by omega)]; omega⟩
    · by_cases hm : id ∈ β
      · obtain ⟨i, hi⟩ := List.getElem?_of_mem hm
        have hil := (List.getElem?_eq_some_iff.1 hi).1
        exact .inl ⟨i, by omega, by obtain ⟨id', h3, h4⟩ := gam_lt (n := s.n) hil; rw [h4]; rw [hi] at h3; exact Option.some.inj h3⟩
      · rw [hlow id (by omega), h2 id hm] at ho
        exact .inr ⟨hm, ho⟩

theorem gam_inj {n : Nat} {β : List Nat} (hn : β.Nodup) (hβ : ∀ id ∈ β, id < n) {i j : Nat} (h : gam n β i = gam n β j) : i = j := by
  by_cases hi : i < β.length <;> by_cases hj : j < β.length
  · obtain ⟨x, hx, gx⟩ := gam_lt (n := n) hi
    obtain ⟨y, hy, gy⟩ := gam_lt (n := n) hj
    rw [gx, gy] at h
    subst h
    have h1 := (List.getElem?_eq_some_iff.1 hx).2
    have h2 := (List.getElem?_eq_some_iff.1 hy).2
    rcases Nat.lt_trichotomy i j with hij | hij | hij
    · exact absurd (h1.trans h2.symm) (List.pairwise_iff_getElem.1 hn i j hi hj hij)
    · exact hij
    · exact absurd (h2.trans h1.symm) (List.pairwise_iff_getElem.1 hn j i hj hi hij)
  · obtain ⟨x, hx, gx⟩ := gam_lt (n := n) hi
    rw [gx, gam_ge (by omega)] at h
    have := hβ x (List.mem_of_getElem? hx); omega
  · obtain ⟨y, hy, gy⟩ := gam_lt (n := n) hj
    rw [gy, gam_ge (by omega)] at h
    have := hβ y (List.mem_of_getElem? hy); omega
  · rw [gam_ge (by omega), gam_ge (by omega)] at h; omega

theorem gam_bd {n : Nat} {β : List Nat} (hβ : ∀ id ∈ β, id < n) {m i : Nat} (hl : β.length ≤ m) (hi : i < m) : gam n β i < n + (m - β.length) := by
  by_cases h : i < β.length
  · obtain ⟨x, hx, gx⟩ := gam_lt (n := n) h
    rw [gx]; have := hβ x (List.mem_of_getElem? hx); omega
  · rw [gam_ge (by omega)]; omega

section
variable {md : Bool} {s : S} {β : List Nat} {os' : List Ob} {L L' Ln : Lay} {w' : World} {F : FF} {F1 A : Nat → Prop}

theorem backO_arr {n : Nat} {o : Ob} {rows : List (List MC)} (h : backO md n β o = .arr rows) : o = .arr rows := by
  cases o with
  | box cs => cases h
  | arr r => exact h

/-- What is frozen behind a call: F1 is new, or the frozen blocks A that were handed over. -/
structure FrOK (md : Bool) (F : FF) (F1 A : Nat → Prop) : Prop where
  all : ∀ b, A b → F.all b
  fz : md = false → ∀ b, A b → F.n b
def newF (F : FF) (F1 A : Nat → Prop) : FF := ⟨fun b => F.n b ∨ (F1 b ∧ ¬ A b), F.a⟩
theorem FrOK.n {md : Bool} {F : FF} {F1 A : Nat → Prop} (h : FrOK md F F1 A) (hm : md = false) (b : Nat) (hb : F1 b) : (newF F F1 A).n b := by
  by_cases h1 : A b
  · exact .inl (h.fz hm b h1)
  · exact .inr ⟨hb, h1⟩
theorem FrOK.al {md : Bool} {F : FF} {F1 A : Nat → Prop} (h : FrOK md F F1 A) (b : Nat) (hb : F1 b) : (newF F F1 A).all b := by
  by_cases h1 : A b
  · exact (h.all b h1).imp Or.inl fun h => h
  · exact .inl (.inr ⟨hb, h1⟩)
theorem newF_le {F : FF} {F1 A : Nat → Prop} : F.le (newF F F1 A) := ⟨fun _ h => Or.inl h, fun _ h => h⟩

theorem RC.back (hlk : ConLook md s β os') (hL : ∀ i, i < os'.length → Ln (gam s.n β i) = L' i) (hA : FrOK md F F1 A) {c : MC} {v : Value} (hb : c.bd os'.length) (h : RC (nth os') L' w' ⟨F1, A⟩ c v) :
    RC (look (conS md s β os').st) Ln w' (newF F F1 A) (backC md s.n β c) v := by
  have hone := h.one
  cases c with
  | dead => exact h
  | sc u => exact h
  | nil => exact h
  | own => exact h.elim
  | fz rows =>
    cases md
    · exact RF.mono (fun _ _ => rfl) (hA.n rfl) h
    · exact RF.mono (fun _ _ => rfl) hA.al h
  | fptr cells =>
    obtain ⟨b, o, h1, h2, h3⟩ := h
    cases md
    · exact ⟨b, o, hA.n rfl b h1, h2, fun j c hj => by obtain ⟨u, h4, h5⟩ := h3 j c hj; exact ⟨u, h4, h5.mono (fun _ _ => rfl) (hA.n rfl)⟩⟩
    · exact ⟨b, o, hA.al b h1, h2, fun j c hj => by obtain ⟨u, h4, h5⟩ := h3 j c hj; exact ⟨u, h4, h5.mono (fun _ _ => rfl) hA.al⟩⟩
  | aptr cells => exact hone
  | ag rows => exact hone
  | ref i off len =>
    have hi : i < os'.length := hb
    refine ⟨h.1, fun rows hr => ?_⟩
    rw [hlk.at_ i hi] at hr
    obtain ⟨o, ho, he⟩ := Option.map_eq_some_iff.1 hr
    obtain rfl := backO_arr he
    obtain ⟨a, cap, h1, h2, h3⟩ := h.2 rows ho
    refine ⟨a, cap, h1, h2, h3.imp (fun ⟨b, t, h4, h5⟩ => ⟨b, t, by rw [hL i hi]; exact h4, h5⟩) id⟩
  | ptr i row off =>
    have hi : i < os'.length := hb
    refine ⟨h.1, fun hr => ?_⟩
    obtain ⟨b, t, h1, h2⟩ := h.2 (by show (os'[i]?).isSome = true; rw [List.getElem?_eq_getElem hi]; rfl)
    exact ⟨b, t, by rw [hL i hi]; exact h1, h2⟩

theorem backC_bd (hβ : ∀ id ∈ β, id < s.n) (hl : β.length ≤ os'.length) {c : MC} (hb : c.bd os'.length) : (backC md s.n β c).bd (s.n + (os'.length - β.length)) := by
  cases c with
  | ref i off len => exact gam_bd hβ hl hb
  | ptr i off len => exact gam_bd hβ hl hb
  | fz rows => cases md <;> trivial
  | fptr rows => cases md <;> trivial
  | _ => trivial

theorem RV1.back (hlk : ConLook md s β os') (hL : ∀ i, i < os'.length → Ln (gam s.n β i) = L' i) (hA : FrOK md F F1 A) {x : MV} {v : Value} (hb : x.bd1 os'.length) (h : RV1 (nth os') L' w' ⟨F1, A⟩ x v) :
    RV1 (look (conS md s β os').st) Ln w' (newF F F1 A) (backV1 md s.n β x) v := by
  cases x with
  | un => trivial
  | one c => exact RC.back hlk hL hA hb h
  | agg cs =>
    obtain ⟨arr, rfl, h1, h2⟩ := h
    refine ⟨arr, rfl, by simpa using h1, fun j c hj => ?_⟩
    rw [List.getElem?_map] at hj
    obtain ⟨d, hd, rfl⟩ := Option.map_eq_some_iff.1 hj
    obtain ⟨u, hu, hr⟩ := h2 j d hd
    exact ⟨u, hu, RC.back hlk hL hA (hb d (List.mem_of_getElem? hd)) hr⟩
  | tup vs => exact h.elim

theorem RV.back (hlk : ConLook md s β os') (hL : ∀ i, i < os'.length → Ln (gam s.n β i) = L' i) (hA : FrOK md F F1 A) {x : MV} {v : Value} (hb : x.bd os'.length) (h : RV (nth os') L' w' ⟨F1, A⟩ x v) :
    RV (look (conS md s β os').st) Ln w' (newF F F1 A) (backV md s.n β x) v := by
  cases x with
  | un => trivial
  | one c => exact RV1.back (x := .one c) hlk hL hA hb h
  | agg cs => exact RV1.back (x := .agg cs) hlk hL hA hb h
  | tup vs =>
    obtain ⟨arr, rfl, h1, h2⟩ := h
    refine ⟨arr, rfl, by simpa using h1, fun j c hj => ?_⟩
    rw [List.getElem?_map] at hj
    obtain ⟨d, hd, rfl⟩ := Option.map_eq_some_iff.1 hj
    obtain ⟨u, hu, hr⟩ := h2 j d hd
    exact ⟨u, hu, RV1.back hlk hL hA (hb d (List.mem_of_getElem? hd)) hr⟩

theorem backV1_bd (hβ : ∀ id ∈ β, id < s.n) (hl : β.length ≤ os'.length) {x : MV} (hb : x.bd1 os'.length) : (backV1 md s.n β x).bd1 (s.n + (os'.length - β.length)) := by
  cases x with
  | one c => exact backC_bd hβ hl hb
  | agg cs =>
    intro c hc
    obtain ⟨d, hd, rfl⟩ := List.mem_map.1 hc
    exact backC_bd hβ hl (hb d hd)
  | _ => trivial
theorem backV_bd (hβ : ∀ id ∈ β, id < s.n) (hl : β.length ≤ os'.length) {x : MV} (hb : x.bd os'.length) : (backV md s.n β x).bd (s.n + (os'.length - β.length)) := by
  cases x with
  | one c => exact backV1_bd (x := .one c) hβ hl hb
  | agg cs => exact backV1_bd (x := .agg cs) hβ hl hb
  | un => trivial
  | tup vs =>
    intro c hc
    obtain ⟨d, hd, rfl⟩ := List.mem_map.1 hc
    exact backV1_bd hβ hl (hb d hd)

theorem ObOK.back (hlk : ConLook md s β os') (hL : ∀ i, i < os'.length → Ln (gam s.n β i) = L' i) (hA : FrOK md F F1 A) {i : Nat} (hi : i < os'.length) {o : Ob} (hb : o.bd os'.length) (hf : fixO md s.n β o) (h : ObOK (nth os') L' w' ⟨F1, A⟩ i o) :
    ObOK (look (conS md s β os').st) Ln w' (newF F F1 A) (gam s.n β i) (backO md s.n β o) := by
  cases o with
  | box cs =>
    obtain ⟨b, t, h1, h2, h3⟩ := h
    refine ⟨b, t, by rw [hL i hi]; exact h1, h2, fun j c hj => ?_⟩
    rw [List.getElem?_map] at hj
    obtain ⟨d, hd, rfl⟩ := Option.map_eq_some_iff.1 hj
    obtain ⟨u, hu, hr⟩ := h3 j d hd
    exact ⟨u, hu, RC.back hlk hL hA (hb d (List.mem_of_getElem? hd)) hr⟩
  | arr rows =>
    rcases h with ⟨h1, h2⟩ | ⟨b, t, h1, h2, h3, h4⟩
    · exact .inl ⟨h1, by rw [hL i hi]; exact h2⟩
    · refine .inr ⟨b, t, by rw [hL i hi]; exact h1, h2, h3, fun k r hr j c hj => ?_⟩
      obtain ⟨u, hu, hrc⟩ := h4 k r hr j c hj
      have := RC.back (Ln := Ln) hlk hL hA (hb r (List.mem_of_getElem? hr) c (List.mem_of_getElem? hj)) hrc
      rw [hf r (List.mem_of_getElem? hr) c (List.mem_of_getElem? hj)] at this
      exact ⟨u, hu, this⟩

theorem backO_bd (hβ : ∀ id ∈ β, id < s.n) (hl : β.length ≤ os'.length) {o : Ob} (hb : o.bd os'.length) (hf : fixO md s.n β o) : (backO md s.n β o).bd (s.n + (os'.length - β.length)) := by
  cases o with
  | box cs =>
    intro c hc
    obtain ⟨d, hd, rfl⟩ := List.mem_map.1 hc
    exact backC_bd hβ hl (hb d hd)
  | arr rows =>
    intro r hr c hc
    have := backC_bd (md := md) hβ hl (hb r hr c hc)
    rwa [hf r hr c hc] at this
end

/-- THE STATE behind a call that was handed objects. -/
theorem con_core {w0 : World} {wr : Wr} {A0 : Nat → Prop} {L : Lay} {F : FF} {s : S} {a : Act} {w : World} (h : Rl w0 wr A0 L F s a w) {md : Bool} {β : List Nat} {os' : List Ob} {r : MV} {v : Value} {w' : World} {L0 L' : Lay} {F1 A : Nat → Prop} {m k : Nat}
    (hn : β.Nodup) (hk : β.length = k) (hL0 : ∀ (i id : Nat), β[i]? = some id → L0 i = L id) (hs : ∀ id ∈ β, (look s.st id).isSome = true) (hA : ∀ b, A b → F.all b) (hA1 : md = false → ∀ b, A b → F.n b) (post : ConPost w A L0 m k r os' v w' L' F1)
    (hcs : ∀ i t b, k ≤ i → i < m → L0 i = some (b, t) → ¬ F.all b ∧ b < w.heap.size ∧ (w0.heap.size ≤ b ∨ wr b) ∧ ∀ id t', (look s.st id).isSome = true → L id ≠ some (b, t'))
    (like : ∀ (i id : Nat) (o o' : Ob), β[i]? = some id → look s.st id = some o → os'[i]? = some o' → o.like o') (fix : ∀ o ∈ os', fixO md s.n β o) :
    ∃ (L2 : Lay) (F2 : FF), Rl w0 wr A0 L2 F2 (conS md s β os') a w' ∧ RV (look (conS md s β os').st) L2 w' F2 (backV md s.n β r) v ∧ (backV md s.n β r).bd (conS md s β os').n := by
  have hlt : ∀ id o, look s.st id = some o → id < s.n := fun id o ho => (h.bst id o ho).1
  have hβ : ∀ id ∈ β, id < s.n := fun id hid => by
    obtain ⟨o, ho⟩ := Option.isSome_iff_exists.1 (hs id hid); exact hlt id o ho
  have hl : β.length ≤ os'.length := hk ▸ post.len
  have hlk := conLook (md := md) hn hl hs hlt
  have hFr : FrOK md F F1 A := ⟨hA, hA1⟩
  let Ln : Lay := fun id => if id < s.n then L id else L' (k + (id - s.n))
  have hLlow : ∀ id, id < s.n → Ln id = L id := fun id hid => if_pos hid
  have hLn : ∀ i, i < os'.length → Ln (gam s.n β i) = L' i := fun i hi => by
    by_cases hik : i < β.length
    · obtain ⟨id, hid, hg⟩ := gam_lt (n := s.n) hik
      rw [hg, hLlow id (hβ id (List.mem_of_getElem? hid)), ← hL0 i id hid, post.lay i (by omega)]
    · rw [gam_ge (by omega)]
      show (if _ then _ else _) = _
      rw [if_neg (by omega)]; congr 1; omega
  have hblk : ∀ i t b, i < k → L0 i = some (b, t) → ∃ id, β[i]? = some id ∧ (look s.st id).isSome = true ∧ L id = some (b, t) := fun i t b hi hb => by
    obtain ⟨id, hid, _⟩ := gam_lt (n := s.n) (β := β) (i := i) (by omega)
    exact ⟨id, hid, hs id (List.mem_of_getElem? hid), by rw [← hL0 i id hid]; exact hb⟩
  have hw : ∀ b, F.all b → w'.heap[b]? = w.heap[b]? := fun b hb => post.keep b (h.fsz b hb) fun i t hi hL => by
    by_cases hik : k ≤ i
    · exact (hcs i t b hik hi hL).1 hb
    have hi : i < k := by omega
    obtain ⟨id, _, h1, h2⟩ := hblk i t b hi hL
    exact (h.own id b t h1 h2).1 hb
  have hfr : ∀ id b t, id ∉ β → (look s.st id).isSome = true → L id = some (b, t) → w'.heap[b]? = w.heap[b]? := fun id b t hid h1 h2 => post.keep b (h.own id b t h1 h2).2.1 fun i t' hi hL => by
    by_cases hik : k ≤ i
    · exact (hcs i t' b hik hi hL).2.2.2 id t h1 h2
    have hi : i < k := by omega
    obtain ⟨id', h3, h4, h5⟩ := hblk i t' b hi hL
    exact hid (h.inj id id' b t t' h1 h4 h2 h5 ▸ List.mem_of_getElem? h3)
  have hold : ∀ id o, look (conS md s β os').st id = some o → id < s.n → ∃ q, look s.st id = some q ∧ q.like o := fun id o ho hid => by
    rcases hlk.inv id o ho with ⟨i, hi, hg⟩ | ⟨h1, h2⟩
    · by_cases hik : i < β.length
      · obtain ⟨id', h3, h4⟩ := gam_lt (n := s.n) hik
        obtain rfl : id = id' := hg.trans h4
        obtain ⟨q, hq⟩ := Option.isSome_iff_exists.1 (hs id (List.mem_of_getElem? h3))
        have h5 := hlk.at_ i hi
        rw [h4, ho] at h5
        obtain ⟨o', h6, h7⟩ := Option.map_eq_some_iff.1 h5.symm
        have := like i id q o' h3 hq h6
        refine ⟨q, hq, ?_⟩
        rw [← h7]
        cases o' <;> cases q <;> exact this
      · rw [gam_ge (by omega)] at hg; omega
    · exact ⟨o, h2, by cases o <;> simp [Ob.like]⟩
  have hi : ∀ x : MC, x.bd s.n → ∀ u, RC (look s.st) L w F x u → RC (look (conS md s β os').st) Ln w' (newF F F1 A) x u := fun x hx u hr => by
    cases x with
    | dead => exact hr
    | sc u => exact hr
    | nil => exact hr
    | own => exact hr.elim
    | fz rows => exact RF.mono (fun b hb => hw b (.inl hb)) (fun b hb => Or.inl hb) hr
    | ag rows => exact RF.mono hw (fun b hb => hb.imp Or.inl id) hr
    | fptr cells =>
      obtain ⟨b, o, h1, h2, h3⟩ := hr
      exact ⟨b, o, .inl h1, h2, fun j c hj => by
        obtain ⟨u, h4, h5⟩ := h3 j c hj
        exact ⟨u, by rw [World.cell?_of_block (w := w) (hw b (.inl h1))]; exact h4, h5.mono (fun b hb => hw b (.inl hb)) fun b hb => Or.inl hb⟩⟩
    | aptr cells =>
      obtain ⟨b, o, h1, h2, h3⟩ := hr
      exact ⟨b, o, h1.imp Or.inl id, h2, fun j c hj => by
        obtain ⟨u, h4, h5⟩ := h3 j c hj
        exact ⟨u, by rw [World.cell?_of_block (w := w) (hw b h1)]; exact h4, h5.mono hw fun b hb => hb.imp Or.inl id⟩⟩
    | ref id off len =>
      refine ⟨hr.1, fun rows hrw => ?_⟩
      obtain ⟨q, hq, hlike⟩ := hold id _ hrw hx
      cases q with
      | box cs => exact hlike.elim
      | arr rows0 =>
        have hlike : rows0.length ≤ rows.length := hlike
        obtain ⟨a, cap, h1, h2, h3⟩ := hr.2 rows0 hq
        refine ⟨a, cap, h1, Nat.le_trans h2 hlike, h3.imp (fun ⟨b, t, h4, h5, h6, h7, h8⟩ => ⟨b, t, by rw [hLlow id hx]; exact h4, h5, h6, fun e => h7 ?_, fun j hj => post.kc b j (h.own id b t (by rw [hq]; rfl) h4).2.1 (h8 j hj)⟩) fun h => h⟩
        rw [e] at hlike
        exact List.eq_nil_of_length_eq_zero (Nat.le_zero.1 hlike)
    | ptr id row off =>
      refine ⟨hr.1, fun hsm => ?_⟩
      obtain ⟨o, ho⟩ := Option.isSome_iff_exists.1 hsm
      obtain ⟨q, hq, _⟩ := hold id o ho hx
      obtain ⟨b, t, h1, h2⟩ := hr.2 (by rw [hq]; rfl)
      exact ⟨b, t, by rw [hLlow id hx]; exact h1, h2⟩
  -- what a name's block is
  have hcase : ∀ id b t, (look (conS md s β os').st id).isSome = true → Ln id = some (b, t) → (id < s.n ∧ (look s.st id).isSome = true ∧ L id = some (b, t)) ∨ (∃ i, k ≤ i ∧ i < os'.length ∧ id = gam s.n β i ∧ L' i = some (b, t)) := fun id b t h1 h2 => by
    obtain ⟨o, ho⟩ := Option.isSome_iff_exists.1 h1
    by_cases hid : id < s.n
    · obtain ⟨q, hq, _⟩ := hold id o ho hid
      exact .inl ⟨hid, by rw [hq]; rfl, by rw [← hLlow id hid]; exact h2⟩
    · rcases hlk.inv id o ho with ⟨i, hi', hg⟩ | ⟨_, h4⟩
      · refine .inr ⟨i, ?_, hi', hg, by rw [← hLn i hi', ← hg]; exact h2⟩
        by_cases hik : i < β.length
        · obtain ⟨id', h3, h4⟩ := gam_lt (n := s.n) hik
          have := hβ id' (List.mem_of_getElem? h3)
          rw [h4] at hg; omega
        · omega
      · exact absurd (hlt id o h4) hid
  refine ⟨Ln, (newF F F1 A), ⟨post.os.trans h.os, post.tape.trans h.tape, post.output.trans h.output, Nat.le_trans h.size post.size, ?_, ?_, fun i hi => ⟨(hLlow i (h.pin i hi).2).trans (h.pin i hi).1, Nat.lt_of_lt_of_le (h.pin i hi).2 (Nat.le_add_right _ _)⟩, h.fa, ?_, ?_, ?_, ?_, ?_, h.sz, ?_, ?_, ?_, h.df⟩, RV.back hlk hLn hFr post.bd post.rv, backV_bd hβ hl post.bd⟩
  · intro b hb hnw
    rw [post.keep b (Nat.lt_of_lt_of_le hb h.size) fun i t hi hL => ?_]
    · exact h.keep b hb hnw
    · by_cases hik : k ≤ i
      · rcases (hcs i t b hik hi hL).2.2.1 with h3 | h3
        · omega
        · exact hnw h3
      have hi : i < k := by omega
      obtain ⟨id, _, h1, h2⟩ := hblk i t b hi hL
      rcases (h.own id b t h1 h2).2.2 with h3 | h3
      · omega
      · exact hnw h3
  · exact fun b j hb hc => post.kc b j (Nat.lt_of_lt_of_le hb h.size) (h.kc b j hb hc)
  · rintro b (hb | hb)
    · exact h.fn b hb
    · rcases post.fr b hb.1 hb.2 with h1 | ⟨j, u, h1, h2, h3⟩
      · exact .inl (Nat.le_trans h.size h1.1)
      · exact (hcs j u b h1 h2 h3).2.2.1.imp (fun h => h) Or.inl
  · rintro b ((hb | hb) | hb)
    · exact Nat.lt_of_lt_of_le (h.fsz b (.inl hb)) post.size
    · rcases post.fr b hb.1 hb.2 with h1 | ⟨j, u, h1, h2, h3⟩
      · exact h1.2
      · exact Nat.lt_of_lt_of_le (hcs j u b h1 h2 h3).2.1 post.size
    · exact Nat.lt_of_lt_of_le (h.fsz b (.inr hb)) post.size
  · intro id o ho
    rcases hlk.inv id o ho with ⟨i, hi', hg⟩ | ⟨h1, h2⟩
    · have h5 := hlk.at_ i hi'
      rw [← hg, ho] at h5
      obtain ⟨o', h6, h7⟩ := Option.map_eq_some_iff.1 h5.symm
      rw [← h7, hg]
      exact ObOK.back hlk hLn hFr hi' (post.obs.bd o' (List.mem_of_getElem? h6)) (fix o' (List.mem_of_getElem? h6)) (post.obs.ob i o' h6)
    · exact (h.ob id o h2).imp (h.bst id o h2).2 (hLlow id (hlt id o h2)) (fun b t hL => hfr id b t h1 (by rw [h2]; rfl) hL) hi
  · intro id b t h1 h2
    rcases hcase id b t h1 h2 with ⟨h3, h4, h5⟩ | ⟨i, h3, h4, h5, h6⟩
    · have := h.own id b t h4 h5
      refine ⟨?_, Nat.lt_of_lt_of_le this.2.1 post.size, this.2.2⟩
      rintro ((hb | hb) | hb)
      · exact this.1 (.inl hb)
      · rcases post.fr b hb.1 hb.2 with h1 | ⟨j, u, h1, h2, h3'⟩
        · have := this.2.1; omega
        · exact (hcs j u b h1 h2 h3').2.2.2 id t h4 h5
      · exact this.1 (.inr hb)
    · have hnf := post.obs.nf i b t h4 h6
      have hnew : (¬ F.all b) ∧ (w0.heap.size ≤ b ∨ wr b) := by
        rcases post.new i b t h3 h4 h6 with hge | ⟨j, u, hj1, hj2, hj3⟩
        · exact ⟨fun hb => by have := h.fsz b hb; omega, .inl (Nat.le_trans h.size hge)⟩
        · have := hcs j u b hj1 hj2 hj3; exact ⟨this.1, this.2.2.1⟩
      refine ⟨?_, hnf.2, hnew.2⟩
      rintro ((hb | hb) | hb)
      · exact hnew.1 (.inl hb)
      · exact hnf.1 (.inl hb.1)
      · exact hnew.1 (.inr hb)
  · intro i j b t u h1 h2 h3 h4
    rcases hcase i b t h1 h3 with ⟨a1, a2, a3⟩ | ⟨i1, a1, a2, a3, a4⟩ <;> rcases hcase j b u h2 h4 with ⟨b1, b2, b3⟩ | ⟨j1, b1, b2, b3, b4⟩
    · exact h.inj i j b t u a2 b2 a3 b3
    · have := (h.own i b t a2 a3).2.1
      rcases post.new j1 b u b1 b2 b4 with hge | ⟨j', u', c1, c2, c3⟩
      · omega
      · exact absurd a3 ((hcs j' u' b c1 c2 c3).2.2.2 i t a2)
    · have := (h.own j b u b2 b3).2.1
      rcases post.new i1 b t a1 a2 a4 with hge | ⟨j', u', c1, c2, c3⟩
      · omega
      · exact absurd b3 ((hcs j' u' b c1 c2 c3).2.2.2 j u b2)
    · rw [a3, b3, post.obs.inj i1 j1 b t u a2 b2 a4 b4]
  · exact fun t x hx => (h.env t x hx).imp (h.ben t x hx) hi
  · intro id o ho
    rcases hlk.inv id o ho with ⟨i, hi', hg⟩ | ⟨h1, h2⟩
    · have h5 := hlk.at_ i hi'
      rw [← hg, ho] at h5
      obtain ⟨o', h6, h7⟩ := Option.map_eq_some_iff.1 h5.symm
      rw [← h7, hg]
      exact ⟨gam_bd hβ hl hi', backO_bd hβ hl (post.obs.bd o' (List.mem_of_getElem? h6)) (fix o' (List.mem_of_getElem? h6))⟩
    · exact ⟨Nat.lt_of_lt_of_le (hlt id o h2) (Nat.le_add_right _ _), (h.bst id o h2).2.mono (Nat.le_add_right _ _)⟩
  · exact fun t x hx => (h.ben t x hx).mono (Nat.le_add_right _ _)

end Mg
