/- Parts of the abstract state logic and of the walks, one behind the other: Mg24, Mg25. No condition. -/
import Derived.Test.YtedgmfmhilihoaaP4
/- The abstract state logic, part 24: contracts that are handed objects (the callee writes into them) and results of many kinds. No condition. -/
namespace Mg
open Go Go.RowKit
set_option linter.unusedVariables false

variable {P : Program} {T : Tab}

def nth (os : List Ob) : Sto := fun i => os[i]?

/-- Objects in a world, under the names 0, 1, .. -/
structure ObsOK (w : World) (F : FF) (L : Lay) (os : List Ob) : Prop where
  ob : ∀ i o, os[i]? = some o → ObOK (nth os) L w F i o
  inj : ∀ i j b t u, i < os.length → j < os.length → L i = some (b, t) → L j = some (b, u) → i = j
  nf : ∀ i b t, i < os.length → L i = some (b, t) → ¬ F.all b ∧ b < w.heap.size
  bd : ∀ o ∈ os, o.bd os.length

structure ConPost (w : World) (N A : Nat → Prop) (L : Lay) (m k : Nat) (r : MV) (os' : List Ob) (v : Value) (w' : World) (L' : Lay) (F : Nat → Prop) : Prop where
  os : w'.os = w.os
  tape : w'.tape = w.tape
  output : w'.output = w.output
  size : w.heap.size ≤ w'.heap.size
  keep : ∀ b, b < w.heap.size → (∀ i t, i < m → L i ≠ some (b, t)) → w'.heap[b]? = w.heap[b]?
  kc : ∀ b j, b < w.heap.size → (w.cell? ⟨b, j, none⟩).isSome = true → (w'.cell? ⟨b, j, none⟩).isSome = true
  fr : ∀ b, F b → ¬ N b → (w.heap.size ≤ b ∧ b < w'.heap.size) ∨ ∃ j u, k ≤ j ∧ j < m ∧ L j = some (b, u)
  len : k ≤ os'.length
  lay : ∀ i, i < k → L' i = L i
  new : ∀ i b t, k ≤ i → i < os'.length → L' i = some (b, t) → w.heap.size ≤ b ∨ ∃ j u, k ≤ j ∧ j < m ∧ L j = some (b, u)
  obs : ObsOK w' ⟨F, A⟩ L' os'
  rv : RV (nth os') L' w' ⟨F, A⟩ r v
  bd : r.bd os'.length

/-- A CONTRACT with objects: called with args (.ptr and .ref speak of the objects os), it returns for some d what reads as r d; the first k objects, and new ones behind them, then read as os' d; the other objects are used up. -/
def Con (P : Program) (f : Nat) (args : List MV) (os : List Ob) (k : Nat) {D : Type} (p : D → Prop) (r : D → MV) (os' : D → List Ob) : Prop := Fun P f ∧
  ∀ (w : World) (N A : Nat → Prop) (L : Lay) (vals : Array Value), vals.size = args.length → (∀ b, A b → b < w.heap.size) → (∀ b, N b → A b) → ObsOK w ⟨N, A⟩ L os →
    (∀ (j : Nat) (x : MV), args[j]? = some x → ∃ v : Value, vals[j]? = some v ∧ RV (nth os) L w ⟨N, A⟩ x v ∧ x.bd os.length) → GT P w (fun b => ∃ i t, i < os.length ∧ L i = some (b, t)) →
    Calls P f vals w fun e w' => ∃ (d : D) (v : Value) (L' : Lay) (F : Nat → Prop), e = .returned v ∧ p d ∧ ConPost w N A L os.length k (r d) (os' d) v w' L' F

/- ------------------------------------------------ what comes back -/
def gam (n : Nat) (β : List Nat) (i : Nat) : Nat := match β[i]? with
  | some id => id
  | none => n + (i - β.length)
def backC (md : Bool) (n : Nat) (β : List Nat) : MC → MC
  | .ref i off len => .ref (gam n β i) off len
  | .ptr i row off => .ptr (gam n β i) row off
  | .fz rows => match md with
    | true => .ag rows
    | false => .fz rows
  | .fptr c => match md with
    | true => .aptr c
    | false => .fptr c
  | .ag rows => .ag rows
  | .aptr c => .aptr c
  | .tr _ _ _ _ => .dead
  | c => c
def backV1 (md : Bool) (n : Nat) (β : List Nat) : MV → MV
  | .one c => .one (backC md n β c)
  | .agg cs => .agg (cs.map (backC md n β))
  | v => v
def backV (md : Bool) (n : Nat) (β : List Nat) : MV → MV
  | .tup vs => .tup (vs.map (backV1 md n β))
  | v => backV1 md n β v
def backO (md : Bool) (n : Nat) (β : List Nat) : Ob → Ob
  | .box cs => .box (cs.map (backC md n β))
  | .arr rows => match md with
    | true => .arr (rows.map fun r => r.map (backC true n β))
    | false => .arr rows
/-- An array's cells stay as they are. -/
def fixO (md : Bool) (n : Nat) (β : List Nat) : Ob → Prop
  | .box _ => True
  | .arr rows => md = false → ∀ r ∈ rows, ∀ c ∈ r, backC false n β c = c

def newO (md : Bool) (n : Nat) (β : List Nat) : Nat → List Ob → List (Nat × Ob)
  | _, [] => []
  | j, o :: os => (n + j, backO md n β o) :: newO md n β (j + 1) os
def updO (md : Bool) (n : Nat) (β0 : List Nat) : List (Nat × Ob) → List Nat → List Ob → List (Nat × Ob)
  | st, id :: β, o :: os => updO md n β0 (upd st id (backO md n β0 o)) β os
  | st, _, _ => st
def conS (md : Bool) (s : S) (β : List Nat) (os' : List Ob) : S :=
  ⟨s.m, s.n + (os'.length - β.length), s.env, newO md s.n β 0 (os'.drop β.length) ++ updO md s.n β s.st β os'⟩

theorem look_app {α : Type} : ∀ (l1 l2 : List (Nat × α)) (j : Nat), look (l1 ++ l2) j = match look l1 j with
    | some x => some x
    | none => look l2 j
  | [], l2, j => rfl
  | (k, v) :: l1, l2, j => by
    rw [List.cons_append, look_cons, look_cons, look_app l1 l2 j]
    split <;> rfl
theorem look_newO {md : Bool} {n : Nat} {β : List Nat} : ∀ (os : List Ob) (k j : Nat), look (newO md n β k os) j = if n + k ≤ j then (os[j - (n + k)]?).map (backO md n β) else none
  | [], k, j => by simp [newO]
  | o :: os, k, j => by
    rw [newO, look_cons, look_newO os (k + 1) j]
    by_cases e : j = n + k
    · subst e; simp
    · by_cases h : n + k ≤ j
      · rw [if_neg e, if_pos (by omega), if_pos h, show j - (n + k) = (j - (n + (k + 1))) + 1 by omega, List.getElem?_cons_succ]
      · rw [if_neg e, if_neg (by omega), if_neg h]
theorem look_updO {md : Bool} {n : Nat} {β0 : List Nat} : ∀ (β : List Nat) (os : List Ob) (st : List (Nat × Ob)), β.Nodup → β.length ≤ os.length → (∀ id ∈ β, (look st id).isSome = true) →
    (∀ (i : Nat) (id : Nat), β[i]? = some id → look (updO md n β0 st β os) id = (os[i]?).map (backO md n β0)) ∧ (∀ id, id ∉ β → look (updO md n β0 st β os) id = look st id)
  | [], os, st, _, _, _ => ⟨fun i id h => by simp at h, fun id _ => by cases os <;> rfl⟩
  | b :: β, [], st, _, hl, _ => by simp at hl
  | b :: β, o :: os, st, hn, hl, hs => by
    obtain ⟨hb, hn⟩ := List.nodup_cons.1 hn
    have hsome : ∀ id, (look (upd st b (backO md n β0 o)) id).isSome = (look st id).isSome := fun id => by
      rw [look_upd]
      split
      · rename_i h; rw [h.1]; simp [h.2]
      · rfl
    obtain ⟨h1, h2⟩ := look_updO β os (upd st b (backO md n β0 o)) hn (by simpa using hl) (fun id hid => by rw [hsome]; exact hs id (List.mem_cons_of_mem _ hid))
    refine ⟨fun i id hi => ?_, fun id hid => ?_⟩
    · cases i with
      | zero =>
        obtain rfl : b = id := by simpa using hi
        show look (updO md n β0 _ β os) b = _
        rw [h2 b hb, look_upd, if_pos ⟨rfl, hs b (by simp)⟩]; rfl
      | succ i => exact h1 i id (by simpa using hi)
    · show look (updO md n β0 _ β os) id = _
      have : id ≠ b := fun e => hid (by simp [e])
      rw [h2 id (fun h => hid (List.mem_cons_of_mem _ h)), look_upd, if_neg (fun h => this h.1)]

/-- What a caller's state is behind a call that was handed objects. -/
structure ConLook (md : Bool) (s : S) (β : List Nat) (os' : List Ob) : Prop where
  at_ : ∀ i, i < os'.length → look (conS md s β os').st (gam s.n β i) = (os'[i]?).map (backO md s.n β)
  inv : ∀ id o, look (conS md s β os').st id = some o → (∃ i, i < os'.length ∧ id = gam s.n β i) ∨ (id ∉ β ∧ look s.st id = some o)
  old : ∀ id, id ∉ β → id < s.n → look (conS md s β os').st id = look s.st id

theorem gam_lt {n : Nat} {β : List Nat} {i : Nat} (h : i < β.length) : ∃ id, β[i]? = some id ∧ gam n β i = id := by
  obtain ⟨id, hid⟩ : ∃ id, β[i]? = some id := ⟨β[i], List.getElem?_eq_getElem h⟩
  exact ⟨id, hid, by simp [gam, hid]⟩
theorem gam_ge {n : Nat} {β : List Nat} {i : Nat} (h : β.length ≤ i) : gam n β i = n + (i - β.length) := by
  simp [gam, List.getElem?_eq_none h]

theorem conLook {md : Bool} {s : S} {β : List Nat} {os' : List Ob} (hn : β.Nodup) (hl : β.length ≤ os'.length) (hs : ∀ id ∈ β, (look s.st id).isSome = true) (hlt : ∀ id o, look s.st id = some o → id < s.n) : ConLook md s β os' := by
  have hβ : ∀ id ∈ β, id < s.n := fun id hid => by
    obtain ⟨o, ho⟩ := Option.isSome_iff_exists.1 (hs id hid); exact hlt id o ho
  obtain ⟨h1, h2⟩ := look_updO (md := md) (n := s.n) (β0 := β) β os' s.st hn hl hs
  have hlow : ∀ id, id < s.n → look (conS md s β os').st id = look (updO md s.n β s.st β os') id := fun id hid => by
    show look (_ ++ _) id = _
    rw [look_app, look_newO, if_neg (by omega)]
  have hhigh : ∀ id, s.n ≤ id → look (conS md s β os').st id = (os'[β.length + (id - s.n)]?).map (backO md s.n β) := fun id hid => by
    show look (_ ++ _) id = _
    rw [look_app, look_newO, if_pos (by omega), List.getElem?_drop, show id - (s.n + 0) = id - s.n by omega]
    cases e : os'[β.length + (id - s.n)]? with
    | some o => rfl
    | none =>
      show look (updO md s.n β s.st β os') id = none
      rw [h2 id (fun h => by have := hβ id h; omega)]
      cases e2 : look s.st id with
      | none => rfl
      | some o => have := hlt id o e2; omega
  refine ⟨fun i hi => ?_, fun id o ho => ?_, fun id hid hlt' => by rw [hlow id hlt', h2 id hid]⟩
  · by_cases hk : i < β.length
    · obtain ⟨id, hid, hg⟩ := gam_lt (n := s.n) hk
      rw [hg, hlow id (hβ id (List.mem_of_getElem? hid)), h1 i id hid]
    · rw [gam_ge (by omega), hhigh _ (by omega)]
      congr 2; omega
  · by_cases hge : s.n ≤ id
    · rw [hhigh id hge] at ho
      obtain ⟨x, hx, _⟩ := Option.map_eq_some_iff.1 ho
      have hlt' := (List.getElem?_eq_some_iff.1 hx).1
      exact .inl ⟨β.length + (id - s.n), hlt', by rw [gam_ge (by omega)]; omega⟩
    · by_cases hm : id ∈ β
      · obtain ⟨i, hi⟩ := List.getElem?_of_mem hm
        have hil := (List.getElem?_eq_some_iff.1 hi).1
        exact .inl ⟨i, by omega, by obtain ⟨id', h3, h4⟩ := gam_lt (n := s.n) hil; rw [h4]; rw [hi] at h3; exact Option.some.inj h3⟩
      · rw [hlow id (by omega), h2 id hm] at ho
        exact .inr ⟨hm, ho⟩

theorem gam_inj {n : Nat} {β : List Nat} (hn : β.Nodup) (hβ : ∀ id ∈ β, id < n) {i j : Nat} (h : gam n β i = gam n β j) : i = j := by
  by_cases hi : i < β.length <;> by_cases hj : j < β.length
  · obtain ⟨x, hx, gx⟩ := gam_lt (n := n) hi
    obtain ⟨y, hy, gy⟩ := gam_lt (n := n) hj
    rw [gx, gy] at h
    subst h
    have h1 := (List.getElem?_eq_some_iff.1 hx).2
    have h2 := (List.getElem?_eq_some_iff.1 hy).2
    rcases Nat.lt_trichotomy i j with hij | hij | hij
    · exact absurd (h1.trans h2.symm) (List.pairwise_iff_getElem.1 hn i j hi hj hij)
    · exact hij
    · exact absurd (h2.trans h1.symm) (List.pairwise_iff_getElem.1 hn j i hj hi hij)
  · obtain ⟨x, hx, gx⟩ := gam_lt (n := n) hi
    rw [gx, gam_ge (by omega)] at h
    have := hβ x (List.mem_of_getElem? hx); omega
  · obtain ⟨y, hy, gy⟩ := gam_lt (n := n) hj
    rw [gy, gam_ge (by omega)] at h
    have := hβ y (List.mem_of_getElem? hy); omega
  · rw [gam_ge (by omega), gam_ge (by omega)] at h; omega

theorem gam_bd {n : Nat} {β : List Nat} (hβ : ∀ id ∈ β, id < n) {m i : Nat} (hl : β.length ≤ m) (hi : i < m) : gam n β i < n + (m - β.length) := by
  by_cases h : i < β.length
  · obtain ⟨x, hx, gx⟩ := gam_lt (n := n) h
    rw [gx]; have := hβ x (List.mem_of_getElem? hx); omega
  · rw [gam_ge (by omega)]; omega

section
variable {md : Bool} {s : S} {β : List Nat} {os' : List Ob} {L L' Ln : Lay} {w' : World} {F : FF} {F1 N A : Nat → Prop}

theorem backO_arr {n : Nat} {o : Ob} {rows : List (List MC)} (h : backO md n β o = .arr rows) : ∃ r, o = .arr r ∧ r.length = rows.length := by
  cases o with
  | box cs => cases h
  | arr r =>
    cases md
    · obtain rfl := Ob.arr.inj h; exact ⟨_, rfl, rfl⟩
    · obtain rfl := Ob.arr.inj h; exact ⟨_, rfl, by simp⟩

/-- What is frozen behind a call: F1 is new, or the frozen blocks N that were handed over; A: all that was read. -/
structure FrOK (md : Bool) (F : FF) (N A : Nat → Prop) : Prop where
  all : ∀ b, A b → F.all b
  sub : ∀ b, N b → A b
  fz : md = false → ∀ b, N b → F.n b
def newF (F : FF) (F1 A : Nat → Prop) : FF := ⟨fun b => F.n b ∨ (F1 b ∧ ¬ A b), F.a⟩
theorem FrOK.n {md : Bool} {F : FF} {F1 N A : Nat → Prop} (h : FrOK md F N A) (hm : md = false) (b : Nat) (hb : F1 b) : (newF F F1 N).n b := by
  by_cases h1 : N b
  · exact .inl (h.fz hm b h1)
  · exact .inr ⟨hb, h1⟩
theorem FrOK.al {md : Bool} {F : FF} {F1 N A : Nat → Prop} (h : FrOK md F N A) (b : Nat) (hb : F1 b) : (newF F F1 N).all b := by
  by_cases h1 : N b
  · exact (h.all b (h.sub b h1)).imp Or.inl fun h => h
  · exact .inl (.inr ⟨hb, h1⟩)
theorem FrOK.al2 {md : Bool} {F : FF} {F1 N A : Nat → Prop} (h : FrOK md F N A) (b : Nat) (hb : (FF.mk F1 A).all b) : (newF F F1 N).all b := by
  rcases hb with hb | hb
  · exact h.al b hb
  · exact (h.all b hb).imp Or.inl fun h => h
theorem newF_le {F : FF} {F1 A : Nat → Prop} : F.le (newF F F1 A) := ⟨fun _ h => Or.inl h, fun _ h => h, fun _ h => h⟩

theorem RC.back (hlk : ConLook md s β os') (hL : ∀ i, i < os'.length → Ln (gam s.n β i) = L' i) (hA : FrOK md F N A) {c : MC} {v : Value} (hb : c.bd os'.length) (h : RC (nth os') L' w' ⟨F1, A⟩ c v) :
    RC (look (conS md s β os').st) Ln w' (newF F F1 N) (backC md s.n β c) v := by
  have hone := h.one
  cases c with
  | dead => exact h
  | sc u => exact h
  | nil => exact h
  | own => exact h.elim
  | fz rows =>
    cases md
    · exact RF.mono (fun _ _ => rfl) (hA.n rfl) h
    · exact RF.mono (fun _ _ => rfl) hA.al h
  | fptr cells =>
    obtain ⟨b, o, h1, h2, h3⟩ := h
    cases md
    · exact ⟨b, o, hA.n rfl b h1, h2, fun j c hj => by obtain ⟨u, h4, h5⟩ := h3 j c hj; exact ⟨u, h4, h5.mono (fun _ _ => rfl) (hA.n rfl)⟩⟩
    · exact ⟨b, o, hA.al b h1, h2, fun j c hj => by obtain ⟨u, h4, h5⟩ := h3 j c hj; exact ⟨u, h4, h5.mono (fun _ _ => rfl) hA.al⟩⟩
  | aptr cells =>
    obtain ⟨b, o, h1, h2, h3⟩ := h
    exact ⟨b, o, hA.al2 b h1, h2, fun j c hj => by obtain ⟨u, h4, h5⟩ := h3 j c hj; exact ⟨u, h4, h5.mono (fun _ _ => rfl) hA.al2⟩⟩
  | ag rows => exact RF.mono (fun _ _ => rfl) hA.al2 h
  | tr _ _ _ _ => exact hone
  | ref i off len =>
    have hi : i < os'.length := hb
    refine ⟨h.1, fun rows hr => ?_⟩
    rw [hlk.at_ i hi] at hr
    obtain ⟨o, ho, he⟩ := Option.map_eq_some_iff.1 hr
    obtain ⟨r0, rfl, hr0⟩ := backO_arr he
    obtain ⟨a, cap, h1, h2, h3⟩ := h.2 r0 ho
    refine ⟨a, cap, h1, by omega, h3.imp (fun ⟨b, t, h4, h5, h6, h7, h8⟩ => ⟨b, t, by rw [hL i hi]; exact h4, h5, h6, fun e => h7 (List.eq_nil_of_length_eq_zero (by rw [hr0, e]; rfl)), h8⟩) id⟩
  | ptr i row off =>
    have hi : i < os'.length := hb
    refine ⟨h.1, fun hr => ?_⟩
    obtain ⟨b, t, h1, h2⟩ := h.2 (by show (os'[i]?).isSome = true; rw [List.getElem?_eq_getElem hi]; rfl)
    exact ⟨b, t, by rw [hL i hi]; exact h1, h2⟩

theorem backC_bd (hβ : ∀ id ∈ β, id < s.n) (hl : β.length ≤ os'.length) {c : MC} (hb : c.bd os'.length) : (backC md s.n β c).bd (s.n + (os'.length - β.length)) := by
  cases c with
  | ref i off len => exact gam_bd hβ hl hb
  | ptr i off len => exact gam_bd hβ hl hb
  | fz rows => cases md <;> trivial
  | fptr rows => cases md <;> trivial
  | _ => trivial

theorem RV1.back (hlk : ConLook md s β os') (hL : ∀ i, i < os'.length → Ln (gam s.n β i) = L' i) (hA : FrOK md F N A) {x : MV} {v : Value} (hb : x.bd1 os'.length) (h : RV1 (nth os') L' w' ⟨F1, A⟩ x v) :
    RV1 (look (conS md s β os').st) Ln w' (newF F F1 N) (backV1 md s.n β x) v := by
  cases x with
  | un => trivial
  | one c => exact RC.back hlk hL hA hb h
  | agg cs =>
    obtain ⟨arr, rfl, h1, h2⟩ := h
    refine ⟨arr, rfl, by simpa using h1, fun j c hj => ?_⟩
    rw [List.getElem?_map] at hj
    obtain ⟨d, hd, rfl⟩ := Option.map_eq_some_iff.1 hj
    obtain ⟨u, hu, hr⟩ := h2 j d hd
    exact ⟨u, hu, RC.back hlk hL hA (hb d (List.mem_of_getElem? hd)) hr⟩
  | tup vs => exact h.elim

theorem RV.back (hlk : ConLook md s β os') (hL : ∀ i, i < os'.length → Ln (gam s.n β i) = L' i) (hA : FrOK md F N A) {x : MV} {v : Value} (hb : x.bd os'.length) (h : RV (nth os') L' w' ⟨F1, A⟩ x v) :
    RV (look (conS md s β os').st) Ln w' (newF F F1 N) (backV md s.n β x) v := by
  cases x with
  | un => trivial
  | one c => exact RV1.back (x := .one c) hlk hL hA hb h
  | agg cs => exact RV1.back (x := .agg cs) hlk hL hA hb h
  | tup vs =>
    obtain ⟨arr, rfl, h1, h2⟩ := h
    refine ⟨arr, rfl, by simpa using h1, fun j c hj => ?_⟩
    rw [List.getElem?_map] at hj
    obtain ⟨d, hd, rfl⟩ := Option.map_eq_some_iff.1 hj
    obtain ⟨u, hu, hr⟩ := h2 j d hd
    exact ⟨u, hu, RV1.back hlk hL hA (hb d (List.mem_of_getElem? hd)) hr⟩

theorem backV1_bd (hβ : ∀ id ∈ β, id < s.n) (hl : β.length ≤ os'.length) {x : MV} (hb : x.bd1 os'.length) : (backV1 md s.n β x).bd1 (s.n + (os'.length - β.length)) := by
  cases x with
  | one c => exact backC_bd hβ hl hb
  | agg cs =>
    intro c hc
    obtain ⟨d, hd, rfl⟩ := List.mem_map.1 hc
    exact backC_bd hβ hl (hb d hd)
  | _ => trivial
theorem backV_bd (hβ : ∀ id ∈ β, id < s.n) (hl : β.length ≤ os'.length) {x : MV} (hb : x.bd os'.length) : (backV md s.n β x).bd (s.n + (os'.length - β.length)) := by
  cases x with
  | one c => exact backV1_bd (x := .one c) hβ hl hb
  | agg cs => exact backV1_bd (x := .agg cs) hβ hl hb
  | un => trivial
  | tup vs =>
    intro c hc
    obtain ⟨d, hd, rfl⟩ := List.mem_map.1 hc
    exact backV1_bd hβ hl (hb d hd)

theorem ObOK.back (hlk : ConLook md s β os') (hL : ∀ i, i < os'.length → Ln (gam s.n β i) = L' i) (hA : FrOK md F N A) {i : Nat} (hi : i < os'.length) {o : Ob} (hb : o.bd os'.length) (hf : fixO md s.n β o) (h : ObOK (nth os') L' w' ⟨F1, A⟩ i o) :
    ObOK (look (conS md s β os').st) Ln w' (newF F F1 N) (gam s.n β i) (backO md s.n β o) := by
  cases o with
  | box cs =>
    obtain ⟨b, t, h1, h2, h3⟩ := h
    refine ⟨b, t, by rw [hL i hi]; exact h1, h2, fun j c hj => ?_⟩
    rw [List.getElem?_map] at hj
    obtain ⟨d, hd, rfl⟩ := Option.map_eq_some_iff.1 hj
    obtain ⟨u, hu, hr⟩ := h3 j d hd
    exact ⟨u, hu, RC.back hlk hL hA (hb d (List.mem_of_getElem? hd)) hr⟩
  | arr rows =>
    cases md with
    | false =>
      rcases h with ⟨h1, h2⟩ | ⟨b, t, h1, h2, h3, h4⟩
      · exact .inl ⟨h1, by rw [hL i hi]; exact h2⟩
      · refine .inr ⟨b, t, by rw [hL i hi]; exact h1, h2, h3, fun k r hr j c hj => ?_⟩
        obtain ⟨u, hu, hrc⟩ := h4 k r hr j c hj
        have := RC.back (Ln := Ln) hlk hL hA (hb r (List.mem_of_getElem? hr) c (List.mem_of_getElem? hj)) hrc
        rw [hf rfl r (List.mem_of_getElem? hr) c (List.mem_of_getElem? hj)] at this
        exact ⟨u, hu, this⟩
    | true =>
      rcases h with ⟨rfl, h2⟩ | ⟨b, t, h1, h2, h3, h4⟩
      · exact .inl ⟨rfl, by rw [hL i hi]; exact h2⟩
      · refine .inr ⟨b, t, by rw [hL i hi]; exact h1, h2, fun r hr => ?_, fun k r hr j c hj => ?_⟩
        · obtain ⟨r0, hr0, rfl⟩ := List.mem_map.1 hr
          rw [List.length_map]; exact h3 r0 hr0
        · rw [List.getElem?_map] at hr
          obtain ⟨r0, hr0, rfl⟩ := Option.map_eq_some_iff.1 hr
          rw [List.getElem?_map] at hj
          obtain ⟨c0, hc0, rfl⟩ := Option.map_eq_some_iff.1 hj
          obtain ⟨u, hu, hrc⟩ := h4 k r0 hr0 j c0 hc0
          exact ⟨u, hu, RC.back (Ln := Ln) hlk hL hA (hb r0 (List.mem_of_getElem? hr0) c0 (List.mem_of_getElem? hc0)) hrc⟩

theorem backO_bd (hβ : ∀ id ∈ β, id < s.n) (hl : β.length ≤ os'.length) {o : Ob} (hb : o.bd os'.length) (hf : fixO md s.n β o) : (backO md s.n β o).bd (s.n + (os'.length - β.length)) := by
  cases o with
  | box cs =>
    intro c hc
    obtain ⟨d, hd, rfl⟩ := List.mem_map.1 hc
    exact backC_bd hβ hl (hb d hd)
  | arr rows =>
    cases md with
    | false =>
      intro r hr c hc
      have := backC_bd (md := false) hβ hl (hb r hr c hc)
      rwa [hf rfl r hr c hc] at this
    | true =>
      intro r hr c hc
      obtain ⟨r0, hr0, rfl⟩ := List.mem_map.1 hr
      obtain ⟨c0, hc0, rfl⟩ := List.mem_map.1 hc
      exact backC_bd hβ hl (hb r0 hr0 c0 hc0)
end

/-- THE STATE behind a call that was handed objects. -/
theorem con_core {w0 : World} {wr : Wr} {A0 : Nat → Prop} {L : Lay} {F : FF} {s : S} {a : Act} {w : World} (h : Rl w0 wr A0 L F s a w) {md : Bool} {β : List Nat} {os' : List Ob} {r : MV} {v : Value} {w' : World} {L0 L' : Lay} {F1 N A : Nat → Prop} {m k : Nat}
    (hn : β.Nodup) (hk : β.length = k) (hL0 : ∀ (i id : Nat), β[i]? = some id → L0 i = L id) (hs : ∀ id ∈ β, (look s.st id).isSome = true) (hA : ∀ b, A b → F.all b) (hN : ∀ b, N b → A b) (hA1 : md = false → ∀ b, N b → F.n b) (post : ConPost w N A L0 m k r os' v w' L' F1)
    (hcs : ∀ i t b, k ≤ i → i < m → L0 i = some (b, t) → ¬ F.all b ∧ b < w.heap.size ∧ (w0.heap.size ≤ b ∨ wr b) ∧ ∀ id t', (look s.st id).isSome = true → L id ≠ some (b, t'))
    (like : ∀ (i id : Nat) (o o' : Ob), β[i]? = some id → look s.st id = some o → os'[i]? = some o' → o.like o') (fix : ∀ o ∈ os', fixO md s.n β o) :
    ∃ (L2 : Lay) (F2 : FF), Rl w0 wr A0 L2 F2 (conS md s β os') a w' ∧ RV (look (conS md s β os').st) L2 w' F2 (backV md s.n β r) v ∧ (backV md s.n β r).bd (conS md s β os').n := by
  have hlt : ∀ id o, look s.st id = some o → id < s.n := fun id o ho => (h.bst id o ho).1
  have hβ : ∀ id ∈ β, id < s.n := fun id hid => by
    obtain ⟨o, ho⟩ := Option.isSome_iff_exists.1 (hs id hid); exact hlt id o ho
  have hl : β.length ≤ os'.length := hk ▸ post.len
  have hlk := conLook (md := md) hn hl hs hlt
  have hFr : FrOK md F N A := ⟨hA, hN, hA1⟩
  let Ln : Lay := fun id => if id < s.n then L id else L' (k + (id - s.n))
  have hLlow : ∀ id, id < s.n → Ln id = L id := fun id hid => if_pos hid
  have hLn : ∀ i, i < os'.length → Ln (gam s.n β i) = L' i := fun i hi => by
    by_cases hik : i < β.length
    · obtain ⟨id, hid, hg⟩ := gam_lt (n := s.n) hik
      rw [hg, hLlow id (hβ id (List.mem_of_getElem? hid)), ← hL0 i id hid, post.lay i (by omega)]
    · rw [gam_ge (by omega)]
      show (if _ then _ else _) = _
      rw [if_neg (by omega)]; congr 1; omega
  have hblk : ∀ i t b, i < k → L0 i = some (b, t) → ∃ id, β[i]? = some id ∧ (look s.st id).isSome = true ∧ L id = some (b, t) := fun i t b hi hb => by
    obtain ⟨id, hid, _⟩ := gam_lt (n := s.n) (β := β) (i := i) (by omega)
    exact ⟨id, hid, hs id (List.mem_of_getElem? hid), by rw [← hL0 i id hid]; exact hb⟩
  have hw : ∀ b, F.all b → w'.heap[b]? = w.heap[b]? := fun b hb => post.keep b (h.fsz b hb) fun i t hi hL => by
    by_cases hik : k ≤ i
    · exact (hcs i t b hik hi hL).1 hb
    have hi : i < k := by omega
    obtain ⟨id, _, h1, h2⟩ := hblk i t b hi hL
    exact (h.own id b t h1 h2).1 hb
  have hfr : ∀ id b t, id ∉ β → (look s.st id).isSome = true → L id = some (b, t) → w'.heap[b]? = w.heap[b]? := fun id b t hid h1 h2 => post.keep b (h.own id b t h1 h2).2.1 fun i t' hi hL => by
    by_cases hik : k ≤ i
    · exact (hcs i t' b hik hi hL).2.2.2 id t h1 h2
    have hi : i < k := by omega
    obtain ⟨id', h3, h4, h5⟩ := hblk i t' b hi hL
    exact hid (h.inj id id' b t t' h1 h4 h2 h5 ▸ List.mem_of_getElem? h3)
  have hold : ∀ id o, look (conS md s β os').st id = some o → id < s.n → ∃ q, look s.st id = some q ∧ q.like o := fun id o ho hid => by
    rcases hlk.inv id o ho with ⟨i, hi, hg⟩ | ⟨h1, h2⟩
    · by_cases hik : i < β.length
      · obtain ⟨id', h3, h4⟩ := gam_lt (n := s.n) hik
        obtain rfl : id = id' := hg.trans h4
        obtain ⟨q, hq⟩ := Option.isSome_iff_exists.1 (hs id (List.mem_of_getElem? h3))
        have h5 := hlk.at_ i hi
        rw [h4, ho] at h5
        obtain ⟨o', h6, h7⟩ := Option.map_eq_some_iff.1 h5.symm
        have := like i id q o' h3 hq h6
        refine ⟨q, hq, ?_⟩
        rw [← h7]
        cases o' <;> cases q <;> first | exact this | (cases md <;> first | exact this | (simp only [backO, Ob.like, List.length_map] at this ⊢; exact this))
      · rw [gam_ge (by omega)] at hg; omega
    · exact ⟨o, h2, by cases o <;> simp [Ob.like]⟩
  have hi : ∀ x : MC, x.bd s.n → ∀ u, RC (look s.st) L w F x u → RC (look (conS md s β os').st) Ln w' (newF F F1 N) x u := fun x hx u hr => by
    cases x with
    | dead => exact hr
    | sc u => exact hr
    | nil => exact hr
    | own => exact hr.elim
    | fz rows => exact RF.mono (fun b hb => hw b (.inl hb)) (fun b hb => Or.inl hb) hr
    | ag rows => exact RF.mono hw (fun b hb => hb.imp Or.inl id) hr
    | tr o B u' rows => exact ⟨hr.1, fun b hb => ⟨(hr.2.1 b hb).1.imp Or.inl id, fun ho => ⟨.inl ((hr.2.1 b hb).2 ho).1, ((hr.2.1 b hb).2 ho).2⟩⟩, hr.2.2.mono fun b hb => hw b (hr.2.1 b hb).1⟩
    | fptr cells =>
      obtain ⟨b, o, h1, h2, h3⟩ := hr
      exact ⟨b, o, .inl h1, h2, fun j c hj => by
        obtain ⟨u, h4, h5⟩ := h3 j c hj
        exact ⟨u, by rw [World.cell?_of_block (w := w) (hw b (.inl h1))]; exact h4, h5.mono (fun b hb => hw b (.inl hb)) fun b hb => Or.inl hb⟩⟩
    | aptr cells =>
      obtain ⟨b, o, h1, h2, h3⟩ := hr
      exact ⟨b, o, h1.imp Or.inl id, h2, fun j c hj => by
        obtain ⟨u, h4, h5⟩ := h3 j c hj
        exact ⟨u, by rw [World.cell?_of_block (w := w) (hw b h1)]; exact h4, h5.mono hw fun b hb => hb.imp Or.inl id⟩⟩
    | ref id off len =>
      refine ⟨hr.1, fun rows hrw => ?_⟩
      obtain ⟨q, hq, hlike⟩ := hold id _ hrw hx
      cases q with
      | box cs => exact hlike.elim
      | arr rows0 =>
        have hlike : rows0.length ≤ rows.length := hlike
        obtain ⟨a, cap, h1, h2, h3⟩ := hr.2 rows0 hq
        refine ⟨a, cap, h1, Nat.le_trans h2 hlike, h3.imp (fun ⟨b, t, h4, h5, h6, h7, h8⟩ => ⟨b, t, by rw [hLlow id hx]; exact h4, h5, h6, fun e => h7 ?_, fun j hj => post.kc b j (h.own id b t (by rw [hq]; rfl) h4).2.1 (h8 j hj)⟩) fun h => h⟩
        rw [e] at hlike
        exact List.eq_nil_of_length_eq_zero (Nat.le_zero.1 hlike)
    | ptr id row off =>
      refine ⟨hr.1, fun hsm => ?_⟩
      obtain ⟨o, ho⟩ := Option.isSome_iff_exists.1 hsm
      obtain ⟨q, hq, _⟩ := hold id o ho hx
      obtain ⟨b, t, h1, h2⟩ := hr.2 (by rw [hq]; rfl)
      exact ⟨b, t, by rw [hLlow id hx]; exact h1, h2⟩
  -- what a name's block is
  have hcase : ∀ id b t, (look (conS md s β os').st id).isSome = true → Ln id = some (b, t) → (id < s.n ∧ (look s.st id).isSome = true ∧ L id = some (b, t)) ∨ (∃ i, k ≤ i ∧ i < os'.length ∧ id = gam s.n β i ∧ L' i = some (b, t)) := fun id b t h1 h2 => by
    obtain ⟨o, ho⟩ := Option.isSome_iff_exists.1 h1
    by_cases hid : id < s.n
    · obtain ⟨q, hq, _⟩ := hold id o ho hid
      exact .inl ⟨hid, by rw [hq]; rfl, by rw [← hLlow id hid]; exact h2⟩
    · rcases hlk.inv id o ho with ⟨i, hi', hg⟩ | ⟨_, h4⟩
      · refine .inr ⟨i, ?_, hi', hg, by rw [← hLn i hi', ← hg]; exact h2⟩
        by_cases hik : i < β.length
        · obtain ⟨id', h3, h4⟩ := gam_lt (n := s.n) hik
          have := hβ id' (List.mem_of_getElem? h3)
          rw [h4] at hg; omega
        · omega
      · exact absurd (hlt id o h4) hid
  refine ⟨Ln, (newF F F1 N), ⟨post.os.trans h.os, post.tape.trans h.tape, post.output.trans h.output, Nat.le_trans h.size post.size, ?_, ?_, fun i hi => ⟨(hLlow i (h.pin i hi).2).trans (h.pin i hi).1, Nat.lt_of_lt_of_le (h.pin i hi).2 (Nat.le_add_right _ _)⟩, h.fa, ?_, ?_, ?_, ?_, ?_, h.sz, ?_, ?_, ?_, h.df⟩, RV.back hlk hLn hFr post.bd post.rv, backV_bd hβ hl post.bd⟩
  · intro b hb hnw
    rw [post.keep b (Nat.lt_of_lt_of_le hb h.size) fun i t hi hL => ?_]
    · exact h.keep b hb hnw
    · by_cases hik : k ≤ i
      · rcases (hcs i t b hik hi hL).2.2.1 with h3 | h3
        · omega
        · exact hnw h3
      have hi : i < k := by omega
      obtain ⟨id, _, h1, h2⟩ := hblk i t b hi hL
      rcases (h.own id b t h1 h2).2.2 with h3 | h3
      · omega
      · exact hnw h3
  · exact fun b j hb hc => post.kc b j (Nat.lt_of_lt_of_le hb h.size) (h.kc b j hb hc)
  · rintro b (hb | hb)
    · exact h.fn b hb
    · rcases post.fr b hb.1 hb.2 with h1 | ⟨j, u, h1, h2, h3⟩
      · exact .inl (Nat.le_trans h.size h1.1)
      · exact (hcs j u b h1 h2 h3).2.2.1.imp (fun h => h) Or.inl
  · rintro b ((hb | hb) | hb)
    · exact Nat.lt_of_lt_of_le (h.fsz b (.inl hb)) post.size
    · rcases post.fr b hb.1 hb.2 with h1 | ⟨j, u, h1, h2, h3⟩
      · exact h1.2
      · exact Nat.lt_of_lt_of_le (hcs j u b h1 h2 h3).2.1 post.size
    · exact Nat.lt_of_lt_of_le (h.fsz b (.inr hb)) post.size
  · intro id o ho
    rcases hlk.inv id o ho with ⟨i, hi', hg⟩ | ⟨h1, h2⟩
    · have h5 := hlk.at_ i hi'
      rw [← hg, ho] at h5
      obtain ⟨o', h6, h7⟩ := Option.map_eq_some_iff.1 h5.symm
      rw [← h7, hg]
      exact ObOK.back hlk hLn hFr hi' (post.obs.bd o' (List.mem_of_getElem? h6)) (fix o' (List.mem_of_getElem? h6)) (post.obs.ob i o' h6)
    · exact (h.ob id o h2).imp (h.bst id o h2).2 (hLlow id (hlt id o h2)) (fun b t hL => hfr id b t h1 (by rw [h2]; rfl) hL) hi
  · intro id b t h1 h2
    rcases hcase id b t h1 h2 with ⟨h3, h4, h5⟩ | ⟨i, h3, h4, h5, h6⟩
    · have := h.own id b t h4 h5
      refine ⟨?_, Nat.lt_of_lt_of_le this.2.1 post.size, this.2.2⟩
      rintro ((hb | hb) | hb)
      · exact this.1 (.inl hb)
      · rcases post.fr b hb.1 hb.2 with h1 | ⟨j, u, h1, h2, h3'⟩
        · have := this.2.1; omega
        · exact (hcs j u b h1 h2 h3').2.2.2 id t h4 h5
      · exact this.1 (.inr hb)
    · have hnf := post.obs.nf i b t h4 h6
      have hnew : (¬ F.all b) ∧ (w0.heap.size ≤ b ∨ wr b) := by
        rcases post.new i b t h3 h4 h6 with hge | ⟨j, u, hj1, hj2, hj3⟩
        · exact ⟨fun hb => by have := h.fsz b hb; omega, .inl (Nat.le_trans h.size hge)⟩
        · have := hcs j u b hj1 hj2 hj3; exact ⟨this.1, this.2.2.1⟩
      refine ⟨?_, hnf.2, hnew.2⟩
      rintro ((hb | hb) | hb)
      · exact hnew.1 (.inl hb)
      · exact hnf.1 (.inl hb.1)
      · exact hnew.1 (.inr hb)
  · intro i j b t u h1 h2 h3 h4
    rcases hcase i b t h1 h3 with ⟨a1, a2, a3⟩ | ⟨i1, a1, a2, a3, a4⟩ <;> rcases hcase j b u h2 h4 with ⟨b1, b2, b3⟩ | ⟨j1, b1, b2, b3, b4⟩
    · exact h.inj i j b t u a2 b2 a3 b3
    · have := (h.own i b t a2 a3).2.1
      rcases post.new j1 b u b1 b2 b4 with hge | ⟨j', u', c1, c2, c3⟩
      · omega
      · exact absurd a3 ((hcs j' u' b c1 c2 c3).2.2.2 i t a2)
    · have := (h.own j b u b2 b3).2.1
      rcases post.new i1 b t a1 a2 a4 with hge | ⟨j', u', c1, c2, c3⟩
      · omega
      · exact absurd b3 ((hcs j' u' b c1 c2 c3).2.2.2 j u b2)
    · rw [a3, b3, post.obs.inj i1 j1 b t u a2 b2 a4 b4]
  · exact fun t x hx => (h.env t x hx).imp (h.ben t x hx) hi
  · intro id o ho
    rcases hlk.inv id o ho with ⟨i, hi', hg⟩ | ⟨h1, h2⟩
    · have h5 := hlk.at_ i hi'
      rw [← hg, ho] at h5
      obtain ⟨o', h6, h7⟩ := Option.map_eq_some_iff.1 h5.symm
      rw [← h7, hg]
      exact ⟨gam_bd hβ hl hi', backO_bd hβ hl (post.obs.bd o' (List.mem_of_getElem? h6)) (fix o' (List.mem_of_getElem? h6))⟩
    · exact ⟨Nat.lt_of_lt_of_le (hlt id o h2) (Nat.le_add_right _ _), (h.bst id o h2).2.mono (Nat.le_add_right _ _)⟩
  · exact fun t x hx => (h.ben t x hx).mono (Nat.le_add_right _ _)

end Mg

/- The abstract state logic, part 25: a call that hands objects over. No condition. -/
namespace Mg
open Go Go.RowKit
set_option linter.unusedVariables false

variable {P : Program} {T : Tab}

def delL (st : List (Nat × Ob)) : List Nat → List (Nat × Ob)
  | [] => st
  | id :: ids => delL (del st id) ids
def S.dels (s : S) (fs : List Nat) : S := { s with st := delL s.st fs }

/-- Objects that nobody writes any more. -/
theorem frz_all {w0 : World} {wr : Wr} {A : Nat → Prop} {L : Lay} {a : Act} {w : World} : ∀ (fs : List Nat) {s : S} {F : FF}, Rl w0 wr A L F s a w → fs.Nodup → (∀ id ∈ fs, ∃ rows, look s.st id = some (.arr rows) ∧ AllF rows) →
    ∃ F', Rl w0 wr A L F' (s.dels fs) a w ∧ F.le F' ∧ (∀ x u, RC (look s.st) L w F x u → RC (look (s.dels fs).st) L w F' x u) ∧ (∀ id, id ∉ fs → look (s.dels fs).st id = look s.st id) ∧
      ∀ id ∈ fs, ∀ rows, look s.st id = some (.arr rows) → ∀ off len v, RC (look s.st) L w F (.ref id off len) v → RF w F'.n (.fz ((rows.drop off).take len)) v
  | [], s, F, h, _, _ => ⟨F, h, .rfl, fun _ _ h => h, fun _ _ => rfl, fun id hid => by simp at hid⟩
  | id :: fs, s, F, h, hn, hfs => by
    obtain ⟨hid, hn⟩ := List.nodup_cons.1 hn
    obtain ⟨rows, hr, hall⟩ := hfs id (by simp)
    -- one object
    have hst : ∀ i, look (del s.st id) i = look s.st i ∨ look (del s.st id) i = none ∨ (look s.st i = none ∧ False) := fun i => by
      rw [look_del]
      by_cases e : i = id
      · rw [if_pos e]; exact .inr (.inl rfl)
      · rw [if_neg e]; exact .inl rfl
    have hone : ∃ F1, Rl w0 wr A L F1 { s with st := del s.st id } a w ∧ F.le F1 ∧ ∀ off len v, RC (look s.st) L w F (.ref id off len) v → RF w F1.n (.fz ((rows.drop off).take len)) v := by
      rcases h.ob id _ hr with ⟨he, hL⟩ | ⟨b, t, hL, hf, hs, hw⟩
      · refine ⟨F, h.drop id, .rfl, fun off len v hv => ?_⟩
        obtain ⟨a', cap, h1, h2, h3⟩ := hv.2 rows hr
        have hl0 : len = 0 := by rw [he] at h2; simp at h2; exact h2.2
        subst hl0
        rw [h1]; exact .nilz _ _
      · refine ⟨_, h.freeze hr hL, ⟨fun _ h => Or.inl h, fun _ h => h, fun _ h => h⟩, fun off len v hv => ?_⟩
        obtain ⟨bb, cap, h1, h2, h3⟩ := hv.2 rows hr
        have hlen : ((rows.drop off).take len).length = len := by simp; omega
        by_cases hn0 : len = 0
        · subst hn0; rw [h1]; exact .nilz _ _
        · obtain ⟨b', t', cap', hL', hv', _, hcap, _, _, hs', hw'⟩ := ref_row h hv hr hn0
          rw [hL] at hL'
          obtain ⟨rfl, rfl⟩ := Prod.mk.inj (Option.some.inj hL')
          rw [hv']
          have := RF.mk (w := w) (F := fun k => F.n k ∨ k = b) (rows := (rows.drop off).take len) (a := some ⟨b, off * t, none⟩) (cap := cap') (by omega) (fun _ => ⟨b, off * t, t, rfl, .inr rfl, fun r hr => hs' r (List.mem_of_mem_drop (List.mem_of_mem_take hr)), fun i j r c hi hj => by
            have hff := hall r (List.mem_of_mem_drop (List.mem_of_mem_take (List.mem_of_getElem? hi))) c (List.mem_of_getElem? hj)
            rw [List.getElem?_take] at hi
            split at hi
            · rw [List.getElem?_drop] at hi
              obtain ⟨u, hu, hru⟩ := hw' _ r hi j c hj
              refine ⟨u, ?_, RF.mono (fun _ _ => rfl) (fun b hb => Or.inl hb) (hru.to_RF hff)⟩
              rw [← hu]; congr 2; rw [Nat.add_mul]; omega
            · cases hi⟩)
          rwa [hlen] at this
    obtain ⟨F1, h1, hle, href⟩ := hone
    have hrc : ∀ x u, RC (look s.st) L w F x u → RC (look (del s.st id)) L w F1 x u := fun x u hx =>
      RC.mono (fun _ _ => rfl) hle hst (fun _ _ => rfl) (fun _ _ _ _ _ _ h => h) hx
    have hne : ∀ j, j ≠ id → look (del s.st id) j = look s.st j := fun j hj => by rw [look_del, if_neg hj]
    obtain ⟨F', g1, g2, g3, g4, g5⟩ := frz_all fs h1 hn (fun j hj => by
      obtain ⟨rows', h3, h4⟩ := hfs j (List.mem_cons_of_mem _ hj)
      exact ⟨rows', by show look (del s.st id) j = _; rw [hne j (fun e => hid (e ▸ hj))]; exact h3, h4⟩)
    refine ⟨F', g1, ⟨fun b hb => g2.n b (hle.n b hb), fun b hb => g2.a b (hle.a b hb), fun b hb => hle.r b (g2.r b hb)⟩, fun x u hx => g3 x u (hrc x u hx), fun j hj => ?_, fun j hj rows' hr' off len v hv => ?_⟩
    · have := g4 j (fun h => hj (List.mem_cons_of_mem _ h))
      rw [show look (s.dels (id :: fs)).st j = look (S.dels { s with st := del s.st id } fs).st j from rfl, this]
      exact hne j (fun e => hj (by simp [e]))
    · by_cases e : j = id
      · subst e
        rw [hr] at hr'
        obtain rfl : rows = rows' := by simpa using hr'
        exact RF.mono (fun _ _ => rfl) (fun b hb => g2.n b hb) (href off len v hv)
      · have hj' : j ∈ fs := by simpa [e] using hj
        exact g5 j hj' rows' (by show look (del s.st id) j = _; rw [hne j e]; exact hr') off len v (hrc _ v hv)

/- ------------------------------------------------ what is handed over -/
def idx : List Nat → Nat → Nat → Option Nat
  | [], _, _ => none
  | b :: β, k, id => match Nat.beq b id with
    | true => some k
    | false => idx β (k + 1) id
theorem idx_ok : ∀ {β : List Nat} {k id i : Nat}, idx β k id = some i → k ≤ i ∧ β[i - k]? = some id
  | [], k, id, i, h => by cases h
  | b :: β, k, id, i, h => by
    unfold idx at h
    split at h
    · rename_i hb
      obtain rfl := Option.some.inj h
      exact ⟨Nat.le_refl _, by simpa using Nat.eq_of_beq_eq_true hb⟩
    · obtain ⟨h1, h2⟩ := idx_ok h
      exact ⟨by omega, by rw [show i - k = (i - (k + 1)) + 1 by omega, List.getElem?_cons_succ]; exact h2⟩

/-- A cell as the callee sees it. -/
def passC (md : Bool) (s : S) (β fs : List Nat) : MC → Option MC
  | .sc v => some (.sc v)
  | .nil => some (.fz [])
  | .fz rows => some (.fz rows)
  | .ag rows => match md with
    | true => some (.fz rows)
    | false => some (.ag rows)
  | .ref id off len => match idx β 0 id with
    | some i => some (.ref i off len)
    | none => match fs.contains id, look s.st id with
      | true, some (.arr rows) => some (.fz ((rows.drop off).take len))
      | _, _ => none
  | .ptr id row off => (idx β 0 id).map fun i => .ptr i row off
  | _ => none
def passL (md : Bool) (s : S) (β fs : List Nat) : List MC → Option (List MC)
  | [] => some []
  | c :: cs => match passC md s β fs c, passL md s β fs cs with
    | some d, some ds => some (d :: ds)
    | _, _ => none
def passV (md : Bool) (s : S) (β fs : List Nat) : MV → Option MV
  | .one c => (passC md s β fs c).map .one
  | .agg cs => (passL md s β fs cs).map .agg
  | _ => none
def passA (md : Bool) (s : S) (β fs : List Nat) : List Operand → Option (List MV)
  | [] => some []
  | x :: xs => match (evO s x).bind (passV md s β fs), passA md s β fs xs with
    | some d, some ds => some (d :: ds)
    | _, _ => none
def MC.isc : MC → Bool
  | .sc _ => true
  | _ => false
def passO (md : Bool) (s : S) (β fs : List Nat) : List Nat → Option (Prop × List Ob)
  | [] => some (True, [])
  | id :: ids => match look s.st id, passO md s β fs ids with
    | some (.box cs), some (q, os) => (passL md s β fs cs).map fun ds => (q, .box ds :: os)
    | some (.arr rows), some (q, os) => some (AllF rows ∧ q, .arr rows :: os)
    | _, _ => none
/-- The objects whose slices are read alone. -/
def passF (s : S) : List Nat → Option Prop
  | [] => some True
  | id :: ids => match look s.st id, passF s ids with
    | some (.arr rows), some q => some (AllF rows ∧ q)
    | _, _ => none
theorem passF_ok {s : S} : ∀ {fs : List Nat} {q : Prop}, passF s fs = some q → q → ∀ id ∈ fs, ∃ rows, look s.st id = some (.arr rows) ∧ AllF rows
  | [], q, _, _, id, hid => by simp at hid
  | i :: fs, q, h, hq, id, hid => by
    simp only [passF] at h
    split at h
    · rename_i rows q' h1 h2
      obtain rfl := Option.some.inj h
      rcases List.mem_cons.1 hid with rfl | hid
      · exact ⟨rows, h1, hq.1⟩
      · exact passF_ok h2 hq.2 id hid
    · cases h

section
variable {w0 : World} {wr : Wr} {A0 : Nat → Prop} {L : Lay} {F F' : FF} {s : S} {a : Act} {w : World} {β fs : List Nat} {os : List Ob} {L0 : Lay} {md : Bool} {B BA : Nat → Prop}

structure PassOK (w : World) (L : Lay) (F F' : FF) (s : S) (β fs : List Nat) (os : List Ob) (L0 : Lay) (md : Bool) (B BA : Nat → Prop) : Prop where
  bn : ∀ b, F'.n b → B b
  bb : ∀ b, F'.all b → BA b
  ba : md = true → ∀ b, F'.all b → B b
  le : F.le F'
  lay : ∀ (i id : Nat), β[i]? = some id → L0 i = L id
  arr : ∀ (i id : Nat) (rows : List (List MC)), β[i]? = some id → os[i]? = some (.arr rows) → look s.st id = some (.arr rows)
  live : ∀ id ∈ β, (look s.st id).isSome = true
  len : os.length = β.length
  fz : ∀ id ∈ fs, ∀ rows, look s.st id = some (.arr rows) → ∀ off len v, RC (look s.st) L w F (.ref id off len) v → RF w F'.n (.fz ((rows.drop off).take len)) v

theorem passC_ok (hp : PassOK w L F F' s β fs os L0 md B BA) {c d : MC} {v : Value} (hc : RC (look s.st) L w F c v) (h : passC md s β fs c = some d) : RC (nth os) L0 w ⟨B, BA⟩ d v ∧ d.bd os.length := by
  have hF : ∀ b, F.n b → B b := fun b hb => hp.bn b (hp.le.n b hb)
  cases c <;> simp only [passC] at h
  case sc u => obtain rfl := Option.some.inj h; exact ⟨hc, trivial⟩
  case nil =>
    obtain rfl := Option.some.inj h
    obtain ⟨b, rfl⟩ := hc; exact ⟨RF.nilz b 0, trivial⟩
  case fz rows => obtain rfl := Option.some.inj h; exact ⟨RF.mono (fun _ _ => rfl) hF hc, trivial⟩
  case ag rows =>
    split at h
    · obtain rfl := Option.some.inj h
      exact ⟨RF.mono (fun _ _ => rfl) (fun b hb => hp.ba rfl b (hp.le.all b hb)) hc, trivial⟩
    · obtain rfl := Option.some.inj h
      exact ⟨RF.mono (fun _ _ => rfl) (fun b hb => .inr (hp.bb b (hp.le.all b hb))) hc, trivial⟩
  case ref id off len =>
    split at h
    · rename_i i hi
      obtain rfl := Option.some.inj h
      obtain ⟨_, hb⟩ := idx_ok hi
      have hlt := (List.getElem?_eq_some_iff.1 hb).1
      refine ⟨⟨hc.1, fun rows hr => ?_⟩, by show i < os.length; rw [hp.len]; simpa using hlt⟩
      obtain ⟨a', cap, h1, h2, h3⟩ := hc.2 rows (hp.arr i id rows hb hr)
      exact ⟨a', cap, h1, h2, h3.imp (fun ⟨b, t, h4, h5⟩ => ⟨b, t, by rw [hp.lay i id hb]; exact h4, h5⟩) fun h => h⟩
    · split at h
      · rename_i rows hfs hr
        obtain rfl := Option.some.inj h
        exact ⟨RF.mono (fun _ _ => rfl) hp.bn (hp.fz id (by simpa using hfs) rows hr off len v hc), trivial⟩
      · cases h
  case ptr id row off =>
    obtain ⟨i, hi, rfl⟩ := Option.map_eq_some_iff.1 h
    obtain ⟨_, hb⟩ := idx_ok hi
    have hlt := (List.getElem?_eq_some_iff.1 hb).1
    refine ⟨⟨hc.1, fun _ => ?_⟩, by show i < os.length; rw [hp.len]; simpa using hlt⟩
    obtain ⟨b, t, h1, h2⟩ := hc.2 (hp.live id (List.mem_of_getElem? hb))
    exact ⟨b, t, by rw [hp.lay i id hb]; exact h1, h2⟩
  all_goals cases h

theorem passL_ok (hp : PassOK w L F F' s β fs os L0 md B BA) : ∀ {cs ds : List MC}, passL md s β fs cs = some ds → ds.length = cs.length ∧ ∀ (j : Nat) (d : MC), ds[j]? = some d → ∃ c, cs[j]? = some c ∧ ∀ v, RC (look s.st) L w F c v → RC (nth os) L0 w ⟨B, BA⟩ d v ∧ d.bd os.length
  | [], ds, h => by obtain rfl := Option.some.inj h; exact ⟨rfl, fun j d hj => by simp at hj⟩
  | c :: cs, ds, h => by
    simp only [passL] at h
    split at h
    · rename_i d1 ds1 h1 h2
      obtain rfl := Option.some.inj h
      obtain ⟨h3, h4⟩ := passL_ok hp h2
      refine ⟨by simp [h3], fun j d hj => ?_⟩
      cases j with
      | zero => obtain rfl := Option.some.inj hj; exact ⟨c, rfl, fun v hv => passC_ok hp hv h1⟩
      | succ j => exact h4 j d hj
    · cases h

theorem passL_bd : ∀ {cs ds : List MC}, β.length = os.length → passL md s β fs cs = some ds → ∀ d ∈ ds, d.bd os.length
  | [], ds, _, h, d, hd => by obtain rfl := Option.some.inj h; simp at hd
  | c :: cs, ds, hl, h, d, hd => by
    simp only [passL] at h
    split at h
    · rename_i d1 ds1 h1 h2
      obtain rfl := Option.some.inj h
      rcases List.mem_cons.1 hd with rfl | hd
      · cases c <;> simp only [passC] at h1
        case ref id off len =>
          split at h1
          · rename_i i hi
            obtain rfl := Option.some.inj h1
            obtain ⟨_, hb⟩ := idx_ok hi
            have hlt := (List.getElem?_eq_some_iff.1 hb).1
            show i < os.length
            rw [← hl]; simpa using hlt
          · split at h1
            · obtain rfl := Option.some.inj h1; trivial
            · cases h1
        case ptr id row off =>
          obtain ⟨i, hi, rfl⟩ := Option.map_eq_some_iff.1 h1
          obtain ⟨_, hb⟩ := idx_ok hi
          have hlt := (List.getElem?_eq_some_iff.1 hb).1
          show i < os.length
          rw [← hl]; simpa using hlt
        case ag rows =>
          split at h1
          · obtain rfl := Option.some.inj h1; trivial
          · obtain rfl := Option.some.inj h1; trivial
        all_goals first | (obtain rfl := Option.some.inj h1; trivial) | cases h1
      · exact passL_bd hl h2 d hd
    · cases h

theorem passV_ok (hp : PassOK w L F F' s β fs os L0 md B BA) {x y : MV} {v : Value} (hx : RV (look s.st) L w F x v) (h : passV md s β fs x = some y) : RV (nth os) L0 w ⟨B, BA⟩ y v ∧ y.bd os.length := by
  cases x <;> simp only [passV] at h
  case one c =>
    obtain ⟨d, hd, rfl⟩ := Option.map_eq_some_iff.1 h
    exact passC_ok hp hx hd
  case agg cs =>
    obtain ⟨ds, hd, rfl⟩ := Option.map_eq_some_iff.1 h
    obtain ⟨arr, rfl, h1, h2⟩ := hx
    obtain ⟨h3, h4⟩ := passL_ok hp hd
    refine ⟨⟨arr, rfl, by rw [h1, h3], fun j d hj => ?_⟩, passL_bd hp.len.symm hd⟩
    obtain ⟨c, hc, hd'⟩ := h4 j d hj
    obtain ⟨u, hu, hr⟩ := h2 j c hc
    exact ⟨u, hu, (hd' u hr).1⟩
  all_goals cases h

theorem passA_ok (hr : Rl w0 wr A0 L F s a w) (hp : PassOK w L F F' s β fs os L0 md B BA) : ∀ {xs : List Operand} {ds : List MV}, passA md s β fs xs = some ds →
    ds.length = xs.length ∧ ∀ (j : Nat) (d : MV), ds[j]? = some d → ∃ v, (xs.map a.eval)[j]? = some v ∧ RV (nth os) L0 w ⟨B, BA⟩ d v ∧ d.bd os.length
  | [], ds, h => by obtain rfl := Option.some.inj h; exact ⟨rfl, fun j d hj => by simp at hj⟩
  | x :: xs, ds, h => by
    simp only [passA] at h
    split at h
    · rename_i d1 ds1 h1 h2
      obtain rfl := Option.some.inj h
      obtain ⟨h3, h4⟩ := passA_ok hr hp h2
      obtain ⟨mv, hmv, hlv⟩ := Option.bind_eq_some_iff.1 h1
      refine ⟨by simp [h3], fun j d hj => ?_⟩
      cases j with
      | zero => obtain rfl := Option.some.inj hj; exact ⟨_, rfl, passV_ok hp (evO_ok hr hmv).1 hlv⟩
      | succ j => exact h4 j d hj
    · cases h
end


inductive PassOb (md : Bool) (s : S) (β fs : List Nat) : Ob → Ob → Prop
  | box {cs ds : List MC} (h : passL md s β fs cs = some ds) : PassOb md s β fs (.box cs) (.box ds)
  | arr {rows : List (List MC)} (h : AllF rows) : PassOb md s β fs (.arr rows) (.arr rows)

theorem passO_ok {md : Bool} {s : S} {β fs : List Nat} : ∀ {ids : List Nat} {q : Prop} {os : List Ob}, passO md s β fs ids = some (q, os) → q → os.length = ids.length ∧ ∀ (i id : Nat), ids[i]? = some id → ∃ o o', look s.st id = some o ∧ os[i]? = some o' ∧ PassOb md s β fs o o'
  | [], q, os, h, _ => by
    obtain ⟨_, rfl⟩ := Prod.mk.inj (Option.some.inj h)
    exact ⟨rfl, fun i id hi => by simp at hi⟩
  | id :: ids, q, os, h, hq => by
    simp only [passO] at h
    split at h
    · rename_i cs q' os' h1 h2
      obtain ⟨ds, hd, he⟩ := Option.map_eq_some_iff.1 h
      obtain ⟨rfl, rfl⟩ := Prod.mk.inj he
      obtain ⟨h3, h4⟩ := passO_ok h2 hq
      refine ⟨by simp [h3], fun i id' hi => ?_⟩
      cases i with
      | zero => obtain rfl : id = id' := by simpa using hi
                exact ⟨_, _, h1, rfl, .box hd⟩
      | succ i => exact h4 i id' (by simpa using hi)
    · rename_i rows q' os' h1 h2
      obtain ⟨rfl, rfl⟩ := Prod.mk.inj (Option.some.inj h)
      obtain ⟨h3, h4⟩ := passO_ok h2 hq.2
      refine ⟨by simp [h3], fun i id' hi => ?_⟩
      cases i with
      | zero => obtain rfl : id = id' := by simpa using hi
                exact ⟨_, _, h1, rfl, .arr hq.1⟩
      | succ i => exact h4 i id' (by simpa using hi)
    · cases h

def likeL : List Ob → List Ob → Prop
  | [], _ => True
  | .box _ :: os, .box _ :: os' => likeL os os'
  | .arr r :: os, .arr r' :: os' => r.length ≤ r'.length ∧ likeL os os'
  | _, _ => False
theorem likeL_ok : ∀ {os os' : List Ob}, likeL os os' → ∀ (i : Nat) (o o' : Ob), os[i]? = some o → os'[i]? = some o' → o.like o'
  | [], _, _, i, o, o', h, _ => by simp at h
  | x :: os, [], hl, i, o, o', h, h' => by simp at h'
  | x :: os, y :: os', hl, i, o, o', h, h' => by
    cases i with
    | zero =>
      obtain rfl : x = o := by simpa using h
      obtain rfl : y = o' := by simpa using h'
      cases x <;> cases y <;> first | exact hl.1 | trivial | exact hl.elim
    | succ i =>
      have : likeL os os' := by cases x <;> cases y <;> first | exact hl.2 | exact hl | exact hl.elim
      exact likeL_ok this i o o' (by simpa using h) (by simpa using h')
def fixL (md : Bool) : List Ob → Prop
  | [] => True
  | .box _ :: os => fixL md os
  | .arr rows :: os => (match md with
    | true => True
    | false => AllF rows) ∧ fixL md os
theorem fixL_ok {md : Bool} {n : Nat} {β : List Nat} : ∀ {os : List Ob}, fixL md os → ∀ o ∈ os, fixO md n β o
  | [], _, o, h => by simp at h
  | x :: os, hl, o, h => by
    rcases List.mem_cons.1 h with rfl | h
    · cases o with
      | box cs => trivial
      | arr rows =>
        intro hmd r hr c hc
        cases md with
        | true => cases hmd
        | false =>
          have := hl.1 r hr c hc
          cases c <;> first | rfl | (simp [MC.frz] at this)
    · exact fixL_ok (by cases x <;> first | exact hl.2 | exact hl) o h

theorem look_delL : ∀ (ids : List Nat) (st : List (Nat × Ob)) (i : Nat), look (delL st ids) i = if i ∈ ids then none else look st i
  | [], st, i => by simp [delL]
  | id :: ids, st, i => by
    rw [delL, look_delL ids, look_del]
    by_cases h1 : i ∈ ids
    · simp [h1]
    · by_cases h2 : i = id <;> simp [h1, h2]
theorem Rl.drops {w0 : World} {wr : Wr} {A : Nat → Prop} {L : Lay} {F : FF} {a : Act} {w : World} : ∀ (ids : List Nat) {s : S}, Rl w0 wr A L F s a w → Rl w0 wr A L F (s.dels ids) a w
  | [], s, h => h
  | id :: ids, s, h => Rl.drops ids (s := { s with st := del s.st id }) (h.drop id)

/-- A CALL that hands the objects β over, uses cs up, and reads fs (which nobody writes any more). -/
theorem r_con {o : Oper} {s : S} {K : S → Prop} {f : Nat} {xs : Array Operand} {ts : Array TypeId} {md : Bool} {β cs fs : List Nat} {q1 q2 : Prop} {ds : List MV} {os : List Ob} {D : Type} {p : D → Prop} {r : D → MV} {os' : D → List Ob}
    (ho : o.op = .call { callee := .value (.func f), args := xs, argTypes := ts }) (hd : Oper.dok o s.m = true) (hn : ((β ++ cs) ++ fs).Nodup) (hf : passF s fs = some q1) (hq1 : q1) (hob : passO md s (β ++ cs) fs (β ++ cs) = some (q2, os)) (hq2 : q2)
    (ha : passA md s (β ++ cs) fs xs.toList = some ds) (hc : Con P f ds os β.length p r os') (hlk : ∀ d, p d → likeL (os.take β.length) (os' d)) (hfx : ∀ d, p d → fixL md (os' d))
    (k : ∀ d, p d → K ((conS md ((s.dels fs).dels cs) β (os' d)).put o.dst (backV md s.n β (r d)))) : OpOK P o s K := by
  intro w0 wr A a w Q K' hg ⟨L, F, hR⟩ hK
  obtain ⟨⟨fn, hfn, hname, hbody⟩, hc⟩ := hc
  obtain ⟨hnβc, hnf, hdis⟩ := List.nodup_append.1 hn
  obtain ⟨hnβ, hnc, hdc⟩ := List.nodup_append.1 hnβc
  obtain ⟨F', hR1, hle, hrc, hout, hfz⟩ := frz_all fs hR hnf (passF_ok hf hq1)
  obtain ⟨hlen, hpo⟩ := passO_ok hob hq2
  let L0 : Lay := fun i => match (β ++ cs)[i]? with
    | some id => L id
    | none => none
  have hL0 : ∀ (i id : Nat), (β ++ cs)[i]? = some id → L0 i = L id := fun i id h => by simp only [L0, h]
  let B : Nat → Prop := fun b => F'.n b ∨ (md = true ∧ F'.all b)
  have hBa : ∀ b, B b → F'.all b := fun b hb => hb.elim Or.inl fun h => h.2
  let BA : Nat → Prop := F'.all
  have hp : PassOK w L F F' s (β ++ cs) fs os L0 md B BA := ⟨fun b hb => .inl hb, fun b hb => hb, fun hm b hb => .inr ⟨hm, hb⟩, hle, hL0, fun i id rows hi hr => by
      obtain ⟨o1, o2, h1, h2, h3⟩ := hpo i id hi
      rw [h2] at hr
      obtain rfl := Option.some.inj hr
      cases h3
      exact h1, fun id hid => by
      obtain ⟨i, hi⟩ := List.getElem?_of_mem hid
      obtain ⟨o1, o2, h1, _⟩ := hpo i id hi
      rw [h1]; rfl, hlen, hfz⟩
  have hlive1 : ∀ id ∈ β ++ cs, (look (s.dels fs).st id).isSome = true := fun id hid => by
    rw [hout id (fun h => hdis id hid id h rfl)]; exact hp.live id hid
  have hget : ∀ i, i < os.length → ∃ id, (β ++ cs)[i]? = some id := fun i hi => ⟨_, List.getElem?_eq_getElem (by omega)⟩
  obtain ⟨h1, h2⟩ := passA_ok hR hp ha
  have hrun : (execOp a.eval o).run P w = .ok (.enter f (xs.map a.eval)) w := by
    simp only [execOp, ho, resolve, Act.eval, Deferred.ofValue, Sem.run_bind, Sem.run_pure, Result.andThen_ok, invoke, callFunc, run_program, hfn, hname, hbody]
    simp
  unfold Oper.wp
  rw [hrun]
  show Calls P f (xs.map a.eval) w _
  have hobs : ObsOK w ⟨B, BA⟩ L0 os := by
    refine ⟨fun i x hx => ?_, fun i j b t u hi hj h3 h4 => ?_, fun i b t hi h3 => ?_, fun x hx => ?_⟩
    · have hi := (List.getElem?_eq_some_iff.1 hx).1
      obtain ⟨id, hid⟩ := hget i hi
      obtain ⟨o1, o2, g1, g2, g3⟩ := hpo i id hid
      rw [hx] at g2
      obtain rfl := Option.some.inj g2
      have hok := hR.ob id o1 g1
      cases g3 with
      | box hcs =>
        obtain ⟨b, t, h3, h4, h5⟩ := hok
        obtain ⟨_, hpl⟩ := passL_ok hp hcs
        refine ⟨b, t, by rw [hL0 i id hid]; exact h3, h4, fun j d hj => ?_⟩
        obtain ⟨c, hcj, hcd⟩ := hpl j d hj
        obtain ⟨u, hu, hru⟩ := h5 j c hcj
        exact ⟨u, hu, (hcd u hru).1⟩
      | arr hsc =>
        rcases hok with ⟨h3, h4⟩ | ⟨b, t, h3, h4, h5, h6⟩
        · exact .inl ⟨h3, by rw [hL0 i id hid]; exact h4⟩
        · refine .inr ⟨b, t, by rw [hL0 i id hid]; exact h3, h4, h5, fun kk r hr j c hj => ?_⟩
          obtain ⟨u, hu, hru⟩ := h6 kk r hr j c hj
          refine ⟨u, hu, ?_⟩
          have := hsc r (List.mem_of_getElem? hr) c (List.mem_of_getElem? hj)
          exact RC.of_RF (RF.mono (fun _ _ => rfl) (fun b hb => .inl (hle.n b hb)) (hru.to_RF this))
    · obtain ⟨id, hid⟩ := hget i hi
      obtain ⟨jd, hjd⟩ := hget j hj
      rw [hL0 i id hid] at h3
      rw [hL0 j jd hjd] at h4
      have e := hR.inj id jd b t u (hp.live id (List.mem_of_getElem? hid)) (hp.live jd (List.mem_of_getElem? hjd)) h3 h4
      subst e
      have g1 := List.getElem?_eq_some_iff.1 hid
      have g2 := List.getElem?_eq_some_iff.1 hjd
      rcases Nat.lt_trichotomy i j with hij | hij | hij
      · exact absurd (g1.2.trans g2.2.symm) (List.pairwise_iff_getElem.1 hnβc i j g1.1 g2.1 hij)
      · exact hij
      · exact absurd (g2.2.trans g1.2.symm) (List.pairwise_iff_getElem.1 hnβc j i g2.1 g1.1 hij)
    · obtain ⟨id, hid⟩ := hget i hi
      rw [hL0 i id hid] at h3
      have := hR1.own id b t (hlive1 id (List.mem_of_getElem? hid)) h3
      exact ⟨fun hb => this.1 (hb.elim (hBa b) fun h => h), this.2.1⟩
    · obtain ⟨i, hx⟩ := List.getElem?_of_mem hx
      have hi := (List.getElem?_eq_some_iff.1 hx).1
      obtain ⟨id, hid⟩ := hget i hi
      obtain ⟨o1, o2, g1, g2, g3⟩ := hpo i id hid
      rw [hx] at g2
      obtain rfl := Option.some.inj g2
      cases g3 with
      | box hcs => exact passL_bd hlen.symm hcs
      | arr hsc =>
        intro r hr c hc
        exact MC.bd_frz (hsc r hr c hc)
  refine (hc w B BA L0 (xs.map a.eval) (by simp [h1]) (fun b hb => hR1.fsz b hb) hBa hobs (fun j x hj => by
    obtain ⟨v, hv, hx⟩ := h2 j x hj
    exact ⟨v, by simpa using hv, hx⟩) (hg.gt.move hR.size fun g h1 h2 => ⟨hR.keep g h1 h2, fun ⟨i, t, hi, hL⟩ => by
    obtain ⟨id, hid⟩ := hget i hi
    rw [hL0 i id hid] at hL
    rcases (hR1.own id g t (hlive1 id (List.mem_of_getElem? hid)) hL).2.2 with h3 | h3
    · omega
    · exact h2 h3⟩)).mono fun e w' ⟨d, v, L', F1, he, hpd, hpost⟩ => ?_
  subst he
  have hR2 := hR1.drops cs
  have hβget : ∀ (i id : Nat), β[i]? = some id → (β ++ cs)[i]? = some id := fun i id hi => by
    rw [List.getElem?_append_left (List.getElem?_eq_some_iff.1 hi).1]; exact hi
  have hlk2 : ∀ id, id ∉ cs → look ((s.dels fs).dels cs).st id = look (s.dels fs).st id := fun id hid => by
    show look (delL (s.dels fs).st cs) id = _
    rw [look_delL, if_neg hid]
  obtain ⟨L2, F2, hR3, hrv, hbd⟩ := con_core hR2 (md := md) hnβ rfl (fun i id hi => hL0 i id (hβget i id hi)) (fun id hid => by
      rw [hlk2 id (fun h => hdc id hid id h rfl)]; exact hlive1 id (List.mem_append.2 (.inl hid))) (fun b hb => hb) hBa (fun hm b hb => by
      rcases hb with h | ⟨h, _⟩
      · exact h
      · rw [hm] at h; cases h) hpost (fun i t b hi1 hi2 hL => by
      obtain ⟨id, hid⟩ := hget i hi2
      rw [hL0 i id hid] at hL
      have hidm := List.mem_of_getElem? hid
      have hidc : id ∈ cs := by
        rw [List.getElem?_append_right hi1] at hid
        exact List.mem_of_getElem? hid
      have ho := hR1.own id b t (hlive1 id hidm) hL
      refine ⟨ho.1, ho.2.1, ho.2.2, fun id' t' h3 h4 => ?_⟩
      by_cases hc' : id' ∈ cs
      · rw [show look ((s.dels fs).dels cs).st id' = none from by
          show look (delL (s.dels fs).st cs) id' = none
          rw [look_delL, if_pos hc']] at h3
        cases h3
      · rw [hlk2 id' hc'] at h3
        exact hc' (hR1.inj id' id b t' t h3 (hlive1 id hidm) h4 hL ▸ hidc)) (fun i id x x' hi hx hx' => by
      have hiβ := (List.getElem?_eq_some_iff.1 hi).1
      obtain ⟨o1, o2, g1, g2, g3⟩ := hpo i id (hβget i id hi)
      rw [hlk2 id (fun h => hdc id (List.mem_of_getElem? hi) id h rfl), hout id (fun h => hdis id (List.mem_append.2 (.inl (List.mem_of_getElem? hi))) id h rfl), g1] at hx
      obtain rfl := Option.some.inj hx
      have := likeL_ok (hlk d hpd) i o2 x' (by rw [List.getElem?_take, if_pos hiβ]; exact g2) hx'
      cases g3 <;> cases x' <;> exact this) (fixL_ok (hfx d hpd))
  exact hK _ _ _ ⟨L2, F2, hR3.put (fun x hx => Oper.dok_spec hd x hx) hrv hbd⟩ (k d hpd)

end Mg
