/- The abstract state logic, part 3: stores, weakening, freezing. No condition. -/
import Derived.Test.YthflichlfpmenaaGreatMg2
namespace Mg
open Go Go.RowKit

def upd {α : Type} : List (Nat × α) → Nat → α → List (Nat × α)
  | [], _, _ => []
  | (k, v) :: l, j, x => if j = k then (k, x) :: l else (k, v) :: upd l j x
theorem upd_cons {α : Type} (k : Nat) (v : α) (l : List (Nat × α)) (j : Nat) (x : α) : upd ((k, v) :: l) j x = if j = k then (k, x) :: l else (k, v) :: upd l j x := rfl
theorem look_upd {α : Type} : ∀ (l : List (Nat × α)) (j : Nat) (x : α) (i : Nat), look (upd l j x) i = if i = j ∧ (look l j).isSome = true then some x else look l i
  | [], j, x, i => by simp [upd]
  | (k, v) :: l, j, x, i => by
    by_cases e : j = k
    · subst e
      by_cases ei : i = j
      · subst ei; simp [upd, look_cons]
      · simp [upd, look_cons, ei]
    · by_cases ei : i = k
      · subst ei
        have e' : ¬ i = j := fun h => e h.symm
        simp [upd, look_cons, e, e']
      · simp only [upd_cons, look_cons, e, ei, if_false]
        rw [look_upd l j x i]

def del {α : Type} : List (Nat × α) → Nat → List (Nat × α)
  | [], _ => []
  | (k, v) :: l, j => if j = k then del l j else (k, v) :: del l j
theorem del_cons {α : Type} (k : Nat) (v : α) (l : List (Nat × α)) (j : Nat) : del ((k, v) :: l) j = if j = k then del l j else (k, v) :: del l j := rfl
theorem look_del {α : Type} : ∀ (l : List (Nat × α)) (j : Nat) (i : Nat), look (del l j) i = if i = j then none else look l i
  | [], j, i => by simp [del]
  | (k, v) :: l, j, i => by
    by_cases e : j = k
    · subst e
      simp only [del_cons, if_true, look_del l j i, look_cons]
      by_cases ei : i = j <;> simp [ei]
    · by_cases ei : i = k
      · subst ei
        have e' : ¬ i = j := fun h => e h.symm
        simp [del_cons, look_cons, e, e']
      · simp only [del_cons, look_cons, e, ei, if_false]
        rw [look_del l j i]

theorem heap_setCells (b : Nat) : ∀ (vs : List Value) (o : Nat) (w : World) (k : Nat), k ≠ b → (w.setCells b o vs).heap[k]? = w.heap[k]?
  | [], _, _, _, _ => rfl
  | v :: r, o, w, k, h => by
    rw [World.setCells, heap_setCells b r (o + 1) _ k h]
    exact Below.heap_setCell w ⟨b, o, none⟩ v k h
theorem size_setCells (b : Nat) : ∀ (vs : List Value) (o : Nat) (w : World), (w.setCells b o vs).heap.size = w.heap.size
  | [], _, _ => rfl
  | v :: r, o, w => by
    rw [World.setCells, size_setCells b r (o + 1)]
    simp [World.setCell]
theorem os_setCells (b : Nat) : ∀ (vs : List Value) (o : Nat) (w : World), (w.setCells b o vs).os = w.os ∧ (w.setCells b o vs).tape = w.tape ∧ (w.setCells b o vs).output = w.output
  | [], _, _ => ⟨rfl, rfl, rfl⟩
  | v :: r, o, w => by
    have := os_setCells b r (o + 1) (w.setCell ⟨b, o, none⟩ v)
    exact this
theorem some_setCells (b : Nat) (vs : List Value) (o : Nat) (w : World) (hv : ∀ j, j < vs.length → (w.cell? ⟨b, o + j, none⟩).isSome = true) (x : Addr) (h : (w.cell? x).isSome = true) :
    ((w.setCells b o vs).cell? x).isSome = true := by
  by_cases hx : x.block = b ∧ x.spot = none ∧ o ≤ x.off ∧ x.off < o + vs.length
  · obtain ⟨rfl, h2, h3, h4⟩ := hx
    obtain ⟨bb, off, spot⟩ := x
    simp only at h2 h3 h4 hv ⊢
    subst h2
    have := World.cell?_setCells_in bb vs o w hv (off - o) (by omega)
    rw [show o + (off - o) = off by omega] at this
    rw [this]; rfl
  · rw [World.cell?_setCells_out b vs o w x (fun h1 h2 => by
      by_cases h3 : o ≤ x.off
      · by_cases h4 : x.off < o + vs.length
        · exact absurd ⟨h1, h2, h3, h4⟩ hx
        · exact .inr (by omega)
      · exact .inl (by omega))]
    exact h

def S.set (s : S) (id : Nat) (o : Ob) : S := { s with st := upd s.st id o }

/-- The kind of an object that takes another's place. -/
def Ob.like : Ob → Ob → Prop
  | .box _, .box _ => True
  | .arr r, .arr r' => r.length ≤ r'.length
  | _, _ => False

theorem RC.set {st : List (Nat × Ob)} {id : Nat} {o o' : Ob} {L : Lay} {F : FF} {w w' : World} (hid : look st id = some o) (hk : o.like o')
    (hw : ∀ b, F.all b → w'.heap[b]? = w.heap[b]?)
    (hc : ∀ i b t j, (look st i).isSome = true → L i = some (b, t) → (w.cell? ⟨b, j, none⟩).isSome = true → (w'.cell? ⟨b, j, none⟩).isSome = true)
    {c : MC} {v : Value} (h : RC (look st) L w F c v) : RC (look (upd st id o')) L w' F c v := by
  have h1 : RC (look st) L w' F c v := h.same hw .rfl (fun _ _ => rfl) hc
  cases c with
  | ref i off len =>
    refine ⟨h1.1, fun rows hr => ?_⟩
    rw [look_upd] at hr
    by_cases e : i = id
    · subst e
      rw [if_pos ⟨rfl, by rw [hid]; rfl⟩] at hr
      obtain rfl := Option.some.inj hr
      cases o with
      | box cs => exact hk.elim
      | arr r =>
        obtain ⟨a, cap, hv, hl, hx⟩ := h1.2 r hid
        refine ⟨a, cap, hv, Nat.le_trans hl hk, hx.imp (fun ⟨b, s, h1, h2, h3, h4, h5⟩ => ⟨b, s, h1, h2, h3, fun e => h4 ?_, h5⟩) id⟩
        have hk : r.length ≤ rows.length := hk
        rw [e] at hk
        exact List.eq_nil_of_length_eq_zero (Nat.le_zero.1 hk)
    · rw [if_neg (fun hh => e hh.1)] at hr
      exact h1.2 rows hr
  | ptr i row off =>
    refine ⟨h1.1, fun hr => h1.2 ?_⟩
    rw [look_upd] at hr
    by_cases e : i = id
    · subst e; rw [hid]; rfl
    · rw [if_neg (fun hh => e hh.1)] at hr; exact hr
  | _ => exact h1

section
variable {w0 : World} {wr : Wr} {A : Nat → Prop} {L : Lay} {F : FF} {s : S} {a : Act} {w : World}

theorem look_set_ne {id i : Nat} {o : Ob} (h : i ≠ id) : look (s.set id o).st i = look s.st i := by
  simp [S.set, look_upd, h]
theorem look_set_some {id : Nat} {o o' : Ob} (h : look s.st id = some o) (i : Nat) : (look (s.set id o').st i).isSome = (look s.st i).isSome := by
  by_cases e : i = id
  · subst e; simp [S.set, look_upd, h]
  · rw [look_set_ne e]

/-- A store into a live object. -/
theorem Rl.store (h : Rl w0 wr A L F s a w) {id b t p : Nat} {o o' : Ob} {vs : List Value} (hid : look s.st id = some o) (hL : L id = some (b, t)) (hk : o.like o')
    (hcs : ∀ j, j < vs.length → (w.cell? ⟨b, p + j, none⟩).isSome = true) (hb : o'.bd s.n)
    (ho : (∀ x : MC, ∀ u, RC (look s.st) L w F x u → RC (look (s.set id o').st) L (w.setCells b p vs) F x u) → ObOK (look (s.set id o').st) L (w.setCells b p vs) F id o') :
    Rl w0 wr A L F (s.set id o') a (w.setCells b p vs) := by
  have hlive := h.own id b t (by simp [hid]) hL
  have hold : ∀ k, k ≠ b → (w.setCells b p vs).heap[k]? = w.heap[k]? := fun k hk => heap_setCells b vs p w k hk
  have hFb : ∀ k, F.all k → k ≠ b := fun k hk e => hlive.1 (e ▸ hk)
  have hi : ∀ x : MC, ∀ u, RC (look s.st) L w F x u → RC (look (s.set id o').st) L (w.setCells b p vs) F x u := fun x u hr =>
    RC.set hid hk (fun k hk => hold k (hFb k hk)) (fun i k t' j _ _ hj => some_setCells b vs p w hcs _ hj) hr
  obtain ⟨e1, e2, e3⟩ := os_setCells b vs p w
  refine ⟨e1.trans h.os, e2.trans h.tape, e3.trans h.output, ?_, ?_, fun k j hk hc => some_setCells b vs p w hcs _ (h.kc k j hk hc), h.pin, h.fa, h.fn, ?_, ?_, ?_, ?_, h.sz, ?_, ?_, h.ben, h.df⟩
  · rw [size_setCells]; exact h.size
  · intro k hk hn
    rw [hold k (fun e => ?_)]
    · exact h.keep k hk hn
    · subst e
      rcases hlive.2.2 with h1 | h1
      · omega
      · exact hn h1
  · intro k hk; rw [size_setCells]; exact h.fsz k hk
  · intro i x hx
    by_cases e : i = id
    · subst e
      have : x = o' := by simpa [S.set, look_upd, hid] using hx.symm
      subst this
      exact ho hi
    · rw [look_set_ne e] at hx
      exact (h.ob i x hx).imp (h.bst i x hx).2 rfl (fun k t' hk => hold k (fun ek => e (h.inj i id k t' t (by simp [hx]) (by simp [hid]) hk (ek ▸ hL)))) (fun x _ u hr => hi x u hr)
  · intro i k t' h1 h2
    rw [look_set_some hid] at h1
    rw [size_setCells]
    exact h.own i k t' h1 h2
  · intro i j k t1 t2 h1 h2 h3 h4
    rw [look_set_some hid] at h1 h2
    exact h.inj i j k t1 t2 h1 h2 h3 h4
  · intro t' v hv
    exact (h.env t' v hv).imp (h.ben t' v hv) (fun x _ u hr => hi x u hr)
  · intro i x hx
    by_cases e : i = id
    · subst e
      have : x = o' := by simpa [S.set, look_upd, hid] using hx.symm
      subst this
      exact ⟨(h.bst i o hid).1, hb⟩
    · rw [look_set_ne e] at hx
      exact h.bst i x hx

/-- Less is known. -/
structure Sub (s' s : S) : Prop where
  m : s'.m = s.m
  env : ∀ t v, look s'.env t = some v → look s.env t = some v ∧ v.bd s'.n
  st : ∀ id o, look s'.st id = some o → look s.st id = some o ∧ id < s'.n ∧ o.bd s'.n

theorem Rl.weaken (h : Rl w0 wr A L F s a w) {s' : S} (hs : Sub s' s) (hn : ∀ i, i < wr.k → i < s'.n) : Rl w0 wr A L F s' a w := by
  have hst : ∀ id, look s'.st id = look s.st id ∨ look s'.st id = none ∨ (look s.st id = none ∧ False) := fun id => by
    cases he : look s'.st id with
    | none => exact .inr (.inl rfl)
    | some o => exact .inl (hs.st id o he).1.symm
  have hsome : ∀ id, (look s'.st id).isSome = true → (look s.st id).isSome = true := fun id hid => by
    obtain ⟨o, ho⟩ := Option.isSome_iff_exists.1 hid
    rw [(hs.st id o ho).1]; rfl
  have hi : ∀ x : MC, ∀ u, RC (look s.st) L w F x u → RC (look s'.st) L w F x u := fun x u hr =>
    RC.mono (fun _ _ => rfl) .rfl hst (fun _ _ => rfl) (fun _ _ _ _ _ _ h => h) hr
  refine ⟨h.os, h.tape, h.output, h.size, h.keep, h.kc, fun i hi => ⟨(h.pin i hi).1, hn i hi⟩, h.fa, h.fn, h.fsz, ?_, ?_, ?_, h.sz.trans hs.m.symm, ?_, ?_, ?_, h.df⟩
  · intro id o ho
    exact (h.ob id o (hs.st id o ho).1).imp (hs.st id o ho).2.2 rfl (fun _ _ _ => rfl) (fun x _ u hr => hi x u hr)
  · exact fun id b t h1 h2 => h.own id b t (hsome id h1) h2
  · exact fun i j b t u h1 h2 h3 h4 => h.inj i j b t u (hsome i h1) (hsome j h2) h3 h4
  · exact fun t v hv => (h.env t v (hs.env t v hv).1).imp (hs.env t v hv).2 (fun x _ u hr => hi x u hr)
  · exact fun id o ho => (hs.st id o ho).2
  · exact fun t v hv => (hs.env t v hv).2

/-- More is frozen than before: a live object that nobody writes any more. -/
theorem Rl.freeze (h : Rl w0 wr A L F s a w) {id b t : Nat} {o : Ob} (hid : look s.st id = some o) (hL : L id = some (b, t)) :
    Rl w0 wr A L ⟨fun k => F.n k ∨ k = b, F.a⟩ { s with st := del s.st id } a w := by
  have hst : ∀ i, look (del s.st id) i = look s.st i ∨ look (del s.st id) i = none ∨ (look s.st i = none ∧ False) := fun i => by
    rw [look_del]
    by_cases e : i = id
    · rw [if_pos e]; exact .inr (.inl rfl)
    · rw [if_neg e]; exact .inl rfl
  have hsome : ∀ i, (look (del s.st id) i).isSome = true → i ≠ id ∧ (look s.st i).isSome = true := fun i hi => by
    rw [look_del] at hi
    by_cases e : i = id
    · rw [if_pos e] at hi; cases hi
    · rw [if_neg e] at hi; exact ⟨e, hi⟩
  have hi : ∀ x : MC, ∀ u, RC (look s.st) L w F x u → RC (look (del s.st id)) L w ⟨fun k => F.n k ∨ k = b, F.a⟩ x u := fun x u hr =>
    RC.mono (F' := ⟨fun k => F.n k ∨ k = b, F.a⟩) (fun _ _ => rfl) ⟨fun _ h => Or.inl h, fun _ h => h⟩ hst (fun _ _ => rfl) (fun _ _ _ _ _ _ h => h) hr
  have hlive := h.own id b t (by simp [hid]) hL
  refine ⟨h.os, h.tape, h.output, h.size, h.keep, h.kc, h.pin, h.fa, ?_, ?_, ?_, ?_, ?_, h.sz, ?_, ?_, h.ben, h.df⟩
  · rintro k (hk | rfl)
    · exact h.fn k hk
    · exact hlive.2.2.imp (fun h => h) Or.inl
  · rintro k ((hk | rfl) | hk)
    · exact h.fsz k (.inl hk)
    · exact hlive.2.1
    · exact h.fsz k (.inr hk)
  · intro i x hx
    have hx' : look s.st i = some x := by
      have := (hsome i (by simp [hx])).1
      simpa [look_del, this] using hx
    exact (h.ob i x hx').imp (h.bst i x hx').2 rfl (fun _ _ _ => rfl) (fun x _ u hr => hi x u hr)
  · intro i k t' h1 h2
    obtain ⟨hne, h1⟩ := hsome i h1
    have := h.own i k t' h1 h2
    refine ⟨?_, this.2⟩
    rintro ((hf | rfl) | hf)
    · exact this.1 (.inl hf)
    rotate_left
    · exact this.1 (.inr hf)
    · exact hne (h.inj i id k t' t h1 (by simp [hid]) h2 hL)
  · exact fun i j k t1 t2 h1 h2 h3 h4 => h.inj i j k t1 t2 (hsome i h1).2 (hsome j h2).2 h3 h4
  · exact fun t' v hv => (h.env t' v hv).imp (h.ben t' v hv) (fun x _ u hr => hi x u hr)
  · intro i x hx
    have hx' : look s.st i = some x := by
      have := (hsome i (by simp [hx])).1
      simpa [look_del, this] using hx
    exact h.bst i x hx'

end
end Mg
