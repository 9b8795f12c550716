/- The abstract state logic, part 2: what keeps the relation. No condition. -/
import Derived.Test.YthflichlfpmenaaGreatMg1
namespace Mg
open Go Go.RowKit

def S.put (s : S) (d : Option Nat) (v : MV) : S := match d with
  | some d => { s with env := (d, v) :: s.env }
  | none => s

/-- RC where nothing has turned in F and in the live blocks. -/
theorem RC.same {st : Sto} {L L' : Lay} {w w' : World} {F F' : FF} (hw : ∀ b, F.all b → w'.heap[b]? = w.heap[b]?) (hF : F.le F')
    (hL : ∀ id, (st id).isSome = true → L' id = L id)
    (hc : ∀ id b s j, (st id).isSome = true → L id = some (b, s) → (w.cell? ⟨b, j, none⟩).isSome = true → (w'.cell? ⟨b, j, none⟩).isSome = true)
    {c : MC} {v : Value} (h : RC st L w F c v) : RC st L' w' F' c v :=
  RC.mono hw hF (fun _ => .inl rfl) hL hc h

theorem Cells.imp {st st' : Sto} {L L' : Lay} {w w' : World} {F F' : FF} {cs : List MC} {c : Array Value}
    (hi : ∀ x ∈ cs, ∀ u, RC st L w F x u → RC st' L' w' F' x u) (h : Cells st L w F cs c) : Cells st' L' w' F' cs c :=
  ⟨h.1, fun j x hj => by obtain ⟨u, h1, h2⟩ := h.2 j x hj; exact ⟨u, h1, hi x (List.mem_of_getElem? hj) u h2⟩⟩

theorem RV1.imp {st st' : Sto} {L L' : Lay} {w w' : World} {F F' : FF} {n : Nat} {x : MV} {v : Value} (hb : x.bd1 n)
    (hi : ∀ x : MC, x.bd n → ∀ u, RC st L w F x u → RC st' L' w' F' x u) (h : RV1 st L w F x v) : RV1 st' L' w' F' x v := by
  cases x with
  | un => trivial
  | one c => exact hi c hb v h
  | agg cs => obtain ⟨arr, he, hc⟩ := h; exact ⟨arr, he, hc.imp fun x hx => hi x (hb x hx)⟩
  | tup vs => exact h.elim

theorem RV.imp {st st' : Sto} {L L' : Lay} {w w' : World} {F F' : FF} {n : Nat} {x : MV} {v : Value} (hb : x.bd n)
    (hi : ∀ x : MC, x.bd n → ∀ u, RC st L w F x u → RC st' L' w' F' x u) (h : RV st L w F x v) : RV st' L' w' F' x v := by
  cases x with
  | un => trivial
  | one c => exact RV1.imp (x := .one c) hb hi h
  | agg cs => exact RV1.imp (x := .agg cs) hb hi h
  | tup vs =>
    obtain ⟨arr, he, hz, hc⟩ := h
    refine ⟨arr, he, hz, fun j x hj => ?_⟩
    obtain ⟨u, h1, h2⟩ := hc j x hj
    exact ⟨u, h1, RV1.imp (hb x (List.mem_of_getElem? hj)) hi h2⟩

theorem WC.imp {st st' : Sto} {L L' : Lay} {w w' : World} {F F' : FF} {b o : Nat} {cs : List MC}
    (hw : ∀ j, w'.cell? ⟨b, j, none⟩ = w.cell? ⟨b, j, none⟩)
    (hi : ∀ x ∈ cs, ∀ u, RC st L w F x u → RC st' L' w' F' x u) (h : WC st L w F b o cs) : WC st' L' w' F' b o cs := fun j x hj => by
  obtain ⟨u, h1, h2⟩ := h j x hj
  exact ⟨u, by rw [hw]; exact h1, hi x (List.mem_of_getElem? hj) u h2⟩

theorem ObOK.imp {st st' : Sto} {L L' : Lay} {w w' : World} {F F' : FF} {n id : Nat} {o : Ob} (hb : o.bd n) (hL : L' id = L id)
    (hw : ∀ b s, L id = some (b, s) → w'.heap[b]? = w.heap[b]?)
    (hi : ∀ x : MC, x.bd n → ∀ u, RC st L w F x u → RC st' L' w' F' x u) (h : ObOK st L w F id o) : ObOK st' L' w' F' id o := by
  cases o with
  | box cs =>
    obtain ⟨b, s, h1, h2, h3⟩ := h
    exact ⟨b, s, hL ▸ h1, fun j => by rw [World.frozen?_of_block (w := w) (hw b s h1)]; exact h2 j,
      h3.imp (fun j => World.cell?_of_block (w := w) (hw b s h1)) fun x hx => hi x (hb x hx)⟩
  | arr rows =>
    rcases h with ⟨h1, h2⟩ | ⟨b, s, h1, h2, h3, h4⟩
    · exact .inl ⟨h1, hL ▸ h2⟩
    · exact .inr ⟨b, s, hL ▸ h1, fun j => by rw [World.frozen?_of_block (w := w) (hw b s h1)]; exact h2 j, h3,
        fun i r hi' => (h4 i r hi').imp (fun j => World.cell?_of_block (w := w) (hw b s h1)) fun x hx => hi x (hb r (List.mem_of_getElem? hi') x hx)⟩

section
variable {w0 : World} {wr : Wr} {A : Nat → Prop} {L : Lay} {F : FF} {s : S} {a : Act} {w : World}

/-- A slot is written. -/
theorem Rl.put (h : Rl w0 wr A L F s a w) {d : Option Nat} {v : MV} {u : Value} (hd : ∀ x, d = some x → x < s.m) (hv : RV (look s.st) L w F v u) (hb : v.bd s.n) :
    Rl w0 wr A L F (s.put d v) (a.put d u) w := by
  cases d with
  | none => exact h
  | some d =>
    have hd := hd d rfl
    refine ⟨h.os, h.tape, h.output, h.size, h.keep, h.kc, h.pin, h.fa, h.fn, h.fsz, h.ob, h.own, h.inj, ?_, ?_, h.bst, ?_, h.df⟩
    · simp [S.put, Act.put, h.sz]
    · intro t x hx
      simp only [S.put, look_cons] at hx
      by_cases e : t = d
      · rw [if_pos e] at hx
        obtain rfl := Option.some.inj hx
        subst e
        have : (a.put (some t) u).tmps.getD t undef = u := by simp [Act.put, h.sz, hd]
        rw [this]; exact hv
      · rw [if_neg e] at hx
        have : (a.put (some d) u).tmps.getD t undef = a.tmps.getD t undef := by
          simp [Act.put, Array.getElem?_setIfInBounds_ne (Ne.symm e)]
        rw [this]; exact h.env t x hx
    · intro t x hx
      simp only [S.put, look_cons] at hx
      by_cases e : t = d
      · rw [if_pos e] at hx
        obtain rfl := Option.some.inj hx
        exact hb
      · rw [if_neg e] at hx; exact h.ben t x hx

/-- A world of the same heap. -/
theorem Rl.heap_eq (h : Rl w0 wr A L F s a w) {w' : World} (hh : w'.heap = w.heap) (ho : w'.os = w.os) (ht : w'.tape = w.tape) (hu : w'.output = w.output) :
    Rl w0 wr A L F s a w' := by
  have hi : ∀ x : MC, x.bd s.n → ∀ u, RC (look s.st) L w F x u → RC (look s.st) L w' F x u := fun x _ u hx =>
    hx.same (fun b _ => by rw [hh]) .rfl (fun _ _ => rfl) (fun id b t j _ _ hj => by rw [World.cell?_of_block (w := w) (by rw [hh])]; exact hj)
  exact ⟨ho.trans h.os, ht.trans h.tape, hu.trans h.output, by rw [hh]; exact h.size, fun k hk hn => by rw [hh]; exact h.keep k hk hn, fun b j hb hc => by rw [World.cell?_of_block (w := w) (by rw [hh])]; exact h.kc b j hb hc, h.pin, h.fa, h.fn,
    fun b hb => by rw [hh]; exact h.fsz b hb,
    fun id o ho => (h.ob id o ho).imp (h.bst id o ho).2 rfl (fun b t _ => by rw [hh]) hi,
    fun id b t h1 h2 => by rw [hh]; exact h.own id b t h1 h2, h.inj, h.sz,
    fun t v hv => (h.env t v hv).imp (h.ben t v hv) hi, h.bst, h.ben, h.df⟩

theorem Rl.drew (h : Rl w0 wr A L F s a w) : Rl w0 wr A L F s a { w with drawn := w.drawn + 1 } := h.heap_eq rfl rfl rfl rfl

/-- The state with a new object under the next name. -/
def S.new (s : S) (o : Ob) : S := { s with n := s.n + 1, st := (s.n, o) :: s.st }

theorem fresh_look (h : Rl w0 wr A L F s a w) : look s.st s.n = none := by
  cases hl : look s.st s.n with
  | none => rfl
  | some o => exact absurd (h.bst _ _ hl).1 (Nat.lt_irrefl _)

theorem look_new {id : Nat} (o : Ob) (h : id ≠ s.n) : look (s.new o).st id = look s.st id := by
  simp [S.new, look_cons, h]

/-- RC over a new object: names below n speak as before. -/
theorem RC.new {st : List (Nat × Ob)} {n : Nat} {o : Ob} {L' : Lay} {w' : World} (hn : look st n = none)
    (hw : ∀ b, F.all b → w'.heap[b]? = w.heap[b]?) (hL : ∀ id, id ≠ n → L' id = L id)
    (hc : ∀ id b t j, (look st id).isSome = true → L id = some (b, t) → (w.cell? ⟨b, j, none⟩).isSome = true → (w'.cell? ⟨b, j, none⟩).isSome = true)
    {c : MC} {v : Value} (hb : c.bd n) (h : RC (look st) L w F c v) : RC (look ((n, o) :: st)) L' w' F c v := by
  have h1 : RC (look st) L' w' F c v := h.same hw .rfl (fun id hid => hL id (fun e => by rw [e, hn] at hid; cases hid)) hc
  cases c with
  | ref id off len =>
    have : id ≠ n := Nat.ne_of_lt hb
    exact ⟨h1.1, fun rows hr => h1.2 rows (by simpa [look_cons, this] using hr)⟩
  | ptr id row off =>
    have : id ≠ n := Nat.ne_of_lt hb
    exact ⟨h1.1, fun hr => h1.2 (by simpa [look_cons, this] using hr)⟩
  | _ => exact h1

/-- A new block under a new name: what it holds is to be shown behind. -/
theorem Rl.alloc (h : Rl w0 wr A L F s a w) (c : Array Value) (e : TypeId) (t : Nat) (o : Ob) (hb : o.bd s.n)
    (ho : ∀ L' : Lay, L' s.n = some (w.heap.size, t) → (∀ id, id ≠ s.n → L' id = L id) →
      (∀ x : MC, x.bd s.n → ∀ u, RC (look s.st) L w F x u → RC (look (s.new o).st) L' (w.alloc (.cells c e (0, 0))) F x u) →
      ObOK (look (s.new o).st) L' (w.alloc (.cells c e (0, 0))) F s.n o) :
    ∃ L', Rl w0 wr A L' F (s.new o) a (w.alloc (.cells c e (0, 0))) ∧ L' s.n = some (w.heap.size, t) ∧ (∀ id, id ≠ s.n → L' id = L id) := by
  let L' : Lay := fun id => if id = s.n then some (w.heap.size, t) else L id
  have hLn : L' s.n = some (w.heap.size, t) := if_pos rfl
  have hLo : ∀ id, id ≠ s.n → L' id = L id := fun id hid => if_neg hid
  have hold : ∀ b, b < w.heap.size → (w.alloc (.cells c e (0, 0))).heap[b]? = w.heap[b]? := fun b hb => Below.heap_alloc _ _ _ hb
  have hn := fresh_look h
  have hi : ∀ x : MC, x.bd s.n → ∀ u, RC (look s.st) L w F x u → RC (look (s.new o).st) L' (w.alloc (.cells c e (0, 0))) F x u := fun x hx u hr =>
    RC.new hn (fun b hb => hold b (h.fsz b hb)) hLo (fun id b t' j h1 h2 h3 => by rw [World.cell?_of_block (w := w) (hold b (h.own id b t' h1 h2).2.1)]; exact h3) hx hr
  refine ⟨L', ⟨h.os, h.tape, h.output, ?_, ?_, fun b j hb hc => by rw [World.cell?_of_block (w := w) (hold b (Nat.lt_of_lt_of_le hb h.size))]; exact h.kc b j hb hc, fun i hi => ⟨(hLo i (Nat.ne_of_lt (h.pin i hi).2)).trans (h.pin i hi).1, Nat.lt_succ_of_lt (h.pin i hi).2⟩, h.fa, h.fn, ?_, ?_, ?_, ?_, h.sz, ?_, ?_, ?_, h.df⟩, hLn, hLo⟩
  · show w0.heap.size ≤ (w.heap.push _).size
    have := h.size; simp; omega
  · intro k hk hnw; rw [hold k (Nat.lt_of_lt_of_le hk h.size)]; exact h.keep k hk hnw
  · intro b hb
    show b < (w.heap.push _).size
    have := h.fsz b hb; simp; omega
  · intro id o' hid
    by_cases e : id = s.n
    · subst e
      have : o' = o := by simpa [S.new, look_cons] using hid.symm
      subst this
      exact ho L' hLn hLo hi
    · rw [look_new _ e] at hid
      exact (h.ob id o' hid).imp (h.bst id o' hid).2 (hLo id e) (fun b t' h1 => hold b (h.own id b t' (by simp [hid]) h1).2.1) hi
  · intro id b t' h1 h2
    by_cases e : id = s.n
    · subst e
      rw [hLn] at h2
      obtain ⟨rfl, rfl⟩ := Prod.mk.inj (Option.some.inj h2)
      refine ⟨fun hf => absurd (h.fsz _ hf) (Nat.lt_irrefl _), ?_, .inl h.size⟩
      show w.heap.size < (w.heap.push _).size
      simp
    · rw [look_new _ e] at h1
      rw [hLo id e] at h2
      have := h.own id b t' h1 h2
      refine ⟨this.1, ?_, this.2.2⟩
      show b < (w.heap.push _).size
      have := this.2.1; simp; omega
  · intro i j b t1 t2 h1 h2 h3 h4
    by_cases ei : i = s.n
    · by_cases ej : j = s.n
      · rw [ei, ej]
      · rw [look_new _ ej] at h2
        rw [hLo j ej] at h4
        rw [ei, hLn] at h3
        obtain ⟨rfl, rfl⟩ := Prod.mk.inj (Option.some.inj h3)
        exact absurd (h.own j _ t2 h2 h4).2.1 (Nat.lt_irrefl _)
    · rw [look_new _ ei] at h1
      rw [hLo i ei] at h3
      by_cases ej : j = s.n
      · rw [ej, hLn] at h4
        obtain ⟨rfl, rfl⟩ := Prod.mk.inj (Option.some.inj h4)
        exact absurd (h.own i _ t1 h1 h3).2.1 (Nat.lt_irrefl _)
      · rw [look_new _ ej] at h2
        rw [hLo j ej] at h4
        exact h.inj i j b t1 t2 h1 h2 h3 h4
  · intro t' v hv
    exact (h.env t' v hv).imp (h.ben t' v hv) hi
  · intro id o' hid
    by_cases e : id = s.n
    · subst e
      have : o' = o := by simpa [S.new, look_cons] using hid.symm
      subst this
      exact ⟨Nat.lt_succ_self _, hb.mono (Nat.le_succ _)⟩
    · rw [look_new _ e] at hid
      have := h.bst id o' hid
      exact ⟨Nat.lt_succ_of_lt this.1, this.2.mono (Nat.le_succ _)⟩
  · intro t' v hv
    exact (h.ben t' v hv).mono (Nat.le_succ _)

end
end Mg
