/- Parts of the abstract state logic and of the walks, one behind the other: Mg12, Mg13. No condition. -/
import Derived.Test.YtedgmfmhilihoaaP3
/- The abstract state logic, part 12: contracts, calls, a function's entry and end. No condition. -/
namespace Mg
open Go Go.RowKit
set_option linter.unusedVariables false

variable {P : Program} {T : Tab}

/-- An argument, read. -/
def FV (w : World) (A : Nat → Prop) : MV → Value → Prop
  | .one c, v => RF w A c v
  | .agg cs, v => ∃ arr : Array Value, v = .agg arr ∧ arr.size = cs.length ∧ ∀ (j : Nat) (c : MC), cs[j]? = some c → ∃ u : Value, arr[j]? = some u ∧ RF w A c u
  | _, _ => False

/-- A slice in a block of its own. -/
def OwnB (w : World) (F : Nat → Prop) (b s cap : Nat) (rows : List (List MC)) : Prop :=
  Free w b ∧ rows ≠ [] ∧ (∀ r ∈ rows, r.length = s) ∧ rows.length ≤ cap ∧ (∀ j, j < cap * s → (w.cell? ⟨b, j, none⟩).isSome = true) ∧
    ∀ (i : Nat) (r : List MC), rows[i]? = some r → ∀ (j : Nat) (x : MC), r[j]? = some x → ∃ u : Value, w.cell? ⟨b, i * s + j, none⟩ = some u ∧ RF w F x u

/-- A result's cells: frozen, or slices of their own. -/
inductive OC (w : World) (F : Nat → Prop) : List MC → List Value → List Nat → Prop
  | nil : OC w F [] [] []
  | fz {c : MC} {v : Value} {cs : List MC} {vs : List Value} {bs : List Nat} (h : RF w F c v) (t : OC w F cs vs bs) : OC w F (c :: cs) (v :: vs) bs
  | own0 {a : Option Addr} {cs : List MC} {vs : List Value} {bs : List Nat} (t : OC w F cs vs bs) : OC w F (.own [] :: cs) (.slice a 0 0 :: vs) bs
  | own {b s cap : Nat} {rows : List (List MC)} {cs : List MC} {vs : List Value} {bs : List Nat} (h : OwnB w F b s cap rows) (t : OC w F cs vs bs) :
      OC w F (.own rows :: cs) (.slice (some ⟨b, 0, none⟩) rows.length cap :: vs) (b :: bs)

def OV1 (w : World) (F : Nat → Prop) : MV → Value → List Nat → Prop
  | .one c, v, bs => OC w F [c] [v] bs
  | .agg cs, v, bs => ∃ arr : Array Value, v = .agg arr ∧ OC w F cs arr.toList bs
  | _, _, _ => False
inductive OT (w : World) (F : Nat → Prop) : List MV → List Value → List Nat → Prop
  | nil : OT w F [] [] []
  | cons {x : MV} {v : Value} {b1 : List Nat} {xs : List MV} {vs : List Value} {b2 : List Nat} (h : OV1 w F x v b1) (t : OT w F xs vs b2) : OT w F (x :: xs) (v :: vs) (b1 ++ b2)
def OV (w : World) (F : Nat → Prop) : MV → Value → List Nat → Prop
  | .tup xs, v, bs => ∃ arr : Array Value, v = .tuple arr ∧ OT w F xs arr.toList bs
  | x, v, bs => OV1 w F x v bs

/-- A function that can be called by its number. -/
def Fun (P : Program) (f : Nat) : Prop := ∃ fn, P.funcs[f]? = some fn ∧ (fn.name == "runtime.NumGoroutine") = false ∧ fn.body.isNone = false

/-- A CONTRACT: called with what reads as args, it returns what reads as r; nothing that was there has turned; r's slices of its own are new; its frozen parts are new, or (sh) the arguments'. -/
def Pure (P : Program) (sh : Bool) (f : Nat) (args : List MV) (r : MV) : Prop := Fun P f ∧
  ∀ (w : World) (A : Nat → Prop) (vals : Array Value), vals.size = args.length → (∀ (j : Nat) (x : MV), args[j]? = some x → ∃ v : Value, vals[j]? = some v ∧ FV w A x v) → (∀ b, A b → b < w.heap.size) → GT P w (fun _ => False) →
    Calls P f vals w fun e w' => ∃ (v : Value) (F : Nat → Prop) (bs : List Nat), e = .returned v ∧ Below w.heap.size w w' ∧ (∀ b, F b → b < w'.heap.size ∧ (w.heap.size ≤ b ∨ (sh = true ∧ A b))) ∧
      OV w' F r v bs ∧ bs.Nodup ∧ ∀ b ∈ bs, w.heap.size ≤ b ∧ b < w'.heap.size ∧ ¬ F b

/-- What a result leaves: its own slices under new names. -/
def adC (s : S) : List MC → List MC × S
  | [] => ([], s)
  | .own rows :: cs => let r := adC (s.app rows s.st) cs; (.ref s.n 0 rows.length :: r.1, r.2)
  | c :: cs => let r := adC s cs; (c :: r.1, r.2)
def adV1 (s : S) : MV → MV × S
  | .one c => match adC s [c] with
    | (c' :: _, s') => (.one c', s')
    | (_, s') => (.un, s')
  | .agg cs => let r := adC s cs; (.agg r.1, r.2)
  | _ => (.un, s)
def adT (s : S) : List MV → List MV × S
  | [] => ([], s)
  | x :: xs => let r := adV1 s x; let q := adT r.2 xs; (r.1 :: q.1, q.2)
def adV (s : S) : MV → MV × S
  | .tup xs => let r := adT s xs; (.tup r.1, r.2)
  | x => adV1 s x

theorem Rl.adopt {w0 : World} {wr : Wr} {A : Nat → Prop} {L : Lay} {F : FF} {s : S} {a : Act} {w : World} (h : Rl w0 wr A L F s a w) {b st cap : Nat} {rows : List (List MC)} (ho : OwnB w F.n b st cap rows)
    (hb : w0.heap.size ≤ b ∧ b < w.heap.size ∧ ¬ F.all b) (hl : ∀ id t, (look s.st id).isSome = true → L id ≠ some (b, t)) :
    ∃ L' : Lay, Rl w0 wr A L' F (s.app rows s.st) a w ∧ L' s.n = some (b, st) ∧ (∀ j, j ≠ s.n → L' j = L j) ∧
      (∀ x : MC, x.bd s.n → ∀ u, RC (look s.st) L w F x u → RC (look (s.app rows s.st).st) L' w F x u) := by
  let L' : Lay := fun j => if j = s.n then some (b, st) else L j
  have hLn : L' s.n = some (b, st) := if_pos rfl
  have hLo : ∀ j, j ≠ s.n → L' j = L j := fun j hj => if_neg hj
  have hn := fresh_look h
  obtain ⟨hf, hne, hs, hcap, hcs, hw⟩ := ho
  have hi : ∀ x : MC, x.bd s.n → ∀ u, RC (look s.st) L w F x u → RC (look (s.app rows s.st).st) L' w F x u := fun x hx u hr =>
    RC.new hn (fun _ _ => rfl) hLo (fun _ _ _ _ _ _ h => h) hx hr
  have hlk : ∀ i x, look (s.app rows s.st).st i = some x → (i = s.n ∧ x = .arr rows) ∨ (i ≠ s.n ∧ look s.st i = some x) := fun i x hx => by
    simp only [S.app, look_cons] at hx
    by_cases e : i = s.n
    · rw [if_pos e] at hx; exact .inl ⟨e, (Option.some.inj hx).symm⟩
    · rw [if_neg e] at hx; exact .inr ⟨e, hx⟩
  have hsome : ∀ i, (look (s.app rows s.st).st i).isSome = true → i = s.n ∨ (i ≠ s.n ∧ (look s.st i).isSome = true) := fun i hi => by
    obtain ⟨x, hx⟩ := Option.isSome_iff_exists.1 hi
    rcases hlk i x hx with ⟨e, _⟩ | ⟨e, hx'⟩
    · exact .inl e
    · exact .inr ⟨e, by rw [hx']; rfl⟩
  have hfrz : ∀ r ∈ rows, ∀ x ∈ r, x.frz = true := fun r hr x hx => by
    obtain ⟨i, hi⟩ := List.getElem?_of_mem hr
    obtain ⟨j, hj⟩ := List.getElem?_of_mem hx
    obtain ⟨u, _, hu⟩ := hw i r hi j x hj
    exact hu.frz
  refine ⟨L', ⟨h.os, h.tape, h.output, h.size, h.keep, h.kc, fun i hi => ⟨(hLo i (Nat.ne_of_lt (h.pin i hi).2)).trans (h.pin i hi).1, Nat.lt_succ_of_lt (h.pin i hi).2⟩, h.fa, h.fn, h.fsz, ?_, ?_, ?_, h.sz, ?_, ?_, ?_, h.df⟩, hLn, hLo, hi⟩
  · intro i x hx
    rcases hlk i x hx with ⟨rfl, rfl⟩ | ⟨e, hx'⟩
    · exact .inr ⟨b, st, hLn, hf, hs, fun i r hr j x hj => by
        obtain ⟨u, hu, hru⟩ := hw i r hr j x hj
        exact ⟨u, hu, RC.of_RF hru⟩⟩
    · exact (h.ob i x hx').imp (h.bst i x hx').2 (hLo i e) (fun _ _ _ => rfl) hi
  · intro i b' t h1 h2
    rcases hsome i h1 with rfl | ⟨e, hx'⟩
    · rw [hLn] at h2
      obtain ⟨rfl, rfl⟩ := Prod.mk.inj (Option.some.inj h2)
      exact ⟨hb.2.2, hb.2.1, .inl hb.1⟩
    · rw [hLo i e] at h2; exact h.own i b' t hx' h2
  · intro i j b' t u h1 h2 h3 h4
    rcases hsome i h1 with ei | ⟨ei, hxi⟩ <;> rcases hsome j h2 with ej | ⟨ej, hxj⟩
    · rw [ei, ej]
    · rw [ei, hLn] at h3; rw [hLo j ej] at h4
      obtain ⟨rfl, rfl⟩ := Prod.mk.inj (Option.some.inj h3)
      exact absurd h4 (hl j u hxj)
    · rw [ej, hLn] at h4; rw [hLo i ei] at h3
      obtain ⟨rfl, rfl⟩ := Prod.mk.inj (Option.some.inj h4)
      exact absurd h3 (hl i t hxi)
    · rw [hLo i ei] at h3; rw [hLo j ej] at h4
      exact h.inj i j b' t u hxi hxj h3 h4
  · exact fun t v hv => (h.env t v hv).imp (h.ben t v hv) hi
  · intro i x hx
    rcases hlk i x hx with ⟨rfl, rfl⟩ | ⟨e, hx'⟩
    · exact ⟨Nat.lt_succ_self _, fun r hr x hx => MC.bd_frz (hfrz r hr x hx)⟩
    · exact ⟨Nat.lt_succ_of_lt (h.bst i x hx').1, (h.bst i x hx').2.mono (Nat.le_succ _)⟩
  · exact fun t v hv => (h.ben t v hv).mono (Nat.le_succ _)

/-- What adoption gives. -/
structure Adopts (w0 : World) (wr : Wr) (A : Nat → Prop) (L : Lay) (F : FF) (s : S) (a : Act) (w : World) (bs : List Nat) (s' : S) (L' : Lay) : Prop where
  rl : Rl w0 wr A L' F s' a w
  m : s'.m = s.m
  n : s.n ≤ s'.n
  env : s'.env = s.env
  rc : ∀ x : MC, x.bd s.n → ∀ u, RC (look s.st) L w F x u → RC (look s'.st) L' w F x u
  live : ∀ id b t, (look s'.st id).isSome = true → L' id = some (b, t) → b ∈ bs ∨ ∃ id' t', (look s.st id').isSome = true ∧ L id' = some (b, t')

theorem Adopts.refl {w0 : World} {wr : Wr} {A : Nat → Prop} {L : Lay} {F : FF} {s : S} {a : Act} {w : World} (h : Rl w0 wr A L F s a w) (bs : List Nat) : Adopts w0 wr A L F s a w bs s L :=
  ⟨h, rfl, Nat.le_refl _, rfl, fun _ _ _ h => h, fun id b t h1 h2 => .inr ⟨id, t, h1, h2⟩⟩

theorem Adopts.trans {w0 : World} {wr : Wr} {A : Nat → Prop} {L L1 L2 : Lay} {F : FF} {s s1 s2 : S} {a : Act} {w : World} {b1 b2 : List Nat} (h1 : Adopts w0 wr A L F s a w b1 s1 L1) (h2 : Adopts w0 wr A L1 F s1 a w b2 s2 L2) :
    Adopts w0 wr A L F s a w (b1 ++ b2) s2 L2 :=
  ⟨h2.rl, h2.m.trans h1.m, Nat.le_trans h1.n h2.n, h2.env.trans h1.env, fun x hx u hr => h2.rc x (hx.mono h1.n) u (h1.rc x hx u hr), fun id b t hi hL => by
    rcases h2.live id b t hi hL with h | ⟨id', t', h3, h4⟩
    · exact .inl (List.mem_append.2 (.inr h))
    · rcases h1.live id' b t' h3 h4 with h | h
      · exact .inl (List.mem_append.2 (.inl h))
      · exact .inr h⟩

theorem adC_ok {w0 : World} {wr : Wr} {A : Nat → Prop} {F : FF} {a : Act} {w : World} : ∀ {cs : List MC} {vs : List Value} {bs : List Nat}, OC w F.n cs vs bs → ∀ {L : Lay} {s : S}, Rl w0 wr A L F s a w → bs.Nodup →
      (∀ b ∈ bs, w0.heap.size ≤ b ∧ b < w.heap.size ∧ ¬ F.all b) → (∀ b ∈ bs, ∀ id t, (look s.st id).isSome = true → L id ≠ some (b, t)) →
      ∃ L', Adopts w0 wr A L F s a w bs (adC s cs).2 L' ∧ (adC s cs).1.length = vs.length ∧ ∀ (j : Nat) (c : MC), (adC s cs).1[j]? = some c → c.bd (adC s cs).2.n ∧ ∃ u : Value, vs[j]? = some u ∧ RC (look (adC s cs).2.st) L' w F c u := by
  intro cs vs bs h
  induction h with
  | nil => intro L s hr _ _ _; exact ⟨L, .refl hr _, rfl, fun j c hj => by simp [adC] at hj⟩
  | @fz c v cs vs bs hc t ih =>
    intro L s hr hn hb hl
    obtain ⟨L', had, hlen, hcs⟩ := ih hr hn hb hl
    have hf := hc.frz
    have e : adC s (c :: cs) = (c :: (adC s cs).1, (adC s cs).2) := by cases c <;> simp [MC.frz] at hf <;> rfl
    rw [e]
    refine ⟨L', had, by simp [hlen], fun j x hj => ?_⟩
    cases j with
    | zero =>
      obtain rfl : c = x := by simpa using hj
      exact ⟨MC.bd_frz hf, v, rfl, RC.of_RF hc⟩
    | succ j => exact hcs j x hj
  | @own0 q cs vs bs t ih =>
    intro L s hr hn hb hl
    obtain ⟨L1, hr1, hLn, hLo, hi⟩ := hr.virt
    have hlk : ∀ i, (look (s.app [] s.st).st i).isSome = true → i = s.n ∨ (i ≠ s.n ∧ (look s.st i).isSome = true) := fun i hi => by
      simp only [S.app, look_cons] at hi
      by_cases e : i = s.n
      · exact .inl e
      · rw [if_neg e] at hi; exact .inr ⟨e, hi⟩
    have had1 : Adopts w0 wr A L F s a w [] (s.app [] s.st) L1 := ⟨hr1, rfl, Nat.le_succ _, rfl, hi, fun id b' t' h1 h2 => by
      rcases hlk id h1 with rfl | ⟨e, h3⟩
      · rw [hLn] at h2; cases h2
      · rw [hLo id e] at h2; exact .inr ⟨id, t', h3, h2⟩⟩
    obtain ⟨L', had, hlen, hcs⟩ := ih hr1 hn hb (fun b' hb' id t' h1 h2 => by
      rcases had1.live id b' t' h1 h2 with h | ⟨id', t'', h3, h4⟩
      · simp at h
      · exact hl b' hb' id' t'' h3 h4)
    refine ⟨L', had1.trans had, by simp [adC, hlen], fun j x hj => ?_⟩
    cases j with
    | zero =>
      obtain rfl : MC.ref s.n 0 0 = x := by simpa [adC] using hj
      have hlt : s.n < (adC (s.app [] s.st) cs).2.n := Nat.lt_of_lt_of_le (Nat.lt_succ_self _) had.n
      exact ⟨hlt, _, rfl, had.rc _ (Nat.lt_succ_self _) _ ⟨rfl, fun rows' hr' => ⟨q, 0, rfl, by simp, .inr ⟨rfl, rfl⟩⟩⟩⟩
    | succ j =>
      have := hcs j x (by simpa [adC] using hj)
      exact this
  | @own b st cap rows cs vs bs ho t ih =>
    intro L s hr hn hb hl
    have hbn := List.nodup_cons.1 hn
    obtain ⟨L1, hr1, hLn, hLo, hi⟩ := hr.adopt ho (hb b (by simp)) (fun id t h1 => hl b (by simp) id t h1)
    have hlk : ∀ i, (look (s.app rows s.st).st i).isSome = true → i = s.n ∨ (i ≠ s.n ∧ (look s.st i).isSome = true) := fun i hi => by
      simp only [S.app, look_cons] at hi
      by_cases e : i = s.n
      · exact .inl e
      · rw [if_neg e] at hi; exact .inr ⟨e, hi⟩
    have had1 : Adopts w0 wr A L F s a w [b] (s.app rows s.st) L1 := ⟨hr1, rfl, Nat.le_succ _, rfl, hi, fun id b' t' h1 h2 => by
      rcases hlk id h1 with rfl | ⟨e, h3⟩
      · rw [hLn] at h2
        obtain ⟨rfl, rfl⟩ := Prod.mk.inj (Option.some.inj h2)
        exact .inl (by simp)
      · rw [hLo id e] at h2; exact .inr ⟨id, t', h3, h2⟩⟩
    obtain ⟨L', had, hlen, hcs⟩ := ih hr1 hbn.2 (fun b' hb' => hb b' (by simp [hb'])) (fun b' hb' id t' h1 h2 => by
      rcases had1.live id b' t' h1 h2 with h | ⟨id', t'', h3, h4⟩
      · simp at h; subst h; exact hbn.1 hb'
      · exact hl b' (by simp [hb']) id' t'' h3 h4)
    refine ⟨L', had1.trans had, by simp [adC, hlen], fun j x hj => ?_⟩
    cases j with
    | zero =>
      obtain rfl : MC.ref s.n 0 rows.length = x := by simpa [adC] using hj
      have hlt : s.n < (adC (s.app rows s.st) cs).2.n := Nat.lt_of_lt_of_le (Nat.lt_succ_self _) had.n
      refine ⟨hlt, _, rfl, had.rc _ (Nat.lt_succ_self _) _ ⟨rfl, fun rows' hr' => ?_⟩⟩
      obtain rfl : rows' = rows := by simpa [S.app, look_cons] using hr'.symm
      obtain ⟨hf, hne, hs, hcap, hcs', hw⟩ := ho
      exact ⟨_, cap, rfl, by simp, .inl ⟨b, st, hLn, by simp, hcap, hne, fun j hj => hcs' j (by simpa using hj)⟩⟩
    | succ j =>
      have := hcs j x (by simpa [adC] using hj)
      exact this

theorem adV1_ok {w0 : World} {wr : Wr} {A : Nat → Prop} {F : FF} {a : Act} {w : World} {x : MV} {v : Value} {bs : List Nat} (h : OV1 w F.n x v bs) {L : Lay} {s : S} (hr : Rl w0 wr A L F s a w) (hn : bs.Nodup)
    (hb : ∀ b ∈ bs, w0.heap.size ≤ b ∧ b < w.heap.size ∧ ¬ F.all b) (hl : ∀ b ∈ bs, ∀ id t, (look s.st id).isSome = true → L id ≠ some (b, t)) :
    ∃ L', Adopts w0 wr A L F s a w bs (adV1 s x).2 L' ∧ (adV1 s x).1.bd1 (adV1 s x).2.n ∧ RV1 (look (adV1 s x).2.st) L' w F (adV1 s x).1 v := by
  cases x with
  | one c =>
    obtain ⟨L', had, hlen, hcs⟩ := adC_ok h hr hn hb hl
    cases hq : (adC s [c]).1 with
    | nil => rw [hq] at hlen; simp at hlen
    | cons c' t =>
      have e : adV1 s (.one c) = (.one c', (adC s [c]).2) := by
        have : adC s [c] = (c' :: t, (adC s [c]).2) := by rw [← hq]
        simp only [adV1]
        rw [this]
      rw [e]
      obtain ⟨h1, u, h2, h3⟩ := hcs 0 c' (by rw [hq]; rfl)
      obtain rfl : v = u := by simpa using h2
      exact ⟨L', had, h1, h3⟩
  | agg cs =>
    obtain ⟨arr, rfl, h⟩ := h
    obtain ⟨L', had, hlen, hcs⟩ := adC_ok h hr hn hb hl
    refine ⟨L', had, fun c hc => ?_, arr, rfl, by simp [hlen], fun j c hj => ?_⟩
    · obtain ⟨j, hj⟩ := List.getElem?_of_mem hc
      exact (hcs j c hj).1
    · obtain ⟨_, u, h1, h2⟩ := hcs j c hj
      exact ⟨u, by simpa using h1, h2⟩
  | _ => exact h.elim

theorem adT_ok {w0 : World} {wr : Wr} {A : Nat → Prop} {F : FF} {a : Act} {w : World} : ∀ {xs : List MV} {vs : List Value} {bs : List Nat}, OT w F.n xs vs bs → ∀ {L : Lay} {s : S}, Rl w0 wr A L F s a w → bs.Nodup →
      (∀ b ∈ bs, w0.heap.size ≤ b ∧ b < w.heap.size ∧ ¬ F.all b) → (∀ b ∈ bs, ∀ id t, (look s.st id).isSome = true → L id ≠ some (b, t)) →
      ∃ L', Adopts w0 wr A L F s a w bs (adT s xs).2 L' ∧ (adT s xs).1.length = vs.length ∧ ∀ (j : Nat) (x : MV), (adT s xs).1[j]? = some x → x.bd1 (adT s xs).2.n ∧ ∃ u : Value, vs[j]? = some u ∧ RV1 (look (adT s xs).2.st) L' w F x u := by
  intro xs vs bs h
  induction h with
  | nil => intro L s hr _ _ _; exact ⟨L, .refl hr _, rfl, fun j c hj => by simp [adT] at hj⟩
  | @cons x v b1 xs vs b2 hx t ih =>
    intro L s hr hn hb hl
    obtain ⟨hn1, hn2, hdis⟩ := List.nodup_append.1 hn
    obtain ⟨L1, had1, hbd1, hrv1⟩ := adV1_ok hx hr hn1 (fun b hb' => hb b (List.mem_append.2 (.inl hb'))) (fun b hb' => hl b (List.mem_append.2 (.inl hb')))
    obtain ⟨L2, had2, hlen, hcs⟩ := ih had1.rl hn2 (fun b hb' => hb b (List.mem_append.2 (.inr hb'))) (fun b hb' id t' h1 h2 => by
      rcases had1.live id b t' h1 h2 with h | ⟨id', t'', h3, h4⟩
      · exact hdis b h b hb' rfl
      · exact hl b (List.mem_append.2 (.inr hb')) id' t'' h3 h4)
    refine ⟨L2, had1.trans had2, by simp [adT, hlen], fun j y hj => ?_⟩
    cases j with
    | zero =>
      obtain rfl : (adV1 s x).1 = y := by simpa [adT] using hj
      exact ⟨hbd1.mono had2.n, v, rfl, RV1.imp hbd1 (fun z hz u hu => had2.rc z hz u hu) hrv1⟩
    | succ j => exact hcs j y (by simpa [adT] using hj)

theorem adV_ok {w0 : World} {wr : Wr} {A : Nat → Prop} {F : FF} {a : Act} {w : World} {x : MV} {v : Value} {bs : List Nat} (h : OV w F.n x v bs) {L : Lay} {s : S} (hr : Rl w0 wr A L F s a w) (hn : bs.Nodup)
    (hb : ∀ b ∈ bs, w0.heap.size ≤ b ∧ b < w.heap.size ∧ ¬ F.all b) (hl : ∀ b ∈ bs, ∀ id t, (look s.st id).isSome = true → L id ≠ some (b, t)) :
    ∃ L', Adopts w0 wr A L F s a w bs (adV s x).2 L' ∧ (adV s x).1.bd (adV s x).2.n ∧ RV (look (adV s x).2.st) L' w F (adV s x).1 v := by
  cases x with
  | tup xs =>
    obtain ⟨arr, rfl, h⟩ := h
    obtain ⟨L', had, hlen, hcs⟩ := adT_ok h hr hn hb hl
    refine ⟨L', had, fun y hy => ?_, arr, rfl, by simp [hlen], fun j y hj => ?_⟩
    · obtain ⟨j, hj⟩ := List.getElem?_of_mem hy
      exact (hcs j y hj).1
    · obtain ⟨_, u, h1, h2⟩ := hcs j y hj
      exact ⟨u, by simpa using h1, h2⟩
  | one c =>
    obtain ⟨L', h1, h2, h3⟩ := adV1_ok (x := .one c) h hr hn hb hl
    have e : adV s (.one c) = adV1 s (.one c) := rfl
    rw [e]
    revert h1 h2 h3
    generalize adV1 s (.one c) = q
    intro h1 h2 h3
    refine ⟨L', h1, ?_⟩
    obtain ⟨y, s'⟩ := q
    cases y
    · exact ⟨trivial, trivial⟩
    · exact ⟨h2, h3⟩
    · exact ⟨h2, h3⟩
    · exact False.elim h3
  | agg cs =>
    obtain ⟨L', h1, h2, h3⟩ := adV1_ok (x := .agg cs) h hr hn hb hl
    exact ⟨L', h1, h2, h3⟩
  | un => exact h.elim

/-- An argument as the callee reads it. -/
def lendC (s : S) : MC → Option (Prop × MC)
  | .sc v => some (True, .sc v)
  | .nil => some (True, .fz [])
  | .fz rows => some (True, .fz rows)
  | .ag rows => some (True, .fz rows)
  | .tr _ _ _ rows => some (True, .fz rows)
  | .ref id off len => match look s.st id with
    | some (.arr rows) => some (∀ r ∈ (rows.drop off).take len, ∀ c ∈ r, c.frz = true, .fz ((rows.drop off).take len))
    | _ => none
  | _ => none
def lendL (s : S) : List MC → Option (Prop × List MC)
  | [] => some (True, [])
  | c :: cs => match lendC s c, lendL s cs with
    | some (p, d), some (q, ds) => some (p ∧ q, d :: ds)
    | _, _ => none
def lendV (s : S) : MV → Option (Prop × MV)
  | .one c => (lendC s c).map fun q => (q.1, .one q.2)
  | .agg cs => (lendL s cs).map fun q => (q.1, .agg q.2)
  | _ => none
def lend (s : S) : List Operand → Option (Prop × List MV)
  | [] => some (True, [])
  | x :: xs => match (evO s x).bind (lendV s), lend s xs with
    | some (p, d), some (q, ds) => some (p ∧ q, d :: ds)
    | _, _ => none

theorem lendC_ok {w0 : World} {wr : Wr} {A : Nat → Prop} {L : Lay} {F : FF} {s : S} {a : Act} {w : World} (h : Rl w0 wr A L F s a w) {c d : MC} {p : Prop} {v : Value} (hc : RC (look s.st) L w F c v) (hl : lendC s c = some (p, d)) (hp : p) :
    RF w (fun b => b < w.heap.size) d v := by
  cases c <;> simp only [lendC] at hl
  case sc u =>
    obtain ⟨rfl, rfl⟩ := Prod.mk.inj (Option.some.inj hl)
    obtain ⟨rfl, h1⟩ := hc; exact .sc _ h1
  case nil =>
    obtain ⟨rfl, rfl⟩ := Prod.mk.inj (Option.some.inj hl)
    obtain ⟨b, rfl⟩ := hc; exact .nilz b 0
  case fz rows =>
    obtain ⟨rfl, rfl⟩ := Prod.mk.inj (Option.some.inj hl)
    exact RF.mono (fun _ _ => rfl) (fun b hb => h.fsz b (.inl hb)) hc
  case ag rows =>
    obtain ⟨rfl, rfl⟩ := Prod.mk.inj (Option.some.inj hl)
    exact RF.mono (fun _ _ => rfl) (fun b hb => h.fsz b hb) hc
  case tr o B u rows =>
    obtain ⟨rfl, rfl⟩ := Prod.mk.inj (Option.some.inj hl)
    exact hc.2.2.rf fun b hb => h.fsz b (hc.2.1 b hb).1
  case ref id off len =>
    split at hl
    · rename_i rows ho
      obtain ⟨rfl, rfl⟩ := Prod.mk.inj (Option.some.inj hl)
      obtain ⟨bb, cap, hv, hle, _⟩ := hc.2 rows ho
      have hlen : ((rows.drop off).take len).length = len := by simp; omega
      by_cases hn : len = 0
      · subst hn; rw [hv]; exact .nilz _ _
      · obtain ⟨b, st, cap', hL, hv', _, hcap, _, _, hs, hw⟩ := ref_row h hc ho hn
        have hlive := h.own id b st (by simp [ho]) hL
        rw [hv']
        have := RF.mk (w := w) (F := fun b => b < w.heap.size) (rows := (rows.drop off).take len) (a := some ⟨b, off * st, none⟩) (cap := cap') (by omega) (fun _ => ⟨b, off * st, st, rfl, hlive.2.1, fun r hr => hs r (List.mem_of_mem_drop (List.mem_of_mem_take hr)), fun i j r c hi hj => by
          have hf := hp r (List.mem_of_getElem? hi) c (List.mem_of_getElem? hj)
          rw [List.getElem?_take] at hi
          split at hi
          · rw [List.getElem?_drop] at hi
            obtain ⟨u, hu, hru⟩ := hw _ r hi j c hj
            refine ⟨u, ?_, RF.mono (fun _ _ => rfl) (fun b hb => h.fsz b (.inl hb)) (hru.to_RF hf)⟩
            rw [← hu]; congr 2; rw [Nat.add_mul]; omega
          · cases hi⟩)
        rwa [hlen] at this
    · cases hl
  all_goals cases hl

theorem lendL_ok {w0 : World} {wr : Wr} {A : Nat → Prop} {L : Lay} {F : FF} {s : S} {a : Act} {w : World} (h : Rl w0 wr A L F s a w) : ∀ {cs ds : List MC} {p : Prop}, lendL s cs = some (p, ds) → p →
    ds.length = cs.length ∧ ∀ (j : Nat) (d : MC), ds[j]? = some d → ∃ c, cs[j]? = some c ∧ ∀ v, RC (look s.st) L w F c v → RF w (fun b => b < w.heap.size) d v
  | [], ds, p, hl, hp => by
    obtain ⟨rfl, rfl⟩ := Prod.mk.inj (Option.some.inj hl)
    exact ⟨rfl, fun j d hj => by simp at hj⟩
  | c :: cs, ds, p, hl, hp => by
    simp only [lendL] at hl
    split at hl
    · rename_i p1 d1 q1 ds1 h1 h2
      obtain ⟨rfl, rfl⟩ := Prod.mk.inj (Option.some.inj hl)
      obtain ⟨h3, h4⟩ := lendL_ok h h2 hp.2
      refine ⟨by simp [h3], fun j d hj => ?_⟩
      cases j with
      | zero => obtain rfl := Option.some.inj hj; exact ⟨c, rfl, fun v hv => lendC_ok h hv h1 hp.1⟩
      | succ j => exact h4 j d hj
    · cases hl

theorem lendV_ok {w0 : World} {wr : Wr} {A : Nat → Prop} {L : Lay} {F : FF} {s : S} {a : Act} {w : World} (h : Rl w0 wr A L F s a w) {x y : MV} {p : Prop} {v : Value} (hx : RV (look s.st) L w F x v) (hl : lendV s x = some (p, y)) (hp : p) :
    FV w (fun b => b < w.heap.size) y v := by
  cases x <;> simp only [lendV] at hl
  case one c =>
    obtain ⟨q, hq, he⟩ := Option.map_eq_some_iff.1 hl
    obtain ⟨rfl, rfl⟩ := Prod.mk.inj he
    exact lendC_ok h hx hq hp
  case agg cs =>
    obtain ⟨q, hq, he⟩ := Option.map_eq_some_iff.1 hl
    obtain ⟨rfl, rfl⟩ := Prod.mk.inj he
    obtain ⟨arr, rfl, h1, h2⟩ := hx
    obtain ⟨h3, h4⟩ := lendL_ok h hq hp
    refine ⟨arr, rfl, by rw [h1, h3], fun j d hj => ?_⟩
    obtain ⟨c, hc, hd⟩ := h4 j d hj
    obtain ⟨u, hu, hr⟩ := h2 j c hc
    exact ⟨u, hu, hd u hr⟩
  all_goals cases hl

theorem lend_ok {w0 : World} {wr : Wr} {A : Nat → Prop} {L : Lay} {F : FF} {s : S} {a : Act} {w : World} (h : Rl w0 wr A L F s a w) : ∀ {xs : List Operand} {ds : List MV} {p : Prop}, lend s xs = some (p, ds) → p →
    ds.length = xs.length ∧ ∀ (j : Nat) (d : MV), ds[j]? = some d → ∃ v, (xs.map a.eval)[j]? = some v ∧ FV w (fun b => b < w.heap.size) d v
  | [], ds, p, hl, hp => by
    obtain ⟨rfl, rfl⟩ := Prod.mk.inj (Option.some.inj hl)
    exact ⟨rfl, fun j d hj => by simp at hj⟩
  | x :: xs, ds, p, hl, hp => by
    simp only [lend] at hl
    split at hl
    · rename_i p1 d1 q1 ds1 h1 h2
      obtain ⟨rfl, rfl⟩ := Prod.mk.inj (Option.some.inj hl)
      obtain ⟨h3, h4⟩ := lend_ok h h2 hp.2
      obtain ⟨mv, hmv, hlv⟩ := Option.bind_eq_some_iff.1 h1
      refine ⟨by simp [h3], fun j d hj => ?_⟩
      cases j with
      | zero =>
        obtain rfl := Option.some.inj hj
        exact ⟨_, rfl, lendV_ok h (evO_ok h hmv).1 hlv hp.1⟩
      | succ j => exact h4 j d hj
    · cases hl

/-- A CALL by contract (what it returns shares nothing with the arguments). -/
theorem r_callV {o : Oper} {s : S} {K : S → Prop} {f : Nat} {x0 : Operand} {xs : Array Operand} {ts : Array TypeId} {p : Prop} {ds : List MV} {r : MV} (ho : o.op = .call { callee := .value x0, args := xs, argTypes := ts }) (hx0 : evO s x0 = some (.one (.sc (.func (.func f) #[] #[]))))
    (hd : Oper.dok o s.m = true) (hl : lend s xs.toList = some (p, ds)) (hp : p) (hc : Pure P false f ds r) (k : K ((adV s r).2.put o.dst (adV s r).1)) : OpOK P o s K := by
  intro w0 wr A a w Q K' hg ⟨L, F, hR⟩ hK
  obtain ⟨⟨fn, hfn, hname, hbody⟩, hc⟩ := hc
  obtain ⟨h1, h2⟩ := lend_ok hR hl hp
  have hev : a.eval x0 = .func (.func f) #[] #[] := by
    have := (evO_ok hR hx0).1
    exact this.1
  have hrun : (execOp a.eval o).run P w = .ok (.enter f (xs.map a.eval)) w := by
    simp only [execOp, ho, resolve, hev, Deferred.ofValue, Sem.run_bind, Sem.run_pure, Result.andThen_ok, invoke, callFunc, run_program, hfn, hname, hbody]
    simp
  unfold Oper.wp
  rw [hrun]
  show Calls P f (xs.map a.eval) w _
  have hcall := hc w (fun b => b < w.heap.size) (xs.map a.eval) (by simp [h1]) (fun j x hj => by
    obtain ⟨v, hv, hx⟩ := h2 j x hj
    exact ⟨v, by simpa using hv, hx⟩) (fun b hb => hb) (hg.gt.move hR.size fun g h1 h2 => ⟨hR.keep g h1 h2, id⟩)
  refine hcall.mono fun e w' hpost => ?_
  obtain ⟨v, F1, bs, rfl, hbel, hF1, hov, hnd, hbs⟩ := hpost
  have hold : ∀ b, b < w.heap.size → w'.heap[b]? = w.heap[b]? := hbel.block
  -- the state in the new world, with what is newly frozen
  have hR' : Rl w0 wr A L ⟨fun b => F.n b ∨ F1 b, F.a⟩ s a w' := by
    have hi : ∀ x : MC, x.bd s.n → ∀ u, RC (look s.st) L w F x u → RC (look s.st) L w' ⟨fun b => F.n b ∨ F1 b, F.a⟩ x u := fun x hx u hr =>
      RC.same (F' := ⟨fun b => F.n b ∨ F1 b, F.a⟩) (fun b hb => hold b (hR.fsz b hb)) ⟨fun _ h => Or.inl h, fun _ h => h, fun _ h => h⟩ (fun _ _ => rfl) (fun id b t j hid hL hj => by
        rw [World.cell?_of_block (w := w) (hold b (hR.own id b t hid hL).2.1)]; exact hj) hr
    have hnew : ∀ b, F1 b → w.heap.size ≤ b ∧ b < w'.heap.size := fun b hb => by
      obtain ⟨h3, h4⟩ := hF1 b hb
      exact ⟨h4.resolve_right (by simp), h3⟩
    refine ⟨hbel.os.trans hR.os, hbel.tape.trans hR.tape, hbel.output.trans hR.output, Nat.le_trans hR.size hbel.size, fun k hk hn => (hold k (Nat.lt_of_lt_of_le hk hR.size)).trans (hR.keep k hk hn), fun b j hb hc => by rw [World.cell?_of_block (w := w) (hold b (Nat.lt_of_lt_of_le hb hR.size))]; exact hR.kc b j hb hc, hR.pin, hR.fa, ?_, ?_, ?_, ?_, hR.inj, hR.sz, ?_, hR.bst, hR.ben, hR.df⟩
    · rintro b (hb | hb)
      · exact hR.fn b hb
      · exact .inl (Nat.le_trans hR.size (hnew b hb).1)
    · rintro b ((hb | hb) | hb)
      · exact Nat.lt_of_lt_of_le (hR.fsz b (.inl hb)) hbel.size
      · exact (hnew b hb).2
      · exact Nat.lt_of_lt_of_le (hR.fsz b (.inr hb)) hbel.size
    · exact fun id o ho => (hR.ob id o ho).imp (hR.bst id o ho).2 rfl (fun b t hL => hold b (hR.own id b t (by simp [ho]) hL).2.1) hi
    · intro id b t h3 h4
      have := hR.own id b t h3 h4
      refine ⟨?_, Nat.lt_of_lt_of_le this.2.1 hbel.size, this.2.2⟩
      rintro ((hb | hb) | hb)
      · exact this.1 (.inl hb)
      · have := (hnew b hb).1; have := (hR.own id b t h3 h4).2.1; omega
      · exact this.1 (.inr hb)
    · exact fun t v hv => (hR.env t v hv).imp (hR.ben t v hv) hi
  have hov' : OV w' (fun b => F.n b ∨ F1 b) r v bs := by
    have hRF : ∀ {c : MC} {v : Value}, RF w' F1 c v → RF w' (fun b => F.n b ∨ F1 b) c v := fun h => RF.mono (fun _ _ => rfl) (fun b hb => Or.inr hb) h
    have hOB : ∀ {b st cap : Nat} {rows : List (List MC)}, OwnB w' F1 b st cap rows → OwnB w' (fun b => F.n b ∨ F1 b) b st cap rows := fun ⟨g1, g2, g3, g4, g5, g6⟩ => ⟨g1, g2, g3, g4, g5, fun i r hi j x hj => by
      obtain ⟨u, hu, hr⟩ := g6 i r hi j x hj; exact ⟨u, hu, hRF hr⟩⟩
    have hOC : ∀ {cs : List MC} {vs : List Value} {bs : List Nat}, OC w' F1 cs vs bs → OC w' (fun b => F.n b ∨ F1 b) cs vs bs := fun h => by
      induction h with
      | nil => exact .nil
      | fz h _ ih => exact .fz (hRF h) ih
      | own0 _ ih => exact .own0 ih
      | own h _ ih => exact .own (hOB h) ih
    have hOV1 : ∀ {x : MV} {v : Value} {bs : List Nat}, OV1 w' F1 x v bs → OV1 w' (fun b => F.n b ∨ F1 b) x v bs := fun {x v bs} h => by
      cases x
      · exact h
      · exact hOC h
      · obtain ⟨arr, h1, h2⟩ := h; exact ⟨arr, h1, hOC h2⟩
      · exact h
    have hOT : ∀ {xs : List MV} {vs : List Value} {bs : List Nat}, OT w' F1 xs vs bs → OT w' (fun b => F.n b ∨ F1 b) xs vs bs := fun h => by
      induction h with
      | nil => exact .nil
      | cons h _ ih => exact .cons (hOV1 h) ih
    cases r
    · exact False.elim hov
    · exact hOV1 (x := .one _) hov
    · exact hOV1 (x := .agg _) hov
    · obtain ⟨arr, h1, h2⟩ := hov; exact ⟨arr, h1, hOT h2⟩
  obtain ⟨L', had, hbd, hrv⟩ := adV_ok (F := ⟨fun b => F.n b ∨ F1 b, F.a⟩) hov' hR' hnd (fun b hb => by
    obtain ⟨h3, h4, h5⟩ := hbs b hb
    refine ⟨Nat.le_trans hR.size h3, h4, ?_⟩
    rintro ((hf | hf) | hf)
    · have := hR.fsz b (.inl hf); omega
    · exact h5 hf
    · have := hR.fsz b (.inr hf); omega) (fun b hb id t h3 h4 => by
    have := (hR.own id b t h3 h4).2.1
    have := (hbs b hb).1
    omega)
  exact hK _ _ _ ⟨L', _, had.rl.put (fun x hx => by rw [had.m]; exact Oper.dok_spec hd x hx) hrv hbd⟩ k

theorem r_call {o : Oper} {s : S} {K : S → Prop} {f : Nat} {xs : Array Operand} {ts : Array TypeId} {p : Prop} {ds : List MV} {r : MV} (ho : o.op = .call { callee := .value (.func f), args := xs, argTypes := ts })
    (hd : Oper.dok o s.m = true) (hl : lend s xs.toList = some (p, ds)) (hp : p) (hc : Pure P false f ds r) (k : K ((adV s r).2.put o.dst (adV s r).1)) : OpOK P o s K :=
  r_callV ho rfl hd hl hp hc k
/-- A function's value, without what it captures. -/
def calleeF (s : S) (t : Nat) : Option Nat := match look s.env t with
  | some (.one (.sc (.func (.func f) ⟨[]⟩ ⟨[]⟩))) => some f
  | _ => none
theorem calleeF_ok {s : S} {t f : Nat} (h : calleeF s t = some f) : evO s (.tmp t) = some (.one (.sc (.func (.func f) #[] #[]))) := by
  unfold calleeF at h
  split at h
  · rename_i f' he
    obtain rfl := Option.some.inj h
    exact he
  · cases h
theorem r_makeFunc {o : Oper} {s : S} {K : S → Prop} {f : Fn} (ho : o.op = .makeFunc f #[] #[]) (hd : Oper.dok o s.m = true) (k : K (s.put o.dst (.one (.sc (.func f #[] #[]))))) : OpOK P o s K :=
  OpOK.val (v := .one (.sc (.func f #[] #[]))) (Oper.dok_spec hd) (fun w0 wr A L F a w h => ⟨.func f #[] #[], by simp [execOp, ho, Instr.makeFunc], ⟨rfl, rfl⟩, trivial⟩) k

end Mg

/- The abstract state logic, part 13: a function's entry and end. No condition. -/
namespace Mg
open Go Go.RowKit
set_option linter.unusedVariables false

variable {P : Program} {T : Tab}

def MV.toA : MV → MV
  | .one c => .one c.toA
  | .agg cs => .agg (cs.map MC.toA)
  | x => x
def envFrom : Nat → List MV → List (Nat × MV)
  | _, [] => []
  | k, x :: xs => (k, x.toA) :: envFrom (k + 1) xs
theorem look_envFrom : ∀ (xs : List MV) (k j : Nat), look (envFrom k xs) j = if k ≤ j then (xs[j - k]?).map MV.toA else none
  | [], k, j => by simp [envFrom]
  | x :: xs, k, j => by
    rw [envFrom, look_cons, look_envFrom xs (k + 1) j]
    by_cases e : j = k
    · subst e; simp
    · by_cases h : k ≤ j
      · rw [if_neg e, if_pos (by omega), if_pos h, show j - k = (j - (k + 1)) + 1 by omega, List.getElem?_cons_succ]
      · rw [if_neg e, if_neg (by omega), if_neg h]

def S.start (m : Nat) (args : List MV) : S := ⟨m, 0, envFrom 0 args, []⟩

theorem FV.rv {w : World} {A : Nat → Prop} {x : MV} {v : Value} (h : FV w A x v) : RV (look []) (fun _ => none) w ⟨fun _ => False, A⟩ x.toA v ∧ x.toA.bd 0 := by
  have hm : ∀ {c : MC} {v : Value}, RF w A c v → RC (look []) (fun _ => none) w ⟨fun _ => False, A⟩ c.toA v := fun h =>
    RC.of_RFa (F := ⟨fun _ => False, A⟩) (RF.mono (fun _ _ => rfl) (fun b hb => Or.inr hb) h)
  cases x with
  | one c => exact ⟨hm h, MC.bd_toA (RF.frz h)⟩
  | agg cs =>
    obtain ⟨arr, rfl, h1, h2⟩ := h
    refine ⟨⟨arr, rfl, by simp [h1], fun j c hj => ?_⟩, fun c hc => ?_⟩
    · rw [List.getElem?_map] at hj
      obtain ⟨d, hd, rfl⟩ := Option.map_eq_some_iff.1 hj
      obtain ⟨u, hu, hr⟩ := h2 j d hd
      exact ⟨u, hu, hm hr⟩
    · obtain ⟨d, hd, rfl⟩ := List.mem_map.1 hc
      obtain ⟨j, hj⟩ := List.getElem?_of_mem hd
      obtain ⟨u, _, hr⟩ := h2 j d hj
      exact MC.bd_toA hr.frz
  | _ => exact h.elim

theorem start_rel {w : World} {A : Nat → Prop} {vals : Array Value} {args : List MV} {m : Nat} (hs : vals.size = args.length) (hm : args.length ≤ m)
    (h : ∀ (j : Nat) (x : MV), args[j]? = some x → ∃ v : Value, vals[j]? = some v ∧ FV w A x v) (hA : ∀ b, A b → b < w.heap.size) :
    Rel w ⟨fun _ => False, 0, fun _ => none, fun _ => False⟩ A (S.start m args) { tmps := vals ++ Array.replicate (m - vals.size) undef, defers := [] } w := by
  refine ⟨fun _ => none, ⟨fun _ => False, A⟩, rfl, rfl, rfl, Nat.le_refl _, fun _ _ _ => rfl, fun _ _ _ h => h, fun i hi => absurd hi (Nat.not_lt_zero i), rfl, fun b hb => hb.elim, ?_, ?_, ?_, ?_, ?_, ?_, ?_, ?_, rfl⟩
  · rintro b (hb | hb)
    · exact hb.elim
    · exact hA b hb
  · intro id o ho; simp [S.start] at ho
  · intro id b t h1; simp [S.start] at h1
  · intro i j b t u h1; simp [S.start] at h1
  · simp [S.start]; omega
  · intro t v hv
    simp only [S.start, look_envFrom, Nat.zero_le, if_true, Nat.sub_zero] at hv
    obtain ⟨x, hx, rfl⟩ := Option.map_eq_some_iff.1 hv
    obtain ⟨u, hu, hf⟩ := h t x hx
    have hlt : t < vals.size := (Array.getElem?_eq_some_iff.1 hu).1
    have : (vals ++ Array.replicate (m - vals.size) undef).getD t undef = u := by
      simp [Array.getElem?_append_left hlt, hu]
    show RV _ _ _ _ _ ((vals ++ Array.replicate (m - vals.size) undef).getD t undef)
    rw [this]
    exact hf.rv.1
  · intro id o ho; simp [S.start] at ho
  · intro t v hv
    simp only [S.start, look_envFrom, Nat.zero_le, if_true, Nat.sub_zero] at hv
    obtain ⟨x, hx, rfl⟩ := Option.map_eq_some_iff.1 hv
    obtain ⟨u, hu, hf⟩ := h t x hx
    exact hf.rv.2

/-- What a result variable holds. -/
def resV (T : Tab) (s : S) : ResultVar → Option (Prop × MV)
  | .tmp t => (look s.env t).map fun v => (True, v)
  | .cell a t => match look s.env a, T t with
    | some (.one c), some i => match ptrCells s c, i.k with
      | some cs, .struct _ => some (i.size ≤ cs.length, .agg (cs.take i.size))
      | some cs, .arr _ _ => some (i.size ≤ cs.length, .agg (cs.take i.size))
      | _, _ => none
    | _, _ => none
def resL (T : Tab) (s : S) : List ResultVar → Option (Prop × List MV)
  | [] => some (True, [])
  | x :: xs => match resV T s x, resL T s xs with
    | some (p, v), some (q, vs) => some (p ∧ q, v :: vs)
    | _, _ => none

def resS (tmps : Array Value) : ResultVar → Sem Value
  | .tmp t => pure (tmps.getD t undef)
  | .cell b t => do loadVar t (← asAddr (tmps.getD b undef))

theorem resV_ok {w0 : World} {wr : Wr} {A : Nat → Prop} {L : Lay} {F : FF} {s : S} {a : Act} {w : World} (hT : TOk P T) (h : Rl w0 wr A L F s a w) {x : ResultVar} {p : Prop} {v : MV} (hx : resV T s x = some (p, v)) (hp : p) :
    ∃ u : Value, (resS a.tmps x).run P w = .ok u w ∧ RV (look s.st) L w F v u := by
  cases x with
  | tmp t =>
    obtain ⟨q, hq, he⟩ := Option.map_eq_some_iff.1 hx
    obtain ⟨rfl, rfl⟩ := Prod.mk.inj he
    exact ⟨_, rfl, h.env t _ hq⟩
  | cell b t =>
    have key : ∃ (c : MC) (cs : List MC) (i : TI), look s.env b = some (.one c) ∧ T t = some i ∧ ptrCells s c = some cs ∧ (match i.k with | .arr _ _ | .struct _ => true | _ => false) = true ∧ p = (i.size ≤ cs.length) ∧ v = .agg (cs.take i.size) := by
      simp only [resV] at hx
      split at hx
      · rename_i c i h1 h2
        split at hx
        · rename_i cs l h3 h4
          obtain ⟨rfl, rfl⟩ := Prod.mk.inj (Option.some.inj hx)
          exact ⟨c, cs, i, h1, h2, h3, by rw [h4], rfl, rfl⟩
        · rename_i cs l l' h3 h4
          obtain ⟨rfl, rfl⟩ := Prod.mk.inj (Option.some.inj hx)
          exact ⟨c, cs, i, h1, h2, h3, by rw [h4], rfl, rfl⟩
        · cases hx
      · cases hx
    obtain ⟨c, cs, i, h1, ht, h3, hk, rfl, rfl⟩ := key
    have hc : RC (look s.st) L w F c (a.tmps.getD b undef) := h.env b _ h1
    obtain ⟨bb, pp, hv, hw, hb⟩ := ptrCells_ok h hc h3
    obtain ⟨hr, hcc⟩ := vals_range hw hp
    obtain ⟨d, hu, hrow⟩ := hT.isRow ht hk
    obtain ⟨f, hf, hs, _⟩ := hT.info ht
    refine ⟨.agg (vals w bb pp i.size).toArray, ?_, ⟨_, rfl, hcc⟩⟩
    simp only [resS, Sem.run_bind, hv, asAddr, Sem.run_pure, Result.andThen_ok]
    exact run_loadVar_mid w bb pp t (vals w bb pp i.size) d hr hu hrow (by rw [hf]; simp [hs, vals])

theorem resL_ok {w0 : World} {wr : Wr} {A : Nat → Prop} {L : Lay} {F : FF} {s : S} {a : Act} {w : World} (hT : TOk P T) (h : Rl w0 wr A L F s a w) : ∀ {xs : List ResultVar} {p : Prop} {vs : List MV}, resL T s xs = some (p, vs) → p →
    ∃ us : List Value, (xs.mapM (resS a.tmps)).run P w = .ok us w ∧ us.length = vs.length ∧
      ∀ (j : Nat) (v : MV), vs[j]? = some v → ∃ u, us[j]? = some u ∧ RV (look s.st) L w F v u
  | [], p, vs, hx, hp => by
    obtain ⟨rfl, rfl⟩ := Prod.mk.inj (Option.some.inj hx)
    exact ⟨[], rfl, rfl, fun j v hj => by simp at hj⟩
  | x :: xs, p, vs, hx, hp => by
    simp only [resL] at hx
    split at hx
    · rename_i p1 v1 q1 vs1 h1 h2
      obtain ⟨rfl, rfl⟩ := Prod.mk.inj (Option.some.inj hx)
      obtain ⟨u, hu, hr⟩ := resV_ok hT h h1 hp.1
      obtain ⟨us, hus, hlen, hrs⟩ := resL_ok hT h h2 hp.2
      refine ⟨u :: us, ?_, by simp [hlen], fun j v hj => ?_⟩
      · rw [List.mapM_cons, Sem.run_bind, hu]
        simp only [Result.andThen_ok, Sem.run_bind]
        rw [hus]; rfl
      · cases j with
        | zero => obtain rfl := Option.some.inj hj; exact ⟨u, rfl, hr⟩
        | succ j => exact hrs j v hj
    · cases hx

def AllF (rows : List (List MC)) : Prop := ∀ r ∈ rows, ∀ c ∈ r, c.frz = true

/-- A result's cell as the contract has it; names that become its own; names that are frozen. -/
def outC (sh : Bool) (s : S) : MC → MC → Option (Prop × List Nat × List Nat)
  | .sc v, .sc u => some (v = u, [], [])
  | .fz r, .fz r' => some (r = r', [], [])
  | .ag r, .fz r' => some (sh = true ∧ r = r', [], [])
  | .nil, .fz r' => some (r' = [], [], [])
  | .nil, .own r' => some (r' = [], [], [])
  | .ref id off len, .own r' => match look s.st id with
    | some (.arr rows) => some (off = 0 ∧ len = rows.length ∧ rows = r' ∧ AllF rows, [id], [])
    | _ => none
  | .ref id off len, .fz r' => match look s.st id with
    | some (.arr rows) => some ((rows.drop off).take len = r' ∧ AllF rows, [], [id])
    | _ => none
  | _, _ => none
def outL (sh : Bool) (s : S) : List MC → List MC → Option (Prop × List Nat × List Nat)
  | [], [] => some (True, [], [])
  | c :: cs, d :: ds => match outC sh s c d, outL sh s cs ds with
    | some (p, i, j), some (q, k, l) => some (p ∧ q, i ++ k, j ++ l)
    | _, _ => none
  | _, _ => none
def outV1 (sh : Bool) (s : S) : MV → MV → Option (Prop × List Nat × List Nat)
  | .one c, .one d => outL sh s [c] [d]
  | .agg cs, .agg ds => outL sh s cs ds
  | _, _ => none
def outT (sh : Bool) (s : S) : List MV → List MV → Option (Prop × List Nat × List Nat)
  | [], [] => some (True, [], [])
  | c :: cs, d :: ds => match outV1 sh s c d, outT sh s cs ds with
    | some (p, i, j), some (q, k, l) => some (p ∧ q, i ++ k, j ++ l)
    | _, _ => none
  | _, _ => none

/-- The result's frozen part. -/
def outF (sh : Bool) (A : Nat → Prop) (F : FF) (L : Lay) (fs : List Nat) (b : Nat) : Prop := F.n b ∨ (∃ id ∈ fs, ∃ t, L id = some (b, t)) ∨ (sh = true ∧ A b)

structure OutOK (w : World) (G : Nat → Prop) (L : Lay) (s : S) (os : List Nat) (bs : List Nat) : Prop where
  nd : os.Nodup → bs.Nodup
  src : ∀ b ∈ bs, ∃ id ∈ os, (look s.st id).isSome = true ∧ ∃ t, L id = some (b, t)

theorem outC_ok {w0 : World} {wr : Wr} {A : Nat → Prop} {L : Lay} {F : FF} {s : S} {a : Act} {w : World} (h : Rl w0 wr A L F s a w) {sh : Bool} {fs0 : List Nat} {c d : MC} {p : Prop} {os fs : List Nat} {v : Value}
    (hc : RC (look s.st) L w F c v) (ho : outC sh s c d = some (p, os, fs)) (hp : p) (hfs : ∀ i ∈ fs, i ∈ fs0) :
    (∀ {cs : List MC} {vs : List Value} {bs : List Nat}, OC w (outF sh A F L fs0) cs vs bs → ∃ b1, OC w (outF sh A F L fs0) (d :: cs) (v :: vs) (b1 ++ bs) ∧ OutOK w (outF sh A F L fs0) L s os b1) ∧ ∀ i ∈ fs, (look s.st i).isSome = true := by
  have hFn : ∀ b, F.n b → outF sh A F L fs0 b := fun b hb => .inl hb
  have nilOK : OutOK w (outF sh A F L fs0) L s [] [] := ⟨fun _ => List.nodup_nil, fun b hb => by simp at hb⟩
  cases c <;> cases d <;> simp only [outC] at ho
  all_goals try (cases ho; done)
  case sc.sc u u' =>
    obtain ⟨rfl, rfl, rfl⟩ : (u = u') = p ∧ [] = os ∧ [] = fs := by simpa using ho
    obtain ⟨rfl, h1⟩ := hc
    subst hp
    exact ⟨fun t => ⟨[], .fz (.sc _ h1) t, nilOK⟩, fun i hi => by simp at hi⟩
  case fz.fz r r' =>
    obtain ⟨rfl, rfl, rfl⟩ : (r = r') = p ∧ [] = os ∧ [] = fs := by simpa using ho
    subst hp
    exact ⟨fun t => ⟨[], .fz (RF.mono (fun _ _ => rfl) hFn hc) t, nilOK⟩, fun i hi => by simp at hi⟩
  case ag.fz r r' =>
    obtain ⟨rfl, rfl, rfl⟩ : (sh = true ∧ r = r') = p ∧ [] = os ∧ [] = fs := by simpa using ho
    obtain ⟨hsh, rfl⟩ := hp
    refine ⟨fun t => ⟨[], .fz (RF.mono (fun _ _ => rfl) (fun b hb => ?_) hc) t, nilOK⟩, fun i hi => by simp at hi⟩
    rcases hb with hb | hb
    · exact .inl hb
    · exact .inr (.inr ⟨hsh, by rw [← h.fa]; exact hb⟩)
  case nil.fz r' =>
    obtain ⟨rfl, rfl, rfl⟩ : (r' = []) = p ∧ [] = os ∧ [] = fs := by simpa using ho
    subst hp
    obtain ⟨b, rfl⟩ := hc
    exact ⟨fun t => ⟨[], .fz (.nilz b 0) t, nilOK⟩, fun i hi => by simp at hi⟩
  case nil.own r' =>
    obtain ⟨rfl, rfl, rfl⟩ : (r' = []) = p ∧ [] = os ∧ [] = fs := by simpa using ho
    subst hp
    obtain ⟨b, rfl⟩ := hc
    exact ⟨fun t => ⟨[], .own0 t, nilOK⟩, fun i hi => by simp at hi⟩
  case ref.own id off len r' =>
    split at ho
    · rename_i rows hlk
      obtain ⟨rfl, rfl, rfl⟩ : (off = 0 ∧ len = rows.length ∧ rows = r' ∧ AllF rows) = p ∧ [id] = os ∧ [] = fs := by simpa using ho
      obtain ⟨rfl, rfl, rfl, hall⟩ := hp
      refine ⟨fun {cs vs bs} t => ?_, fun i hi => by simp at hi⟩
      obtain ⟨bb, cap, hv, hle, hx⟩ := hc.2 rows hlk
      rcases hx with ⟨b, st, hL, rfl, hcap, hne, hcs⟩ | ⟨h0, h00⟩
      · rcases h.ob id _ hlk with ⟨rfl, _⟩ | ⟨b', st', hL', hf, hs, hw⟩
        · exact absurd rfl hne
        · rw [hL] at hL'
          obtain ⟨rfl, rfl⟩ := Prod.mk.inj (Option.some.inj hL')
          rw [hv, Nat.zero_mul]
          refine ⟨[b], .own (s := st) ⟨hf, hne, hs, hcap, fun j hj => hcs j (by simpa using hj), fun i r hi j x hj => ?_⟩ t, ⟨fun _ => by simp, fun b' hb' => ?_⟩⟩
          · obtain ⟨u, hu, hru⟩ := hw i r hi j x hj
            exact ⟨u, hu, RF.mono (fun _ _ => rfl) hFn (hru.to_RF (hall r (List.mem_of_getElem? hi) x (List.mem_of_getElem? hj)))⟩
          · simp at hb'; subst hb'
            exact ⟨id, by simp, by rw [hlk]; rfl, st, hL⟩
      · have : rows = [] := List.eq_nil_of_length_eq_zero h0
        subst this
        rw [hv, h00]
        exact ⟨[], .own0 t, ⟨fun _ => List.nodup_nil, fun b hb => by simp at hb⟩⟩
    · cases ho
  case ref.fz id off len r' =>
    split at ho
    · rename_i rows hlk
      obtain ⟨rfl, rfl, rfl⟩ : ((rows.drop off).take len = r' ∧ AllF rows) = p ∧ [] = os ∧ [id] = fs := by simpa using ho
      obtain ⟨rfl, hall⟩ := hp
      refine ⟨fun {cs vs bs} t => ⟨[], .fz ?_ t, nilOK⟩, fun i hi => by simp at hi; subst hi; rw [hlk]; rfl⟩
      obtain ⟨bb, cap, hv, hle, hx⟩ := hc.2 rows hlk
      have hlen : ((rows.drop off).take len).length = len := by simp; omega
      by_cases hn : len = 0
      · subst hn; rw [hv]; exact .nilz _ _
      · obtain ⟨b, st, cap', hL, hv', _, hcap, _, _, hs, hw⟩ := ref_row h hc hlk hn
        rw [hv']
        have := RF.mk (w := w) (F := outF sh A F L fs0) (rows := (rows.drop off).take len) (a := some ⟨b, off * st, none⟩) (cap := cap') (by omega) (fun _ => ⟨b, off * st, st, rfl, .inr (.inl ⟨id, hfs id (by simp), st, hL⟩), fun r hr => hs r (List.mem_of_mem_drop (List.mem_of_mem_take hr)), fun i j r c hi hj => by
          rw [List.getElem?_take] at hi
          split at hi
          · rw [List.getElem?_drop] at hi
            obtain ⟨u, hu, hru⟩ := hw _ r hi j c hj
            refine ⟨u, ?_, RF.mono (fun _ _ => rfl) hFn (hru.to_RF (hall r (List.mem_of_getElem? hi) c (List.mem_of_getElem? hj)))⟩
            rw [← hu]; congr 2; rw [Nat.add_mul]; omega
          · cases hi⟩)
        rwa [hlen] at this
    · cases ho

theorem outL_ok {w0 : World} {wr : Wr} {A : Nat → Prop} {L : Lay} {F : FF} {s : S} {a : Act} {w : World} (h : Rl w0 wr A L F s a w) {sh : Bool} {fs0 : List Nat} : ∀ {cs ds : List MC} {p : Prop} {os fs : List Nat} {vs : List Value},
    cs.length = vs.length → (∀ (j : Nat) (c : MC), cs[j]? = some c → ∃ u : Value, vs[j]? = some u ∧ RC (look s.st) L w F c u) → outL sh s cs ds = some (p, os, fs) → p → (∀ i ∈ fs, i ∈ fs0) →
    ∃ bs, OC w (outF sh A F L fs0) ds vs bs ∧ OutOK w (outF sh A F L fs0) L s os bs ∧ ∀ i ∈ fs, (look s.st i).isSome = true
  | [], ds, p, os, fs, vs, hl, hc, ho, hp, hfs => by
    cases ds with
    | nil =>
      obtain ⟨rfl, rfl, rfl⟩ : True = p ∧ [] = os ∧ [] = fs := by simpa [outL] using ho
      obtain rfl : vs = [] := List.eq_nil_of_length_eq_zero (by simpa using hl.symm)
      exact ⟨[], .nil, ⟨fun _ => List.nodup_nil, fun b hb => by simp at hb⟩, fun i hi => by simp at hi⟩
    | cons d ds => simp [outL] at ho
  | c :: cs, ds, p, os, fs, vs, hl, hc, ho, hp, hfs => by
    cases ds with
    | nil => simp [outL] at ho
    | cons d ds =>
      simp only [outL] at ho
      split at ho
      · rename_i p1 i1 j1 q1 k1 l1 h1 h2
        obtain ⟨rfl, rfl, rfl⟩ : (p1 ∧ q1) = p ∧ i1 ++ k1 = os ∧ j1 ++ l1 = fs := by simpa using ho
        cases vs with
        | nil => simp at hl
        | cons v vs =>
          obtain ⟨bs, ht, hto, hts⟩ := outL_ok h (vs := vs) (by simpa using hl) (fun j c' hj => hc (j + 1) c' hj) h2 hp.2 (fun i hi => hfs i (List.mem_append.2 (.inr hi)))
          obtain ⟨u, hu, hr⟩ := hc 0 c rfl
          obtain rfl : v = u := by simpa using hu
          obtain ⟨hk, hs1⟩ := outC_ok h hr h1 hp.1 (fun i hi => hfs i (List.mem_append.2 (.inl hi)))
          obtain ⟨b1, hoc, hb1⟩ := hk ht
          refine ⟨b1 ++ bs, hoc, ⟨fun hn => ?_, fun b hb => ?_⟩, fun i hi => ?_⟩
          · obtain ⟨n1, n2, n3⟩ := List.nodup_append.1 hn
            refine List.nodup_append.2 ⟨hb1.nd n1, hto.nd n2, fun b hb b' hb' e => ?_⟩
            subst e
            obtain ⟨i, hi, si, t1, hL1⟩ := hb1.src b hb
            obtain ⟨j, hj, sj, t2, hL2⟩ := hto.src b hb'
            exact n3 i hi j hj (h.inj i j b t1 t2 si sj hL1 hL2)
          · rcases List.mem_append.1 hb with hb | hb
            · obtain ⟨i, hi, r⟩ := hb1.src b hb; exact ⟨i, List.mem_append.2 (.inl hi), r⟩
            · obtain ⟨i, hi, r⟩ := hto.src b hb; exact ⟨i, List.mem_append.2 (.inr hi), r⟩
          · rcases List.mem_append.1 hi with hi | hi
            · exact hs1 i hi
            · exact hts i hi
      · cases ho

theorem outV1_ok {w0 : World} {wr : Wr} {A : Nat → Prop} {L : Lay} {F : FF} {s : S} {a : Act} {w : World} (h : Rl w0 wr A L F s a w) {sh : Bool} {fs0 : List Nat} {x y : MV} {p : Prop} {os fs : List Nat} {v : Value}
    (hx : RV1 (look s.st) L w F x v) (ho : outV1 sh s x y = some (p, os, fs)) (hp : p) (hfs : ∀ i ∈ fs, i ∈ fs0) :
    ∃ bs, OV1 w (outF sh A F L fs0) y v bs ∧ OutOK w (outF sh A F L fs0) L s os bs ∧ ∀ i ∈ fs, (look s.st i).isSome = true := by
  cases x <;> cases y <;> simp only [outV1] at ho
  all_goals try (cases ho; done)
  case one.one c d =>
    exact outL_ok h (cs := [c]) (vs := [v]) rfl (fun j c' hj => by
      cases j with
      | zero => obtain rfl := Option.some.inj hj; exact ⟨v, rfl, hx⟩
      | succ j => simp at hj) ho hp hfs
  case agg.agg cs ds =>
    obtain ⟨arr, rfl, h1, h2⟩ := hx
    obtain ⟨bs, g1, g2, g3⟩ := outL_ok h (cs := cs) (vs := arr.toList) (by simp [h1]) (fun j c hj => by
      obtain ⟨u, hu, hr⟩ := h2 j c hj; exact ⟨u, by simpa using hu, hr⟩) ho hp hfs
    exact ⟨bs, ⟨arr, rfl, g1⟩, g2, g3⟩

theorem outT_ok {w0 : World} {wr : Wr} {A : Nat → Prop} {L : Lay} {F : FF} {s : S} {a : Act} {w : World} (h : Rl w0 wr A L F s a w) {sh : Bool} {fs0 : List Nat} : ∀ {cs ds : List MV} {p : Prop} {os fs : List Nat} {vs : List Value},
    cs.length = vs.length → (∀ (j : Nat) (c : MV), cs[j]? = some c → ∃ u : Value, vs[j]? = some u ∧ RV (look s.st) L w F c u) → outT sh s cs ds = some (p, os, fs) → p → (∀ i ∈ fs, i ∈ fs0) →
    ∃ bs, OT w (outF sh A F L fs0) ds vs bs ∧ OutOK w (outF sh A F L fs0) L s os bs ∧ ∀ i ∈ fs, (look s.st i).isSome = true
  | [], ds, p, os, fs, vs, hl, hc, ho, hp, hfs => by
    cases ds with
    | nil =>
      obtain ⟨rfl, rfl, rfl⟩ : True = p ∧ [] = os ∧ [] = fs := by simpa [outT] using ho
      obtain rfl : vs = [] := List.eq_nil_of_length_eq_zero (by simpa using hl.symm)
      exact ⟨[], .nil, ⟨fun _ => List.nodup_nil, fun b hb => by simp at hb⟩, fun i hi => by simp at hi⟩
    | cons d ds => simp [outT] at ho
  | c :: cs, ds, p, os, fs, vs, hl, hc, ho, hp, hfs => by
    cases ds with
    | nil => simp [outT] at ho
    | cons d ds =>
      simp only [outT] at ho
      split at ho
      · rename_i p1 i1 j1 q1 k1 l1 h1 h2
        obtain ⟨rfl, rfl, rfl⟩ : (p1 ∧ q1) = p ∧ i1 ++ k1 = os ∧ j1 ++ l1 = fs := by simpa using ho
        cases vs with
        | nil => simp at hl
        | cons v vs =>
          obtain ⟨bs, ht, hto, hts⟩ := outT_ok h (vs := vs) (by simpa using hl) (fun j c' hj => hc (j + 1) c' hj) h2 hp.2 (fun i hi => hfs i (List.mem_append.2 (.inr hi)))
          obtain ⟨u, hu, hr⟩ := hc 0 c rfl
          obtain rfl : v = u := by simpa using hu
          have hr1 : RV1 (look s.st) L w F c v := by cases c <;> first | exact hr | (simp [outV1] at h1)
          obtain ⟨b1, hoc, hb1, hs1⟩ := outV1_ok h hr1 h1 hp.1 (fun i hi => hfs i (List.mem_append.2 (.inl hi)))
          refine ⟨b1 ++ bs, .cons hoc ht, ⟨fun hn => ?_, fun b hb => ?_⟩, fun i hi => ?_⟩
          · obtain ⟨n1, n2, n3⟩ := List.nodup_append.1 hn
            refine List.nodup_append.2 ⟨hb1.nd n1, hto.nd n2, fun b hb b' hb' e => ?_⟩
            subst e
            obtain ⟨i, hi, si, t1, hL1⟩ := hb1.src b hb
            obtain ⟨j, hj, sj, t2, hL2⟩ := hto.src b hb'
            exact n3 i hi j hj (h.inj i j b t1 t2 si sj hL1 hL2)
          · rcases List.mem_append.1 hb with hb | hb
            · obtain ⟨i, hi, r⟩ := hb1.src b hb; exact ⟨i, List.mem_append.2 (.inl hi), r⟩
            · obtain ⟨i, hi, r⟩ := hto.src b hb; exact ⟨i, List.mem_append.2 (.inr hi), r⟩
          · rcases List.mem_append.1 hi with hi | hi
            · exact hs1 i hi
            · exact hts i hi
      · cases ho

/-- The results of a function that ends in a state. -/
def outR (T : Tab) (sh : Bool) (s : S) (rs : List ResultVar) (r : MV) : Option (Prop × List Nat × List Nat) :=
  match resL T s rs with
  | some (p, [v]) => (outV1 sh s v r).map fun q => (p ∧ q.1, q.2)
  | some (p, vs) => match r with
    | .tup xs => (outT sh s vs xs).map fun q => (p ∧ q.1, q.2)
    | _ => none
  | none => none

/-- THE END: what the results read as. -/
def Ends (T : Tab) (sh : Bool) (fn : Func) (r : MV) (s : S) : Prop :=
  ∃ p os fs, outR T sh s fn.results.toList r = some (p, os, fs) ∧ p ∧ os.Nodup ∧ ∀ i ∈ os, i ∉ fs

theorem results_list (fn : Func) (tmps : Array Value) : results fn tmps = (do let vs ← fn.results.mapM (resS tmps); pure (if h : vs.size = 1 then vs[0] else .tuple vs)) := by
  unfold results
  congr 2

theorem ends_ok {w : World} {A : Nat → Prop} {L : Lay} {F : FF} {s : S} {a : Act} {w' : World} (hT : TOk P T) (h : Rl w ⟨fun _ => False, 0, fun _ => none, fun _ => False⟩ A L F s a w') (hA : ∀ b, A b → b < w.heap.size) {sh : Bool} {fn : Func} {r : MV} (he : Ends T sh fn r s) :
    ∃ v, (results fn a.tmps).run P w' = .ok v w' ∧ ∃ (G : Nat → Prop) (bs : List Nat), Below w.heap.size w w' ∧ (∀ b, G b → b < w'.heap.size ∧ (w.heap.size ≤ b ∨ (sh = true ∧ A b))) ∧
      OV w' G r v bs ∧ bs.Nodup ∧ ∀ b ∈ bs, w.heap.size ≤ b ∧ b < w'.heap.size ∧ ¬ G b := by
  obtain ⟨p, os, fs, ho, hp, hnd, hdis⟩ := he
  have hbel : Below w.heap.size w w' := ⟨h.os, h.tape, h.output, h.size, fun k hk => h.keep k hk (fun x => x)⟩
  have hG : (∀ i ∈ fs, (look s.st i).isSome = true) → ∀ b, outF sh A F L fs b → b < w'.heap.size ∧ (w.heap.size ≤ b ∨ (sh = true ∧ A b)) := fun hlive b hb => by
    rcases hb with hb | ⟨id, hid, t, hL⟩ | ⟨hs, hb⟩
    · exact ⟨h.fsz b (.inl hb), .inl ((h.fn b hb).resolve_right (fun x => x.elim id id))⟩
    · have := h.own id b t (hlive id hid) hL
      exact ⟨this.2.1, .inl (this.2.2.resolve_right (fun x => x))⟩
    · exact ⟨Nat.lt_of_lt_of_le (hA b hb) h.size, .inr ⟨hs, hb⟩⟩
  have hB : ∀ {bs : List Nat}, OutOK w' (outF sh A F L fs) L s os bs → (∀ i ∈ fs, (look s.st i).isSome = true) → bs.Nodup ∧ ∀ b ∈ bs, w.heap.size ≤ b ∧ b < w'.heap.size ∧ ¬ outF sh A F L fs b := fun {bs} hok hlive => by
    refine ⟨hok.nd hnd, fun b hb => ?_⟩
    obtain ⟨id, hid, hsome, t, hL⟩ := hok.src b hb
    have := h.own id b t hsome hL
    have hge := this.2.2.resolve_right (fun x => x)
    refine ⟨hge, this.2.1, ?_⟩
    rintro (hf | ⟨id', hid', t', hL'⟩ | ⟨_, hf⟩)
    · exact this.1 (.inl hf)
    · exact hdis id hid (h.inj id id' b t t' hsome (hlive id' hid') hL hL' ▸ hid')
    · have := hA b hf; omega
  have harr : ∀ {us : List Value}, (fn.results.toList.mapM (resS a.tmps)).run P w' = .ok us w' → (results fn a.tmps).run P w' = .ok (if h : us.toArray.size = 1 then us.toArray[0] else .tuple us.toArray) w' := fun {us} hu => by
    rw [results_list]
    have : ∀ arr : Array ResultVar, arr.mapM (resS a.tmps) = List.toArray <$> arr.toList.mapM (resS a.tmps) := fun arr => by
      cases arr; exact List.mapM_toArray
    rw [Sem.run_bind, this, Sem.run_map, hu]
    rfl
  unfold outR at ho
  split at ho
  · rename_i p1 v1 hres
    obtain ⟨q, hq, hqe⟩ := Option.map_eq_some_iff.1 ho
    obtain ⟨rfl, rfl, rfl⟩ : (p1 ∧ q.1) = p ∧ q.2.1 = os ∧ q.2.2 = fs := by
      have := Prod.mk.inj hqe; exact ⟨this.1, congrArg Prod.fst this.2, congrArg Prod.snd this.2⟩
    obtain ⟨us, hus, hlen, hr⟩ := resL_ok hT h hres hp.1
    obtain ⟨u, hu, hru⟩ := hr 0 v1 rfl
    have hus1 : us = [u] := by
      cases us with
      | nil => simp at hlen
      | cons x t =>
        obtain rfl : x = u := by simpa using hu
        have : t = [] := List.eq_nil_of_length_eq_zero (by simpa using hlen)
        rw [this]
    subst hus1
    have hru1 : RV1 (look s.st) L w' F v1 u := by
      cases v1 <;> first | exact hru | (simp [outV1] at hq)
    obtain ⟨bs, g1, g2, g3⟩ := outV1_ok h (fs0 := q.2.2) hru1 (p := q.1) (os := q.2.1) (fs := q.2.2) hq hp.2 (fun i hi => hi)
    refine ⟨u, by simpa using harr hus, outF sh A F L q.2.2, bs, hbel, hG g3, ?_, hB g2 g3⟩
    cases r <;> first | exact g1 | exact g1.elim
  · rename_i p1 vs hne hres
    split at ho
    · rename_i xs
      obtain ⟨q, hq, hqe⟩ := Option.map_eq_some_iff.1 ho
      obtain ⟨rfl, rfl, rfl⟩ : (p1 ∧ q.1) = p ∧ q.2.1 = os ∧ q.2.2 = fs := by
        have := Prod.mk.inj hqe; exact ⟨this.1, congrArg Prod.fst this.2, congrArg Prod.snd this.2⟩
      obtain ⟨us, hus, hlen, hr⟩ := resL_ok hT h hres hp.1
      have hone : us.toArray.size ≠ 1 := fun e => by
        have : vs.length = 1 := by rw [← hlen]; simpa using e
        obtain ⟨v, rfl⟩ := List.length_eq_one_iff.1 this
        exact hne v rfl
      obtain ⟨bs, g1, g2, g3⟩ := outT_ok h (fs0 := q.2.2) (vs := us) hlen.symm hr (p := q.1) (os := q.2.1) (fs := q.2.2) hq hp.2 (fun i hi => hi)
      refine ⟨.tuple us.toArray, by have := harr hus; rwa [dif_neg hone] at this, outF sh A F L q.2.2, bs, hbel, hG g3, ⟨us.toArray, rfl, by simpa using g1⟩, hB g2 g3⟩
    · cases ho
  · cases ho

/-- A FUNCTION's CONTRACT out of its body. -/
theorem Pure.of {sh : Bool} {f : Nat} {fn : Func} {c : Code} {args : List MV} {r : MV} (hT : TOk P T) (hf : P.funcs[f]? = some fn) (hn : (fn.name == "runtime.NumGoroutine") = false) (hb : fn.body = some c) (hm : args.length ≤ fn.ntmps)
    (h : W 0 P c (S.start fn.ntmps args) fun e s => (e = .normal ∨ e = .ret) ∧ Ends T sh fn r s) : Pure P sh f args r := by
  refine ⟨⟨fn, hf, hn, by rw [hb]; rfl⟩, ?_⟩
  intro w A vals hs hv hA hgt
  refine calls_of_wp hf hb (wp_mono (h w ⟨fun _ => False, 0, fun _ => none, fun _ => False⟩ A _ w ⟨rfl, hgt, fun _ h => h.elim⟩ (start_rel hs hm hv hA)) fun e a w' ⟨s, ⟨L, F, hr⟩, he, hend⟩ => ?_)
  obtain ⟨v, hres, G, bs, h1, h2, h3, h4, h5⟩ := ends_ok hT hr hA hend
  have : a.defers = [] ∧ ∃ v, (results fn a.tmps).run P w' = .ok v w' ∧ ∃ (v' : Value) (F : Nat → Prop) (bs : List Nat), Ending.returned v = .returned v' ∧ Below w.heap.size w w' ∧
      (∀ b, F b → b < w'.heap.size ∧ (w.heap.size ≤ b ∨ (sh = true ∧ A b))) ∧ OV w' F r v' bs ∧ bs.Nodup ∧ ∀ b ∈ bs, w.heap.size ≤ b ∧ b < w'.heap.size ∧ ¬ F b :=
    ⟨hr.df, v, hres, v, G, bs, rfl, h1, h2, h3, h4, h5⟩
  rcases he with rfl | rfl
  · exact this
  · exact this

end Mg
